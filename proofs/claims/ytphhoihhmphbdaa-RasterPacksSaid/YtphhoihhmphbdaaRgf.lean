/-
  A range over a function whose rounds are told their number: what comes in round k is known, so a body may lean on what came ahead of it.
-/
import Derived.Test.YtphhoihhmphbdaaBase
import Derived.RangeFuncNested
import Derived.RangeFuncCalls
namespace Go.Proofs.Ytphhoihhmphbdaa
open Go.RowKit

section
variable {F : Fence} {n : Nat} {P : Program}
/-- an iterator that hands out enc 0, enc 1, .. up to N of them, and stops where it is told so -/
def SeqIx (F : Fence) (n : Nat) (P : Program) (g : Nat) (lb : Array Value) (enc : Nat → Array Value) (Kp : World → World → Prop) (N : Nat) (w : World) : Prop :=
  ∀ (l : Nat) (J : Nat → World → Prop) (Jx : World → Prop) (W : World), Below w.heap.size w W → AbidesFrom W.heap.size J → AbidesFrom W.heap.size (fun (_ : Unit) => Jx) →
    (∀ k W1, k < N → J k W1 → YieldAt F (n - 1) P l (enc k) W1 fun e W' => (e = .returned (.bool true) ∧ J (k + 1) W' ∧ Kp W1 W') ∨ (e = .returned (.bool false) ∧ Jx W')) →
    J 0 W → CallsIn F n P g (#[.func (.yield l) #[] #[]] ++ lb) W fun e W' => (∃ v, e = .returned v) ∧ (J N W' ∨ Jx W')
/-- the loop's record -/
def lrec (fn : FuncId) (tmps : Array Value) (ps : Array Tmp) (assign body : Code) (d : Nat) (st : LoopState) (pe : Option Code) : Loop := { state := st, pending := pe, fn := fn, tmps := tmps, params := ps, assign := assign, body := body, defers := d }
/-- how a round's body may be left -/
def postIx (B : Nat) (Kp : World → World → Prop) (J Jx : World → Prop) (W : World) : Exit → Act → World → Prop
  | .normal, _, W' => KeepsFrom B W W' ∧ Kp W W' ∧ J W'
  | .ret, _, W' => KeepsFrom B W W' ∧ Jx W'
  | _, _, _ => False
theorem own_put {B l : Nat} {J : World → Prop} {W : World} {o : Obj} (h : OwnFrom B (fun (_ : Unit) => J)) (o' : Obj) (hj : J W) (hB : B ≤ l) (hl : W.heap[l]? = some o) (ho : o.isCells = false) : J (W.putObj l o') :=
  OwnFrom.putObj h (s := ()) o' hj hB hl ho
/-- one round -/
theorem round_ix {fn : FuncId} {tmps : Array Value} {ps : Array Tmp} {assign body : Code} {B l d : Nat} {Kp : World → World → Prop} {I J Jx : World → Prop} {Ax : Act → World → Prop} {t0 : Array Value} {W : World}
    (hfn : F.fn fn) (hBl : B ≤ l) (hI : OwnFrom B (fun (_ : Unit) => I)) (hJ : OwnFrom B (fun (_ : Unit) => J)) (hJx : OwnFrom B (fun (_ : Unit) => Jx)) (hAx : ∀ a', OwnFrom B (fun (_ : Unit) => Ax a'))
    (hKt : ∀ {X Y Z : World}, Kp X Y → Kp Y Z → Kp X Z) (hKb : ∀ (X : World) (o o' : Obj), X.heap[l]? = some o → o.isCells = false → o.isWalk = false → Kp X (X.putObj l o'))
    (hl : W.heap[l]? = some (.loop (lrec fn tmps ps assign body d .ready none)))
    (hassign : ∀ K : Act → World → Prop, (∀ a' W', KeepsFrom B W W' → Kp W W' → I W' → Ax a' W' → K a' W') → assign.wpIn (F.inRound l) n P (Exit.then K (fun _ _ _ => False)) { tmps := t0, defers := [] } W)
    (hbody : ∀ a' W', (∃ r, W'.heap[l]? = some (.loop r)) → I W' → Ax a' W' → body.wpIn (F.inRound l) n P (postIx B Kp J Jx W') a' W') :
    RoundIn F n P l fn t0 assign body W fun e W' => (∀ k o, B ≤ k → k ≠ l → W.heap[k]? = some o → o.isCells = false → W'.heap[k]? = some o) ∧
      ((e = .returned (.bool true) ∧ (J W' ∧ W'.heap[l]? = some (.loop (lrec fn tmps ps assign body d .ready none))) ∧ Kp W W') ∨ (e = .returned (.bool false) ∧ Jx W' ∧ W'.heap[l]? = some (.loop (lrec fn tmps ps assign body d .done (some .ret))))) := by
  refine roundIn_of_wpIn hfn (hassign _ fun a' Wa hk hkp hia hax => ?_)
  have hla := hk.same l _ hBl hl rfl
  have hlt : l < Wa.heap.size := (Array.getElem?_eq_some_iff.1 hla).1
  refine ⟨_, run_beginRound hla rfl, ?_⟩
  obtain ⟨Wb, hWb⟩ : ∃ Wb, Wb = Wa.putObj l (.loop { lrec fn tmps ps assign body d .ready none with state := .busy }) := ⟨_, rfl⟩
  have hlb : Wb.heap[l]? = some (.loop { lrec fn tmps ps assign body d .ready none with state := .busy }) := by rw [hWb]; exact World.putObj_heap_same hlt
  have hkb : Kp Wa Wb := by rw [hWb]; exact hKb _ _ _ hla rfl rfl
  have hib : I Wb := by rw [hWb]; exact own_put hI _ hia hBl hla rfl
  have hxb : Ax a' Wb := by rw [hWb]; exact own_put (hAx a') _ hax hBl hla rfl
  have hsame : ∀ k o, B ≤ k → k ≠ l → W.heap[k]? = some o → o.isCells = false → Wb.heap[k]? = some o := fun k o h1 h2 h3 h4 => by
    rw [hWb, World.putObj_heap_other h2]
    exact hk.same k o h1 h3 h4
  rw [← hWb]
  refine wpIn_mono (hbody a' Wb ⟨_, hlb⟩ hib hxb) ?_
  intro e a3 W3 hp
  have fin : ∀ (jump : Option Code), KeepsFrom B Wb W3 →
      (Instr.endRound l jump).run P W3 = .ok (.bool jump.isNone) (W3.putObj l (.loop (lrec fn tmps ps assign body d (if jump.isNone then .ready else .done) jump))) ∧ W3.heap[l]? = some (.loop { lrec fn tmps ps assign body d .ready none with state := .busy }) := fun jump h3 => by
    have hl3 := h3.same l _ hBl hlb rfl
    exact ⟨run_endRound (P := P) jump hl3, hl3⟩
  have oth : KeepsFrom B Wb W3 → ∀ (o' : Obj) k o, B ≤ k → k ≠ l → W.heap[k]? = some o → o.isCells = false → (W3.putObj l o').heap[k]? = some o := fun h3 o' k o h1 h2 h4 h5 => by
    rw [World.putObj_heap_other h2]
    exact h3.same k o h1 (hsame k o h1 h2 h4 h5) h5
  cases e with
  | normal =>
    obtain ⟨h3, hkp3, hj3⟩ := hp
    obtain ⟨hr, hl3⟩ := fin none h3
    exact ⟨_, _, hr, oth h3 _, .inl ⟨rfl, ⟨own_put hJ _ hj3 hBl hl3 rfl, World.putObj_heap_same (Array.getElem?_eq_some_iff.1 hl3).1⟩, hKt hkp (hKt (hKt hkb hkp3) (hKb _ _ _ hl3 rfl rfl))⟩⟩
  | ret =>
    obtain ⟨h3, hj3⟩ := hp
    obtain ⟨hr, hl3⟩ := fin (some .ret) h3
    exact ⟨_, _, hr, oth h3 _, .inr ⟨rfl, own_put hJx _ hj3 hBl hl3 rfl, World.putObj_heap_same (Array.getElem?_eq_some_iff.1 hl3).1⟩⟩
  | exit id => exact hp.elim
  | goto t => exact hp.elim
  | panic ch => exact hp.elim
  | outgrown => exact hp.elim
theorem own_weak {B C : Nat} {β : Type} {J : β → World → Prop} (h : OwnFrom B J) (hBC : B ≤ C) : AbidesFrom C J := fun s W W' row hs hg hr =>
  h s W W' row hs hg fun r e => by
    obtain ⟨h1, o, h2, h3⟩ := hr r e
    exact ⟨Nat.le_trans hBC h1, o, h2, Obj.not_cells_of_walk h3⟩
theorem kept_walk {W W' : World} {row : Option Nat} {k : Nat} {o : Obj} (hg : W.grownBy W' row) (hr : ∀ r, row = some r → ∃ o : Obj, W.heap[r]? = some o ∧ o.isWalk = true) (hk : W.heap[k]? = some o) (ho : o.isWalk = false) : W'.heap[k]? = some o := by
  refine (hg.block k (Array.getElem?_eq_some_iff.1 hk).1 fun e => ?_).trans hk
  obtain ⟨o2, h1, h2⟩ := hr k e.symm
  rw [hk] at h1
  injection h1 with h1
  rw [← h1, ho] at h2
  cases h2
/-- **the loop of a function** -/
theorem range_ix {g : Operand} {ps : Array Tmp} {assign body : Code} {Q : Exit → Act → World → Prop} {a : Act} {w : World} (hro : F.round = none) (h1 : 1 ≤ n) {gf : Nat} {lb : Array Value} (hg : a.eval g = .func (.func gf) #[] lb) (hFg : F.fn gf) (eg : ∀ args w, (callFunc gf args).run P w = .ok (.enter gf args) w)
    {enc : Nat → Array Value} {Kp : World → World → Prop} {N : Nat} {w0 : World} (hseq : SeqIx F (n - 1) P gf lb enc Kp N w0) (hKt : ∀ {A B C : World}, Kp A B → Kp B C → Kp A C)
    (hKb : ∀ (W : World) (l : Nat) (o o' : Obj), w.heap.size ≤ l → W.heap[l]? = some o → o.isCells = false → o.isWalk = false → Kp W (W.putObj l o')) (hb0 : Below w0.heap.size w0 w) (hps : ∀ k, (enc k).size = ps.size)
    (I : Nat → World → Prop) (Jx : World → Prop) (hI : OwnFrom w.heap.size I) (hJx : OwnFrom w.heap.size (fun (_ : Unit) => Jx)) (h0 : I 0 w) (Ax : Nat → Act → World → Prop) (hAx : ∀ k a', OwnFrom w.heap.size (fun (_ : Unit) => Ax k a'))
    (hassign : ∀ (l k : Nat) (W : World) (K : Act → World → Prop), k < N → I k W → (∀ a' W', KeepsFrom w.heap.size W W' → Kp W W' → I k W' → Ax k a' W' → K a' W') →
      assign.wpIn (F.inRound l) (n - 1 - 1) P (Exit.then K (fun _ _ _ => False)) { tmps := (ps.zip (enc k)).foldl (fun t (p, v) => t.setIfInBounds p v) a.tmps, defers := [] } W)
    (hbody : ∀ (l k : Nat) (a' : Act) (W : World), w.heap.size ≤ l → (∃ r, W.heap[l]? = some (.loop r)) → k < N → I k W → Ax k a' W → body.wpIn (F.inRound l) (n - 1 - 1) P (postIx w.heap.size Kp (I (k + 1)) Jx W) a' W)
    (hdone : ∀ (D : Nat) (W : World), w.heap.size ≤ D → I N W → W.heap[D]? = some (.deferred (some [])) → Q .normal { a with defers := { target := .collected D, args := #[] } :: a.defers } W)
    (hstop : ∀ (D : Nat) (W : World), w.heap.size ≤ D → Jx W → W.heap[D]? = some (.deferred (some [])) → Code.ret.wpIn F n P Q { a with defers := { target := .collected D, args := #[] } :: a.defers } W) :
    (Code.rangeFunc g ps assign body).wpIn F n P Q a w := by
  refine wpIn_rangeFunc fun fn hfn => ?_
  rw [hro]
  obtain ⟨W1, hW1⟩ : ∃ W1, (w.alloc (.deferred (some []))).alloc (.loop (lrec fn a.tmps ps assign body w.heap.size .ready none)) = W1 := ⟨_, rfl⟩
  have hL1 : W1.heap[w.heap.size + 1]? = some (.loop (lrec fn a.tmps ps assign body w.heap.size .ready none)) := by
    have h := World.alloc_heap_new (w.alloc (.deferred (some []))) (.loop (lrec fn a.tmps ps assign body w.heap.size .ready none))
    rw [World.size_alloc] at h
    rw [← hW1]
    exact h
  have hD1 : W1.heap[w.heap.size]? = some (.deferred (some [])) := by
    rw [← hW1]
    exact (Below.heap_alloc _ _ _ (by simp)).trans (World.alloc_heap_new w _)
  have hs1 : W1.heap.size = w.heap.size + 2 := by rw [← hW1]; simp
  refine ⟨w.heap.size + 1, [{ target := .collected w.heap.size, args := #[] }], W1, { target := .fn (.func gf) lb, args := #[.func (.yield (w.heap.size + 1)) #[] #[]] }, W1, gf, #[.func (.yield (w.heap.size + 1)) #[] #[]] ++ lb, W1, ?_, ?_, ?_, ?_, fun _ => h1, ?_⟩
  · rw [← hW1]; exact run_enterLoop_outer _ _ _ _ _
  · simp only [resolve, hg]
    simp [go_sem]
  · intro f' hf'
    simp [Target.leads] at hf'
    subst hf'
    exact hFg
  · simp [invoke, go_sem, eg]
  · refine (hseq (w.heap.size + 1)
      (fun k W => I k W ∧ W.heap[w.heap.size + 1]? = some (.loop (lrec fn a.tmps ps assign body w.heap.size .ready none)) ∧ W.heap[w.heap.size]? = some (.deferred (some [])))
      (fun W => Jx W ∧ W.heap[w.heap.size + 1]? = some (.loop (lrec fn a.tmps ps assign body w.heap.size .done (some .ret))) ∧ W.heap[w.heap.size]? = some (.deferred (some [])))
      W1 (by rw [← hW1]; exact hb0.trans ((((Below.refl _ w).alloc (Nat.le_refl _) _).alloc (by simp) _).mono hb0.size))
      (fun s X Y row hs hgr hr => ⟨own_weak hI (by omega) s X Y row hs.1 hgr hr, kept_walk hgr (fun r e => (hr r e).2) hs.2.1 rfl, kept_walk hgr (fun r e => (hr r e).2) hs.2.2 rfl⟩)
      (fun s X Y row hs hgr hr => ⟨own_weak hJx (by omega) s X Y row hs.1 hgr hr, kept_walk hgr (fun r e => (hr r e).2) hs.2.1 rfl, kept_walk hgr (fun r e => (hr r e).2) hs.2.2 rfl⟩)
      ?_ ⟨by rw [← hW1]; exact hI.alloc _ (hI.alloc _ h0), hL1, hD1⟩).mono ?_
    · rintro k W hk ⟨hi, hl, hd⟩
      refine ⟨fn, _, assign, body, run_yield hl (hps k), ?_⟩
      refine (round_ix (B := w.heap.size) (l := w.heap.size + 1) (Kp := Kp) (I := I k) (J := I (k + 1)) (Jx := Jx) (Ax := Ax k) hfn (by omega) (fun _ X Y row hs hgr hr => hI k X Y row hs hgr hr) (fun _ X Y row hs hgr hr => hI (k + 1) X Y row hs hgr hr) hJx (fun a' => hAx k a') hKt
        (fun X o o' h2 h3 h4 => hKb X _ o o' (by omega) h2 h3 h4) hl (fun K hK => hassign _ k W K hk hi hK) (fun a' W' hr hi' hx => hbody _ k a' W' (by omega) hr hk hi' hx)).mono ?_
      rintro e W' ⟨hsm, (⟨he, ⟨hj, hl'⟩, hkp⟩ | ⟨he, hj, hl'⟩)⟩
      · exact .inl ⟨he, ⟨hj, hl', hsm _ _ (Nat.le_refl _) (by omega) hd rfl⟩, hkp⟩
      · exact .inr ⟨he, hj, hl', hsm _ _ (Nat.le_refl _) (by omega) hd rfl⟩
    · rintro e W2 ⟨⟨v, rfl⟩, (⟨hi, hl, hd⟩ | ⟨hj, hl, hd⟩)⟩
      · exact ⟨none, _, run_endLoop (P := P) hl (by intro h; cases h), hdone _ _ (Nat.le_refl _) (hI.putObj _ hi (by omega) hl rfl) ((World.putObj_heap_other (by omega)).trans hd)⟩
      · exact ⟨some .ret, _, run_endLoop (P := P) hl (by intro h; cases h), hstop _ _ (Nat.le_refl _) (own_put hJx _ hj (by omega) hl rfl) ((World.putObj_heap_other (by omega)).trans hd)⟩
/-- **the loop within a round of loop l₀** -/
theorem range_ixN {g : Operand} {ps : Array Tmp} {assign body : Code} {Q : Exit → Act → World → Prop} {a : Act} {w : World} {l₀ : Nat} {r₀ : Loop} (hro : F.round = some l₀) (hl₀ : w.heap[l₀]? = some (.loop r₀)) (h1 : 1 ≤ n) {gf : Nat} {lb : Array Value} (hg : a.eval g = .func (.func gf) #[] lb) (hFg : F.fn gf) (eg : ∀ args w, (callFunc gf args).run P w = .ok (.enter gf args) w)
    {enc : Nat → Array Value} {Kp : World → World → Prop} {N : Nat} {w0 : World} (hseq : SeqIx F (n - 1) P gf lb enc Kp N w0) (hKt : ∀ {A B C : World}, Kp A B → Kp B C → Kp A C)
    (hKb : ∀ (W : World) (l : Nat) (o o' : Obj), w.heap.size ≤ l → W.heap[l]? = some o → o.isCells = false → o.isWalk = false → Kp W (W.putObj l o')) (hb0 : Below w0.heap.size w0 w) (hps : ∀ k, (enc k).size = ps.size)
    (I : Nat → World → Prop) (Jx : World → Prop) (hI : OwnFrom w.heap.size I) (hJx : OwnFrom w.heap.size (fun (_ : Unit) => Jx)) (h0 : I 0 w) (Ax : Nat → Act → World → Prop) (hAx : ∀ k a', OwnFrom w.heap.size (fun (_ : Unit) => Ax k a'))
    (hassign : ∀ (l k : Nat) (W : World) (K : Act → World → Prop), k < N → I k W → (∀ a' W', KeepsFrom w.heap.size W W' → Kp W W' → I k W' → Ax k a' W' → K a' W') →
      assign.wpIn (F.inRound l) (n - 1 - 1) P (Exit.then K (fun _ _ _ => False)) { tmps := (ps.zip (enc k)).foldl (fun t (p, v) => t.setIfInBounds p v) a.tmps, defers := [] } W)
    (hbody : ∀ (l k : Nat) (a' : Act) (W : World), w.heap.size ≤ l → (∃ r, W.heap[l]? = some (.loop r)) → k < N → I k W → Ax k a' W → body.wpIn (F.inRound l) (n - 1 - 1) P (postIx w.heap.size Kp (I (k + 1)) Jx W) a' W)
    (hdone : ∀ (W : World), I N W → Q .normal a W) (hstop : ∀ (W : World), Jx W → Code.ret.wpIn F n P Q a W) :
    (Code.rangeFunc g ps assign body).wpIn F n P Q a w := by
  refine wpIn_rangeFunc fun fn hfn => ?_
  rw [hro]
  obtain ⟨W1, hW1⟩ : ∃ W1, w.alloc (.loop (lrec fn a.tmps ps assign body r₀.defers .ready none)) = W1 := ⟨_, rfl⟩
  have hL1 : W1.heap[w.heap.size]? = some (.loop (lrec fn a.tmps ps assign body r₀.defers .ready none)) := by rw [← hW1]; exact World.alloc_heap_new w _
  have hs1 : W1.heap.size = w.heap.size + 1 := by rw [← hW1]; simp
  refine ⟨w.heap.size, [], W1, { target := .fn (.func gf) lb, args := #[.func (.yield w.heap.size) #[] #[]] }, W1, gf, #[.func (.yield w.heap.size) #[] #[]] ++ lb, W1, ?_, ?_, ?_, ?_, fun _ => h1, ?_⟩
  · rw [← hW1]; exact run_enterLoop_inner hl₀ _ _ _ _ _
  · simp only [resolve, hg]
    simp [go_sem]
  · intro f' hf'
    simp [Target.leads] at hf'
    subst hf'
    exact hFg
  · simp [invoke, go_sem, eg]
  · refine (hseq w.heap.size
      (fun k W => I k W ∧ W.heap[w.heap.size]? = some (.loop (lrec fn a.tmps ps assign body r₀.defers .ready none)))
      (fun W => Jx W ∧ W.heap[w.heap.size]? = some (.loop (lrec fn a.tmps ps assign body r₀.defers .done (some .ret))))
      W1 (by rw [← hW1]; exact hb0.trans (((Below.refl _ w).alloc (Nat.le_refl _) _).mono hb0.size))
      (fun s X Y row hs hgr hr => ⟨own_weak hI (by omega) s X Y row hs.1 hgr hr, kept_walk hgr (fun r e => (hr r e).2) hs.2 rfl⟩)
      (fun s X Y row hs hgr hr => ⟨own_weak hJx (by omega) s X Y row hs.1 hgr hr, kept_walk hgr (fun r e => (hr r e).2) hs.2 rfl⟩)
      ?_ ⟨by rw [← hW1]; exact hI.alloc _ h0, hL1⟩).mono ?_
    · rintro k W hk ⟨hi, hl⟩
      refine ⟨fn, _, assign, body, run_yield hl (hps k), ?_⟩
      refine (round_ix (B := w.heap.size) (l := w.heap.size) (Kp := Kp) (I := I k) (J := I (k + 1)) (Jx := Jx) (Ax := Ax k) hfn (Nat.le_refl _) (fun _ X Y row hs hgr hr => hI k X Y row hs hgr hr) (fun _ X Y row hs hgr hr => hI (k + 1) X Y row hs hgr hr) hJx (fun a' => hAx k a') hKt
        (fun X o o' h2 h3 h4 => hKb X _ o o' (Nat.le_refl _) h2 h3 h4) hl (fun K hK => hassign _ k W K hk hi hK) (fun a' W' hr hi' hx => hbody _ k a' W' (Nat.le_refl _) hr hk hi' hx)).mono ?_
      rintro e W' ⟨_, (⟨he, ⟨hj, hl'⟩, hkp⟩ | ⟨he, hj, hl'⟩)⟩
      · exact .inl ⟨he, ⟨hj, hl'⟩, hkp⟩
      · exact .inr ⟨he, hj, hl'⟩
    · rintro e W2 ⟨⟨v, rfl⟩, (⟨hi, hl⟩ | ⟨hj, hl⟩)⟩
      · exact ⟨none, _, run_endLoop (P := P) hl (by intro h; cases h), hdone _ (hI.putObj _ hi (Nat.le_refl _) hl rfl)⟩
      · exact ⟨some .ret, _, run_endLoop (P := P) hl (by intro h; cases h), hstop _ (own_put hJx _ hj (Nat.le_refl _) hl rfl)⟩
theorem SeqIx.inRound {g : Nat} {lb : Array Value} {enc : Nat → Array Value} {Kp : World → World → Prop} {N : Nat} {w0 : World} (l : Nat) (h : SeqIx F n P g lb enc Kp N w0) : SeqIx (F.inRound l) n P g lb enc Kp N w0 := h
end
end Go.Proofs.Ytphhoihhmphbdaa
