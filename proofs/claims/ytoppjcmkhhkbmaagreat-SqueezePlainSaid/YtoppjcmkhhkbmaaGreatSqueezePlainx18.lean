/-
  A drawn region of a round of a range over a function, whose turning operations have no order of their own.
  squeeze.Plain.
  burnishref11.Plain.
-/
import Derived.Test.YtoppjcmkhhkbmaaGreatSqueezePlainx2
import Derived.Test.YtoppjcmkhhkbmaaGreatSqueezePlainx4
import Derived.Test.YtoppjcmkhhkbmaaGreatSqueezePlainx8
import Derived.Test.YtoppjcmkhhkbmaaGreatSqueezePlainx16
import Derived.Test.YtoppjcmkhhkbmaaGreatSqueezePlainx17
import Derived.Sort.CutIn
import Derived.BigQuiet
import Derived.Deep.Cut
namespace Go.Proofs.YtoppjcmkhhkbmaaGreat
open Go.RowKit

section
variable {P : Program}
theorem set_round {lp n id : Nat} {Q : Exit → Act → World → Prop} {a : Act} {w : World} {L : List Oper} {S : Type} (ms : List Nat) (val : S → Nat → Value) (wd : S → World) (R : List Bool → S → Prop) (dep : Nat → List Nat) (af : S → Act) (x0 : S) (hm : P.follows .mixedOrders = true) (hok : okR2 L none2 none2 none2 = true) (hdep : depS L dep = true)
    (hlow : lowB L = true) (hms : (ms.all fun k => decide (k < L.length)) = true) (h0 : wd x0 = w.drew) (hR0 : R (ms.map fun _ => false) x0) (haf : ∀ x, actOf L (val x) (fun _ => true) a L.length = af x)
    (hy : ∀ s x, R (ms.map s) x → AllY (fun i o => StepS P val wd (fun s => R (ms.map s)) dep L.length s x (ms.contains i) i o (af x).eval) 0 L) (hQ : ∀ x, R (ms.map fun _ => true) x → Q .normal (af x) (wd x)) :
    (Code.region id L.toArray true).wpIn (Fence.wide.inRound lp) n P Q a w := by
  have ok := okR2_of hok
  refine wpIn_region_any hm ?_
  obtain ⟨e1, e2⟩ := none_listed L none2 (val x0) a
  have hms2 : ∀ k, ms.contains k = true → k < L.length := fun k hk => of_decide_eq_true (List.all_eq_true.1 hms k (List.contains_iff_mem.1 hk))
  have h := set_core (P := P) (mem := fun k => ms.contains k) (val := val) (wd := wd) (R := fun s => R (ms.map s)) (dep := dep) (Q := Q) (a := a) (fun i K a w => wpOpIn (Fence.wide.inRound lp) n P L.toArray Q i K a w)
    (fun i o a w w' v K ho hy hK => wpOpIn_yl ho (ok.guard o (List.mem_of_getElem? ho)) (ok.defer o (List.mem_of_getElem? ho)) hy hK)
    (fun i o a w G K ho hy hK => wpOpIn_turn ho (ok.guard o (List.mem_of_getElem? ho)) (ok.defer o (List.mem_of_getElem? ho)) hy hK) ok hdep
    (fun s s' x he hR => by
      have : ms.map s = ms.map s' := List.map_congr_left fun k hk => he k (List.contains_iff_mem.2 hk)
      rw [← this]; exact hR)
    (fun s x hR i o ho => by
      have h := allY_at L 0 (hy s x hR) i o ho
      rw [Nat.zero_add] at h
      rw [haf]
      exact h) (fun x hR => by rw [haf]; exact hQ x hR) hms2 (ready_all hlow) (fun fuel listed a w => wpAnyIn (Fence.wide.inRound lp) n P .any L.toArray Q fuel listed a w) (fun _ _ _ h1 h2 => ⟨h1, h2⟩) (fun _ _ _ _ h1 h2 => ⟨h1, h2⟩)
    L.toArray.size (Array.replicate L.toArray.size false) x0 (inv_none L none2) (by
      have hz : ms.map (fun k => (Array.replicate L.toArray.size false).getD k false) = ms.map (fun _ => false) := List.map_congr_left fun k hk => by
        have := hms2 k (List.contains_iff_mem.2 hk)
        simp [this]
      show R _ x0
      rw [hz]; exact hR0) (fun ⟨i, hi, _⟩ => by simp; omega) (by simp)
  rw [e1, h0] at h
  exact h
end
end Go.Proofs.YtoppjcmkhhkbmaaGreat

namespace Go.Proofs.YtoppjcmkhhkbmaaGreat
open Go.RowKit Go.Shelf
attribute [local go_sem] Oper.semAt_some

/-- only these two blocks were turned, of those that were there -/
structure Ch2 (gb : Nat) (row : Option Nat) (w w' : World) : Prop where
  os : w'.os = w.os
  tape : w'.tape = w.tape
  output : w'.output = w.output
  size : w.heap.size ≤ w'.heap.size
  same : ∀ k, k < w.heap.size → k ≠ gb → some k ≠ row → w'.heap[k]? = w.heap[k]?
theorem Ch2.of_below (gb : Nat) (row : Option Nat) {w w' : World} (h : Below w.heap.size w w') : Ch2 gb row w w' := ⟨h.os, h.tape, h.output, h.size, fun k hk _ _ => h.block k hk⟩
theorem Ch2.then {gb : Nat} {row r2 : Option Nat} {w w1 w2 : World} (h : Ch2 gb row w w1) (k : w1.grownBy w2 r2) (hr : ∀ r, r2 = some r → r = gb ∨ some r = row ∨ w.heap.size ≤ r) : Ch2 gb row w w2 :=
  ⟨k.os.trans h.os, k.tape.trans h.tape, k.output.trans h.output, Nat.le_trans h.size k.size, fun i hi h1 h2 => (k.block i (Nat.lt_of_lt_of_le hi h.size) (fun e => by
    rcases hr i e.symm with e1 | e1 | e1
    · exact h1 e1
    · exact h2 e1
    · omega)).trans (h.same i hi h1 h2)⟩
theorem Ch2.below {gb C : Nat} {row : Option Nat} {w w1 : World} (h : Ch2 gb row w w1) (hg : C ≤ gb) (hr : ∀ r, row = some r → C ≤ r) (hC : C ≤ w.heap.size) : Below C w w1 :=
  ⟨h.os, h.tape, h.output, h.size, fun k hk => h.same k (by omega) (by omega) (fun e => by have := hr k e.symm; omega)⟩
theorem Ch2.keeps {gb B : Nat} {row : Option Nat} {w w1 : World} (h : Ch2 gb row w w1) (hg : ∀ o, w.heap[gb]? = some o → o.isCells = true) (hr : ∀ r o, row = some r → w.heap[r]? = some o → o.isCells = true) : KeepsFrom B w w1 :=
  ⟨h.size, fun k o _ hk ho => (h.same k (Array.getElem?_eq_some_iff.1 hk).1 (fun e => by subst e; rw [hg o hk] at ho; cases ho) (fun e => by rw [hr k o e.symm hk] at ho; cases ho)).trans hk⟩
/-- a block that lies apart from the blocks X -/
structure BvX (w : World) (X : List Nat) (b : SBk) : Prop where
  tok : RdX w X 2 b.A b.l.length (b.l.flatMap encTok)
  txt : RdX w X 1 b.B b.text.length (bytesV b.text)
  good : blkGood b.kind b.l b.text = true
  n1 : b.l.length ≤ 1000000
  n2 : b.text.length ≤ 1000000
  byt : ∀ x ∈ b.text, isB x
theorem BvX.ok {w : World} {X : List Nat} {b : SBk} (h : BvX w X b) : BvOk w w.heap.size b := ⟨h.tok.rd, h.txt.rd, h.good, h.n1, h.n2, h.byt⟩
theorem BvX.below {w w' : World} {X : List Nat} {b : SBk} (h : BvX w X b) (hb : Below w.heap.size w w') : BvX w' X b := ⟨h.tok.below hb, h.txt.below hb, h.good, h.n1, h.n2, h.byt⟩
theorem BvX.app {w w' : World} {X X' : List Nat} {b : SBk} {row : Option Nat} (h : BvX w X b) (hg : w.grownBy w' row) (hr : ∀ r, row = some r → r ∈ X) (hX : ∀ k ∈ X', k ∈ X ∨ w.heap.size ≤ k) : BvX w' X' b := ⟨h.tok.app hg hr hX, h.txt.app hg hr hX, h.good, h.n1, h.n2, h.byt⟩
theorem BvX.oth {w w' : World} {X : List Nat} {b : SBk} {row : Option Nat} (h : BvX w X b) (hg : w.grownBy w' row) (hr : ∀ r, row = some r → ∃ o : Obj, w.heap[r]? = some o ∧ o.isCells = false) : BvX w' X b := ⟨h.tok.oth hg hr, h.txt.oth hg hr, h.good, h.n1, h.n2, h.byt⟩
def ob (A : Option Addr) : List Nat := match A with | some a => [a.block] | none => []
theorem ob_own {A : Option Addr} {n c r : Nat} (h : Value.ownBlock (.slice A n c) = some r) : r ∈ ob A := by
  cases A with
  | none => cases h
  | some a =>
    have h : some a.block = some r := h
    injection h with h
    unfold ob
    simp [h]
/-- a chunk of a text, and its block -/
def plT (text : List Int) (j : Nat) : List Int := (text.drop (j * 65535)).take (min 65535 (text.length - j * 65535))
def plC (text : List Int) (j : Nat) : Bq := ⟨0, litsN (plT text j), plT text j⟩
def plN (text : List Int) : Nat := (text.length + 65535 - 1) / 65535
def plQ (text : List Int) : List Bq := if text.length = 0 then [⟨0, [], []⟩] else (List.range (plN text)).map (plC text)
/-- what Plain's loop holds -/
def PlS (W x0 w : World) (gb j : Nat) (text : List Int) : Prop := ∃ (bs : List SBk) (A : Option Addr) (c : Nat),
  (bs.length = j ∧ Blk w gb 44 #[.slice A j c] ∧ w.ownsRow x0.heap.size 48 3 (.slice A j c) j (bs.flatMap encSBk)) ∧ (∀ b ∈ bs, BvX w (gb :: ob A) b) ∧ bs.map SBk.q = (List.range j).map (plC text) ∧ Below W.heap.size W w ∧ x0.heap.size ≤ w.heap.size
theorem PlS.oth {W x0 w w' : World} {gb j : Nat} {text : List Int} {row : Option Nat} (h : PlS W x0 w gb j text) (hW : W.heap.size ≤ x0.heap.size) (hg : w.grownBy w' row) (hr : ∀ r, row = some r → x0.heap.size ≤ r ∧ ∃ o : Obj, w.heap[r]? = some o ∧ o.isCells = false) : PlS W x0 w' gb j text := by
  obtain ⟨bs, A, c, ⟨h1, h2, h3⟩, h4, h5, h6, h7⟩ := h
  refine ⟨bs, A, c, ⟨h1, h2.grown hg (fun e => ?_), h3.kept hg ?_⟩, fun b hb => (h4 b hb).oth hg (fun r e => (hr r e).2), h5, h6.trans ⟨hg.os, hg.tape, hg.output, hg.size, fun k hk => hg.block k (Nat.lt_of_lt_of_le hk h6.size) (fun e => by have := (hr k e.symm).1; omega)⟩, Nat.le_trans h7 hg.size⟩
  · obtain ⟨o, ho, hc⟩ := (hr gb e.symm).2
    have h2' : w.heap[gb]? = some (.cells #[.slice A j c] 44 (0, 0)) := h2
    rw [h2'] at ho
    injection ho with ho
    rw [← ho] at hc
    cases hc
  · rcases h3.2 with ⟨e1, _⟩ | ⟨g, cap, cur, e1, _, e2, _⟩
    · rw [e1]; exact .inl rfl
    · rw [e1]
      refine .inr fun e => ?_
      obtain ⟨o, ho, hc⟩ := (hr g e.symm).2
      rw [e2] at ho
      injection ho with ho
      rw [← ho] at hc
      cases hc
/-- behind the assign code of a round that only assigns -/
def PlAxQ (a1 : Nat → Act) (k : Nat) (a' : Act) (_ : World) : Prop := a' = a1 k
theorem plAxQ_own {a1 : Nat → Act} {B : Nat} (k : Nat) (a' : Act) : OwnFrom B (fun (_ : Unit) => PlAxQ a1 k a') := fun _ _ _ _ hs _ _ => hs
theorem plT_len (text : List Int) (j : Nat) : (plT text j).length = min 65535 (text.length - j * 65535) := by
  unfold plT
  rw [List.length_take, List.length_drop]
  omega
theorem plT_isB {text : List Int} (hB : ∀ x ∈ text, isB x) (j : Nat) : ∀ x ∈ plT text j, isB x := fun x hx => hB x (List.mem_of_mem_drop (List.mem_of_mem_take hx))
theorem lits_fit {b : List Int} (hb : ∀ x ∈ b, isB x) : fitM b 0 (litsN b) = true := by
  have := prS_lits hb b.length 0 (Nat.le_refl _) (Nat.zero_le _)
  rw [List.drop_zero] at this
  exact prS_fit this
theorem made_blk : madeCells (Value.agg #[Value.int IntKind.i64 0, Value.slice none 0 0, Value.slice none 0 0]).cells 3 = #[.int .i64 0, .slice none 0 0, .slice none 0 0] := by kernel_rfl
theorem own_putQ {w : World} {B e size n D : Nat} {v : Value} {xs : List Value} {ds : Option (List Deferred)} (h : w.ownsRow B e size v n xs) (hD : w.heap[D]? = some (.deferred ds)) (o : Obj) : (w.putObj D o).ownsRow B e size v n xs := by
  refine h.kept (grownBy_putObj' w D o) ?_
  cases e2 : v.ownBlock with
  | none => exact .inl rfl
  | some b =>
    refine .inr (fun h2 => ?_)
    injection h2 with h2
    rcases h.2 with ⟨h3, _⟩ | ⟨j, cap, cur, h3, _, hk2, _⟩
    · rw [h3] at e2; cases e2
    · rw [h3] at e2
      have e3 : some j = some b := e2
      injection e3 with e3
      rw [e3, h2, hD] at hk2
      cases hk2
theorem wrAll_bd : ∀ (bs : List Bq) (k : Nat), (∀ b ∈ bs, b.kind = 0 ∧ b.text.length ≤ 65535 ∧ ∀ t ∈ b.l, tgood t = true) → (wrAll k bs).length ≤ bs.length * 524322
  | [], _, _ => by simp [wrAll]
  | b :: bs, k, h => by
    obtain ⟨h0, h1, h2⟩ := h b List.mem_cons_self
    have ih := wrAll_bd bs (k + (wrB k bs.isEmpty b.kind b.l b.text).length) fun x hx => h x (List.mem_cons_of_mem _ hx)
    have hb := (wrB_bits h2 k bs.isEmpty (kind := b.kind) b.text (by omega) (by omega)).1
    have e : bitsM b.kind b.l b.text = 42 + 8 * b.text.length := by rw [h0]; rfl
    rw [e] at hb
    rw [wrAll, List.length_append, List.length_cons]
    omega
abbrev PlX := (((Option Addr × Nat) × Nat) × (Option Addr × Nat)) × World
/-- how far the round's region has come -/
def PlRg (W x0 w : World) (gb j : Nat) (text t : List Int) (AR : Option Addr) (cR : Nat) (bs : List SBk) (Ap : Option Addr) : Nat → PlX → Prop
  | 0, x => x.2 = w.drew
  | 1, x => Below w.heap.size w x.2 ∧ x.2.ownsRow w.heap.size 54 2 (.slice x.1.1.1.1 t.length x.1.1.1.2) t.length ((litsN t).flatMap encTok)
  | 2, x => (Below w.heap.size w x.2 ∧ x.2.ownsRow w.heap.size 54 2 (.slice x.1.1.1.1 t.length x.1.1.1.2) t.length ((litsN t).flatMap encTok)) ∧ w.heap.size ≤ x.1.1.2 ∧ Blk x.2 x.1.1.2 48 #[.int .i64 0, .slice x.1.1.1.1 t.length x.1.1.1.2, .slice Ap t.length t.length]
  | 3, x => Ch2 gb (Value.ownBlock (.slice AR j cR)) w x.2 ∧ Blk x.2 gb 44 #[.slice AR j cR] ∧ x.2.ownsRow x0.heap.size 48 3 (.slice x.1.2.1 (j + 1) x.1.2.2) (j + 1) (bs.flatMap encSBk ++ [.int .i64 0, .slice x.1.1.1.1 t.length x.1.1.1.2, .slice Ap t.length t.length]) ∧ ∀ b ∈ bs ++ [⟨0, x.1.1.1.1, x.1.1.1.2, Ap, t.length, litsN t, t⟩], BvX x.2 (gb :: ob x.1.2.1) b
  | 4, x => Ch2 gb (Value.ownBlock (.slice AR j cR)) w x.2 ∧ PlS W x0 x.2 gb (j + 1) text
  | _, _ => False
theorem blk_info : (Tryz.prog.info? 48).map (fun i => (i.zero, i.size, i.bytes)) = some (some (.agg #[.int .i64 0, .slice none 0 0, .slice none 0 0]), 3, 56) := by kernel_rfl
set_option maxRecDepth 100000 in
set_option maxHeartbeats 8000000 in
theorem plain_any (A : Option Addr) (c : Nat) (text : List Int) (W : World) (h : Rd W W.heap.size 1 A text.length (bytesV text)) (hc : text.length ≤ c) (hm : text.length ≤ 1048576) (hB : ∀ x ∈ text, isB x) :
    Calls Tryz.prog 9 #[.slice A text.length c] W (WroteEnd (plQ text) W) := by
  obtain ⟨i0, hi0, hz0, hz1, hz2⟩ := info_parts blk_info
  have Hi0 := hid hi0
  have Hz0 := hid hz0
  have Hz1 := hid hz1
  have Hz2 := hid hz2
  have H := hid h
  have HB := hid hB
  have CK := hid (fun w => check11_any A c text.length w)
  obtain ⟨w0, hw0⟩ : ∃ w, w = W.alloc (.cells #[.slice none 0 0] 44) := ⟨_, rfl⟩
  have b0 : Below W.heap.size W w0 := hw0 ▸ (Below.refl _ _).alloc (Nat.le_refl _) _
  obtain ⟨gb, hgb⟩ : ∃ g, g = W.heap.size := ⟨_, rfl⟩
  have z0 : Blk w0 gb 44 #[.slice none 0 0] := by rw [hw0, hgb]; exact Blk.new W _ _
  have hs0 : w0.heap.size = gb + 1 := by rw [hw0, hgb]; simp
  have CH := hid (chunkFCB_any A text.length c 65535 (by omega) w0)
  clear hi0 hz0 hz1 hz2 h hB
  rw [if_pos hm] at CK
  refine (callsIn_wide (n := 9)).1 ?_
  refine callsIn_of_wp_marks Tryz.func9 rfl trivial ?_ rfl
  refine wpIn_wide.2 ?_
  simp only [Tryz.ntmps9, List.size_toArray, List.length_cons, List.length_nil, Nat.reduceAdd, Nat.reduceSub, Array.replicate_succ, Array.replicate_zero, List.push_toArray, List.append_toArray, List.nil_append, List.cons_append]
  go_wp2_with fail
  refine (CK.out _).mono ?_
  rintro e wx ⟨rfl, rfl⟩
  go_upto_region 5 with (fail)
  rw [← hw0, ← hgb]
  have HW0 := hid hw0
  have HGB := hid hgb
  clear hw0 hgb CK
  go_wp2_with fail
  refine CH.out.mono ?_
  rintro e x0 ⟨rfl, hbx, hb3, hsz⟩
  rw [hs0] at hbx hb3 hsz ⊢
  have HS := hid (show x0.heap.size = gb + 3 by omega)
  have HBX := hid hbx
  have P0 := hid (show PlS W x0 x0 gb 0 text from ⟨[], none, 0, ⟨rfl, z0.below hb3 (by omega), World.ownsRow_nil _ _ _ _⟩, fun b hb => (by cases hb), rfl, b0.trans (hb3.mono (by have := HGB.out; omega)), Nat.le_refl _⟩)
  have X0 := hid (b0.trans (hb3.mono (by have := HGB.out; omega)))
  clear hbx hb3 hsz hs0 z0 b0 HW0 CH
  go_wp2_with fail
  refine' wpIn_wide.1 (range_ix (n := 9) (F := Fence.wide) rfl (by omega) (gf := 67) (lb := #[.pointer (some ⟨gb + 1, 0, none⟩), .pointer (some ⟨gb + 1 + 1, 0, none⟩)]) rfl trivial (enters_of Tryz.func67 (by kernel_rfl) rfl)
    (chunkCB_ix 8 (gb + 1) (by omega) A text.length c 65535 (by omega) (by omega) (by omega) hc x0 HBX.out) kp2_t (kp2_b (by have := HS.out; omega)) (Below.refl _ _) (fun _ => rfl)
    (fun j w => PlS W x0 w gb j text)
    (fun _ => False)
    ?hI ?hJx ?h0 (PlAxQ ?a2) (fun k a' => plAxQ_own k a') ?assign ?body ?done ?stop)
  case hI =>
    rintro j w w' row e1 hg hr
    exact e1.oth (by have := HS.out; have := HGB.out; omega) hg hr
  case hJx => exact fun _ _ _ _ h _ _ => h.elim
  case h0 => exact P0.out
  case assign =>
    rintro lp j w K hj hi hK
    have HI := hid hi
    clear hi
    gi_wp2
    refine hK _ _ (KeepsFrom.refl _ _) (fun _ _ _ => rfl) HI.out ?eqa2
    case eqa2 => exact Eq.refl _
  case body =>
    rintro lp j a' w hlB ⟨r0, hr0⟩ hj e1 ha
    have ha : a' = _ := ha
    dsimp only at ha
    subst ha
    have hj2 : j < plN text := hj
    have hin : j * 65535 < text.length := by unfold plN at hj2; omega
    have hml := plT_len text j
    rw [← hml]
    obtain ⟨bs, AR, cR, ⟨g1, g2, g3⟩, g4, g5, g6, g7⟩ := e1
    obtain ⟨Ap, hAp⟩ : ∃ a, a = A.map (·.add (j * 65535)) := ⟨_, rfl⟩
    rw [← hAp]
    have hRt : ∀ w', Below W.heap.size W w' → Rd w' W.heap.size 1 Ap (plT text j).length (bytesV (plT text j)) := fun w' hb => by
      have h1 := rd_partQ 1 (H.out.below hb (Nat.le_refl _)) (j * 65535) (plT text j).length (by rw [hml]; omega)
      rw [bytesV_part, Nat.mul_one, ← hAp] at h1
      have e : (text.drop (j * 65535)).take (plT text j).length = plT text j := by rw [hml]; rfl
      rw [e] at h1
      exact h1
    have HT := hid (show plC text j = ⟨0, litsN (plT text j), plT text j⟩ from rfl)
    have HTb := hid (plT_isB HB.out j)
    have htl : (plT text j).length ≤ 65535 := by rw [hml]; omega
    have HRT := hid hRt
    generalize plT text j = t at *
    have hWx : W.heap.size ≤ x0.heap.size := by have := HS.out; have := HGB.out; omega
    have htl2 := lits_len t
    have K2 := hid g2
    have O3 := hid g3
    have V4 := hid g4
    have Q5 := hid g5
    have B6 := hid g6
    have L1 := hid g1
    have hgw : gb < w.heap.size := g2.lt
    have hj9 : j ≤ 20 := by unfold plN at hj2; omega
    have hlt3 : ∀ r, Value.ownBlock (.slice AR j cR) = some r → r < w.heap.size ∧ x0.heap.size ≤ r := fun r e => own_lt2 g3 e
    have hX : ∀ r ∈ gb :: ob AR, W.heap.size ≤ r ∧ r < w.heap.size := by
      intro r hr
      rcases List.mem_cons.1 hr with e | e
      · subst e; have := HGB.out; omega
      · have hr2 : Value.ownBlock (.slice AR j cR) = some r := by
          cases AR with
          | none => cases e
          | some a =>
            unfold ob at e
            rw [List.mem_singleton] at e
            rw [e]; rfl
        have := hlt3 r hr2
        omega
    have HX := hid hX
    have H3 := hid hlt3
    clear g1 g2 g3 g4 g5 g6 hml hAp hRt hX hlt3 hin ha hr0 hj hj2
    gi_upto_region 7 with (fail)
    refine set_round (S := PlX) [0, 2, 5, 6, 7]
      (fun x i => [.slice AR j cR, .slice Ap t.length t.length, .slice x.1.1.1.1 t.length x.1.1.1.2, .slice Ap t.length t.length, .agg #[.int .i64 0, .slice x.1.1.1.1 t.length x.1.1.1.2, .slice Ap t.length t.length], .slice (some ⟨x.1.1.2, 0, none⟩) 1 1, .slice x.1.2.1 (j + 1) x.1.2.2, undef].getD i undef)
      (fun x => x.2) (fun lz x => ((lz.getD 4 false = true → lz.getD 0 false = true ∧ lz.getD 3 false = true) ∧ (lz.getD 3 false = true → lz.getD 2 false = true) ∧ (lz.getD 2 false = true → lz.getD 1 false = true)) ∧ PlRg W x0 w gb j text t AR cR bs Ap (if lz.getD 4 false = true then 4 else if lz.getD 3 false = true then 3 else if lz.getD 2 false = true then 2 else if lz.getD 1 false = true then 1 else 0) x)
      (fun i => if i = 4 then [2] else if i = 5 then [2] else if i = 6 then [0, 5, 2] else if i = 7 then [6, 5, 2, 0] else []) ?af (((((none, 0), 0), (none, 0)), w.drew)) (by kernel_rfl) (by kernel_rfl) (by kernel_rfl) (by kernel_rfl) (by kernel_rfl) rfl ?hR0 ?haf ?hy ?hQ
    case haf =>
      intro x
      simp only [actOf, dstAt, List.length_cons, List.length_nil, Nat.reduceAdd, List.getElem?_cons_zero, List.getElem?_cons_succ, Option.bind_some, if_true, List.getD_cons_zero, List.getD_cons_succ, Act.put, List.setIfInBounds_toArray, List.set_cons_zero, List.set_cons_succ]
      rfl
    case hR0 => exact ⟨⟨fun h => absurd h (by decide), fun h => absurd h (by decide), fun h => absurd h (by decide)⟩, rfl⟩
    case hy =>
      intro s xw hR
      obtain ⟨⟨⟨⟨x1, x2⟩, x3⟩, ⟨x4, x5⟩⟩, x6⟩ := xw
      obtain ⟨⟨m7, m6, m5⟩, hR⟩ := hR
      have m7 : s 7 = true → s 0 = true ∧ s 6 = true := m7
      have m6 : s 6 = true → s 5 = true := m6
      have m5 : s 5 = true → s 2 = true := m5
      have hR : PlRg W x0 w gb j text t AR cR bs Ap (if s 7 = true then 4 else if s 6 = true then 3 else if s 5 = true then 2 else if s 2 = true then 1 else 0) ((((x1, x2), x3), (x4, x5)), x6) := hR
      simp only [AllY]
      refine ⟨?_, ?_, ?_, ?_, ?_, ?_, ?_, ?_, trivial⟩
      case refine_1 =>
        intro h0 hd
        have h7 : s 7 = false := by
          cases h : s 7
          · rfl
          · exact absurd (m7 h).1 (by rw [h0]; decide)
        have hc0 : x6.cell? ⟨gb, 0, none⟩ = some (.slice AR j cR) := by
          rw [h7, if_neg (by decide)] at hR
          by_cases h6 : s 6 = true
          · rw [if_pos h6] at hR
            exact (hR.2.1.cell 0).trans rfl
          · rw [if_neg h6] at hR
            have hb : Below w.heap.size w x6 := by
              by_cases h5 : s 5 = true
              · rw [if_pos h5] at hR; exact hR.1.1
              · rw [if_neg h5] at hR
                by_cases h2 : s 2 = true
                · rw [if_pos h2] at hR; exact hR.1
                · rw [if_neg h2] at hR
                  have hR : x6 = w.drew := hR
                  rw [hR]; exact (Below.refl _ _).drew
            exact ((K2.out.below hb hgw).cell 0).trans rfl
        refine .inl ⟨.slice AR j cR, x6, by simp [execOp, go_sem, Act.eval, hc0], ((((x1, x2), x3), (x4, x5)), x6), ⟨⟨fun h => ?_, fun h => ?_, fun h => ?_⟩, ?_⟩, rfl, rfl, fun i hi hc hne => ?_⟩
        · have h : (s 7 || 7 == 0) = true := h
          rw [h7] at h
          exact absurd h (by decide)
        · have h : (s 6 || 6 == 0) = true := h
          show (s 5 || 5 == 0) = true
          simp at h ⊢
          exact m6 h
        · have h : (s 5 || 5 == 0) = true := h
          show (s 2 || 2 == 0) = true
          simp at h ⊢
          exact m5 h
        · show PlRg W x0 w gb j text t AR cR bs Ap (if (s 7 || 7 == 0) = true then 4 else if (s 6 || 6 == 0) = true then 3 else if (s 5 || 5 == 0) = true then 2 else if (s 2 || 2 == 0) = true then 1 else 0) ((((x1, x2), x3), (x4, x5)), x6)
          simp only [Nat.reduceBEq, Bool.or_false]
          exact hR
        · have hj : i < 8 := hi
          rcases (show i = 0 ∨ i = 1 ∨ i = 2 ∨ i = 3 ∨ i = 4 ∨ i = 5 ∨ i = 6 ∨ i = 7 by omega) with rfl | rfl | rfl | rfl | rfl | rfl | rfl | rfl <;> first | rfl | exact absurd rfl hne | exact absurd hc (by decide)
      case refine_3 =>
        intro h2 hd
        have h5 : s 5 = false := by
          cases h : s 5
          · rfl
          · exact absurd (m5 h) (by rw [h2]; decide)
        have h6 : s 6 = false := by
          cases h : s 6
          · rfl
          · exact absurd (m6 h) (by rw [h5]; decide)
        have h7 : s 7 = false := by
          cases h : s 7
          · rfl
          · exact absurd (m7 h).2 (by rw [h6]; decide)
        rw [h7, if_neg (by decide), h6, if_neg (by decide), h5, if_neg (by decide), h2, if_neg (by decide)] at hR
        have hw6 : x6 = w.drew := hR
        have hb : Below w.heap.size w x6 := by rw [hw6]; exact (Below.refl _ _).drew
        refine .inr (.inr ⟨31, #[.slice Ap t.length t.length], x6, by simp [go_sem, Act.eval], ?_⟩)
        refine (lits11_any Ap t.length t x6 (Rd.more (HRT.out x6 (B6.out.trans (hb.mono B6.out.size))) (by have := hb.size; omega)) (by omega) HTb.out).mono ?_
        rintro e w5 ⟨A5, c5, rfl, o5, b5⟩
        refine ⟨_, rfl, ((((A5, c5), x3), (x4, x5)), w5), ⟨(show ((s 7 || 7 == 2) = true → (s 0 || 0 == 2) = true ∧ (s 6 || 6 == 2) = true) ∧ ((s 6 || 6 == 2) = true → (s 5 || 5 == 2) = true) ∧ ((s 5 || 5 == 2) = true → (s 2 || 2 == 2) = true) by simp [h2, h5, h6, h7]), (show PlRg W x0 w gb j text t AR cR bs Ap (if (s 7 || 7 == 2) = true then 4 else if (s 6 || 6 == 2) = true then 3 else if (s 5 || 5 == 2) = true then 2 else if (s 2 || 2 == 2) = true then 1 else 0) ((((A5, c5), x3), (x4, x5)), w5) by simp only [h2, h5, h6, h7, Nat.reduceBEq, Bool.or_false, Bool.or_true, Bool.false_eq_true, if_true, if_false]; exact ⟨hb.trans (b5.mono hb.size), own_base o5 hb.size⟩)⟩, rfl, rfl, fun i hi hc hne => ?_⟩
        have hj : i < 8 := hi
        rcases (show i = 0 ∨ i = 1 ∨ i = 2 ∨ i = 3 ∨ i = 4 ∨ i = 5 ∨ i = 6 ∨ i = 7 by omega) with rfl | rfl | rfl | rfl | rfl | rfl | rfl | rfl <;> first | rfl | exact absurd rfl hne | exact absurd hc (by decide)
      case refine_6 =>
        intro h5 hd
        have h2 := hd 2 (by decide)
        have h6 : s 6 = false := by
          cases h : s 6
          · rfl
          · exact absurd (m6 h) (by rw [h5]; decide)
        have h7 : s 7 = false := by
          cases h : s 7
          · rfl
          · exact absurd (m7 h).2 (by rw [h6]; decide)
        rw [h7, if_neg (by decide), h6, if_neg (by decide), h5, if_neg (by decide), h2, if_pos rfl] at hR
        obtain ⟨hb, ho⟩ := hR
        have hb : Below w.heap.size w x6 := hb
        have ho : x6.ownsRow w.heap.size 54 2 (.slice x1 t.length x2) t.length ((litsN t).flatMap encTok) := ho
        refine .inl ⟨.slice (some ⟨x6.heap.size, 0, none⟩) 1 1, x6.alloc (.cells #[.int .i64 0, .slice x1 t.length x2, .slice Ap t.length t.length] 48), by simp [execOp, go_sem, Act.eval], ((((x1, x2), x6.heap.size), (x4, x5)), x6.alloc (.cells #[.int .i64 0, .slice x1 t.length x2, .slice Ap t.length t.length] 48)), ⟨(show ((s 7 || 7 == 5) = true → (s 0 || 0 == 5) = true ∧ (s 6 || 6 == 5) = true) ∧ ((s 6 || 6 == 5) = true → (s 5 || 5 == 5) = true) ∧ ((s 5 || 5 == 5) = true → (s 2 || 2 == 5) = true) by simp [h2, h5, h6, h7]), (show PlRg W x0 w gb j text t AR cR bs Ap (if (s 7 || 7 == 5) = true then 4 else if (s 6 || 6 == 5) = true then 3 else if (s 5 || 5 == 5) = true then 2 else if (s 2 || 2 == 5) = true then 1 else 0) ((((x1, x2), x6.heap.size), (x4, x5)), x6.alloc (.cells #[.int .i64 0, .slice x1 t.length x2, .slice Ap t.length t.length] 48)) by simp only [h2, h5, h6, h7, Nat.reduceBEq, Bool.or_false, Bool.or_true, Bool.false_eq_true, if_true, if_false]; exact ⟨⟨hb.alloc hb.size _, ho.alloc _⟩, hb.size, Blk.new _ _ _⟩)⟩, rfl, rfl, fun i hi hc hne => ?_⟩
        have hj : i < 8 := hi
        rcases (show i = 0 ∨ i = 1 ∨ i = 2 ∨ i = 3 ∨ i = 4 ∨ i = 5 ∨ i = 6 ∨ i = 7 by omega) with rfl | rfl | rfl | rfl | rfl | rfl | rfl | rfl <;> first | rfl | exact absurd rfl hne | exact absurd hc (by decide)
      case refine_7 =>
        intro h6 hd
        have h0 := hd 0 (by decide)
        have h2 := hd 2 (by decide)
        have h5 := hd 5 (by decide)
        have h7 : s 7 = false := by
          cases h : s 7
          · rfl
          · exact absurd (m7 h).2 (by rw [h6]; decide)
        rw [h7, if_neg (by decide), h6, if_neg (by decide), h5, if_pos rfl] at hR
        obtain ⟨⟨hb, ho⟩, h3s, h3b⟩ := hR
        have hb : Below w.heap.size w x6 := hb
        have ho : x6.ownsRow w.heap.size 54 2 (.slice x1 t.length x2) t.length ((litsN t).flatMap encTok) := ho
        have h3b : Blk x6 x3 48 #[.int .i64 0, .slice x1 t.length x2, .slice Ap t.length t.length] := h3b
        have hsz := hb.size
        have hR3 := own_below O3.out hb (Nat.le_refl _)
        refine turn_app _ _ _ rfl x0.heap.size 48 i0 (.agg #[.int .i64 0, .slice none 0 0, .slice none 0 0]) 3 56 Tryz.underlying44 Hi0.out Hz0.out Hz1.out Hz2.out rfl (by omega) AR j cR _ rfl hR3 _ (some ⟨x3, 0, none⟩) 1 1 [.int .i64 0, .slice x1 t.length x2, .slice Ap t.length t.length] rfl (rd_one _ _ _ _ h3b) (by simp) (by intro u hu; simp at hu; rcases hu with rfl | rfl | rfl <;> rfl) (by simp only [maxLen]; omega) (by omega) (Nat.le_trans g7 hsz) ?_
        intro A6 c6 w6 ha
        have hX2 : ∀ k ∈ gb :: ob A6, k ∈ gb :: ob AR ∨ x6.heap.size ≤ k := by
          intro k hk
          rcases List.mem_cons.1 hk with e | e
          · exact .inl (List.mem_cons.2 (.inl e))
          · cases A6 with
            | none => cases e
            | some a =>
              unfold ob at e
              rw [List.mem_singleton] at e
              rcases ha.2.2.2 with e2 | e2
              · have e2 : some a.block = Value.ownBlock (.slice AR j cR) := e2
                rw [← e] at e2
                exact .inl (List.mem_cons.2 (.inr (ob_own e2.symm)))
              · have e2 : some a.block = some x6.heap.size := e2
                injection e2 with e2
                rw [e, e2]
                exact .inr (Nat.le_refl _)
        have hnb : BvX x6 (gb :: ob AR) ⟨0, x1, x2, Ap, t.length, litsN t, t⟩ := by
          refine ⟨?_, RdX.of_rd (HRT.out x6 (B6.out.trans (hb.mono B6.out.size))) (fun r hr => (HX.out r hr).1), ?_, ?_, ?_, HTb.out⟩
          · refine RdX.of_own (c := x2) (by rw [lits_len]; exact ho) (fun r hr hm => ?_)
            have h1 := (HX.out r hm).2
            have hr2 : Value.ownBlock (.slice x1 t.length x2) = some r := by
              cases x1 with
              | none => cases hr
              | some a => exact hr
            have h2 := own_lt2 ho hr2
            omega
          · unfold blkGood
            rw [lits_fit HTb.out]
            simp only [Bool.true_and, Bool.and_eq_true, decide_eq_true_eq]
            exact ⟨by decide, fun _ => htl⟩
          · show (litsN t).length ≤ 1000000
            rw [lits_len]; omega
          · show t.length ≤ 1000000
            omega
        have hne : some gb ≠ Value.ownBlock (.slice AR j cR) := own_blk_ne O3.out K2.out (by decide)
        have hgx : gb < x6.heap.size := by omega
        have st : PlRg W x0 w gb j text t AR cR bs Ap 3 ((((x1, x2), x3), (A6, c6)), w6) :=
          ⟨(Ch2.of_below gb _ hb).then ha.2.1 (fun r hr => .inr (.inl hr.symm)), (K2.out.below hb hgw).grown ha.2.1 hne, ha.1, fun b hb2 => by
            rcases List.mem_append.1 hb2 with h | h
            · exact ((V4.out b h).below hb).app ha.2.1 (fun r hr => List.mem_cons.2 (.inr (ob_own hr))) hX2
            · rw [List.mem_singleton] at h
              subst h
              exact hnb.app ha.2.1 (fun r hr => List.mem_cons.2 (.inr (ob_own hr))) hX2⟩
        refine ⟨((((x1, x2), x3), (A6, c6)), w6), ⟨(show ((s 7 || 7 == 6) = true → (s 0 || 0 == 6) = true ∧ (s 6 || 6 == 6) = true) ∧ ((s 6 || 6 == 6) = true → (s 5 || 5 == 6) = true) ∧ ((s 5 || 5 == 6) = true → (s 2 || 2 == 6) = true) by simp [h0, h2, h5, h6, h7]), (show PlRg W x0 w gb j text t AR cR bs Ap (if (s 7 || 7 == 6) = true then 4 else if (s 6 || 6 == 6) = true then 3 else if (s 5 || 5 == 6) = true then 2 else if (s 2 || 2 == 6) = true then 1 else 0) ((((x1, x2), x3), (A6, c6)), w6) by simp only [h2, h5, h6, h7, Nat.reduceBEq, Bool.or_false, Bool.or_true, Bool.false_eq_true, if_true, if_false]; exact st)⟩, rfl, rfl, fun i hi hc hne => ?_⟩
        have hj : i < 8 := hi
        rcases (show i = 0 ∨ i = 1 ∨ i = 2 ∨ i = 3 ∨ i = 4 ∨ i = 5 ∨ i = 6 ∨ i = 7 by omega) with rfl | rfl | rfl | rfl | rfl | rfl | rfl | rfl <;> first | rfl | exact absurd rfl hne | exact absurd hc (by decide)
      case refine_8 =>
        intro h7 hd
        have h0 := hd 0 (by decide)
        have h2 := hd 2 (by decide)
        have h5 := hd 5 (by decide)
        have h6 := hd 6 (by decide)
        rw [h7, if_neg (by decide), h6, if_pos rfl] at hR
        obtain ⟨hch, hbk, hro, hbv⟩ := hR
        have hbk : Blk x6 gb 44 #[.slice AR j cR] := hbk
        have hro : x6.ownsRow x0.heap.size 48 3 (.slice x4 (j + 1) x5) (j + 1) (bs.flatMap encSBk ++ [.int .i64 0, .slice x1 t.length x2, .slice Ap t.length t.length]) := hro
        have y0 := (hbk.cell 0).trans rfl
        have fz := hbk.frozen 0
        have hne : Value.ownBlock (.slice x4 (j + 1) x5) ≠ some gb := fun e => own_blk_ne hro hbk (by decide) e.symm
        have hgg := setCell_gr x6 gb 0 (.slice x4 (j + 1) x5)
        have st : PlRg W x0 w gb j text t AR cR bs Ap 4 ((((x1, x2), x3), (x4, x5)), x6.setCell ⟨gb, 0, none⟩ (.slice x4 (j + 1) x5)) := by
          refine ⟨hch.then hgg (fun r hr => .inl (by injection hr with hr; exact hr.symm)), bs ++ [⟨0, x1, x2, Ap, t.length, litsN t, t⟩], x4, x5, ⟨by rw [List.length_append, L1.out]; rfl, hbk.set_ 0 _, ?_⟩, fun b hb => (hbv b hb).app hgg (fun r hr => by injection hr with hr; rw [← hr]; exact List.mem_cons_self) (fun k hk => .inl hk), ?_, ?_, ?_⟩
          · rw [List.flatMap_append, List.flatMap_cons, List.flatMap_nil, List.append_nil]
            have : encSBk ⟨0, x1, x2, Ap, t.length, litsN t, t⟩ = [.int .i64 0, .slice x1 t.length x2, .slice Ap t.length t.length] := by unfold encSBk; rw [lits_len]
            rw [this]
            exact hro.kept hgg (.inr hne)
          · rw [List.map_append, Q5.out, List.range_succ, List.map_append, List.map_cons, List.map_nil, List.map_cons, List.map_nil, HT.out]
            rfl
          · have h1 := hch.below (C := W.heap.size) (by have := HGB.out; omega) (fun r hr => by have := (H3.out r hr).2; omega) B6.out.size
            exact (B6.out.trans h1).setCell (p := ⟨gb, 0, none⟩) (by show W.heap.size ≤ gb; have := HGB.out; omega) _
          · show x0.heap.size ≤ (x6.setCell ⟨gb, 0, none⟩ (.slice x4 (j + 1) x5)).heap.size
            rw [World.size_setCell]
            exact Nat.le_trans g7 hch.size
        refine .inr (.inl ⟨x6.setCell ⟨gb, 0, none⟩ (.slice x4 (j + 1) x5), by simp [execOp, go_sem, Act.eval, y0, fz], rfl, ((((x1, x2), x3), (x4, x5)), x6.setCell ⟨gb, 0, none⟩ (.slice x4 (j + 1) x5)), ⟨(show ((s 7 || 7 == 7) = true → (s 0 || 0 == 7) = true ∧ (s 6 || 6 == 7) = true) ∧ ((s 6 || 6 == 7) = true → (s 5 || 5 == 7) = true) ∧ ((s 5 || 5 == 7) = true → (s 2 || 2 == 7) = true) by simp [h0, h2, h5, h6, h7]), (show PlRg W x0 w gb j text t AR cR bs Ap (if (s 7 || 7 == 7) = true then 4 else if (s 6 || 6 == 7) = true then 3 else if (s 5 || 5 == 7) = true then 2 else if (s 2 || 2 == 7) = true then 1 else 0) ((((x1, x2), x3), (x4, x5)), x6.setCell ⟨gb, 0, none⟩ (.slice x4 (j + 1) x5)) by simp only [h2, h5, h6, h7, Nat.reduceBEq, Bool.or_false, Bool.or_true, if_true]; exact st)⟩, rfl, rfl, fun i hi hc hne => rfl⟩)
      all_goals exact fun _ _ => .inl (by simp [execOp, go_sem, Act.eval])
    case hQ =>
      rintro ⟨⟨⟨⟨x1, x2⟩, x3⟩, ⟨x4, x5⟩⟩, x6⟩ hR
      obtain ⟨_, hch, hpl⟩ := hR
      have hch : Ch2 gb (Value.ownBlock (.slice AR j cR)) w x6 := hch
      have hpl : PlS W x0 x6 gb (j + 1) text := hpl
      refine ⟨hch.keeps (fun o ho => ?_) (fun r o hr ho => ?_), fun k h1 h2 => hch.same k (by have := HS.out; omega) (by omega) (fun e => by have := (H3.out k e.symm).2; have := HS.out; omega), hpl⟩
      · have h2 : w.heap[gb]? = some (.cells #[.slice AR j cR] 44 (0, 0)) := K2.out
        rw [h2] at ho
        injection ho with ho
        rw [← ho]; rfl
      · rcases O3.out.2 with ⟨e1, _⟩ | ⟨g, cap, cur, e1, _, e2, _⟩
        · rw [e1] at hr; cases hr
        · rw [e1] at hr
          have hr : some g = some r := hr
          injection hr with hr
          subst hr
          rw [e2] at ho
          injection ho with ho
          rw [← ho]; rfl
  case done =>
    rintro D w hD e1 hK
    have e1 : PlS W x0 w gb (plN text) text := e1
    obtain ⟨bs, AR, cR, ⟨g1, g2, g3⟩, g4, g5, g6, g7⟩ := e1
    have K2 := hid g2
    have B6 := hid g6
    have HD := hid hK
    have hgl := g2.lt
    have hDl : D < w.heap.size := (Array.getElem?_eq_some_iff.1 hK).1
    have y0 := (g2.cell 0).trans rfl
    have hWw := g6.size
    have hgW := HGB.out
    by_cases hz : text.length = 0
    · have hN : plN text = 0 := by unfold plN; omega
      rw [hN] at g1 g2 y0
      have hq : plQ text = [⟨0, none, 0, none, 0, [], []⟩].map SBk.q := by unfold plQ; rw [if_pos hz]; rfl
      have mk1 : ∀ w : World, (Instr.makeSlice 44 (.int .i64 1) (.int .i64 1)).run Tryz.prog w = .ok (.slice (some ⟨w.heap.size, 0, none⟩) 1 1) (w.alloc (.cells #[.int .i64 0, .slice none 0 0, .slice none 0 0] 48)) := by
        intro w
        have h := run_make (P := Tryz.prog) w 44 48 i0 (.agg #[.int .i64 0, .slice none 0 0, .slice none 0 0]) Tryz.underlying44 Hi0.out Hz0.out .i64 .i64 1 1 (by omega) (by omega) (by rw [Hz2.out]; omega) (by omega)
        rw [Hz1.out, show (1 : Int).toNat * 3 = 3 from rfl, made_blk] at h
        exact h
      have y1 := g2.frozen 0
      have hsc : (w.setCell ⟨gb, 0, none⟩ (.slice (some ⟨w.heap.size, 0, none⟩) 1 1)).heap.size = w.heap.size := World.size_setCell ..
      have hal := (Below.refl w.heap.size (w.setCell ⟨gb, 0, none⟩ (.slice (some ⟨w.heap.size, 0, none⟩) 1 1))).alloc (Nat.le_of_eq hsc.symm) (.cells #[.int .i64 0, .slice none 0 0, .slice none 0 0] 48)
      have KB := hid (show Blk ((w.setCell ⟨gb, 0, none⟩ (.slice (some ⟨w.heap.size, 0, none⟩) 1 1)).alloc (.cells #[.int .i64 0, .slice none 0 0, .slice none 0 0] 48)) w.heap.size 48 #[.int .i64 0, .slice none 0 0, .slice none 0 0] by
        have h := Blk.new (w.setCell ⟨gb, 0, none⟩ (.slice (some ⟨w.heap.size, 0, none⟩) 1 1)) 48 #[.int .i64 0, .slice none 0 0, .slice none 0 0]
        rw [hsc] at h
        exact h)
      have G2 := hid ((g2.set_ 0 (.slice (some ⟨w.heap.size, 0, none⟩) 1 1)).alloc (.cells #[.int .i64 0, .slice none 0 0, .slice none 0 0] 48))
      have B7 := hid ((B6.out.setCell (p := ⟨gb, 0, none⟩) (by show W.heap.size ≤ gb; omega) (.slice (some ⟨w.heap.size, 0, none⟩) 1 1)).trans (hal.mono hWw))
      have D7 := hid (show ((w.setCell ⟨gb, 0, none⟩ (.slice (some ⟨w.heap.size, 0, none⟩) 1 1)).alloc (.cells #[.int .i64 0, .slice none 0 0, .slice none 0 0] 48)).heap[D]? = some (.deferred (some [])) from
        (hal.block D hDl).trans ((Below.heap_setCell _ _ _ D (by show D ≠ gb; have := HS.out; omega)).trans HD.out))
      have hsz7 : ((w.setCell ⟨gb, 0, none⟩ (.slice (some ⟨w.heap.size, 0, none⟩) 1 1)).alloc (.cells #[.int .i64 0, .slice none 0 0, .slice none 0 0] 48)).heap.size = w.heap.size + 1 := by rw [World.size_alloc, hsc]
      have y0' := y0
      clear g1 g2 g3 g4 g5 g6 g7 hK hgW hal hz hN
      go_upto_region 10 with (fail)
      clear hsc
      generalize ((w.setCell ⟨gb, 0, none⟩ (.slice (some ⟨w.heap.size, 0, none⟩) 1 1)).alloc (.cells #[.int .i64 0, .slice none 0 0, .slice none 0 0] 48)) = w5 at *
      obtain ⟨kb, hkb⟩ : ∃ k, k = w.heap.size := ⟨_, rfl⟩
      rw [← hkb] at KB G2 ⊢
      have hDk : D < w5.heap.size := by omega
      have y5 : w5.cell? ⟨gb, 0, none⟩ = some (.slice (some ⟨kb, 0, none⟩) 1 1) := (G2.out.cell 0).trans rfl
      have lG := G2.out.lt
      have WR := hid (write11_any (some ⟨kb, 0, none⟩) 1 [⟨0, none, 0, none, 0, [], []⟩] w5 (rd_one _ _ 48 [.int .i64 0, .slice none 0 0, .slice none 0 0] KB.out) (fun b hb => by
        rw [List.mem_singleton] at hb
        subst hb
        exact ⟨Rd.nil, Rd.nil, by decide, by show 0 ≤ 1000000; omega, by show 0 ≤ 1000000; omega, fun x hx => by cases hx⟩) (by show 1 ≤ 100000; omega) (by
        have := wrAll_bd ([⟨0, none, 0, none, 0, [], []⟩].map SBk.q) 0 (fun b hb => by
          rw [List.map_cons, List.map_nil, List.mem_singleton] at hb
          subst hb
          exact ⟨rfl, by show 0 ≤ 65535; omega, fun t ht => by cases ht⟩)
        have e : ([⟨0, none, 0, none, 0, [], []⟩].map SBk.q).length = 1 := rfl
        rw [e] at this
        omega))
      rw [← hq] at WR
      clear hq y0 y0' y1 mk1 hkb HD
      go_wp2_with fail
      refine WR.out.mono ?_
      rintro e w6 ⟨A6, c6, rfl, o6, b6⟩
      have O6 := hid o6
      have D6 := hid ((b6.block D hDk).trans D7.out)
      have hb6 := b6.size
      have B8 := hid (B7.out.trans (b6.mono B7.out.size))
      clear o6 b6
      go_wp2_with fail
      refine ⟨by simp, .inl ⟨_, _, rfl, run_takeDeferred D6.out, ?_⟩⟩
      have fo := own_putQ O6.out D6.out (.deferred none)
      have fb := below_othQ B8.out (grownBy_putObj' w6 D (.deferred none)) B8.out.size (fun r e => by cases e; have := HS.out; have := HGB.out; omega)
      have hW5 := B7.out.size
      generalize hwf : World.putObj _ D _ = wf at *
      refine ⟨.tuple #[.slice A6 (pkS false (fillS false (wrAll 0 (plQ text)))).length c6, .nilIface], ?_, A6, c6, rfl, own_base fo (by omega), fb⟩
      simp [results, Tryz.results9, go_sem]
    · have hN : 0 < plN text := by unfold plN; omega
      have hN2 : plN text ≤ 17 := by unfold plN; omega
      have hq : plQ text = bs.map SBk.q := by unfold plQ; rw [if_neg hz, g5]
      have hne0 : ((plN text : Int) == 0) = false := by rw [beq_eq_false_iff_ne]; omega
      have WR := hid (write11_any AR cR bs w (by rw [g1]; exact own_rd g3) (fun b hb => (g4 b hb).ok) (by omega) (by
        rw [g5]
        have := wrAll_bd ((List.range (plN text)).map (plC text)) 0 (fun b hb => by
          obtain ⟨i, _, rfl⟩ := List.mem_map.1 hb
          exact ⟨rfl, by show (plT text i).length ≤ 65535; rw [plT_len]; omega, fit_good (lits_fit (plT_isB HB.out i))⟩)
        rw [List.length_map, List.length_range] at this
        omega))
      rw [g1] at WR
      rw [← hq] at WR
      generalize plN text = N at *
      clear g1 g2 g3 g4 g5 g6 g7 hq hK hz hgW
      go_wp2_with fail
      refine WR.out.mono ?_
      rintro e w6 ⟨A6, c6, rfl, o6, b6⟩
      have O6 := hid o6
      have D6 := hid ((b6.block D hDl).trans HD.out)
      have hb6 := b6.size
      have B7 := hid (B6.out.trans (b6.mono B6.out.size))
      clear o6 b6
      go_wp2_with fail
      refine ⟨by simp, .inl ⟨_, _, rfl, run_takeDeferred D6.out, ?_⟩⟩
      have fo := own_putQ O6.out D6.out (.deferred none)
      have fb := below_othQ B7.out (grownBy_putObj' w6 D (.deferred none)) B7.out.size (fun r e => by cases e; have := HS.out; have := HGB.out; omega)
      generalize hwf : World.putObj _ D _ = wf at *
      refine ⟨.tuple #[.slice A6 (pkS false (fillS false (wrAll 0 (plQ text)))).length c6, .nilIface], ?_, A6, c6, rfl, own_base fo (by omega), fb⟩
      simp [results, Tryz.results9, go_sem]
  case stop => exact fun _ _ _ h _ => h.elim
end Go.Proofs.YtoppjcmkhhkbmaaGreat

namespace Go.Proofs.YtoppjcmkhhkbmaaGreat
open Go.ChangeShapes Go.WideShapes Go.ChangeAt Go.RowKit Go.Proofs.YtoppjcmkhhkbmaaGreat

/-- a chunk's head -/
def hdB (last : Int) (n : Nat) : List Int := [last, (n : Int) % 256, (n : Int) / 256, 255 - (n : Int) % 256, 255 - (n : Int) / 256]
/-- a text from a place on, plainly packed -/
def rpF (text : List Int) : Nat → Nat → List Int
  | 0, _ => []
  | f + 1, at' => if text.length - at' ≤ 65535 then hdB 1 (text.length - at') ++ (text.drop at').take (text.length - at') else hdB 0 65535 ++ (text.drop at').take 65535 ++ rpF text f (at' + 65535)
def rpA (text : List Int) (at' : Nat) : List Int := rpF text (text.length - at' + 1) at'
theorem rpF_fuel (text : List Int) : ∀ f g p, text.length < p + f → text.length < p + g → rpF text f p = rpF text g p ∨ text.length < p
  | 0, _, p, h, _ => .inr (by omega)
  | _ + 1, 0, p, _, h => .inr (by omega)
  | f + 1, g + 1, p, h1, h2 => by
    rw [rpF, rpF]
    by_cases h : text.length - p ≤ 65535
    · rw [if_pos h, if_pos h]; exact .inl rfl
    · rw [if_neg h, if_neg h]
      rcases rpF_fuel text f g (p + 65535) (by omega) (by omega) with e | e
      · rw [e]; exact .inl rfl
      · omega
theorem rpA_last {text : List Int} {p : Nat} (h : text.length - p ≤ 65535) : rpA text p = hdB 1 (text.length - p) ++ (text.drop p).take (text.length - p) := by
  unfold rpA
  rw [rpF, if_pos h]
theorem rpA_more {text : List Int} {p : Nat} (h : 65535 < text.length - p) : rpA text p = hdB 0 65535 ++ (text.drop p).take 65535 ++ rpA text (p + 65535) := by
  unfold rpA
  rw [rpF, if_neg (by omega)]
  rcases rpF_fuel text (text.length - p) (text.length - (p + 65535) + 1) (p + 65535) (by omega) (by omega) with e | e
  · rw [e]
  · omega
theorem rd_all {w : World} {g : Nat} {t : TypeId} {cs : List Value} (h : Blk w g t cs.toArray) : Rd w w.heap.size 1 (some ⟨g, 0, none⟩) cs.length cs :=
  ⟨by simp, fun _ => ⟨g, 0, rfl, h.lt, fun j u hu => by rw [h.cell (0 + j), Nat.zero_add, List.getElem?_toArray]; exact hu⟩⟩
set_option maxRecDepth 100000 in
set_option maxHeartbeats 8000000 in
theorem rplain_any (A : Option Addr) (c : Nat) (text : List Int) (W : World) (h : Rd W W.heap.size 1 A text.length (bytesV text)) (hc : text.length ≤ c) (hA : A = none → c = 0) (hm : text.length ≤ 1048576) :
    Calls Tryz.prog 12 #[.slice A text.length c] W fun e w' => ∃ A' c', e = .returned (.slice A' (rpA text 0).length c') ∧ w'.ownsRow W.heap.size 5 1 (.slice A' (rpA text 0).length c') (rpA text 0).length (bytesV (rpA text 0)) ∧ Below W.heap.size W w' := by
  obtain ⟨i0, hi0, hz0, hz1, hz2⟩ := info_parts u8_info
  have Hi0 := hid hi0
  have Hz0 := hid hz0
  have Hz1 := hid hz1
  have Hz2 := hid hz2
  have H := hid h
  have HA := hid hA
  clear hi0 hz0 hz1 hz2 h hA
  go_enter Tryz.func12, Tryz.ntmps12
  go_wp2_with fail
  go_loopw [3, 4] (fun o i wr => ∃ (p n : Nat) (done : List Int) (A' : Option Addr) (c' : Nat), p ≤ text.length ∧ i = .int .i64 (p : Int) ∧ o = .slice A' n c' ∧ n = done.length ∧ n ≤ p + 5 * (p / 65535) ∧ Hid (rpA text 0 = done ++ rpA text p) ∧ Hid (wr.ownsRow W.heap.size 5 1 (.slice A' n c') n (bytesV done)) ∧ Hid (Below W.heap.size W wr)) (fun _ i _ => text.length + 1 - (intOf i).toNat)
  case atStart => exact ⟨0, 0, [], none, 0, by omega, rfl, rfl, rfl, by omega, hid rfl, hid (World.ownsRow_nil _ _ _ _), hid (Below.refl _ _)⟩
  case round =>
    obtain ⟨p, n, done, A', c', hp, rfl, rfl, hn, hnp, HG, HO, HBl⟩ := hrel
    have Hn := hid hn
    clear hn
    have hWs := HBl.out.size
    by_cases hlt : 65535 < text.length - p
    · have d1 : decide ((65535 : Int) < (text.length : Int) - (p : Int)) = true := decide_eq_true (by omega)
      obtain ⟨A3, hs3, r3, _⟩ := slcB_lh text (p : Int) ((p : Int) + 65535) p (p + 65535) 65535 rfl (by omega) rfl (by omega) hc HA.out (H.out.below HBl.out (Nat.le_refl _))
      have hal := (Below.refl wr.heap.size wr).alloc (Nat.le_refl _) (.cells #[.int .u8 0, .int .u8 255, .int .u8 255, .int .u8 0, .int .u8 0] 5)
      have Hal := hid hal
      clear hal
      go_upto_region 9 with (at_builtin; go_loud (refine wpList_app _ rfl _ _ _ rfl W.heap.size 5 i0 (.int .u8 0) 1 1 Tryz.underlying22 Hi0.out Hz0.out Hz1.out Hz2.out rfl (by omega) _ n c' _ rfl (HO.out.alloc _) _ _ 5 5 [.int .u8 0, .int .u8 255, .int .u8 255, .int .u8 0, .int .u8 0] rfl (rd_all (Blk.new _ _ _)) (by simp) (by intro u hu; simp at hu; rcases hu with rfl | rfl | rfl | rfl | rfl <;> rfl) (by simp only [maxLen]; omega) (by omega) (by simp; omega) ?_); rintro A4 c4 w4 ⟨hown4, hgr4, hb4, _⟩)
      have O4 := hid hown4
      have B4 := hid ((Hal.out.mono hWs).trans hb4)
      have hW4 := B4.out.size
      clear hown4 hgr4 hb4 Hal HO
      have RA4 := hid (Rd.below r3 B4.out (Nat.le_refl _))
      clear r3
      go_upto_region 10 with (at_builtin; go_loud (refine wpList_app _ rfl _ _ _ rfl W.heap.size 5 i0 (.int .u8 0) 1 1 Tryz.underlying22 Hi0.out Hz0.out Hz1.out Hz2.out rfl (by omega) _ (n + 5) c4 _ rfl O4.out _ A3 65535 (c - p) (bytesV ((text.drop p).take 65535)) rfl RA4.out (fun e => rd_nil RA4.out (by omega) e) bytesV_cells (by simp only [maxLen]; omega) (by omega) (by omega) ?_); rintro A5 c5 w5 ⟨hown5, hgr5, hb5, _⟩)
      have O5 := hid (show w5.ownsRow W.heap.size 5 1 (.slice A5 (n + 5 + 65535) c5) (n + 5 + 65535) (bytesV (done ++ (hdB 0 65535 ++ (text.drop p).take 65535))) by
        have e : bytesV (done ++ (hdB 0 65535 ++ (text.drop p).take 65535)) = bytesV done ++ [.int .u8 0, .int .u8 255, .int .u8 255, .int .u8 0, .int .u8 0] ++ bytesV ((text.drop p).take 65535) := by
          rw [← bytesV_append, ← bytesV_append, List.append_assoc]
          rfl
        rw [e]
        exact hown5)
      have B5 := hid (HBl.out.trans (B4.out.trans hb5))
      clear hown5 hgr5 hb5 O4 B4 RA4 hs3
      have HG2 := hid (show rpA text 0 = (done ++ (hdB 0 65535 ++ (text.drop p).take 65535)) ++ rpA text (p + 65535) by rw [HG.out, rpA_more hlt]; simp only [List.append_assoc])
      have htk : ((text.drop p).take 65535).length = 65535 := by rw [List.length_take, List.length_drop]; omega
      have hln := hid (show n + 5 + 65535 = (done ++ (hdB 0 65535 ++ (text.drop p).take 65535)).length by rw [List.length_append, List.length_append, htk, ← Hn.out]; unfold hdB; simp)
      clear HG htk
      go_wp2
      go_roundw
      case rel => exact ⟨p + 65535, n + 5 + 65535, _, A5, c5, by omega, by go_num, rfl, hln.out, by omega, HG2, O5, B5⟩
      case measure => simp [intOf]; omega
    · skip
      have d1 : decide ((65535 : Int) < (text.length : Int) - (p : Int)) = false := decide_eq_false (by omega)
      obtain ⟨m, hmm⟩ : ∃ m, m = text.length - p := ⟨_, rfl⟩
      have hmi : (text.length : Int) - (p : Int) = (m : Int) := by omega
      have hm6 : m ≤ 65535 := by omega
      have hpm : p + m = text.length := by omega
      have Hmm := hid hmm
      clear hmm
      obtain ⟨A3, hs3, r3, _⟩ := slcB_lh text (p : Int) ((p : Int) + (m : Int)) p (p + m) m rfl (by omega) rfl (Nat.le_of_eq hpm) hc HA.out (H.out.below HBl.out (Nat.le_refl _))
      rw [hmi] at d1
      clear hpm
      have hk : 0 ≤ (m : Int) % 256 ∧ (m : Int) % 256 ≤ 255 ∧ 0 ≤ (m : Int) / 256 ∧ (m : Int) / 256 ≤ 255 := by omega
      have hal := (Below.refl wr.heap.size wr).alloc (Nat.le_refl _) (.cells #[.int .u8 1, .int .u8 ((m : Int) % 256), .int .u8 ((m : Int) / 256), .int .u8 (255 - (m : Int) % 256), .int .u8 (255 - (m : Int) / 256)] 5)
      have Hal := hid hal
      clear hal
      go_upto_region 9 with (at_builtin; go_loud (refine wpList_app _ rfl _ _ _ rfl W.heap.size 5 i0 (.int .u8 0) 1 1 Tryz.underlying22 Hi0.out Hz0.out Hz1.out Hz2.out rfl (by omega) _ n c' _ rfl (HO.out.alloc _) _ _ 5 5 [.int .u8 1, .int .u8 ((m : Int) % 256), .int .u8 ((m : Int) / 256), .int .u8 (255 - (m : Int) % 256), .int .u8 (255 - (m : Int) / 256)] rfl (rd_all (Blk.new _ _ _)) (by simp) (by intro u hu; simp at hu; rcases hu with rfl | rfl | rfl | rfl | rfl <;> rfl) (by simp only [maxLen]; omega) (by omega) (by simp; omega) ?_); rintro A4 c4 w4 ⟨hown4, hgr4, hb4, _⟩)
      have O4 := hid hown4
      have B4 := hid ((Hal.out.mono hWs).trans hb4)
      have hW4 := B4.out.size
      clear hown4 hgr4 hb4 Hal HO
      have RA4 := hid (Rd.below r3 B4.out (Nat.le_refl _))
      clear r3
      go_upto_region 10 with (at_builtin; go_loud (refine wpList_app _ rfl _ _ _ rfl W.heap.size 5 i0 (.int .u8 0) 1 1 Tryz.underlying22 Hi0.out Hz0.out Hz1.out Hz2.out rfl (by omega) _ (n + 5) c4 _ rfl O4.out _ A3 m (c - p) (bytesV ((text.drop p).take m)) rfl RA4.out (fun e => rd_nil RA4.out (by omega) e) bytesV_cells (by simp only [maxLen]; omega) (by omega) (by omega) ?_); rintro A5 c5 w5 ⟨hown5, hgr5, hb5, _⟩)
      have O5 := hid (show w5.ownsRow W.heap.size 5 1 (.slice A5 (n + 5 + m) c5) (n + 5 + m) (bytesV (done ++ (hdB 1 m ++ (text.drop p).take m))) by
        have e : bytesV (done ++ (hdB 1 m ++ (text.drop p).take m)) = bytesV done ++ [.int .u8 1, .int .u8 ((m : Int) % 256), .int .u8 ((m : Int) / 256), .int .u8 (255 - (m : Int) % 256), .int .u8 (255 - (m : Int) / 256)] ++ bytesV ((text.drop p).take m) := by
          rw [← bytesV_append, ← bytesV_append, List.append_assoc]
          rfl
        rw [e]
        exact hown5)
      have B5 := hid (HBl.out.trans (B4.out.trans hb5))
      clear hown5 hgr5 hb5 O4 B4 RA4 hs3
      have hG2 := HG.out.trans (by rw [rpA_last (p := p) (by have := Hmm.out; omega), ← Hmm.out] : _ = done ++ (hdB 1 m ++ (text.drop p).take m))
      have htk : ((text.drop p).take m).length = m := by have := Hmm.out; rw [List.length_take, List.length_drop]; omega
      have hln : n + 5 + m = (rpA text 0).length := by rw [hG2, List.length_append, List.length_append, htk, ← Hn.out]; unfold hdB; simp; omega
      have HLN := hid hln
      have HG2 := hid hG2
      clear HG htk hln hG2 hk
      go_wp2
      go_ret
      refine ⟨A5, c5, by show Ending.returned (.slice A5 (n + 5 + m) c5) = _; rw [HLN.out], ?_, B5.out⟩
      rw [← HLN.out, HG2.out]
      exact O5.out
end Go.Proofs.YtoppjcmkhhkbmaaGreat
