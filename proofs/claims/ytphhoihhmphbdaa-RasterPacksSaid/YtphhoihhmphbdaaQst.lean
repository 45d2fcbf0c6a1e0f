/-
  A region of a round that draws its order, reads and calls in any order, and ends in one store: one walk of the order of the text serves every order.
-/
import Derived.Lib.QuietBelow
import Derived.OrdersIn
import Derived.RangeFuncCalls
import Derived.TacticsIn
namespace Go.Proofs.Ytphhoihhmphbdaa

/-- the last operation, made idle -/
def idle (o : Oper) : Oper := { o with op := .assign (.const (.bool false)) }
section
variable {P : Program} {md : Region.Mode} {C : World → Prop}
theorem idle_at {l : List Oper} {o : Oper} (j : Nat) : (j < l.length ∧ (l ++ [idle o]).toArray[j]? = l[j]? ∧ (l ++ [o]).toArray[j]? = l[j]?) ∨ (j = l.length ∧ (l ++ [idle o]).toArray[j]? = some (idle o) ∧ (l ++ [o]).toArray[j]? = some o) ∨ (l.length < j ∧ (l ++ [idle o]).toArray[j]? = none ∧ (l ++ [o]).toArray[j]? = none) := by
  simp only [List.getElem?_toArray]
  rcases Nat.lt_trichotomy j l.length with h | h | h
  · exact .inl ⟨h, List.getElem?_append_left h, List.getElem?_append_left h⟩
  · subst h
    exact .inr (.inl ⟨rfl, by simp, by simp⟩)
  · exact .inr (.inr ⟨h, List.getElem?_eq_none (by simp; omega), List.getElem?_eq_none (by simp; omega)⟩)
theorem ready_idle (l : List Oper) (o : Oper) (listed : Array Bool) : Region.ready md (l ++ [idle o]).toArray listed = Region.ready md (l ++ [o]).toArray listed := by
  unfold Region.ready
  simp only [List.size_toArray, List.length_append, List.length_singleton]
  refine List.filter_congr fun j _ => ?_
  rcases idle_at (l := l) (o := o) j with ⟨_, h1, h2⟩ | ⟨_, h1, h2⟩ | ⟨_, h1, h2⟩ <;> rw [h1, h2] <;> rfl
theorem yielded_idle (l : List Oper) (o : Oper) (tmps : Array Value) : yielded (l ++ [idle o]).toArray tmps = yielded (l ++ [o]).toArray tmps := by
  funext j
  unfold yielded
  rcases idle_at (l := l) (o := o) j with ⟨_, h1, h2⟩ | ⟨_, h1, h2⟩ | ⟨_, h1, h2⟩ <;> rw [h1, h2] <;> rfl
theorem wpQuiet_same {A B : Array Oper} (hy : ∀ t, yielded A t = yielded B t) (Q : Act → Prop) : ∀ l : List Oper, wpQuiet P A C Q l = wpQuiet P B C Q l
  | [] => rfl
  | o :: l => by
    funext a
    simp only [wpQuiet, hy, wpQuiet_same hy Q l]
theorem wpQuiet_app {A : Array Oper} {Q Q2 : Act → Prop} {l2 : List Oper} (h2 : ∀ a, Q a → wpQuiet P A C Q2 l2 a) : ∀ (l : List Oper) (a : Act), wpQuiet P A C Q l a → wpQuiet P A C Q2 (l ++ l2) a
  | [], a, h => h2 a h
  | o :: l, a, h => by
    simp only [wpQuiet, List.cons_append] at h ⊢
    split
    · rename_i hw
      rw [if_pos hw] at h
      exact Oper.quiet_mono (wpQuiet_app h2 l) h
    · rename_i hw
      rw [if_neg hw] at h
      exact wpQuiet_app h2 l _ h
theorem wanted_none {o : Oper} (hg : o.guard = none) (f : Nat → Option Bool) : Region.wanted o f = true := by
  unfold Region.wanted
  rw [hg]
theorem wpQuiet_idle {A : Array Oper} {Q : Act → Prop} {o : Oper} (hd : o.dst = none) (hg : o.guard = none) (a : Act) (h : Q a) : wpQuiet P A C Q [idle o] a := by
  have hp : a.put (idle o).dst (.bool false) = a := by show a.put o.dst _ = a; rw [hd]; rfl
  simp only [wpQuiet]
  rw [if_pos (wanted_none (o := idle o) hg _)]
  refine ⟨.bool false, fun w _ => ⟨rfl, rfl⟩, ?_⟩
  rw [hp]
  exact h
/-- what is asked of the region's text -/
def okB (l : List Oper) (o : Oper) : Bool :=
  o.dst.isNone && o.guard.isNone &&
  (l.all fun x => match x.op with | .defer _ => false | _ => true) &&
  ((List.range (l.length + 1)).all fun i => (((l ++ [o])[i]?).map fun (x : Oper) => x.after.all fun e => decide (e.on < i)).getD true) &&
  ((List.range l.length).all fun j => (List.range (l.length + 1)).any fun k => decide (j < k) && (((l ++ [o])[k]?).map fun (x : Oper) => x.after.any fun e => Region.binds .any e && e.on == j).getD false)
structure OkP (l : List Oper) (o : Oper) : Prop where
  dst : o.dst = none
  guard : o.guard = none
  nodefer : ∀ x ∈ l, ∀ c, x.op ≠ .defer c
  low : ∀ (i : Nat) (x : Oper), (l ++ [o])[i]? = some x → ∀ e ∈ x.after, e.on < i
  up : ∀ j, j < l.length → ∃ (k : Nat) (x : Oper), j < k ∧ (l ++ [o])[k]? = some x ∧ ∃ e ∈ x.after, Region.binds .any e = true ∧ e.on = j
theorem okP {l : List Oper} {o : Oper} (h : okB l o = true) : OkP l o := by
  unfold okB at h
  simp only [Bool.and_eq_true, List.all_eq_true, List.mem_range] at h
  obtain ⟨⟨⟨⟨h1, h2⟩, h3⟩, h4⟩, h5⟩ := h
  refine ⟨Option.isNone_iff_eq_none.1 h1, Option.isNone_iff_eq_none.1 h2, fun x hx c hc => ?_, fun i x hx e he => ?_, fun j hj => ?_⟩
  · have := h3 x hx
    rw [hc] at this
    cases this
  · have hi : i < l.length + 1 := by
      have := (List.getElem?_eq_some_iff.1 hx).1
      simpa using this
    have := h4 i hi
    rw [hx] at this
    simp only [Option.map_some, Option.getD_some, Array.all_eq_true_iff_forall_mem, decide_eq_true_eq] at this
    exact this e he
  · have := h5 j hj
    rw [List.any_eq_true] at this
    obtain ⟨k, _, hk⟩ := this
    rw [Bool.and_eq_true] at hk
    obtain ⟨k1, k2⟩ := hk
    cases hx : (l ++ [o])[k]? with
    | none => rw [hx] at k2; cases k2
    | some x =>
      rw [hx] at k2
      simp only [Option.map_some, Option.getD_some, Array.any_eq_true'] at k2
      obtain ⟨e, he, hb⟩ := k2
      rw [Bool.and_eq_true] at hb
      exact ⟨k, x, of_decide_eq_true k1, hx, e, he, hb.1, by simpa using hb.2⟩
/-- what holds of the operations that have come up, ahead of the last -/
structure Lst (l : List Oper) (o : Oper) (listed : Array Bool) : Prop where
  size : listed.size = l.length + 1
  last : listed.getD l.length true = false
  down : ∀ (i : Nat) (x : Oper), (l ++ [o])[i]? = some x → listed.getD i false = true → ∀ e ∈ x.after, Region.binds .any e = true → listed.getD e.on false = true
theorem getD_lt {listed : Array Bool} {i : Nat} (h : i < listed.size) (a b : Bool) : listed.getD i a = listed.getD i b := by
  simp [h]
theorem Lst.some {l : List Oper} {o : Oper} {listed : Array Bool} (h : Lst l o listed) (ok : OkP l o) : Region.ready .any (l ++ [o]).toArray listed ≠ [] := by
  have hex : ∃ j, listed.getD j true = false := ⟨_, h.last⟩
  have hlo : ∀ n, (∃ j, j < n ∧ listed.getD j true = false) → ∃ j, listed.getD j true = false ∧ ∀ i, i < j → listed.getD i true = true := by
    intro n
    induction n with
    | zero => rintro ⟨j, hj, _⟩; omega
    | succ n ih =>
      rintro ⟨j, hj, hl⟩
      by_cases hs : ∃ i, i < n ∧ listed.getD i true = false
      · exact ih hs
      · refine ⟨j, hl, fun i hi => ?_⟩
        cases hb : listed.getD i true with
        | true => rfl
        | false => exact absurd ⟨i, by omega, hb⟩ hs
  obtain ⟨j, hj, hlow⟩ := hlo (l.length + 1) ⟨l.length, by omega, h.last⟩
  have hsz : j < listed.size := by
    rcases Nat.lt_or_ge j listed.size with h1 | h1
    · exact h1
    · simp [Array.getElem?_eq_none h1] at hj
  intro hr
  have hjl : j < (l ++ [o]).length := by have := h.size; simp; omega
  have hx : (l ++ [o])[j]? = Option.some (l ++ [o])[j] := List.getElem?_eq_getElem hjl
  have : j ∈ Region.ready .any (l ++ [o]).toArray listed := mem_ready.2 ⟨hj, _, by rw [List.getElem?_toArray]; exact hx, fun e he _ => by
    have h1 := ok.low j _ hx e he
    rw [getD_lt (by omega) false true]
    exact hlow _ h1⟩
  rw [hr] at this
  cases this
theorem Lst.all {l : List Oper} {o : Oper} {listed : Array Bool} (h : Lst l o listed) (ok : OkP l o) (hr : l.length ∈ Region.ready .any (l ++ [o]).toArray listed) : ∀ d j, l.length = j + 1 + d → listed.getD j false = true := by
  intro d
  induction d using Nat.strongRecOn with
  | ind d ih =>
    intro j hj
    obtain ⟨k, x, hk, hx, e, he, hb, heq⟩ := ok.up j (by omega)
    have hkl : k < l.length + 1 := by
      have := (List.getElem?_eq_some_iff.1 hx).1
      simpa using this
    subst heq
    by_cases hkn : k = l.length
    · subst hkn
      obtain ⟨_, x2, hx2, hall⟩ := mem_ready.1 hr
      rw [List.getElem?_toArray, hx] at hx2
      injection hx2 with hx2
      subst hx2
      exact hall e he hb
    · exact h.down k x hx (ih (l.length - k - 1) (by omega) k (by omega)) e he hb
theorem Lst.next {l : List Oper} {o : Oper} {listed : Array Bool} (h : Lst l o listed) {i : Nat} (hi : i ≠ l.length) (hr : i ∈ Region.ready .any (l ++ [o]).toArray listed) : Lst l o (listed.setIfInBounds i true) := by
  refine ⟨by rw [Array.size_setIfInBounds]; exact h.size, by rw [getD_set_ne true hi]; exact h.last, fun k x hx hk e he hb => ?_⟩
  by_cases hki : i = k
  · subst hki
    obtain ⟨_, x2, hx2, hall⟩ := mem_ready.1 hr
    rw [List.getElem?_toArray, hx] at hx2
    injection hx2 with hx2
    subst hx2
    exact getD_set_true (hall e he hb)
  · rw [getD_set_ne false hki] at hk
    exact getD_set_true (h.down k x hx hk e he hb)
theorem Lst.none {l : List Oper} {o : Oper} {listed : Array Bool} (h : Lst l o listed) (ok : OkP l o) (hr : l.length ∈ Region.ready .any (l ++ [o]).toArray listed) : Region.ready .any (l ++ [o]).toArray (listed.setIfInBounds l.length true) = [] := by
  refine List.eq_nil_iff_forall_not_mem.2 fun m hm => ?_
  obtain ⟨h1, x, hx, _⟩ := mem_ready.1 hm
  rw [List.getElem?_toArray] at hx
  have hml : m < l.length + 1 := by
    have := (List.getElem?_eq_some_iff.1 hx).1
    simpa using this
  have hs := h.size
  by_cases hmn : l.length = m
  · subst hmn
    simp [hs] at h1
  · rw [getD_set_ne true hmn] at h1
    have := h.all ok hr (l.length - m - 1) m (by omega)
    rw [getD_lt (by omega) false true, h1] at this
    cases this
theorem wpOpIn_round {F : Fence} {lp n : Nat} (hF : F = Fence.wide.inRound lp) {A B : Array Oper} {i : Nat} {x : Oper} (hA : A[i]? = some x) (hB : B[i]? = some x) (hy : ∀ t, yielded A t = yielded B t) (hnd : ∀ c, x.op ≠ .defer c) {a : Act} {w : World} {K : Act → Prop} {K' : Act → World → Prop} {Q' : Exit → Act → World → Prop} (hC : C w) (h : ∀ a w', C w' → K a → K' a w')
    (hh : qOp P A C i K a) : wpOpIn F n P B Q' i K' a w := by
  subst hF
  unfold qOp at hh
  unfold wpOpIn
  simp only [hA, hB, hy] at hh ⊢
  split
  · rename_i hw
    rw [if_pos hw] at hh
    obtain ⟨v, h1, h2⟩ := hh
    have h3 := h1 w hC
    unfold Oper.quietAt at h3
    unfold Oper.wpIn
    refine ⟨fun _ _ => trivial, ?_⟩
    rw [Oper.semAt_eq _ _ _ hnd]
    generalize (execOp a.eval x).run P w = r at *
    cases r with
    | ok y w' =>
      cases y <;> simp only [Oper.quietUpon] at h3 <;> simp only [Oper.uponIn]
      case value u =>
        obtain ⟨e1, e2⟩ := h3
        rw [e1, e2]
        exact h _ _ hC h2
      case skip =>
        obtain ⟨e1, e2⟩ := h3
        rw [e1, ← e2]
        exact h _ _ hC h2
      case enter f args =>
        obtain ⟨e1, hc⟩ := h3
        rw [e1]
        refine ⟨fun hd => (by cases hd), CallsIn.inRound lp (callsIn_wide.2 (hc.mono fun e w'' ⟨he, hw''⟩ => ?_))⟩
        subst he
        exact h _ _ hw'' h2
    | halt y w' => simp only [Oper.quietUpon] at h3
  · rename_i hw
    rw [if_neg hw] at hh
    exact ⟨fun _ _ => trivial, h _ _ hC hh⟩
theorem any_of_idle {lp n : Nat} {l : List Oper} {o : Oper} (ok : OkP l o) {Q : Exit → Act → World → Prop} : ∀ (fuel : Nat) (listed : Array Bool) (a : Act) (w : World), Lst l o listed → C w →
    wpAnyQ P .any (l ++ [idle o]).toArray C (fun a' => ∀ w', C w' → o.wpIn (Fence.wide.inRound lp) n P a' w' (Q .normal) Q) fuel listed a → wpAnyIn (Fence.wide.inRound lp) n P .any (l ++ [o]).toArray Q fuel listed a w
  | 0, listed, a, w, hl, _, h => absurd (by rw [← ready_idle]; exact h.1) (hl.some ok)
  | fuel + 1, listed, a, w, hl, hC, h => by
    refine ⟨fun h0 => absurd h0 (hl.some ok), fun i hi => ?_⟩
    have hq := h.2 i (by rw [ready_idle]; exact hi)
    rcases idle_at (l := l) (o := o) i with ⟨hlt, h1, h2⟩ | ⟨rfl, h1, h2⟩ | ⟨_, h1, h2⟩
    · have hx : l[i]? = some l[i] := List.getElem?_eq_getElem hlt
      exact wpOpIn_round rfl (h1.trans hx) (h2.trans hx) (yielded_idle l o) (ok.nodefer _ (List.getElem_mem _)) hC (fun a' w' hC' hk => any_of_idle ok fuel _ a' w' (hl.next (by omega) hi) hC' hk) hq
    · have hn := hl.none ok hi
      unfold qOp at hq
      simp only [h1] at hq
      rw [if_pos (wanted_none (o := idle o) ok.guard _)] at hq
      obtain ⟨v, _, hk⟩ := hq
      have hp : a.put (idle o).dst v = a := by show a.put o.dst _ = a; rw [ok.dst]; rfl
      rw [hp] at hk
      have hQ : ∀ w', C w' → o.wpIn (Fence.wide.inRound lp) n P a w' (Q .normal) Q := by
        cases fuel with
        | zero => exact hk.2
        | succ fuel => exact hk.1 (by rw [ready_idle]; exact hn)
      unfold wpOpIn
      simp only [h2]
      rw [if_pos (wanted_none ok.guard _)]
      exact Oper.wpIn_mono (fun a' w' h' => wpAnyIn_done hn h' fuel) (hQ w hC)
    · obtain ⟨_, x, hx, _⟩ := mem_ready.1 hi
      rw [h2] at hx
      cases hx
/-- **a region of a round: what is ahead of its last store walked once** -/
theorem round_store {lp n id : Nat} {Q : Exit → Act → World → Prop} {a : Act} {w : World} (l : List Oper) (o : Oper) (hm : P.follows .mixedOrders = true) (hok : okB l o = true) (hB : Region.lexB .any (l ++ [idle o]).toArray = true)
    (h : wpQuiet P (l ++ [o]).toArray (fun w' => ∃ p : Regrown, w' = Sort.grow (redrawn w p.d) p.os) (fun a' => ∀ w', (∃ p : Regrown, w' = Sort.grow (redrawn w p.d) p.os) → o.wpIn (Fence.wide.inRound lp) n P a' w' (Q .normal) Q) l a) :
    (Code.region id (l ++ [o]).toArray true).wpIn (Fence.wide.inRound lp) n P Q a w := by
  have ok := okP hok
  simp only [Region.lexB, Bool.and_eq_true] at hB
  refine wpIn_region_any hm ?_
  have h2 := wpQuiet_app (l2 := [idle o]) (fun a' h' => wpQuiet_idle ok.dst ok.guard a' h') l a (by rw [wpQuiet_same (yielded_idle l o)]; exact h)
  have h3 := wpAnyQ_lex (md := .any) hB.1 (l ++ [idle o]) 0 (Array.replicate (l ++ [idle o]).toArray.size false) a (by simp) (by simpa using hB.2) h2
  have e1 : (l ++ [idle o]).length = (l ++ [o]).toArray.size := by simp
  have e2 : (l ++ [idle o]).toArray.size = (l ++ [o]).toArray.size := by simp
  rw [e1, e2] at h3
  refine any_of_idle (C := fun w' => ∃ p : Regrown, w' = Sort.grow (redrawn w p.d) p.os) ok _ _ a _ ⟨by simp, by simp, fun i x _ hl => ?_⟩ ⟨⟨w.drawn + 1, #[]⟩, by rw [Sort.grow_empty]; rfl⟩ h3
  by_cases hi : i < l.length + 1
  · simp [hi] at hl
  · simp [hi] at hl
/-- the same, the text written out -/
theorem round_lit {lp n id : Nat} {Q : Exit → Act → World → Prop} {a : Act} {w : World} {L : List Oper} (hL : L.dropLast ++ [L.getLastD default] = L) (hm : P.follows .mixedOrders = true) (hok : okB L.dropLast (L.getLastD default) = true) (hB : Region.lexB .any (L.dropLast ++ [idle (L.getLastD default)]).toArray = true)
    (h : wpQuiet P L.toArray (fun w' => ∃ p : Regrown, w' = Sort.grow (redrawn w p.d) p.os) (fun a' => ∀ w', (∃ p : Regrown, w' = Sort.grow (redrawn w p.d) p.os) → (L.getLastD default).wpIn (Fence.wide.inRound lp) n P a' w' (Q .normal) Q) L.dropLast a) :
    (Code.region id L.toArray true).wpIn (Fence.wide.inRound lp) n P Q a w := by
  have h2 := round_store (lp := lp) (n := n) (id := id) (Q := Q) (a := a) (w := w) L.dropLast (L.getLastD default) hm hok hB (by rw [hL]; exact h)
  rw [hL] at h2
  exact h2
end
end Go.Proofs.Ytphhoihhmphbdaa
