/-
  The plan of kind 2, plainly: its lengths are in form.
-/
import Derived.Test.YthhllollhjpheaaBkP
import Derived.Test.YthhllollhjpheaaMgF
namespace Go.Proofs.Ythhllollhjpheaa
open Go.RowKit

theorem items_used (c : List Int) : ∀ j, j ≤ c.length → (itemsTo c j).length = usedN (c.take j)
  | 0, _ => by simp [itemsTo, usedN]
  | j + 1, h => by
    have hj : j < c.length := by omega
    have ih := items_used c j (by omega)
    have e0 : c.getD j 0 = c[j] := by rw [List.getD_eq_getElem?_getD, List.getElem?_eq_getElem hj]; rfl
    unfold usedN at *
    rw [itemsTo, e0, List.take_succ_eq_append_getElem hj, List.filter_append, List.length_append, ← ih]
    by_cases h0 : 0 < c[j]
    · rw [if_pos h0, List.filter_cons_of_pos (by simpa using h0), List.length_append]; rfl
    · rw [if_neg h0, List.filter_cons_of_neg (by simpa using h0)]; rfl
theorem itemsOf_used (c : List Int) : (itemsOf c).length = usedN c := by
  rw [itemsOf_len, items_used c c.length (Nat.le_refl _), List.take_length]
theorem used_le (c : List Int) : usedN c ≤ c.length := List.length_filter_le _ _
theorem best_bd {c : List Int} {K : Nat} (hK : (itemsOf c).length ≤ 2 ^ (K + 1)) : ∀ x ∈ bestLs (itemsOf c) K c.length, 0 ≤ x ∧ x ≤ ((K + 1 : Nat) : Int) := by
  intro x hx
  unfold bestLs at hx
  obtain ⟨s, hs, rfl⟩ := List.mem_map.1 hx
  have := (form_at hK (List.mem_range.1 hs)).1
  omega
theorem best_pos {c : List Int} {K s : Nat} (hK : (itemsOf c).length ≤ 2 ^ (K + 1)) (hs : s < c.length) : 0 < (bestLs (itemsOf c) K c.length).getD s 0 ↔ 0 < c.getD s 0 := by
  rw [bestLs_at _ _ _ hs]
  have := (form_at hK hs).2.1
  omega
theorem trim_at (k : Nat) (l : List Int) (i : Nat) : (trimM k l).getD i 0 = l.getD i 0 := by
  unfold trimM
  rw [List.getD_eq_getElem?_getD, List.getD_eq_getElem?_getD, List.getElem?_take]
  split
  · rfl
  · next h =>
    rcases Nat.lt_or_ge i l.length with h1 | h1
    · have := trimN_zero k l l.length i (by omega) h1
      rw [List.getD_eq_getElem?_getD] at this
      rw [this]
      rfl
    · rw [List.getElem?_eq_none h1]
theorem trim_mem {k : Nat} {l : List Int} {x : Int} (h : x ∈ trimM k l) : x ∈ l := List.mem_of_mem_take h
theorem trim_len (k : Nat) (l : List Int) : (trimM k l).length = trimN k l l.length := by
  unfold trimM
  rw [List.length_take]
  have := trimN_le k l l.length
  omega
theorem two_bd {b : Int} (hb : 1 ≤ b) : ∀ {l : List Int} {k : Nat}, (∀ x ∈ l, 0 ≤ x ∧ x ≤ b) → ∀ x ∈ twoN k l, 0 ≤ x ∧ x ≤ b
  | [], _, _ => fun x hx => by cases hx
  | y :: l, k, h => fun x hx => by
    have hl := fun z hz => h z (List.mem_cons_of_mem _ hz)
    unfold twoN at hx
    split at hx
    · exact h x hx
    · split at hx
      · rcases List.mem_cons.1 hx with h1 | h1
        · omega
        · exact two_bd hb hl x h1
      · rcases List.mem_cons.1 hx with h1 | h1
        · rw [h1]; exact h y List.mem_cons_self
        · exact two_bd hb hl x h1
theorem two_keep : ∀ (l : List Int) (k s : Nat), 0 < l.getD s 0 → (twoN k l).getD s 0 = l.getD s 0
  | [], _, _, h => by simp at h
  | y :: l, k, 0, h => by
    rw [List.getD_cons_zero] at h
    unfold twoN
    split
    · rfl
    · rw [if_neg (by omega)]
      rfl
  | y :: l, k, s + 1, h => by
    rw [List.getD_cons_succ] at h
    unfold twoN
    split
    · rfl
    · split
      · rw [List.getD_cons_succ, List.getD_cons_succ]; exact two_keep l _ s h
      · rw [List.getD_cons_succ, List.getD_cons_succ]; exact two_keep l _ s h
theorem two_used : ∀ (l : List Int) (k : Nat), (∀ x ∈ l, 0 ≤ x) → usedN (twoN k l) = usedN l + min k (l.length - usedN l)
  | [], k, _ => by simp [twoN, usedN]
  | y :: l, k, h => by
    have hy := h y List.mem_cons_self
    have hl := fun z hz => h z (List.mem_cons_of_mem _ hz)
    have hu := used_le l
    unfold twoN
    split
    · next h0 => subst h0; simp
    · next h0 =>
      split
      · next h1 =>
        subst h1
        have e1 : usedN (1 :: twoN (k - 1) l) = usedN (twoN (k - 1) l) + 1 := by unfold usedN; rw [List.filter_cons_of_pos (by simp)]; rfl
        have e2 : usedN (0 :: l) = usedN l := by unfold usedN; rw [List.filter_cons_of_neg (by simp)]
        rw [e1, e2, two_used l (k - 1) hl, List.length_cons]
        omega
      · next h1 =>
        have e1 : usedN (y :: twoN k l) = usedN (twoN k l) + 1 := by unfold usedN; rw [List.filter_cons_of_pos (by simp; omega)]; rfl
        have e2 : usedN (y :: l) = usedN l + 1 := by unfold usedN; rw [List.filter_cons_of_pos (by simp; omega)]; rfl
        rw [e1, e2, two_used l k hl, List.length_cons]
        omega
theorem twoM_used {l : List Int} (h2 : 2 ≤ l.length) (h : ∀ x ∈ l, 0 ≤ x) : 2 ≤ usedN (twoM l) := by
  unfold twoM
  rw [two_used l _ h]
  have := used_le l
  omega
theorem good_of {l : List Int} {b : Int} (hm : l.length ≤ 300) (hb : b ≤ 1099511627776) (h : ∀ x ∈ l, 0 ≤ x ∧ x ≤ b) : goodc l 300 = true := by
  refine goodc_true.2 ⟨by omega, ?_⟩
  rw [List.any_eq_false]
  intro x hx
  have := h x hx
  rw [badc_false.2 (by omega)]
  decide
theorem items_small {l : List Int} {n : Nat} (h : l.length ≤ n) : (itemsOf l).length ≤ n := Nat.le_trans (itemsOf_le l) h
/-- runs' symbols -/
theorem run_sym {x : List Int} (hx : ∀ y ∈ x, 0 ≤ y ∧ y ≤ 15) : ∀ (f : Nat) (p : Option Int) (l : List Int), (∀ y ∈ l, y ∈ x) → ∀ r ∈ BlockRuns.runsOf f p l, 0 ≤ r.1 ∧ r.1 ≤ 18
  | 0, _, _, _ => fun r hr => by simp [BlockRuns.runsOf] at hr
  | f + 1, p, [], _ => fun r hr => by simp [BlockRuns.runsOf] at hr
  | f + 1, p, v :: l, h => fun r hr => by
    have hv := hx v (h v List.mem_cons_self)
    rw [BlockRuns.runsOf] at hr
    rcases List.mem_cons.1 hr with h1 | h1
    · rw [h1]
      unfold BlockRuns.cho
      dsimp only
      (repeat' split) <;> omega
    · exact run_sym hx f _ _ (fun y hy => h y (List.mem_of_mem_drop hy)) r h1
end Go.Proofs.Ythhllollhjpheaa
