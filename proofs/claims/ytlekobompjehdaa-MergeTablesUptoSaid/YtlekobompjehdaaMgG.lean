/-
  Package-merge, plain: a stable order is one list only, so that rows can be reckoned.
-/
import Derived.Test.YtlekobompjehdaaMgB
namespace Go.Proofs.Ytlekobompjehdaa.Mg

def le (a b : It) : Bool := decide (a.w < b.w) || (decide (a.w = b.w) && decide (a.s.length ≤ b.s.length))
theorem le_iff (a b : It) : le a b = true ↔ Le a b := by
  unfold le Le
  simp
theorem Le.trans {a b c : It} (h : Le a b) (h' : Le b c) : Le a c := by
  unfold Le at *
  omega
theorem Le.total (a b : It) : Le a b ∨ Le b a := by
  unfold Le
  omega
theorem Le.rfl' (a : It) : Le a a := .inr ⟨rfl, Nat.le_refl _⟩
def ev (a b : It) : Bool := le a b && le b a
theorem ev_iff (a b : It) : ev a b = true ↔ Le a b ∧ Le b a := by
  unfold ev
  rw [Bool.and_eq_true, le_iff, le_iff]
def ins (x : It) : List It → List It
  | [] => [x]
  | y :: t => if le x y then x :: y :: t else y :: ins x t
def isort : List It → List It
  | [] => []
  | x :: t => ins x (isort t)
theorem uniq : ∀ r1 r2 : List It, r1.Pairwise Le → r2.Pairwise Le → (∀ x, r1.filter (ev x) = r2.filter (ev x)) → r1 = r2
  | [], [], _, _, _ => rfl
  | [], y :: t, _, _, h => by
    have := h y
    rw [List.filter_cons_of_pos ((ev_iff y y).2 ⟨Le.rfl' y, Le.rfl' y⟩)] at this
    cases this
  | x :: t, [], _, _, h => by
    have := h x
    rw [List.filter_cons_of_pos ((ev_iff x x).2 ⟨Le.rfl' x, Le.rfl' x⟩)] at this
    cases this
  | x :: t1, y :: t2, h1, h2, h => by
    obtain ⟨a1, a2⟩ := List.pairwise_cons.1 h1
    obtain ⟨b1, b2⟩ := List.pairwise_cons.1 h2
    have ex : ev x x = true := (ev_iff x x).2 ⟨Le.rfl' x, Le.rfl' x⟩
    have ey : ev y y = true := (ev_iff y y).2 ⟨Le.rfl' y, Le.rfl' y⟩
    have hx : x ∈ y :: t2 := by
      have : x ∈ (y :: t2).filter (ev x) := by rw [← h x]; exact List.mem_filter.2 ⟨List.mem_cons_self, ex⟩
      exact (List.mem_filter.1 this).1
    have hy : y ∈ x :: t1 := by
      have : y ∈ (x :: t1).filter (ev y) := by rw [h y]; exact List.mem_filter.2 ⟨List.mem_cons_self, ey⟩
      exact (List.mem_filter.1 this).1
    have l1 : Le x y := by
      rcases List.mem_cons.1 hy with e | hy
      · rw [e]; exact Le.rfl' x
      · exact a1 y hy
    have l2 : Le y x := by
      rcases List.mem_cons.1 hx with e | hx
      · rw [e]; exact Le.rfl' y
      · exact b1 x hx
    have e := h x
    rw [List.filter_cons_of_pos ex, List.filter_cons_of_pos ((ev_iff x y).2 ⟨l1, l2⟩)] at e
    injection e with e _
    subst e
    rw [uniq t1 t2 a2 b2 (fun z => by
      have hz := h z
      by_cases c : ev z x = true
      · rw [List.filter_cons_of_pos c, List.filter_cons_of_pos c] at hz
        injection hz
      · rw [List.filter_cons_of_neg c, List.filter_cons_of_neg c] at hz
        exact hz)]
theorem ins_mem (x : It) : ∀ (l : List It) (y : It), y ∈ ins x l → y = x ∨ y ∈ l
  | [], y, h => by
    unfold ins at h
    exact .inl (List.mem_singleton.1 h)
  | z :: t, y, h => by
    unfold ins at h
    split at h
    · rcases List.mem_cons.1 h with rfl | h
      · exact .inl rfl
      · exact .inr h
    · rcases List.mem_cons.1 h with rfl | h
      · exact .inr List.mem_cons_self
      · rcases ins_mem x t y h with rfl | h
        · exact .inl rfl
        · exact .inr (List.mem_cons_of_mem _ h)
theorem ins_sorted (x : It) : ∀ l : List It, l.Pairwise Le → (ins x l).Pairwise Le
  | [], _ => by unfold ins; simp
  | y :: t, h => by
    obtain ⟨h1, h2⟩ := List.pairwise_cons.1 h
    unfold ins
    split
    · rename_i c
      have c := (le_iff x y).1 c
      refine List.pairwise_cons.2 ⟨fun z hz => ?_, h⟩
      rcases List.mem_cons.1 hz with rfl | hz
      · exact c
      · exact c.trans (h1 z hz)
    · rename_i c
      have c : ¬ Le x y := fun hc => c ((le_iff x y).2 hc)
      refine List.pairwise_cons.2 ⟨fun z hz => ?_, ins_sorted x t h2⟩
      rcases ins_mem x t z hz with rfl | hz
      · rcases Le.total y z with h | h
        · exact h
        · exact absurd h c
      · exact h1 z hz
theorem isort_sorted : ∀ l : List It, (isort l).Pairwise Le
  | [] => .nil
  | x :: t => ins_sorted x _ (isort_sorted t)
theorem ins_filter (z x : It) : ∀ l : List It, (ins x l).filter (ev z) = (x :: l).filter (ev z)
  | [] => rfl
  | y :: t => by
    unfold ins
    split
    · rfl
    · rename_i c
      have c : ¬ Le x y := fun hc => c ((le_iff x y).2 hc)
      have ih := ins_filter z x t
      by_cases h1 : ev z x = true
      · have h2 : ¬ ev z y = true := by
          intro h2
          exact c (((ev_iff z x).1 h1).2.trans ((ev_iff z y).1 h2).1)
        rw [List.filter_cons_of_neg h2, ih, List.filter_cons_of_pos h1, List.filter_cons_of_pos h1, List.filter_cons_of_neg h2]
      · rw [List.filter_cons_of_neg h1] at ih
        rw [List.filter_cons_of_neg h1]
        by_cases h2 : ev z y = true
        · rw [List.filter_cons_of_pos h2, List.filter_cons_of_pos h2, ih]
        · rw [List.filter_cons_of_neg h2, List.filter_cons_of_neg h2, ih]
theorem isort_filter (z : It) : ∀ l : List It, (isort l).filter (ev z) = l.filter (ev z)
  | [] => rfl
  | x :: t => by
    have ih := isort_filter z t
    show (ins x (isort t)).filter (ev z) = _
    rw [ins_filter]
    by_cases h : ev z x = true
    · rw [List.filter_cons_of_pos h, List.filter_cons_of_pos h, ih]
    · rw [List.filter_cons_of_neg h, List.filter_cons_of_neg h, ih]
theorem st_isort {a r : List It} (h : St a r) : r = isort a := by
  refine uniq r (isort a) h.sorted (isort_sorted a) (fun z => ?_)
  rw [isort_filter]
  have hs : (a.filter (ev z)).Pairwise Le := by
    refine List.pairwise_of_forall_mem_list (fun x hx y hy => ?_)
    have h1 := (ev_iff z x).1 (List.mem_filter.1 hx).2
    have h2 := (ev_iff z y).1 (List.mem_filter.1 hy).2
    exact h1.2.trans h2.1
  have s1 := (h.stable _ hs List.filter_sublist).filter (ev z)
  rw [List.filter_filter] at s1
  simp only [Bool.and_self] at s1
  exact (s1.eq_of_length ((h.perm.filter (ev z)).length_eq).symm).symm
/-- the rows, reckoned -/
def rowFn (l : List It) : Nat → List It
  | 0 => l
  | k + 1 => isort (l ++ pk (rowFn l k))
theorem row_fn {l : List It} : ∀ (k : Nat) (r : List It), RowOf l k r → r = rowFn l k
  | 0, r, h => h
  | k + 1, r, ⟨r0, h0, hs⟩ => by
    rw [st_isort hs, row_fn k r0 h0]
    rfl
end Go.Proofs.Ytlekobompjehdaa.Mg
