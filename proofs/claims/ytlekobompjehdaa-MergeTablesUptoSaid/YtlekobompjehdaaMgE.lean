/-
  Package-merge, plain: how long a row, its items and its weights may grow.
-/
import Derived.Test.YtlekobompjehdaaMgA
namespace Go.Proofs.Ytlekobompjehdaa.Mg

theorem sy_pk_le : ∀ r : List It, (sy (pk r)).length ≤ (sy r).length
  | [] => Nat.le_refl _
  | [a] => by simp [pk, sy]
  | a :: b :: t => by
    have ih := sy_pk_le t
    unfold pk
    unfold sy at *
    simp only [List.flatMap_cons, List.length_append] at *
    omega
theorem ws_pk_le : ∀ r : List It, (∀ x ∈ r, 0 ≤ x.w) → ws (pk r) ≤ ws r ∧ ∀ x ∈ pk r, 0 ≤ x.w
  | [], _ => ⟨Int.le_refl _, fun _ h => (by cases h)⟩
  | [a], h => by
    have := h a (by simp)
    refine ⟨?_, fun _ h => (by cases h)⟩
    simp [pk, ws]
    exact this
  | a :: b :: t, h => by
    have h1 := h a (by simp)
    have h2 := h b (by simp)
    obtain ⟨ih, ih2⟩ := ws_pk_le t (fun x hx => h x (by simp [hx]))
    unfold pk
    rw [ws_cons, ws_cons, ws_cons]
    refine ⟨by show a.w + b.w + _ ≤ _; omega, fun x hx => ?_⟩
    rcases List.mem_cons.1 hx with rfl | hx
    · show 0 ≤ a.w + b.w
      omega
    · exact ih2 x hx
structure RowB (l r : List It) (k : Nat) : Prop where
  len : r.length ≤ 2 * l.length
  syms : (sy r).length ≤ (k + 1) * (sy l).length
  sum : ws r ≤ (k + 1 : Nat) * ws l
  nonneg : ∀ x ∈ r, 0 ≤ x.w
theorem row_b {l : List It} (hl : ∀ x ∈ l, 0 ≤ x.w) : ∀ (k : Nat) (r : List It), RowOf l k r → RowB l r k
  | 0, r, h => by
    have h : r = l := h
    subst h
    exact ⟨by omega, by omega, by simp, hl⟩
  | k + 1, r, ⟨r0, h0, hs⟩ => by
    have b := row_b hl k r0 h0
    obtain ⟨p1, p2⟩ := ws_pk_le r0 b.nonneg
    have q := sy_pk_le r0
    refine ⟨?_, ?_, ?_, fun x hx => ?_⟩
    · rw [hs.perm.length_eq, List.length_append, pk_len]
      have := b.len
      omega
    · rw [(sy_perm hs.perm).length_eq, sy_app, List.length_append]
      have := b.syms
      rw [Nat.add_mul (k + 1) 1]
      omega
    · rw [ws_perm hs.perm, ws_app]
      have := b.sum
      have e : ((k + 1 + 1 : Nat) : Int) * ws l = ((k + 1 : Nat) : Int) * ws l + ws l := by
        rw [Int.natCast_add (k + 1) 1, Int.add_mul]
        simp
      omega
    · rcases List.mem_append.1 (hs.perm.mem_iff.1 hx) with h | h
      · exact hl x h
      · exact p2 x h
theorem it_le {r : List It} {x : It} (h : x ∈ r) : x.s.length ≤ (sy r).length := by
  unfold sy
  induction r with
  | nil => cases h
  | cons a t ih =>
    rw [List.flatMap_cons, List.length_append]
    rcases List.mem_cons.1 h with rfl | h
    · omega
    · have := ih h
      omega
theorem w_le {r : List It} {x : It} (h : x ∈ r) (hn : ∀ y ∈ r, 0 ≤ y.w) : x.w ≤ ws r := by
  induction r with
  | nil => cases h
  | cons a t ih =>
    have ha := hn a (by simp)
    have ht : 0 ≤ ws t := by
      clear ih h
      induction t with
      | nil => exact Int.le_refl _
      | cons b u ih2 =>
        rw [ws_cons]
        have := hn b (by simp)
        have := ih2 (fun y hy => hn y (by simp at hy ⊢; rcases hy with h | h <;> simp [h]))
        omega
    rw [ws_cons]
    rcases List.mem_cons.1 h with rfl | h
    · omega
    · have := ih h (fun y hy => hn y (by simp [hy]))
      omega
end Go.Proofs.Ytlekobompjehdaa.Mg
