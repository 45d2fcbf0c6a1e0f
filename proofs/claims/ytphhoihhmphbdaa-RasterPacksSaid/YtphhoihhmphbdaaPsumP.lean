/-
  How many bytes all rows have: the sum over the passes. Plain.
-/
import Derived.Test.YtphhoihhmphbdaaLaceC
namespace Go.Proofs.Ytphhoihhmphbdaa
open Go.RowKit

def psum (w h d c l : Int) (xs : List (Nat × Int × Int)) : Int := xs.foldl (fun s x => s + x.2.2 * (1 + rowM w h d c l x.2.1)) 0
theorem psum_snoc (w h d c l : Int) (pre : List (Nat × Int × Int)) (x : Nat × Int × Int) : psum w h d c l (pre ++ [x]) = psum w h d c l pre + x.2.2 * (1 + rowM w h d c l x.2.1) := by simp [psum]
theorem dsum_eq (w h d c l : Int) : ∀ (n : Nat) (xs : List (Nat × Int × Int)), xs.length = n → n ≤ 7 → (∀ x ∈ xs, 0 ≤ x.2.2 ∧ x.2.2 ≤ 65535) → dsum w h d c l xs = psum w h d c l xs ∧ 0 ≤ psum w h d c l xs ∧ psum w h d c l xs ≤ n * 39321065535
  | 0, xs, h0, _, _ => by rw [List.eq_nil_of_length_eq_zero h0]; simp [dsum, psum]
  | n + 1, xs, h0, hn, hx => by
    rcases List.eq_nil_or_concat xs with rfl | ⟨pre, x, rfl⟩
    · simp at h0
    · rw [List.concat_eq_append] at *
      have hl : pre.length = n := by simpa using h0
      obtain ⟨e1, e2, e3⟩ := dsum_eq w h d c l n pre hl (by omega) (fun y hy => hx y (List.mem_append_left _ hy))
      obtain ⟨x1, x2⟩ := hx x (by simp)
      obtain ⟨r1, r2⟩ := rowM_bd w h d c l x.2.1
      rw [dsum_snoc, psum_snoc, e1]
      have m1 : 0 ≤ x.2.2 * (1 + rowM w h d c l x.2.1) := Int.mul_nonneg x1 (by omega)
      have m2 : x.2.2 * (1 + rowM w h d c l x.2.1) ≤ 65535 * 600001 := Int.mul_le_mul x2 (by omega) (by omega) (by omega)
      have w1 : wrap64 (x.2.2 * (1 + rowM w h d c l x.2.1)) = x.2.2 * (1 + rowM w h d c l x.2.1) := IntWalk.wrap64_in _ ⟨by omega, by omega⟩
      rw [w1, IntWalk.wrap64_in _ ⟨by omega, by omega⟩]
      refine ⟨rfl, by omega, by push_cast; omega⟩
theorem passes_in (w h l : Int) (w1 : 1 ≤ w) (w2 : w ≤ 65535) (h1 : 1 ≤ h) (h2 : h ≤ 65535) : ∀ x ∈ passesM w h l, 0 ≤ x.2.2 ∧ x.2.2 ≤ 65535 := by
  intro x hx
  unfold passesM at hx
  split at hx
  · rw [List.mem_singleton.1 hx]
    show 0 ≤ h ∧ h ≤ 65535
    omega
  · obtain ⟨p, _, hp⟩ := List.mem_flatMap.1 hx
    unfold passAt at hp
    split at hp
    · rw [List.mem_singleton.1 hp]
      exact ⟨(pass_bd w h p w1 w2 h1 h2).2.2.1, (pass_bd w h p w1 w2 h1 h2).2.2.2⟩
    · cases hp
theorem passes_len (w h l : Int) : (passesM w h l).length ≤ 7 := by
  unfold passesM
  split
  · simp
  · exact pass_len w h 7
theorem dataM_eq {w h d c l : Int} (hh : headErr w h d c l = 0) : dataM w h d c l = psum w h d c l (passesM w h l) ∧ 0 ≤ dataM w h d c l ∧ dataM w h d c l ≤ 7 * 39321065535 := by
  obtain ⟨b1, b2, b3, b4, _⟩ := headErr_bnd hh
  have hl := passes_len w h l
  obtain ⟨e1, e2, e3⟩ := dsum_eq w h d c l _ _ rfl hl (passes_in w h l b1 b2 b3 b4)
  unfold dataM
  rw [if_pos hh, e1]
  refine ⟨rfl, e2, ?_⟩
  have : (((passesM w h l).length : Nat) : Int) ≤ 7 := by omega
  omega
end Go.Proofs.Ytphhoihhmphbdaa
