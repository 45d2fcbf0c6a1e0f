/-
  Codes by length, plain: the symbols of each length in turn.
-/
import Derived.Test.YtlekobompjehdaaMgI
namespace Go.Proofs.Ytlekobompjehdaa
open Mg

/-- the symbols of one length, below j -/
def grp (L : Nat → Nat) (n j : Nat) : List Nat := (List.range j).filter fun s => decide (L s = n)
theorem grp_succ (L : Nat → Nat) (n j : Nat) : grp L n (j + 1) = grp L n j ++ (if L j = n then [j] else []) := by
  unfold grp
  rw [List.range_succ, List.filter_append]
  congr 1
  by_cases h : L j = n
  · rw [if_pos h]
    simp [h]
  · rw [if_neg h]
    simp [h]
theorem grp_mem {L : Nat → Nat} {n j s : Nat} : s ∈ grp L n j ↔ s < j ∧ L s = n := by
  unfold grp
  rw [List.mem_filter, List.mem_range]
  simp
theorem grp_len (L : Nat → Nat) (n j : Nat) : (grp L n j).length ≤ j := by
  have := List.length_filter_le (fun s => decide (L s = n)) (List.range j)
  rw [List.length_range] at this
  exact this
/-- the symbols of the lengths 1 to n -/
def syTo (L : Nat → Nat) (N : Nat) : Nat → List Nat
  | 0 => []
  | n + 1 => syTo L N n ++ grp L (n + 1) N
/-- and their lengths -/
def szTo (L : Nat → Nat) (N : Nat) : Nat → List Nat
  | 0 => []
  | n + 1 => szTo L N n ++ List.replicate (grp L (n + 1) N).length (n + 1)
theorem syTo_mem {L : Nat → Nat} {N s : Nat} : ∀ n, s ∈ syTo L N n ↔ s < N ∧ 1 ≤ L s ∧ L s ≤ n
  | 0 => by simp [syTo]; omega
  | n + 1 => by
    unfold syTo
    rw [List.mem_append, syTo_mem n, grp_mem]
    omega
theorem szTo_map (L : Nat → Nat) (N : Nat) : ∀ n, (syTo L N n).map L = szTo L N n
  | 0 => rfl
  | n + 1 => by
    unfold syTo szTo
    rw [List.map_append, szTo_map L N n]
    congr 1
    refine List.eq_replicate_iff.2 ⟨by rw [List.length_map], fun b hb => ?_⟩
    obtain ⟨s, hs, rfl⟩ := List.mem_map.1 hb
    exact (grp_mem.1 hs).2
theorem szTo_len (L : Nat → Nat) (N n : Nat) : (szTo L N n).length = (syTo L N n).length := by rw [← szTo_map, List.length_map]
theorem szTo_sorted (L : Nat → Nat) (N : Nat) : ∀ n, (szTo L N n).Pairwise (· ≤ ·) ∧ ∀ x ∈ szTo L N n, 1 ≤ x ∧ x ≤ n
  | 0 => ⟨.nil, fun x hx => by cases hx⟩
  | n + 1 => by
    obtain ⟨h1, h2⟩ := szTo_sorted L N n
    unfold szTo
    refine ⟨List.pairwise_append.2 ⟨h1, List.pairwise_replicate.2 (.inr (Nat.le_refl _)), fun a ha b hb => ?_⟩, fun x hx => ?_⟩
    · have := h2 a ha
      have := List.eq_of_mem_replicate hb
      omega
    · rcases List.mem_append.1 hx with hx | hx
      · have := h2 x hx
        omega
      · have := List.eq_of_mem_replicate hx
        omega
theorem syTo_nodup (L : Nat → Nat) (N : Nat) : ∀ n, (syTo L N n).Nodup
  | 0 => .nil
  | n + 1 => by
    unfold syTo
    refine List.nodup_append.2 ⟨syTo_nodup L N n, List.nodup_range.filter _, fun a ha b hb => ?_⟩
    have h1 := (syTo_mem n).1 ha
    have h2 := grp_mem.1 hb
    intro e
    subst e
    omega
theorem grp_sum (L : Nat → Nat) (n : Nat) (g : Nat → Nat) : ∀ j, ((grp L n j).map g).sum = SN j (fun s => if L s = n then g s else 0)
  | 0 => rfl
  | j + 1 => by
    rw [grp_succ, List.map_append, List.sum_append, grp_sum L n g j]
    simp only [SN]
    by_cases h : L j = n
    · rw [if_pos h, if_pos h]
      simp
    · rw [if_neg h, if_neg h]
      simp
theorem syTo_sum (L : Nat → Nat) (N : Nat) (g : Nat → Nat) : ∀ n, ((syTo L N n).map g).sum = SN N (fun s => if 1 ≤ L s ∧ L s ≤ n then g s else 0)
  | 0 => by
    have : SN N (fun s => if 1 ≤ L s ∧ L s ≤ 0 then g s else 0) = SN N (fun _ => 0) := SN_congr fun s _ => if_neg (by omega)
    rw [this]
    unfold syTo
    induction N with
    | zero => rfl
    | succ N ih => simp only [SN]; rw [← ih (SN_congr fun s _ => if_neg (by omega))]; rfl
  | n + 1 => by
    unfold syTo
    rw [List.map_append, List.sum_append, syTo_sum L N g n, grp_sum, ← SN_add]
    refine SN_congr fun s _ => ?_
    by_cases h : L s = n + 1
    · rw [if_neg (by omega), if_pos h, if_pos (by omega)]
      omega
    · by_cases h2 : 1 ≤ L s ∧ L s ≤ n
      · rw [if_pos h2, if_neg h, if_pos (by omega)]
        omega
      · rw [if_neg h2, if_neg h, if_neg (by omega)]
theorem grp_isum (L : Nat → Nat) (n : Nat) (g : Nat → Int) : ∀ j, ((grp L n j).map g).sum = SZ j (fun s => if L s = n then g s else 0)
  | 0 => rfl
  | j + 1 => by
    rw [grp_succ, List.map_append, List.sum_append, grp_isum L n g j]
    simp only [SZ]
    by_cases h : L j = n
    · rw [if_pos h, if_pos h]
      simp
    · rw [if_neg h, if_neg h]
      simp
theorem syTo_isum (L : Nat → Nat) (N : Nat) (g : Nat → Int) : ∀ n, ((syTo L N n).map g).sum = SZ N (fun s => if 1 ≤ L s ∧ L s ≤ n then g s else 0)
  | 0 => by
    have : SZ N (fun s => if 1 ≤ L s ∧ L s ≤ 0 then g s else 0) = SZ N (fun _ => 0) := SZ_congr fun s _ => if_neg (by omega)
    rw [this]
    unfold syTo
    induction N with
    | zero => rfl
    | succ N ih => simp only [SZ]; rw [← ih (SZ_congr fun s _ => if_neg (by omega))]; rfl
  | n + 1 => by
    unfold syTo
    rw [List.map_append, List.sum_append, syTo_isum L N g n, grp_isum, ← SZ_add]
    refine SZ_congr fun s _ => ?_
    by_cases h : L s = n + 1
    · rw [if_neg (by omega), if_pos h, if_pos (by omega)]
      omega
    · by_cases h2 : 1 ≤ L s ∧ L s ≤ n
      · rw [if_pos h2, if_neg h, if_pos (by omega)]
        omega
      · rw [if_neg h2, if_neg h, if_neg (by omega)]
        rfl
end Go.Proofs.Ytlekobompjehdaa
