/-
  wish.decimal: a number's text.
-/
import Derived.Test.YtfcppchjikmioaaGreatBase
namespace Go.Proofs.YtfcppchjikmioaaGreat
open Go.RowKit

def decL (n : Nat) : List UInt8 := if h : n < 10 then [UInt8.ofNat (48 + n)] else decL (n / 10) ++ [UInt8.ofNat (48 + n % 10)]
termination_by n
decreasing_by omega
theorem decL_len (n : Nat) : (decL n).length ≤ n + 1 := by
  induction n using Nat.strongRecOn with
  | ind n ih =>
    rw [decL]
    split
    · simp
    · have := ih (n / 10) (by omega)
      simp
      omega
theorem decL_small (n : Nat) (h : n < 10) : decL n = [UInt8.ofNat (48 + n)] := by rw [decL, dif_pos h]
theorem decL_big (n : Nat) (h : ¬ n < 10) : decL n = decL (n / 10) ++ decL (n % 10) := by rw [decL, dif_neg h, decL_small (n % 10) (by omega)]
theorem enc_digit (n : Nat) (h : n < 10) : Utf8.encode (48 + (n : Int)) = ⟨#[UInt8.ofNat (48 + n)]⟩ := by
  match n, h with
  | 0, _ => rfl
  | 1, _ => rfl
  | 2, _ => rfl
  | 3, _ => rfl
  | 4, _ => rfl
  | 5, _ => rfl
  | 6, _ => rfl
  | 7, _ => rfl
  | 8, _ => rfl
  | 9, _ => rfl
theorem dec_small {W : World} (n : Nat) (h : n < 10) : Calls Tryz.prog 47 #[.int .i64 (n : Int)] W fun e w' => e = .returned (.string ⟨#[UInt8.ofNat (48 + n)]⟩) ∧ w' = W := by
  have d1 : decide ((n : Int) < -999999999) = false := decide_eq_false (by omega)
  have d2 : decide (999999999 < (n : Int)) = false := decide_eq_false (by omega)
  have d3 : decide ((n : Int) < 0) = false := decide_eq_false (by omega)
  have d4 : decide ((n : Int) < 10) = true := decide_eq_true (by omega)
  go_enter Tryz.func47, Tryz.ntmps47
  go_wp2_with fail
  go_ret
  exact ⟨by show Ending.returned (.string (Utf8.encode _)) = _; rw [enc_digit n h], rfl⟩
set_option maxRecDepth 100000 in
theorem dec_any (W : World) : ∀ n : Nat, n ≤ 999999999 → Calls Tryz.prog 47 #[.int .i64 (n : Int)] W fun e w' => e = .returned (.string ⟨(decL n).toArray⟩) ∧ w' = W := by
  intro n
  induction n using Nat.strongRecOn with
  | ind n ih =>
    intro hn
    by_cases h : n < 10
    · refine (dec_small n h).mono ?_
      rintro e w' ⟨rfl, rfl⟩
      refine ⟨?_, rfl⟩
      rw [decL, dif_pos h]
    · have H := hid (show ∀ (z : Int) (m : Nat), z = (m : Int) → m < n → Calls Tryz.prog 47 #[.int .i64 z] W fun e w' => e = .returned (.string ⟨(decL m).toArray⟩) ∧ w' = W from fun z m hz hm => by rw [hz]; exact ih m hm (by omega))
      have d1 : decide ((n : Int) < -999999999) = false := decide_eq_false (by omega)
      have d2 : decide (999999999 < (n : Int)) = false := decide_eq_false (by omega)
      have d3 : decide ((n : Int) < 0) = false := decide_eq_false (by omega)
      have d4 : decide ((n : Int) < 10) = false := decide_eq_false (by omega)
      have hlen : ¬ 9223372036854775807 < (decL (n / 10)).length + (decL (n % 10)).length := by
        have := decL_len (n / 10)
        have := decL_len (n % 10)
        omega
      go_enter Tryz.func47, Tryz.ntmps47
      go_wp2_with (first
        | (go_at_call 47; refine (H.out _ (n / 10) (by omega) (by omega)).mono ?_; rintro e w' ⟨rfl, rfl⟩)
        | (go_at_call 47; refine (H.out _ (n % 10) (by omega) (by omega)).mono ?_; rintro e w' ⟨rfl, rfl⟩))
      go_ret
      refine ⟨?_, rfl⟩
      rw [decL_big n h]
      show Ending.returned (.string (_ ++ _)) = _
      congr 2
/-- a number's text: '?' where it is too far -/
def decZ (v : Int) : List UInt8 := if v < -999999999 ∨ 999999999 < v then [63] else if v < 0 then 45 :: decL v.natAbs else decL v.natAbs
set_option maxRecDepth 100000 in
theorem decimal_any (v : Int) (W : World) : Calls Tryz.prog 47 #[.int .i64 v] W fun e w' => e = .returned (.string ⟨(decZ v).toArray⟩) ∧ w' = W := by
  by_cases d1 : v < -999999999
  · have d1' : decide (v < -999999999) = true := decide_eq_true d1
    go_enter Tryz.func47, Tryz.ntmps47
    go_wp2_with fail
    go_ret
    exact ⟨by rw [decZ, if_pos (.inl d1)]; rfl, rfl⟩
  by_cases d2 : 999999999 < v
  · have d1' : decide (v < -999999999) = false := decide_eq_false d1
    have d2' : decide (999999999 < v) = true := decide_eq_true d2
    go_enter Tryz.func47, Tryz.ntmps47
    go_wp2_with fail
    go_ret
    exact ⟨by rw [decZ, if_pos (.inr d2)]; rfl, rfl⟩
  by_cases d3 : v < 0
  · have d1' : decide (v < -999999999) = false := decide_eq_false d1
    have d2' : decide (999999999 < v) = false := decide_eq_false d2
    have d3' : decide (v < 0) = true := decide_eq_true d3
    have H := hid (show ∀ z : Int, z = -v → Calls Tryz.prog 47 #[.int .i64 z] W fun e w' => e = .returned (.string ⟨(decL v.natAbs).toArray⟩) ∧ w' = W from fun z hz => by
      rw [hz, show -v = (v.natAbs : Int) from by omega]
      exact dec_any W v.natAbs (by omega))
    have hlen : ¬ 9223372036854775807 < 1 + (decL v.natAbs).length := by
      have := decL_len v.natAbs
      omega
    go_enter Tryz.func47, Tryz.ntmps47
    go_wp2_with (first
      | (go_at_call 47; refine (H.out _ (by first | rfl | omega)).mono ?_; rintro e w' ⟨rfl, rfl⟩))
    go_ret
    refine ⟨?_, rfl⟩
    rw [decZ, if_neg (by omega), if_pos d3]
    show Ending.returned (.string (_ ++ _)) = _
    congr 2
  · rw [decZ, if_neg (by omega), if_neg d3]
    have := dec_any W v.natAbs (by omega)
    rwa [show (v.natAbs : Int) = v from by omega] at this
end Go.Proofs.YtfcppchjikmioaaGreat
