/-
  wish.plain: a word that needs no quotes.
-/
import Derived.Test.YtfcppchjikmioaaGreatWpA
import Derived.Test.YtfcppchjikmioaaGreatShf
import Derived.RegionTactic
import Derived.RegionCalls
namespace Go.Proofs.YtfcppchjikmioaaGreat
open Go.RowKit

theorem notSmall_any (x : Nat) (W : World) : Calls Tryz.prog 70 #[.int .i32 (x : Int)] W fun e w' => e = .returned (.bool (!isSm (x : Int))) ∧ W = w' := by
  go_enter Tryz.func70, Tryz.ntmps70
  go_wp2_with (go_at_call 59; refine (small_any _ _).mono ?_; rintro e w' ⟨rfl, rfl⟩)
  go_ret
  exact ⟨rfl, rfl⟩
def trueS : List UInt8 := [116, 114, 117, 101]
def falseS : List UInt8 := [102, 97, 108, 115, 101]
def plainS (s : ByteArray) : Bool := decide (0 < (s.size : Int)) && decide ((s.size : Int) ≤ 16) && !(s.toList == trueS) && !(s.toList == falseS) && !decide (0 ≤ Lib.idxFunc (fun x => !isSm (x : Int)) true s)
theorem plain_any (s : ByteArray) (W : World) : Calls Tryz.prog 48 #[.string s] W fun e w' => e = .returned (.bool (plainS s)) ∧ Below W.heap.size W w' := by
  have hc := fun w => strings_ContainsFunc_grows 70 #[] (fun args w => by kernel_rfl) (fun x => !isSm (x : Int)) s w (fun W' x hx hb => (notSmall_any x W').mono fun e w' ⟨he, hw⟩ => ⟨he, hw ▸ Below.refl _ _⟩)
  have HC := hid hc
  clear hc
  by_cases h1 : 0 < (s.size : Int)
  case neg =>
    have d1 : decide (0 < (s.size : Int)) = false := decide_eq_false h1
    go_enter Tryz.func48, Tryz.ntmps48
    go_wp2_with (go_at_call 69; refine (HC.out _).mono ?_; rintro e w' ⟨rfl, hB⟩)
    go_ret
    exact ⟨ret_bool (by rw [plainS, d1]; rfl), Below.refl _ _⟩
  have d1 : decide (0 < (s.size : Int)) = true := decide_eq_true h1
  by_cases h2 : (s.size : Int) ≤ 16
  case neg =>
    have d2 : decide ((s.size : Int) ≤ 16) = false := decide_eq_false h2
    go_enter Tryz.func48, Tryz.ntmps48
    go_wp2_with (go_at_call 69; refine (HC.out _).mono ?_; rintro e w' ⟨rfl, hB⟩)
    go_ret
    exact ⟨ret_bool (by rw [plainS, d1, d2]; rfl), Below.refl _ _⟩
  have d2 : decide ((s.size : Int) ≤ 16) = true := decide_eq_true h2
  by_cases h3 : (s.toList == trueS) = true
  case pos =>
    have d3 := h3
    unfold trueS at d3
    go_enter Tryz.func48, Tryz.ntmps48
    go_wp2_with (go_at_call 69; refine (HC.out _).mono ?_; rintro e w' ⟨rfl, hB⟩)
    go_ret
    exact ⟨ret_bool (by rw [plainS, d1, d2, h3]; rfl), Below.refl _ _⟩
  replace h3 : (s.toList == trueS) = false := by simpa using h3
  have d3 := h3
  unfold trueS at d3
  by_cases h4 : (s.toList == falseS) = true
  case pos =>
    have d4 := h4
    unfold falseS at d4
    go_enter Tryz.func48, Tryz.ntmps48
    go_wp2_with (go_at_call 69; refine (HC.out _).mono ?_; rintro e w' ⟨rfl, hB⟩)
    go_ret
    exact ⟨ret_bool (by rw [plainS, d1, d2, h3, h4]; rfl), Below.refl _ _⟩
  replace h4 : (s.toList == falseS) = false := by simpa using h4
  have d4 := h4
  unfold falseS at d4
  go_enter Tryz.func48, Tryz.ntmps48
  go_wp2_with (go_at_call 69; refine (HC.out _).mono ?_; rintro e w' ⟨rfl, hB⟩)
  go_ret
  exact ⟨ret_bool (by rw [plainS, d1, d2, h3, h4]; rfl), hB⟩
end Go.Proofs.YtfcppchjikmioaaGreat
