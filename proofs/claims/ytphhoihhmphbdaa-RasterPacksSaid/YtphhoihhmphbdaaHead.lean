/-
  head.depths, Channels and Check; burnishref13.Channels and Check; burnishref16.Top; burnishref17.byteWide.
-/
import Derived.Test.YtphhoihhmphbdaaSample
import Derived.Test.YtphhoihhmphbdaaBase
import Derived.Deep.RegionHeld3
import Derived.Deep.RegionWith
import Derived.Deep.DeepCutAuto
namespace Go.Proofs.Ytphhoihhmphbdaa
open Go.RowKit

/-- the depths of a color -/
def dl (c : Int) : List Int := if c = 0 then [1, 2, 4, 8, 16] else if c = 3 then [1, 2, 4, 8] else if c = 2 ∨ c = 4 ∨ c = 6 then [8, 16] else []
/-- how many numbers a pixel has -/
def chan (c : Int) : Int := if c = 0 ∨ c = 3 then 1 else if c = 4 then 2 else if c = 2 then 3 else if c = 6 then 4 else 0

def DepthsEnd (l : List Int) (W : World) (e : Ending) (w' : World) : Prop := ∃ A cc, e = .returned (.slice A l.length cc) ∧ RdI w' w'.heap.size A l ∧ Below W.heap.size W w'
theorem hdepths_any (c : Int) (W : World) : Calls Try.prog 114 #[.int .i64 c] W (DepthsEnd (dl c) W) := by
  by_cases h0 : c = 0
  · subst h0
    go_enter Try.func114, Try.ntmps114
    go_wp2
    go_ret
    exact ⟨_, 5, rfl, by show RdI _ _ _ [1, 2, 4, 8, 16]; have h := RdI.new (w := W) (t := 3) (l := [1, 2, 4, 8, 16]) rfl; simpa using h, (Below.refl _ _).alloc (Nat.le_refl _) _⟩
  have e0 : (c == 0) = false := beq_eq_false_iff_ne.2 h0
  by_cases h3 : c = 3
  · subst h3
    clear h0 e0
    go_enter Try.func114, Try.ntmps114
    go_wp2
    go_ret
    exact ⟨_, 4, rfl, by show RdI _ _ _ [1, 2, 4, 8]; have h := RdI.new (w := W) (t := 3) (l := [1, 2, 4, 8]) rfl; simpa using h, (Below.refl _ _).alloc (Nat.le_refl _) _⟩
  have e3 : (c == 3) = false := beq_eq_false_iff_ne.2 h3
  by_cases h2 : c = 2
  · subst h2
    clear h0 e0 h3 e3
    go_enter Try.func114, Try.ntmps114
    go_wp2
    go_ret
    exact ⟨_, 2, rfl, by show RdI _ _ _ [8, 16]; have h := RdI.new (w := W) (t := 3) (l := [8, 16]) rfl; simpa using h, (Below.refl _ _).alloc (Nat.le_refl _) _⟩
  have e2 : (c == 2) = false := beq_eq_false_iff_ne.2 h2
  by_cases h4 : c = 4
  · subst h4
    clear h0 e0 h3 e3 h2 e2
    go_enter Try.func114, Try.ntmps114
    go_wp2
    go_ret
    exact ⟨_, 2, rfl, by show RdI _ _ _ [8, 16]; have h := RdI.new (w := W) (t := 3) (l := [8, 16]) rfl; simpa using h, (Below.refl _ _).alloc (Nat.le_refl _) _⟩
  have e4 : (c == 4) = false := beq_eq_false_iff_ne.2 h4
  by_cases h6 : c = 6
  · subst h6
    clear h0 e0 h3 e3 h2 e2 h4 e4
    go_enter Try.func114, Try.ntmps114
    go_wp2
    go_ret
    exact ⟨_, 2, rfl, by show RdI _ _ _ [8, 16]; have h := RdI.new (w := W) (t := 3) (l := [8, 16]) rfl; simpa using h, (Below.refl _ _).alloc (Nat.le_refl _) _⟩
  have e6 : (c == 6) = false := beq_eq_false_iff_ne.2 h6
  have Hd := hid (show dl c = [] by unfold dl; rw [if_neg h0, if_neg h3, if_neg (by omega)])
  clear h0 h2 h3 h4 h6
  go_enter Try.func114, Try.ntmps114
  go_wp2
  go_ret
  exact ⟨none, 0, by rw [Hd.out]; rfl, by rw [Hd.out]; exact RdI.nil, Below.refl _ _⟩

theorem channels_any (c : Int) (W : World) : Calls Try.prog 31 #[.int .i64 c] W fun e w' => e = .returned (.int .i64 (chan c)) ∧ W = w' := by
  by_cases h0 : c = 0
  · subst h0
    go_enter Try.func31, Try.ntmps31
    go_wp2
    go_ret
    exact ⟨rfl, rfl⟩
  have e0 : (c == 0) = false := beq_eq_false_iff_ne.2 h0
  by_cases h3 : c = 3
  · subst h3
    clear h0 e0
    go_enter Try.func31, Try.ntmps31
    go_wp2
    go_ret
    exact ⟨rfl, rfl⟩
  have e3 : (c == 3) = false := beq_eq_false_iff_ne.2 h3
  by_cases h4 : c = 4
  · subst h4
    clear h0 e0 h3 e3
    go_enter Try.func31, Try.ntmps31
    go_wp2
    go_ret
    exact ⟨rfl, rfl⟩
  have e4 : (c == 4) = false := beq_eq_false_iff_ne.2 h4
  by_cases h2 : c = 2
  · subst h2
    clear h0 e0 h3 e3 h4 e4
    go_enter Try.func31, Try.ntmps31
    go_wp2
    go_ret
    exact ⟨rfl, rfl⟩
  have e2 : (c == 2) = false := beq_eq_false_iff_ne.2 h2
  by_cases h6 : c = 6
  · subst h6
    clear h0 e0 h3 e3 h4 e4 h2 e2
    go_enter Try.func31, Try.ntmps31
    go_wp2
    go_ret
    exact ⟨rfl, rfl⟩
  have e6 : (c == 6) = false := beq_eq_false_iff_ne.2 h6
  have Hd := hid (show chan c = 0 by unfold chan; rw [if_neg (by omega), if_neg h4, if_neg h2, if_neg h6])
  clear h0 h2 h3 h4 h6
  go_enter Try.func31, Try.ntmps31
  go_wp2
  go_ret
  exact ⟨by rw [Hd.out]; rfl, rfl⟩

set_option maxRecDepth 100000 in
theorem refChannels_any (c : Int) (W : World) : Calls Try.prog 48 #[.int .i64 c] W fun e w' => e = .returned (.int .i64 (chan c)) ∧ Below W.heap.size W w' := by
  by_cases h : c < 0 ∨ 6 < c
  · have Hd := hid (show chan c = 0 by unfold chan; (repeat' rw [if_neg (by omega)]))
    rcases h with h | h
    all_goals
      go_enter Try.func48, Try.ntmps48
      go_wp2
      go_ret
      exact ⟨by rw [Hd.out]; rfl, (Below.refl _ _).alloc (Nat.le_refl _) _⟩
  · have hc : c = 0 ∨ c = 1 ∨ c = 2 ∨ c = 3 ∨ c = 4 ∨ c = 5 ∨ c = 6 := by omega
    clear h
    rcases hc with rfl | rfl | rfl | rfl | rfl | rfl | rfl
    all_goals
      go_enter Try.func48, Try.ntmps48
      go_wp2
      go_ret
      exact ⟨rfl, (Below.refl _ _).alloc (Nat.le_refl _) _⟩

theorem pow16_bd : ∀ j : Nat, j ≤ 16 → (1 : Int) ≤ 2 ^ j ∧ (2 : Int) ^ j ≤ 65536 := by decide
theorem top_pow (d : Nat) (hd : d ≤ 16) (W : World) : Calls Try.prog 42 #[.int .i64 d] W fun e w' => e = .returned (.int .i64 (2 ^ d - 1)) ∧ W = w' := by
  go_enter Try.func42, Try.ntmps42
  go_wp2
  go_loop [3, 4] (fun n i => ∃ j : Nat, j ≤ d ∧ i = .int .i64 j ∧ n = .int .i64 (2 ^ j)) (fun _ i => d - (intOf i).toNat)
  case atStart => exact ⟨0, by omega, rfl, rfl⟩
  case round =>
    obtain ⟨j, hj, rfl, rfl⟩ := hrel
    obtain ⟨p1, p2⟩ := pow16_bd j (by omega)
    by_cases hlt : j < d
    · have Hs := hid (show (2 : Int) ^ (j + 1) = 2 * 2 ^ j by rw [Int.pow_succ]; omega)
      generalize (2 : Int) ^ j = p at *
      go_wp2
      go_round
      case rel => exact ⟨j + 1, by omega, by go_num, by rw [Hs.out]⟩
      case measure => simp [intOf]; omega
    · have e : j = d := by omega
      subst e
      go_wp2
      go_ret
      exact ⟨rfl, rfl⟩
theorem top_any (d : Int) (hd : deepOk d) (W : World) : Calls Try.prog 42 #[.int .i64 d] W fun e w' => e = .returned (.int .i64 (pw d - 1)) ∧ W = w' := by
  rcases hd with rfl | rfl | rfl | rfl | rfl
  · exact top_pow 1 (by omega) W
  · exact top_pow 2 (by omega) W
  · exact top_pow 4 (by omega) W
  · exact top_pow 8 (by omega) W
  · exact top_pow 16 (by omega) W

theorem byteWide_any (n : Int) (W : World) : Calls Try.prog 43 #[.int .i64 n] W fun e w' => e = .returned (.bool (narrowOk n 8)) ∧ W = w' := by
  have hn : narrowOk n 8 = (decide (0 ≤ n) && decide (n ≤ 65535) && decide (n % 257 = 0)) := by
    unfold narrowOk
    rw [show deepB 8 = true from rfl, show stp 8 = 257 from rfl, Bool.true_and, Bool.decide_and]
  rw [hn]
  clear hn
  by_cases h0 : 0 ≤ n
  · by_cases h1 : n ≤ 65535
    · go_enter Try.func43, Try.ntmps43
      go_wp2
      go_ret
      exact ⟨ret_bool (by rw [Bool.eq_iff_iff]; simp [h0, h1]), rfl⟩
    · go_enter Try.func43, Try.ntmps43
      go_wp2
      go_ret
      exact ⟨ret_bool (by simp; omega), rfl⟩
  · go_enter Try.func43, Try.ntmps43
    go_wp2
    go_ret
    exact ⟨ret_bool (by simp; omega), rfl⟩

end Go.Proofs.Ytphhoihhmphbdaa
