/-
  InflateBases: the symbols of numbers, as the law uses them.
-/
import Derived.Test.YtnlhneoiofijeaaInfSym
namespace Go.Proofs.Ytnlhneoiofijeaa.InflateBases
open Go.RowKit Go.Proofs.Ytnlhneoiofijeaa

theorem lsymJ (n : Int) (h1 : 3 ≤ n) (h2 : n ≤ 258) (w : World) : Calls Try.prog 33 #[.int .i64 n] w fun e w' => ∃ j : Nat, j < 29 ∧ e = .returned (.tuple #[.int .i64 (257 + j), .bool true]) ∧ lbase (257 + j) ≤ n ∧ (28 ≤ j ∨ (j < 28 ∧ n < lbase (257 + (j + 1)))) ∧ w = w' :=
  (lsym_yes n h1 h2 w).mono fun e w' ⟨s, ⟨a, b, c, d⟩, he, hw⟩ => ⟨(s - 257).toNat, by omega, by rw [he]; congr 5; omega, by rw [show (257 + ((s - 257).toNat : Int)) = s by omega]; exact c, by
    rcases d with d | d
    · left; omega
    · by_cases h : s = 285
      · left; omega
      · right; exact ⟨by omega, by rw [show (257 + (((s - 257).toNat : Int) + 1)) = s + 1 by omega]; exact d⟩, hw⟩
theorem dsymJ (n : Int) (h1 : 1 ≤ n) (h2 : n ≤ 32768) (w : World) : Calls Try.prog 34 #[.int .i64 n] w fun e w' => ∃ j : Nat, j < 30 ∧ e = .returned (.tuple #[.int .i64 j, .bool true]) ∧ dbase j ≤ n ∧ (29 ≤ j ∨ (j < 29 ∧ n < dbase (j + 1))) ∧ w = w' :=
  (dsym_yes n h1 h2 w).mono fun e w' ⟨s, ⟨a, b, c, d⟩, he, hw⟩ => ⟨s.toNat, by omega, by rw [he]; congr 5; omega, by rw [show ((s.toNat : Nat) : Int) = s by omega]; exact c, by
    rcases d with d | d
    · left; omega
    · by_cases h : s = 29
      · left; omega
      · right; exact ⟨by omega, by rw [show (((s.toNat : Nat) : Int) + 1) = s + 1 by omega]; exact d⟩, hw⟩
theorem lsym258 (w : World) : Calls Try.prog 33 #[.int .i64 258] w fun e w' => e = .returned (.tuple #[.int .i64 285, .bool true]) ∧ w = w' :=
  (lsym_yes 258 (by omega) (by omega) w).mono fun e w' ⟨s, ⟨a, b, c, d⟩, he, hw⟩ => ⟨by
    have : s = 285 := by
      rcases d with d | d
      · exact d
      · by_cases h5 : s = 285
        · exact h5
        exfalso
        rcases (by omega : s = 257 ∨ s = 258 ∨ s = 259 ∨ s = 260 ∨ s = 261 ∨ s = 262 ∨ s = 263 ∨ s = 264 ∨ s = 265 ∨ s = 266 ∨ s = 267 ∨ s = 268 ∨ s = 269 ∨ s = 270 ∨ s = 271 ∨ s = 272 ∨ s = 273 ∨ s = 274 ∨ s = 275 ∨ s = 276 ∨ s = 277 ∨ s = 278 ∨ s = 279 ∨ s = 280 ∨ s = 281 ∨ s = 282 ∨ s = 283 ∨ s = 284) with rfl | rfl | rfl | rfl | rfl | rfl | rfl | rfl | rfl | rfl | rfl | rfl | rfl | rfl | rfl | rfl | rfl | rfl | rfl | rfl | rfl | rfl | rfl | rfl | rfl | rfl | rfl | rfl
        all_goals (revert d; decide)
    rw [he, this], hw⟩


end Go.Proofs.Ytnlhneoiofijeaa.InflateBases
