/-
  inflate.LengthBase, DistBase, LengthSymbol, DistSymbol: what each returns for every number.
-/
import Derived.Test.YtegmbjkpjglgpaaBase
namespace Go.Proofs.Ytegmbjkpjglgpaa
open Go.RowKit

/-- a length symbol's base; 0 where there is none -/
def lbase (s : Int) : Int := if s = 285 then 258 else if s - 257 < 8 then 3 + (s - 257) else 3 + (4 + (s - 257) % 4) * 2 ^ ((s - 257) / 4 - 1).toNat
def lextra (s : Int) : Int := if s = 285 then 0 else if s - 257 < 8 then 0 else (s - 257) / 4 - 1
def dbase (s : Int) : Int := if s < 4 then 1 + s else 1 + (2 + s % 2) * 2 ^ (s / 2 - 1).toNat
def dextra (s : Int) : Int := if s < 4 then 0 else s / 2 - 1

theorem lbase_no (s : Int) (h : s < 257 ∨ 285 < s) (w : World) : Calls Try.prog 153 #[.int .i64 s] w fun e w' => e = .returned (.tuple #[.int .i64 0, .int .i64 0, .bool false]) ∧ w = w' := by
  rcases h with h | h
  all_goals
    go_enter Try.func153, Try.ntmps153
    go_wp2
    go_ret3
    exact ⟨rfl, rfl⟩

set_option maxHeartbeats 1000000 in
theorem lbase_yes (s : Int) (h1 : 257 ≤ s) (h2 : s ≤ 285) (w : World) : Calls Try.prog 153 #[.int .i64 s] w fun e w' => e = .returned (.tuple #[.int .i64 (lbase s), .int .i64 (lextra s), .bool true]) ∧ w = w' := by
  rcases (by omega : s = 257 ∨ s = 258 ∨ s = 259 ∨ s = 260 ∨ s = 261 ∨ s = 262 ∨ s = 263 ∨ s = 264 ∨ s = 265 ∨ s = 266 ∨ s = 267 ∨ s = 268 ∨ s = 269 ∨ s = 270 ∨ s = 271 ∨ s = 272 ∨ s = 273 ∨ s = 274 ∨ s = 275 ∨ s = 276 ∨ s = 277 ∨ s = 278 ∨ s = 279 ∨ s = 280 ∨ s = 281 ∨ s = 282 ∨ s = 283 ∨ s = 284 ∨ s = 285) with rfl | rfl | rfl | rfl | rfl | rfl | rfl | rfl | rfl | rfl | rfl | rfl | rfl | rfl | rfl | rfl | rfl | rfl | rfl | rfl | rfl | rfl | rfl | rfl | rfl | rfl | rfl | rfl | rfl
  all_goals
    go_enter Try.func153, Try.ntmps153
    go_wp2
    go_ret3
    exact ⟨rfl, rfl⟩

theorem dbase_no (s : Int) (h : s < 0 ∨ 29 < s) (w : World) : Calls Try.prog 154 #[.int .i64 s] w fun e w' => e = .returned (.tuple #[.int .i64 0, .int .i64 0, .bool false]) ∧ w = w' := by
  rcases h with h | h
  all_goals
    go_enter Try.func154, Try.ntmps154
    go_wp2
    go_ret3
    exact ⟨rfl, rfl⟩

set_option maxHeartbeats 1000000 in
theorem dbase_yes (s : Int) (h1 : 0 ≤ s) (h2 : s ≤ 29) (w : World) : Calls Try.prog 154 #[.int .i64 s] w fun e w' => e = .returned (.tuple #[.int .i64 (dbase s), .int .i64 (dextra s), .bool true]) ∧ w = w' := by
  rcases (by omega : s = 0 ∨ s = 1 ∨ s = 2 ∨ s = 3 ∨ s = 4 ∨ s = 5 ∨ s = 6 ∨ s = 7 ∨ s = 8 ∨ s = 9 ∨ s = 10 ∨ s = 11 ∨ s = 12 ∨ s = 13 ∨ s = 14 ∨ s = 15 ∨ s = 16 ∨ s = 17 ∨ s = 18 ∨ s = 19 ∨ s = 20 ∨ s = 21 ∨ s = 22 ∨ s = 23 ∨ s = 24 ∨ s = 25 ∨ s = 26 ∨ s = 27 ∨ s = 28 ∨ s = 29) with rfl | rfl | rfl | rfl | rfl | rfl | rfl | rfl | rfl | rfl | rfl | rfl | rfl | rfl | rfl | rfl | rfl | rfl | rfl | rfl | rfl | rfl | rfl | rfl | rfl | rfl | rfl | rfl | rfl | rfl
  all_goals
    go_enter Try.func154, Try.ntmps154
    go_wp2
    go_ret3
    exact ⟨rfl, rfl⟩

end Go.Proofs.Ytegmbjkpjglgpaa
