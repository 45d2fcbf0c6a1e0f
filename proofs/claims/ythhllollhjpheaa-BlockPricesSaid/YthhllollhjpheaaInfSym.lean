/-
  inflate.LengthBase, DistBase, LengthSymbol, DistSymbol: what each returns for every number.
  inflate.LengthSymbol, DistSymbol; burnishref06.Lens, Dists: what they return.
-/
import Derived.Test.YthhllollhjpheaaBase
namespace Go.Proofs.Ythhllollhjpheaa
open Go.RowKit

/-- a length symbol's base; 0 where there is none -/
def lbase (s : Int) : Int := if s = 285 then 258 else if s - 257 < 8 then 3 + (s - 257) else 3 + (4 + (s - 257) % 4) * 2 ^ ((s - 257) / 4 - 1).toNat
def lextra (s : Int) : Int := if s = 285 then 0 else if s - 257 < 8 then 0 else (s - 257) / 4 - 1
def dbase (s : Int) : Int := if s < 4 then 1 + s else 1 + (2 + s % 2) * 2 ^ (s / 2 - 1).toNat
def dextra (s : Int) : Int := if s < 4 then 0 else s / 2 - 1

theorem lbase_no (s : Int) (h : s < 257 ∨ 285 < s) (w : World) : Calls Try.prog 47 #[.int .i64 s] w fun e w' => e = .returned (.tuple #[.int .i64 0, .int .i64 0, .bool false]) ∧ w = w' := by
  rcases h with h | h
  all_goals
    go_enter Try.func47, Try.ntmps47
    go_wp2
    go_ret3
    exact ⟨rfl, rfl⟩

set_option maxHeartbeats 1000000 in
theorem lbase_yes (s : Int) (h1 : 257 ≤ s) (h2 : s ≤ 285) (w : World) : Calls Try.prog 47 #[.int .i64 s] w fun e w' => e = .returned (.tuple #[.int .i64 (lbase s), .int .i64 (lextra s), .bool true]) ∧ w = w' := by
  rcases (by omega : s = 257 ∨ s = 258 ∨ s = 259 ∨ s = 260 ∨ s = 261 ∨ s = 262 ∨ s = 263 ∨ s = 264 ∨ s = 265 ∨ s = 266 ∨ s = 267 ∨ s = 268 ∨ s = 269 ∨ s = 270 ∨ s = 271 ∨ s = 272 ∨ s = 273 ∨ s = 274 ∨ s = 275 ∨ s = 276 ∨ s = 277 ∨ s = 278 ∨ s = 279 ∨ s = 280 ∨ s = 281 ∨ s = 282 ∨ s = 283 ∨ s = 284 ∨ s = 285) with rfl | rfl | rfl | rfl | rfl | rfl | rfl | rfl | rfl | rfl | rfl | rfl | rfl | rfl | rfl | rfl | rfl | rfl | rfl | rfl | rfl | rfl | rfl | rfl | rfl | rfl | rfl | rfl | rfl
  all_goals
    go_enter Try.func47, Try.ntmps47
    go_wp2
    go_ret3
    exact ⟨rfl, rfl⟩

theorem dbase_no (s : Int) (h : s < 0 ∨ 29 < s) (w : World) : Calls Try.prog 48 #[.int .i64 s] w fun e w' => e = .returned (.tuple #[.int .i64 0, .int .i64 0, .bool false]) ∧ w = w' := by
  rcases h with h | h
  all_goals
    go_enter Try.func48, Try.ntmps48
    go_wp2
    go_ret3
    exact ⟨rfl, rfl⟩

set_option maxHeartbeats 1000000 in
theorem dbase_yes (s : Int) (h1 : 0 ≤ s) (h2 : s ≤ 29) (w : World) : Calls Try.prog 48 #[.int .i64 s] w fun e w' => e = .returned (.tuple #[.int .i64 (dbase s), .int .i64 (dextra s), .bool true]) ∧ w = w' := by
  rcases (by omega : s = 0 ∨ s = 1 ∨ s = 2 ∨ s = 3 ∨ s = 4 ∨ s = 5 ∨ s = 6 ∨ s = 7 ∨ s = 8 ∨ s = 9 ∨ s = 10 ∨ s = 11 ∨ s = 12 ∨ s = 13 ∨ s = 14 ∨ s = 15 ∨ s = 16 ∨ s = 17 ∨ s = 18 ∨ s = 19 ∨ s = 20 ∨ s = 21 ∨ s = 22 ∨ s = 23 ∨ s = 24 ∨ s = 25 ∨ s = 26 ∨ s = 27 ∨ s = 28 ∨ s = 29) with rfl | rfl | rfl | rfl | rfl | rfl | rfl | rfl | rfl | rfl | rfl | rfl | rfl | rfl | rfl | rfl | rfl | rfl | rfl | rfl | rfl | rfl | rfl | rfl | rfl | rfl | rfl | rfl | rfl | rfl
  all_goals
    go_enter Try.func48, Try.ntmps48
    go_wp2
    go_ret3
    exact ⟨rfl, rfl⟩

end Go.Proofs.Ythhllollhjpheaa

namespace Go.Proofs.Ythhllollhjpheaa
open Go.RowKit

theorem lbase_257 : lbase 257 = 3 := by decide
theorem dbase_0 : dbase 0 = 1 := by decide

theorem lsym_no (n : Int) (h : n < 3 ∨ 258 < n) (w : World) : Calls Try.prog 46 #[.int .i64 n] w fun e w' => e = .returned (.tuple #[.int .i64 0, .bool false]) ∧ w = w' := by
  rcases h with h | h
  all_goals
    go_enter Try.func46, Try.ntmps46
    go_wp2
    go_ret2
    exact ⟨rfl, rfl⟩

/-- the symbol s is n's: the last one whose base is not above n -/
def LSym (n s : Int) : Prop := 257 ≤ s ∧ s ≤ 285 ∧ lbase s ≤ n ∧ (s = 285 ∨ n < lbase (s + 1))
def DSym (n s : Int) : Prop := 0 ≤ s ∧ s ≤ 29 ∧ dbase s ≤ n ∧ (s = 29 ∨ n < dbase (s + 1))
def SomeSym (P : Int → Prop) (w : World) (e : Ending) (w' : World) : Prop := ∃ s : Int, P s ∧ e = .returned (.tuple #[.int .i64 s, .bool true]) ∧ w = w'

theorem lsym_yes (n : Int) (h1 : 3 ≤ n) (h2 : n ≤ 258) (w : World) : Calls Try.prog 46 #[.int .i64 n] w (SomeSym (LSym n) w) := by
  go_enter Try.func46, Try.ntmps46
  go_wp2
  go_loop [4] (fun s => ∃ k : Int, 257 ≤ k ∧ k ≤ 285 ∧ (k = 285 ∨ n < lbase (k + 1)) ∧ s = .int .i64 k) (fun s => (intOf s).toNat)
  case atStart => exact ⟨285, by omega, by omega, .inl rfl, rfl⟩
  case round =>
    obtain ⟨k, hk1, hk2, hk3, rfl⟩ := hrel
    have H3 := hid hk3
    clear hk3
    by_cases hc : lbase k ≤ n
    · go_wp2_with (go_at_call 47; refine (lbase_yes _ (by omega) (by omega) _).mono ?_; rintro e w' ⟨rfl, rfl⟩)
      go_ret2
      exact ⟨k, ⟨hk1, hk2, hc, H3.out⟩, rfl, rfl⟩
    · have hne : 258 ≤ k := by
        rcases (by omega : k = 257 ∨ 258 ≤ k) with rfl | h
        · rw [lbase_257] at hc; omega
        · exact h
      have hnext : n < lbase (k - 1 + 1) := by rw [show k - 1 + 1 = k by omega]; omega
      have Hn := hid hnext
      clear hnext
      go_wp2_with (go_at_call 47; refine (lbase_yes _ (by omega) (by omega) _).mono ?_; rintro e w' ⟨rfl, rfl⟩)
      go_round
      case rel => exact ⟨k - 1, by omega, by omega, .inr Hn.out, rfl⟩
      case measure => simp [intOf]; omega

theorem dsym_no (n : Int) (h : n < 1 ∨ 32768 < n) (w : World) : Calls Try.prog 52 #[.int .i64 n] w fun e w' => e = .returned (.tuple #[.int .i64 0, .bool false]) ∧ w = w' := by
  rcases h with h | h
  all_goals
    go_enter Try.func52, Try.ntmps52
    go_wp2
    go_ret2
    exact ⟨rfl, rfl⟩

theorem dsym_yes (n : Int) (h1 : 1 ≤ n) (h2 : n ≤ 32768) (w : World) : Calls Try.prog 52 #[.int .i64 n] w (SomeSym (DSym n) w) := by
  go_enter Try.func52, Try.ntmps52
  go_wp2
  go_loop [4] (fun s => ∃ k : Int, 0 ≤ k ∧ k ≤ 29 ∧ (k = 29 ∨ n < dbase (k + 1)) ∧ s = .int .i64 k) (fun s => (intOf s + 1).toNat)
  case atStart => exact ⟨29, by omega, by omega, .inl rfl, rfl⟩
  case round =>
    obtain ⟨k, hk1, hk2, hk3, rfl⟩ := hrel
    have H3 := hid hk3
    clear hk3
    by_cases hc : dbase k ≤ n
    · go_wp2_with (go_at_call 48; refine (dbase_yes _ (by omega) (by omega) _).mono ?_; rintro e w' ⟨rfl, rfl⟩)
      go_ret2
      exact ⟨k, ⟨hk1, hk2, hc, H3.out⟩, rfl, rfl⟩
    · have hne : 1 ≤ k := by
        rcases (by omega : k = 0 ∨ 1 ≤ k) with rfl | h
        · rw [dbase_0] at hc; omega
        · exact h
      have hnext : n < dbase (k - 1 + 1) := by rw [show k - 1 + 1 = k by omega]; omega
      have Hn := hid hnext
      clear hnext
      go_wp2_with (go_at_call 48; refine (dbase_yes _ (by omega) (by omega) _).mono ?_; rintro e w' ⟨rfl, rfl⟩)
      go_round
      case rel => exact ⟨k - 1, by omega, by omega, .inr Hn.out, rfl⟩
      case measure => simp [intOf]; omega

/-- two new blocks, of 29 or 30 numbers each -/
def Tables (n : Nat) (f g : Nat → Int) (W : World) (e : Ending) (w' : World) : Prop :=
  e = .returned (.tuple #[.slice (some ⟨W.heap.size, 0, none⟩) n n, .slice (some ⟨W.heap.size + 1, 0, none⟩) n n]) ∧ Below W.heap.size W w' ∧ w'.heap.size = W.heap.size + 2 ∧
    (∀ k, k < n → w'.cell? ⟨W.heap.size, k, none⟩ = some (.int .i64 (f k))) ∧ (∀ k, k < n → w'.cell? ⟨W.heap.size + 1, k, none⟩ = some (.int .i64 (g k)))

theorem tab0 {W : World} {L M : Array Value} {t t' : TypeId} (n : Nat) (f : Nat → Int) (e : L = intRow n f) (k : Nat) (hk : k < n) : ((W.alloc (.cells L t)).alloc (.cells M t')).cell? ⟨W.heap.size, k, none⟩ = some (.int .i64 (f k)) := by
  rw [(Blk.alloc (Blk.new W t L) (.cells M t')).cell k, e]
  exact intRow_at n f k hk
theorem tab1 {W : World} {L M : Array Value} {t t' : TypeId} (n : Nat) (f : Nat → Int) (e : M = intRow n f) (k : Nat) (hk : k < n) : ((W.alloc (.cells L t)).alloc (.cells M t')).cell? ⟨W.heap.size + 1, k, none⟩ = some (.int .i64 (f k)) := by
  have h := (Blk.new (W.alloc (.cells L t)) t' M).cell k
  rw [World.size_alloc] at h
  rw [h, e]
  exact intRow_at n f k hk

theorem lens_any (W : World) : Calls Try.prog 21 #[] W (Tables 29 (fun k => lbase (257 + k)) (fun k => lextra (257 + k)) W) := by
  go_enter Try.func21, Try.ntmps21
  go_wp2
  go_ret2
  exact ⟨rfl, ((Below.refl _ _).alloc (Nat.le_refl _) _).alloc (by simp) _, by simp, fun k hk => tab0 29 (fun k => lbase (257 + k)) (by kernel_rfl) k hk, fun k hk => tab1 29 (fun k => lextra (257 + k)) (by kernel_rfl) k hk⟩

theorem dists_any (W : World) : Calls Try.prog 22 #[] W (Tables 30 (fun k => dbase k) (fun k => dextra k) W) := by
  go_enter Try.func22, Try.ntmps22
  go_wp2
  go_ret2
  exact ⟨rfl, ((Below.refl _ _).alloc (Nat.le_refl _) _).alloc (by simp) _, by simp, fun k hk => tab0 30 (fun k => dbase k) (by kernel_rfl) k hk, fun k hk => tab1 30 (fun k => dextra k) (by kernel_rfl) k hk⟩

end Go.Proofs.Ythhllollhjpheaa
