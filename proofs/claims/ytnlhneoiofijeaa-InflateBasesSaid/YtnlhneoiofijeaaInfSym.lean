/-
  inflate.LengthSymbol, DistSymbol; burnishref06.Lens, Dists: what they return.
-/
import Derived.Test.YtnlhneoiofijeaaInfBase
import Derived.Test.YtnlhneoiofijeaaMem
namespace Go.Proofs.Ytnlhneoiofijeaa
open Go.RowKit

theorem lbase_257 : lbase 257 = 3 := by decide
theorem dbase_0 : dbase 0 = 1 := by decide

theorem lsym_no (n : Int) (h : n < 3 ∨ 258 < n) (w : World) : Calls Try.prog 33 #[.int .i64 n] w fun e w' => e = .returned (.tuple #[.int .i64 0, .bool false]) ∧ w = w' := by
  rcases h with h | h
  all_goals
    go_enter Try.func33, Try.ntmps33
    go_wp2
    go_ret2
    exact ⟨rfl, rfl⟩

/-- the symbol s is n's: the last one whose base is not above n -/
def LSym (n s : Int) : Prop := 257 ≤ s ∧ s ≤ 285 ∧ lbase s ≤ n ∧ (s = 285 ∨ n < lbase (s + 1))
def DSym (n s : Int) : Prop := 0 ≤ s ∧ s ≤ 29 ∧ dbase s ≤ n ∧ (s = 29 ∨ n < dbase (s + 1))
def SomeSym (P : Int → Prop) (w : World) (e : Ending) (w' : World) : Prop := ∃ s : Int, P s ∧ e = .returned (.tuple #[.int .i64 s, .bool true]) ∧ w = w'

theorem lsym_yes (n : Int) (h1 : 3 ≤ n) (h2 : n ≤ 258) (w : World) : Calls Try.prog 33 #[.int .i64 n] w (SomeSym (LSym n) w) := by
  go_enter Try.func33, Try.ntmps33
  go_wp2
  go_loop [4] (fun s => ∃ k : Int, 257 ≤ k ∧ k ≤ 285 ∧ (k = 285 ∨ n < lbase (k + 1)) ∧ s = .int .i64 k) (fun s => (intOf s).toNat)
  case atStart => exact ⟨285, by omega, by omega, .inl rfl, rfl⟩
  case round =>
    obtain ⟨k, hk1, hk2, hk3, rfl⟩ := hrel
    have H3 := hid hk3
    clear hk3
    by_cases hc : lbase k ≤ n
    · go_wp2_with (go_at_call 31; refine (lbase_yes _ (by omega) (by omega) _).mono ?_; rintro e w' ⟨rfl, rfl⟩)
      go_ret2
      exact ⟨k, ⟨hk1, hk2, hc, H3.out⟩, rfl, rfl⟩
    · have hne : 258 ≤ k := by
        rcases (by omega : k = 257 ∨ 258 ≤ k) with rfl | h
        · rw [lbase_257] at hc; omega
        · exact h
      have hnext : n < lbase (k - 1 + 1) := by rw [show k - 1 + 1 = k by omega]; omega
      have Hn := hid hnext
      clear hnext
      go_wp2_with (go_at_call 31; refine (lbase_yes _ (by omega) (by omega) _).mono ?_; rintro e w' ⟨rfl, rfl⟩)
      go_round
      case rel => exact ⟨k - 1, by omega, by omega, .inr Hn.out, rfl⟩
      case measure => simp [intOf]; omega

theorem dsym_no (n : Int) (h : n < 1 ∨ 32768 < n) (w : World) : Calls Try.prog 34 #[.int .i64 n] w fun e w' => e = .returned (.tuple #[.int .i64 0, .bool false]) ∧ w = w' := by
  rcases h with h | h
  all_goals
    go_enter Try.func34, Try.ntmps34
    go_wp2
    go_ret2
    exact ⟨rfl, rfl⟩

theorem dsym_yes (n : Int) (h1 : 1 ≤ n) (h2 : n ≤ 32768) (w : World) : Calls Try.prog 34 #[.int .i64 n] w (SomeSym (DSym n) w) := by
  go_enter Try.func34, Try.ntmps34
  go_wp2
  go_loop [4] (fun s => ∃ k : Int, 0 ≤ k ∧ k ≤ 29 ∧ (k = 29 ∨ n < dbase (k + 1)) ∧ s = .int .i64 k) (fun s => (intOf s + 1).toNat)
  case atStart => exact ⟨29, by omega, by omega, .inl rfl, rfl⟩
  case round =>
    obtain ⟨k, hk1, hk2, hk3, rfl⟩ := hrel
    have H3 := hid hk3
    clear hk3
    by_cases hc : dbase k ≤ n
    · go_wp2_with (go_at_call 32; refine (dbase_yes _ (by omega) (by omega) _).mono ?_; rintro e w' ⟨rfl, rfl⟩)
      go_ret2
      exact ⟨k, ⟨hk1, hk2, hc, H3.out⟩, rfl, rfl⟩
    · have hne : 1 ≤ k := by
        rcases (by omega : k = 0 ∨ 1 ≤ k) with rfl | h
        · rw [dbase_0] at hc; omega
        · exact h
      have hnext : n < dbase (k - 1 + 1) := by rw [show k - 1 + 1 = k by omega]; omega
      have Hn := hid hnext
      clear hnext
      go_wp2_with (go_at_call 32; refine (dbase_yes _ (by omega) (by omega) _).mono ?_; rintro e w' ⟨rfl, rfl⟩)
      go_round
      case rel => exact ⟨k - 1, by omega, by omega, .inr Hn.out, rfl⟩
      case measure => simp [intOf]; omega

/-- two new blocks, of 29 or 30 numbers each -/
def Tables (n : Nat) (f g : Nat → Int) (W : World) (e : Ending) (w' : World) : Prop :=
  e = .returned (.tuple #[.slice (some ⟨W.heap.size, 0, none⟩) n n, .slice (some ⟨W.heap.size + 1, 0, none⟩) n n]) ∧ Below W.heap.size W w' ∧ w'.heap.size = W.heap.size + 2 ∧
    (∀ k, k < n → w'.cell? ⟨W.heap.size, k, none⟩ = some (.int .i64 (f k))) ∧ (∀ k, k < n → w'.cell? ⟨W.heap.size + 1, k, none⟩ = some (.int .i64 (g k)))

theorem tab0 {W : World} {L M : Array Value} {t t' : TypeId} (n : Nat) (f : Nat → Int) (e : L = intRow n f) (k : Nat) (hk : k < n) : ((W.alloc (.cells L t)).alloc (.cells M t')).cell? ⟨W.heap.size, k, none⟩ = some (.int .i64 (f k)) := by
  rw [(Blk.alloc (Blk.new W t L) (.cells M t')).cell k, e]
  exact intRow_at n f k hk
theorem tab1 {W : World} {L M : Array Value} {t t' : TypeId} (n : Nat) (f : Nat → Int) (e : M = intRow n f) (k : Nat) (hk : k < n) : ((W.alloc (.cells L t)).alloc (.cells M t')).cell? ⟨W.heap.size + 1, k, none⟩ = some (.int .i64 (f k)) := by
  have h := (Blk.new (W.alloc (.cells L t)) t' M).cell k
  rw [World.size_alloc] at h
  rw [h, e]
  exact intRow_at n f k hk

theorem lens_any (W : World) : Calls Try.prog 29 #[] W (Tables 29 (fun k => lbase (257 + k)) (fun k => lextra (257 + k)) W) := by
  go_enter Try.func29, Try.ntmps29
  go_wp2
  go_ret2
  exact ⟨rfl, ((Below.refl _ _).alloc (Nat.le_refl _) _).alloc (by simp) _, by simp, fun k hk => tab0 29 (fun k => lbase (257 + k)) (by kernel_rfl) k hk, fun k hk => tab1 29 (fun k => lextra (257 + k)) (by kernel_rfl) k hk⟩

theorem dists_any (W : World) : Calls Try.prog 30 #[] W (Tables 30 (fun k => dbase k) (fun k => dextra k) W) := by
  go_enter Try.func30, Try.ntmps30
  go_wp2
  go_ret2
  exact ⟨rfl, ((Below.refl _ _).alloc (Nat.le_refl _) _).alloc (by simp) _, by simp, fun k hk => tab0 30 (fun k => dbase k) (by kernel_rfl) k hk, fun k hk => tab1 30 (fun k => dextra k) (by kernel_rfl) k hk⟩

end Go.Proofs.Ytnlhneoiofijeaa
