/-
  PngChecks: for every order, png.Check answers no error just where the document calls it good, else ErrWish. No condition.
-/
import Derived.Test.YtfcppchjikmioaaGreatBase
namespace Go.Proofs.YtfcppchjikmioaaGreat.PngChecks
open Go.RowKit Go.Proofs.YtfcppchjikmioaaGreat

theorem within_any (a b c : Int) (w : World) : Calls Tryz.prog 66 #[.int .i64 a, .int .i64 b, .int .i64 c] w fun e w' => e = .returned (.bool (decide (b ≤ a) && decide (a ≤ c))) ∧ w = w' := by
  by_cases h : b ≤ a
  · go_enter Tryz.func66, Tryz.ntmps66
    go_wp2
    go_ret
    exact ⟨by simp; try omega, rfl⟩
  · go_enter Tryz.func66, Tryz.ntmps66
    go_wp2
    go_ret
    exact ⟨by simp; try omega, rfl⟩

/-- the order, as eleven cells -/
abbrev ordv (t : Int) (p c : Bool) (x y w h : Int) (b : Bool) (f r l : Int) : Value := .agg #[.int .i64 t, .bool p, .bool c, .int .i64 x, .int .i64 y, .int .i64 w, .int .i64 h, .bool b, .int .i64 f, .int .i64 r, .int .i64 l]

structure Fine (t : Int) (c : Bool) (x y w h f r l : Int) : Prop where
  t0 : 0 ≤ t
  t7 : t ≤ 7
  f0 : 0 ≤ f
  f2 : f ≤ 2
  r0 : 0 ≤ r
  r1 : r ≤ 65535
  l0 : -1 ≤ l
  l1 : l ≤ 1
  x0 : 0 ≤ x
  y0 : 0 ≤ y
  x1 : x ≤ 65535
  y1 : y ≤ 65535
  w1 : w ≤ 65535
  h1 : h ≤ 65535
  cw : c = true → 1 ≤ w
  ch : c = true → 1 ≤ h

theorem within_yes (a b c : Int) (h1 : b ≤ a) (h2 : a ≤ c) (w : World) : Calls Tryz.prog 66 #[.int .i64 a, .int .i64 b, .int .i64 c] w fun e w' => e = .returned (.bool true) ∧ w = w' :=
  (within_any a b c w).mono fun e w' ⟨he, hw⟩ => ⟨by rw [he]; simp [h1, h2], hw⟩
theorem within_no (a b c : Int) (h : a < b ∨ c < a) (w : World) : Calls Tryz.prog 66 #[.int .i64 a, .int .i64 b, .int .i64 c] w fun e w' => e = .returned (.bool false) ∧ w = w' :=
  (within_any a b c w).mono fun e w' ⟨he, hw⟩ => ⟨by rw [he]; congr 2; simp; omega, hw⟩

set_option maxRecDepth 100000 in
set_option maxHeartbeats 1000000 in
theorem check_yes (t : Int) (p c : Bool) (x y w h : Int) (b : Bool) (f r l : Int) (hf : Fine t c x y w h f r l) (W : World) :
    Calls Tryz.prog 38 #[ordv t p c x y w h b f r l] W fun e w' => e = .returned .nilIface ∧ Below W.heap.size W w' := by
  obtain ⟨t0, t7, f0, f2, r0, r1, l0, l1, x0, y0, x1, y1, w1, h1, cw, ch⟩ := hf
  cases c
  case' true =>
    have w0 := cw rfl
    have h0 := ch rfl
  all_goals
    clear cw ch
    go_enter Tryz.func38, Tryz.ntmps38
    go_wp2_with (go_at_call 66; refine (within_yes _ _ _ (by omega) (by omega) _).mono ?_; rintro e w' ⟨rfl, rfl⟩)
    go_loop [3, 34] (fun g i => ∃ k : Nat, k ≤ 4 ∧ i = .int .i64 k ∧ g = .bool true) (fun _ i => 4 - (intOf i).toNat)
    case atStart => exact ⟨0, by omega, rfl, rfl⟩
    case round =>
      obtain ⟨k, hk, rfl, rfl⟩ := hrel
      rcases (by omega : k = 0 ∨ k = 1 ∨ k = 2 ∨ k = 3 ∨ k = 4) with rfl | rfl | rfl | rfl | rfl
      iterate 4
        · go_wp2
          go_round
          case rel => first | exact ⟨1, by omega, rfl, rfl⟩ | exact ⟨2, by omega, rfl, rfl⟩ | exact ⟨3, by omega, rfl, rfl⟩ | exact ⟨4, by omega, rfl, rfl⟩
          case measure => simp [intOf]
      · go_wp2
        go_ret
        exact ⟨rfl, ((Below.refl _ _).alloc (Nat.le_refl _) _).alloc (by simp) _⟩


/-- what follows the first test, where the order is refused: 'good' came out false there, or a number is too great or too small -/
def Bad (c : Bool) (x y w h : Int) : Prop := x < 0 ∨ y < 0 ∨ 65535 < x ∨ 65535 < y ∨ 65535 < w ∨ 65535 < h ∨ (c = true ∧ (w < 1 ∨ h < 1))
def gB (g : Bool) (x y w h : Int) : Nat → Bool
  | 0 => g
  | 1 => g && decide (x ≤ 65535)
  | 2 => g && decide (x ≤ 65535) && decide (y ≤ 65535)
  | 3 => g && decide (x ≤ 65535) && decide (y ≤ 65535) && decide (w ≤ 65535)
  | _ => g && decide (x ≤ 65535) && decide (y ≤ 65535) && decide (w ≤ 65535) && decide (h ≤ 65535)

theorem gt2 {x y w h : Int} (hg : gB true x y w h 1 = true) : Value.bool (decide (y ≤ 65535)) = Value.bool (gB true x y w h 2) := by
  show _ = Value.bool (gB true x y w h 1 && decide (y ≤ 65535))
  rw [hg]; rfl
theorem gf2 {x y w h : Int} (hg : ¬ gB true x y w h 1 = true) : Value.bool false = Value.bool (gB true x y w h 2) := by
  show _ = Value.bool (gB true x y w h 1 && decide (y ≤ 65535))
  rw [Bool.eq_false_iff.2 hg]; rfl
theorem gt3 {x y w h : Int} (hg : gB true x y w h 2 = true) : Value.bool (decide (w ≤ 65535)) = Value.bool (gB true x y w h 3) := by
  show _ = Value.bool (gB true x y w h 2 && decide (w ≤ 65535))
  rw [hg]; rfl
theorem gf3 {x y w h : Int} (hg : ¬ gB true x y w h 2 = true) : Value.bool false = Value.bool (gB true x y w h 3) := by
  show _ = Value.bool (gB true x y w h 2 && decide (w ≤ 65535))
  rw [Bool.eq_false_iff.2 hg]; rfl
theorem gt4 {x y w h : Int} (hg : gB true x y w h 3 = true) : Value.bool (decide (h ≤ 65535)) = Value.bool (gB true x y w h 4) := by
  show _ = Value.bool (gB true x y w h 3 && decide (h ≤ 65535))
  rw [hg]; rfl
theorem gf4 {x y w h : Int} (hg : ¬ gB true x y w h 3 = true) : Value.bool false = Value.bool (gB true x y w h 4) := by
  show _ = Value.bool (gB true x y w h 3 && decide (h ≤ 65535))
  rw [Bool.eq_false_iff.2 hg]; rfl

theorem nb1 {c : Bool} {x y w h : Int} (hh : ((0 ≤ x ∧ 0 ≤ y) ∧ 1 ≤ w ∧ 1 ≤ h) ∧ (!gB true x y w h 4) = false) : ¬ Bad c x y w h := by
  obtain ⟨⟨⟨h1, h2⟩, h3, h4⟩, h5⟩ := hh
  simp [gB] at h5
  unfold Bad
  omega
theorem nb2 {c : Bool} {x y w h : Int} (hc : ¬ c = true) (hh : (0 ≤ x ∧ 0 ≤ y) ∧ (!gB true x y w h 4) = false) : ¬ Bad c x y w h := by
  obtain ⟨⟨h1, h2⟩, h5⟩ := hh
  simp [gB] at h5
  unfold Bad
  rintro (h | h | h | h | h | h | ⟨h, _⟩)
  all_goals first | omega | exact hc h

set_option maxRecDepth 100000 in
set_option maxHeartbeats 1000000 in
theorem check_far (t : Int) (p c : Bool) (x y w h : Int) (b : Bool) (f r l : Int) (t0 : 0 ≤ t) (t7 : t ≤ 7) (f0 : 0 ≤ f) (f2 : f ≤ 2) (r0 : 0 ≤ r) (r1 : r ≤ 65535) (l0 : -1 ≤ l) (l1 : l ≤ 1)
    (hb : Bad c x y w h) (W : World) :
    Calls Tryz.prog 38 #[ordv t p c x y w h b f r l] W fun e w' => e = .returned (.iface 34 (.int .i64 1)) ∧ Below W.heap.size W w' := by
  go_enter Tryz.func38, Tryz.ntmps38
  go_wp2_with (go_at_call 66; refine (within_yes _ _ _ (by omega) (by omega) _).mono ?_; rintro e w' ⟨rfl, rfl⟩)
  go_loop [3, 34] (fun g i => ∃ k : Nat, k ≤ 4 ∧ i = .int .i64 k ∧ g = .bool (gB true x y w h k)) (fun _ i => 4 - (intOf i).toNat)
  case atStart => exact ⟨0, by omega, rfl, rfl⟩
  case round =>
    obtain ⟨k, hk, rfl, rfl⟩ := hrel
    rcases (by omega : k = 0 ∨ k = 1 ∨ k = 2 ∨ k = 3 ∨ k = 4) with rfl | rfl | rfl | rfl | rfl
    iterate 4
      · go_wp2
        all_goals
          go_round
          case rel => first | exact ⟨1, by omega, rfl, rfl⟩ | exact ⟨2, by omega, rfl, gt2 ‹_›⟩ | exact ⟨2, by omega, rfl, gf2 ‹_›⟩ | exact ⟨3, by omega, rfl, gt3 ‹_›⟩ | exact ⟨3, by omega, rfl, gf3 ‹_›⟩ | exact ⟨4, by omega, rfl, gt4 ‹_›⟩ | exact ⟨4, by omega, rfl, gf4 ‹_›⟩
          case measure => simp [intOf]
    · go_wp2
      all_goals first
        | exact absurd hb (nb1 ‹_›)
        | exact absurd hb (nb2 ‹_› ‹_›)
        | (go_ret; exact ⟨rfl, ((Below.refl _ _).alloc (Nat.le_refl _) _).alloc (by simp) _⟩)

set_option maxRecDepth 100000 in
set_option maxHeartbeats 4000000 in
theorem check_near (t : Int) (p c : Bool) (x y w h : Int) (b : Bool) (f r l : Int) (hb : t < 0 ∨ 7 < t ∨ ((0 ≤ t ∧ t ≤ 7) ∧ (f < 0 ∨ 2 < f ∨ ((0 ≤ f ∧ f ≤ 2) ∧ (r < 0 ∨ 65535 < r ∨ ((0 ≤ r ∧ r ≤ 65535) ∧ (l < -1 ∨ 1 < l))))))) (W : World) :
    Calls Tryz.prog 38 #[ordv t p c x y w h b f r l] W fun e w' => e = .returned (.iface 34 (.int .i64 1)) ∧ Below W.heap.size W w' := by
  rcases hb with hb | hb | ⟨⟨t0, t7⟩, hb | hb | ⟨⟨f0, f2⟩, hb | hb | ⟨⟨r0, r1⟩, hb | hb⟩⟩⟩
  all_goals
    go_enter Tryz.func38, Tryz.ntmps38
    go_wp2_with (go_at_call 66; first | ((with_reducible refine (within_yes _ _ _ (by omega) (by omega) _).mono ?_); rintro e w' ⟨rfl, rfl⟩) | ((with_reducible refine (within_no _ _ _ (by omega) _).mono ?_); rintro e w' ⟨rfl, rfl⟩))
    go_loop [3, 34] (fun g i => ∃ k : Nat, k ≤ 4 ∧ i = .int .i64 k ∧ g = .bool false) (fun _ i => 4 - (intOf i).toNat)
    case atStart => exact ⟨0, by omega, rfl, rfl⟩
    case round =>
      obtain ⟨k, hk, rfl, rfl⟩ := hrel
      rcases (by omega : k = 0 ∨ k = 1 ∨ k = 2 ∨ k = 3 ∨ k = 4) with rfl | rfl | rfl | rfl | rfl
      iterate 4
        · go_wp2
          all_goals
            go_round
            case rel => first | exact ⟨1, by omega, rfl, rfl⟩ | exact ⟨2, by omega, rfl, rfl⟩ | exact ⟨3, by omega, rfl, rfl⟩ | exact ⟨4, by omega, rfl, rfl⟩
            case measure => simp [intOf]
      · go_wp2
        all_goals (go_ret; exact ⟨rfl, ((Below.refl _ _).alloc (Nat.le_refl _) _).alloc (by simp) _⟩)

end Go.Proofs.YtfcppchjikmioaaGreat.PngChecks
