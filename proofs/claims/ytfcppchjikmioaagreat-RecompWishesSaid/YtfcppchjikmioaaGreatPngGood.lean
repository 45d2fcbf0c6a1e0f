/-
  PngChecks: burnishref19.Good, and the law.
-/
import Derived.Test.YtfcppchjikmioaaGreatPngChecks
namespace Go.Proofs.YtfcppchjikmioaaGreat.PngChecks
open Go.RowKit Go.Proofs.YtfcppchjikmioaaGreat Go.ChangeShapes Go.WideShapes Go.ChangeAt

theorem not_fine {t : Int} {c : Bool} {x y w h f r l : Int} (hn : ¬ Fine t c x y w h f r l) :
    (t < 0 ∨ 7 < t ∨ ((0 ≤ t ∧ t ≤ 7) ∧ (f < 0 ∨ 2 < f ∨ ((0 ≤ f ∧ f ≤ 2) ∧ (r < 0 ∨ 65535 < r ∨ ((0 ≤ r ∧ r ≤ 65535) ∧ (l < -1 ∨ 1 < l))))))) ∨
    (0 ≤ t ∧ t ≤ 7 ∧ 0 ≤ f ∧ f ≤ 2 ∧ 0 ≤ r ∧ r ≤ 65535 ∧ -1 ≤ l ∧ l ≤ 1 ∧ Bad c x y w h) := by
  by_cases h1 : (t < 0 ∨ 7 < t ∨ ((0 ≤ t ∧ t ≤ 7) ∧ (f < 0 ∨ 2 < f ∨ ((0 ≤ f ∧ f ≤ 2) ∧ (r < 0 ∨ 65535 < r ∨ ((0 ≤ r ∧ r ≤ 65535) ∧ (l < -1 ∨ 1 < l)))))))
  · exact .inl h1
  · refine .inr ?_
    have e : 0 ≤ t ∧ t ≤ 7 ∧ 0 ≤ f ∧ f ≤ 2 ∧ 0 ≤ r ∧ r ≤ 65535 ∧ -1 ≤ l ∧ l ≤ 1 := by omega
    obtain ⟨e1, e2, e3, e4, e5, e6, e7, e8⟩ := e
    refine ⟨e1, e2, e3, e4, e5, e6, e7, e8, ?_⟩
    by_cases hb : Bad c x y w h
    · exact hb
    · unfold Bad at hb
      refine absurd ⟨e1, e2, e3, e4, e5, e6, e7, e8, by omega, by omega, by omega, by omega, by omega, by omega, fun hc => ?_, fun hc => ?_⟩ hn <;> simp [hc] at hb <;> omega

set_option maxRecDepth 100000 in
set_option maxHeartbeats 1000000 in
theorem good_yes (t : Int) (p c : Bool) (x y w h : Int) (b : Bool) (f r l : Int) (hf : Fine t c x y w h f r l) (W : World) :
    Calls Tryz.prog 21 #[ordv t p c x y w h b f r l] W fun e w' => e = .returned (.bool true) ∧ Below W.heap.size W w' := by
  obtain ⟨t0, t7, f0, f2, r0, r1, l0, l1, x0, y0, x1, y1, w1, h1, cw, ch⟩ := hf
  cases c
  case' true =>
    have w0 := cw rfl
    have h0 := ch rfl
  all_goals
    clear cw ch
    go_enter Tryz.func21, Tryz.ntmps21
    go_wp2
    go_ret
    exact ⟨rfl, (Below.refl _ _).alloc (Nat.le_refl _) _⟩

set_option maxRecDepth 100000 in
set_option maxHeartbeats 4000000 in
theorem good_no (t : Int) (p c : Bool) (x y w h : Int) (b : Bool) (f r l : Int) (hf : ¬ Fine t c x y w h f r l) (W : World) :
    Calls Tryz.prog 21 #[ordv t p c x y w h b f r l] W fun e w' => e = .returned (.bool false) ∧ Below W.heap.size W w' := by
  rcases not_fine hf with h1 | ⟨t0, t7, f0, f2, r0, r1, l0, l1, hb⟩
  · rcases h1 with hb | hb | ⟨⟨t0, t7⟩, hb | hb | ⟨⟨f0, f2⟩, hb | hb | ⟨⟨r0, r1⟩, hb | hb⟩⟩⟩
    all_goals
      clear hf
      go_enter Tryz.func21, Tryz.ntmps21
      go_wp2
      go_ret
      exact ⟨rfl, (Below.refl _ _).alloc (Nat.le_refl _) _⟩
  · clear hf
    have hb' : x < 0 ∨ y < 0 ∨ 65535 < x ∨ 65535 < y ∨ 65535 < w ∨ 65535 < h ∨ (c = true ∧ w < 1) ∨ (c = true ∧ 1 ≤ w ∧ h < 1) := by
      unfold Bad at hb
      rcases hb with hb | hb | hb | hb | hb | hb | ⟨hc, hb⟩
      · exact .inl hb
      · exact .inr (.inl hb)
      · exact .inr (.inr (.inl hb))
      · exact .inr (.inr (.inr (.inl hb)))
      · exact .inr (.inr (.inr (.inr (.inl hb))))
      · exact .inr (.inr (.inr (.inr (.inr (.inl hb)))))
      · by_cases hw : w < 1
        · exact .inr (.inr (.inr (.inr (.inr (.inr (.inl ⟨hc, hw⟩))))))
        · exact .inr (.inr (.inr (.inr (.inr (.inr (.inr ⟨hc, by omega, by omega⟩))))))
    clear hb
    rcases hb' with hb | hb | hb | hb | hb | hb | ⟨rfl, hb⟩ | ⟨rfl, hb, hb2⟩
    all_goals
      go_enter Tryz.func21, Tryz.ntmps21
      go_wp2
      all_goals (go_ret; exact ⟨ret_bool (by first | rfl | (simp; omega)), (Below.refl _ _).alloc (Nat.le_refl _) _⟩)

end Go.Proofs.YtfcppchjikmioaaGreat.PngChecks
