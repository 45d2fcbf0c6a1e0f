/-
  head.Check and burnishref13.Check.
-/
import Derived.Test.YtphhoihhmphbdaaHead
import Derived.Test.YtphhoihhmphbdaaBase
import Derived.BigRegion
namespace Go.Proofs.Ytphhoihhmphbdaa
open Go.RowKit

/-- what is wrong with a head -/
def headErr (w h d c l : Int) : Int := if w < 1 ∨ h < 1 ∨ d ∉ dl c ∨ l < 0 ∨ 1 < l then 2 else if 65535 < w ∨ 65535 < h ∨ 262144 < w * h then 4 else 0
def HcEnd (w h d c l : Int) (W : World) (e : Ending) (w' : World) : Prop := e = .returned (errv (headErr w h d c l)) ∧ Below W.heap.size W w'
theorem hcEnd2 {w h d c l : Int} {W w' : World} (hh : headErr w h d c l = 2) (hb : Below W.heap.size W w') : HcEnd w h d c l W (.returned (.iface 42 (.int .i64 2))) w' := by unfold HcEnd; rw [hh]; exact ⟨rfl, hb⟩
theorem hcEnd4 {w h d c l : Int} {W w' : World} (hh : headErr w h d c l = 4) (hb : Below W.heap.size W w') : HcEnd w h d c l W (.returned (.iface 42 (.int .i64 4))) w' := by unfold HcEnd; rw [hh]; exact ⟨rfl, hb⟩
theorem hcEnd0 {w h d c l : Int} {W w' : World} (hh : headErr w h d c l = 0) (hb : Below W.heap.size W w') : HcEnd w h d c l W (.returned .nilIface) w' := by unfold HcEnd; rw [hh]; exact ⟨rfl, hb⟩
set_option maxRecDepth 100000 in
set_option maxHeartbeats 2000000 in
theorem hc_w (w h d c l : Int) (W : World) (h1 : w < 1) :
    Calls Try.prog 76 #[.agg #[.int .i64 w, .int .i64 h, .int .i64 d, .int .i64 c, .int .i64 l]] W (HcEnd w h d c l W) := by
  have Hn := hid (show headErr w h d c l = 2 by unfold headErr; rw [if_pos (.inl h1)])
  have d1 : decide (w < 1) = true := decide_eq_true h1
  go_enter Try.func76, Try.ntmps76
  go_wp2_with fail
  go_quiet (fail)
  go_wp2
  go_ret
  exact hcEnd2 Hn.out (below_drewN ((Below.refl _ _).alloc (Nat.le_refl _) _) nq)

set_option maxRecDepth 100000 in
set_option maxHeartbeats 2000000 in
theorem hc_h (w h d c l : Int) (W : World) (h1 : ¬ w < 1) (h2 : h < 1) :
    Calls Try.prog 76 #[.agg #[.int .i64 w, .int .i64 h, .int .i64 d, .int .i64 c, .int .i64 l]] W (HcEnd w h d c l W) := by
  have Hn := hid (show headErr w h d c l = 2 by unfold headErr; rw [if_pos (.inr (.inl h2))])
  have d1 : decide (w < 1) = false := decide_eq_false h1
  have d2 : decide (h < 1) = true := decide_eq_true h2
  go_enter Try.func76, Try.ntmps76
  go_wp2_with fail
  go_quiet (fail)
  go_wp2
  go_ret
  exact hcEnd2 Hn.out (below_drewN ((Below.refl _ _).alloc (Nat.le_refl _) _) nq)

theorem dl_le (c : Int) : (dl c).length ≤ 1000000 := by unfold dl; (repeat' split) <;> simp

set_option maxRecDepth 100000 in
set_option maxHeartbeats 2000000 in
theorem hc_pair (w h d c l : Int) (W : World) (h1 : ¬ w < 1) (h2 : ¬ h < 1) (h3 : d ∉ dl c) :
    Calls Try.prog 76 #[.agg #[.int .i64 w, .int .i64 h, .int .i64 d, .int .i64 c, .int .i64 l]] W (HcEnd w h d c l W) := by
  have Hn := hid (show headErr w h d c l = 2 by unfold headErr; rw [if_pos (.inr (.inr (.inl h3)))])
  have d1 : decide (w < 1) = false := decide_eq_false h1
  have d2 : decide (h < 1) = false := decide_eq_false h2
  have D3 := hid (show decide (d ∈ dl c) = false from decide_eq_false h3)
  clear h3
  go_enter Try.func76, Try.ntmps76
  go_wp2_with fail
  first | go_region_with (first
    | (go_at_call 114; refine (hdepths_any c _).mono ?_; rintro e w1 ⟨A1, c1, rfl, hr1, hb1⟩; obtain ⟨hc1, hf1⟩ := bcell hb1; have q0 := (hc1 W.heap.size 0 (by simp)).trans ((Blk.new W 23 _).cell 0); have q1 := (hc1 W.heap.size 1 (by simp)).trans ((Blk.new W 23 _).cell 1); have q2 := (hc1 W.heap.size 2 (by simp)).trans ((Blk.new W 23 _).cell 2); have q3 := (hc1 W.heap.size 3 (by simp)).trans ((Blk.new W 23 _).cell 3); have q4 := (hc1 W.heap.size 4 (by simp)).trans ((Blk.new W 23 _).cell 4); have Hr1 := hid hr1; have Hb1 := hid hb1; clear hr1 hb1 hc1 hf1)
    | (go_at_call 113; refine (contains_any A1 c1 (dl c) d _ _ Hr1.out (dl_le c) false D3.out.symm).mono ?_; rintro e w2 ⟨rfl, rfl⟩)) | fail
  all_goals
    go_wp2
    go_ret
    exact hcEnd2 Hn.out (((Below.refl _ _).alloc (Nat.le_refl _) _).drew.trans (Hb1.out.mono (by simp)))

set_option maxRecDepth 100000 in
set_option maxHeartbeats 2000000 in
theorem hc_l0 (w h d c l : Int) (W : World) (h1 : ¬ w < 1) (h2 : ¬ h < 1) (h3 : d ∈ dl c) (h4 : l < 0) :
    Calls Try.prog 76 #[.agg #[.int .i64 w, .int .i64 h, .int .i64 d, .int .i64 c, .int .i64 l]] W (HcEnd w h d c l W) := by
  have Hn := hid (show headErr w h d c l = 2 by unfold headErr; rw [if_pos (.inr (.inr (.inr (.inl h4))))])
  have d1 : decide (w < 1) = false := decide_eq_false h1
  have d2 : decide (h < 1) = false := decide_eq_false h2
  have D3 := hid (show decide (d ∈ dl c) = true from decide_eq_true h3)
  clear h3
  have d4 : decide (l < 0) = true := decide_eq_true h4
  go_enter Try.func76, Try.ntmps76
  go_wp2_with fail
  first | go_region_with (first
    | (go_at_call 114; refine (hdepths_any c _).mono ?_; rintro e w1 ⟨A1, c1, rfl, hr1, hb1⟩; obtain ⟨hc1, hf1⟩ := bcell hb1; have q0 := (hc1 W.heap.size 0 (by simp)).trans ((Blk.new W 23 _).cell 0); have q1 := (hc1 W.heap.size 1 (by simp)).trans ((Blk.new W 23 _).cell 1); have q2 := (hc1 W.heap.size 2 (by simp)).trans ((Blk.new W 23 _).cell 2); have q3 := (hc1 W.heap.size 3 (by simp)).trans ((Blk.new W 23 _).cell 3); have q4 := (hc1 W.heap.size 4 (by simp)).trans ((Blk.new W 23 _).cell 4); have Hr1 := hid hr1; have Hb1 := hid hb1; clear hr1 hb1 hc1 hf1)
    | (go_at_call 113; refine (contains_any A1 c1 (dl c) d _ _ Hr1.out (dl_le c) true D3.out.symm).mono ?_; rintro e w2 ⟨rfl, rfl⟩)) | fail
  all_goals
    go_wp2
    go_ret
    exact hcEnd2 Hn.out (((Below.refl _ _).alloc (Nat.le_refl _) _).drew.trans (Hb1.out.mono (by simp)))

set_option maxRecDepth 100000 in
set_option maxHeartbeats 2000000 in
theorem hc_l1 (w h d c l : Int) (W : World) (h1 : ¬ w < 1) (h2 : ¬ h < 1) (h3 : d ∈ dl c) (h4 : 1 < l) :
    Calls Try.prog 76 #[.agg #[.int .i64 w, .int .i64 h, .int .i64 d, .int .i64 c, .int .i64 l]] W (HcEnd w h d c l W) := by
  have Hn := hid (show headErr w h d c l = 2 by unfold headErr; rw [if_pos (.inr (.inr (.inr (.inr h4))))])
  have d1 : decide (w < 1) = false := decide_eq_false h1
  have d2 : decide (h < 1) = false := decide_eq_false h2
  have D3 := hid (show decide (d ∈ dl c) = true from decide_eq_true h3)
  clear h3
  have d4 : decide (l < 0) = false := decide_eq_false (by omega)
  have d5 : decide (1 < l) = true := decide_eq_true h4
  go_enter Try.func76, Try.ntmps76
  go_wp2_with fail
  go_region_held3 (fun w' => w'.cell? ⟨W.heap.size, 0, none⟩ = some (.int .i64 w) ∧ w'.cell? ⟨W.heap.size, 1, none⟩ = some (.int .i64 h) ∧ w'.cell? ⟨W.heap.size, 2, none⟩ = some (.int .i64 d) ∧ w'.cell? ⟨W.heap.size, 3, none⟩ = some (.int .i64 c) ∧ w'.cell? ⟨W.heap.size, 4, none⟩ = some (.int .i64 l)) (first | go_keep | exact ⟨q0, q1, q2, q3, q4⟩) (first
    | (go_at_call 114; refine (hdepths_any c _).mono ?_; rintro e w1 ⟨A1, c1, rfl, hr1, hb1⟩; obtain ⟨hc1, hf1⟩ := bcell hb1; have q0 := (hc1 W.heap.size 0 (by simp)).trans ((Blk.new W 23 _).cell 0); have q1 := (hc1 W.heap.size 1 (by simp)).trans ((Blk.new W 23 _).cell 1); have q2 := (hc1 W.heap.size 2 (by simp)).trans ((Blk.new W 23 _).cell 2); have q3 := (hc1 W.heap.size 3 (by simp)).trans ((Blk.new W 23 _).cell 3); have q4 := (hc1 W.heap.size 4 (by simp)).trans ((Blk.new W 23 _).cell 4); have Hr1 := hid hr1; have Hb1 := hid hb1; clear hr1 hb1 hc1 hf1)
    | (go_at_call 113; refine (contains_any A1 c1 (dl c) d _ _ Hr1.out (dl_le c) true D3.out.symm).mono ?_; rintro e w2 ⟨rfl, rfl⟩))
  all_goals
    go_wp2
    go_ret
    exact hcEnd2 Hn.out (((Below.refl _ _).alloc (Nat.le_refl _) _).drew.trans (Hb1.out.mono (by simp)))

set_option maxRecDepth 100000 in
set_option maxHeartbeats 2000000 in
theorem hc_w4 (w h d c l : Int) (W : World) (h1 : ¬ w < 1) (h2 : ¬ h < 1) (h3 : d ∈ dl c) (h4 : ¬ l < 0) (h5 : ¬ 1 < l) (h6 : 65535 < w) :
    Calls Try.prog 76 #[.agg #[.int .i64 w, .int .i64 h, .int .i64 d, .int .i64 c, .int .i64 l]] W (HcEnd w h d c l W) := by
  have Hn := hid (show headErr w h d c l = 4 by unfold headErr; rw [if_neg (by rintro (h | h | h | h | h) <;> first | omega | exact h h3), if_pos (.inl h6)])
  have d6 : decide (65535 < w) = true := decide_eq_true h6
  have d1 : decide (w < 1) = false := decide_eq_false h1
  have d2 : decide (h < 1) = false := decide_eq_false h2
  have D3 := hid (show decide (d ∈ dl c) = true from decide_eq_true h3)
  clear h3
  have d4 : decide (l < 0) = false := decide_eq_false h4
  have d5 : decide (1 < l) = false := decide_eq_false h5
  go_enter Try.func76, Try.ntmps76
  go_wp2_with fail
  go_region_held3 (fun w' => w'.cell? ⟨W.heap.size, 0, none⟩ = some (.int .i64 w) ∧ w'.cell? ⟨W.heap.size, 1, none⟩ = some (.int .i64 h) ∧ w'.cell? ⟨W.heap.size, 2, none⟩ = some (.int .i64 d) ∧ w'.cell? ⟨W.heap.size, 3, none⟩ = some (.int .i64 c) ∧ w'.cell? ⟨W.heap.size, 4, none⟩ = some (.int .i64 l)) (first | go_keep | exact ⟨q0, q1, q2, q3, q4⟩) (first
    | (go_at_call 114; refine (hdepths_any c _).mono ?_; rintro e w1 ⟨A1, c1, rfl, hr1, hb1⟩; obtain ⟨hc1, hf1⟩ := bcell hb1; have q0 := (hc1 W.heap.size 0 (by simp)).trans ((Blk.new W 23 _).cell 0); have q1 := (hc1 W.heap.size 1 (by simp)).trans ((Blk.new W 23 _).cell 1); have q2 := (hc1 W.heap.size 2 (by simp)).trans ((Blk.new W 23 _).cell 2); have q3 := (hc1 W.heap.size 3 (by simp)).trans ((Blk.new W 23 _).cell 3); have q4 := (hc1 W.heap.size 4 (by simp)).trans ((Blk.new W 23 _).cell 4); have Hr1 := hid hr1; have Hb1 := hid hb1; clear hr1 hb1 hc1 hf1)
    | (go_at_call 113; refine (contains_any A1 c1 (dl c) d _ _ Hr1.out (dl_le c) true D3.out.symm).mono ?_; rintro e w2 ⟨rfl, rfl⟩))
  all_goals
    go_wp2
    go_ret
    exact hcEnd4 Hn.out (((Below.refl _ _).alloc (Nat.le_refl _) _).drew.trans (Hb1.out.mono (by simp)))

set_option maxRecDepth 100000 in
set_option maxHeartbeats 2000000 in
theorem hc_h4 (w h d c l : Int) (W : World) (h1 : ¬ w < 1) (h2 : ¬ h < 1) (h3 : d ∈ dl c) (h4 : ¬ l < 0) (h5 : ¬ 1 < l) (h6 : ¬ 65535 < w) (h7 : 65535 < h) :
    Calls Try.prog 76 #[.agg #[.int .i64 w, .int .i64 h, .int .i64 d, .int .i64 c, .int .i64 l]] W (HcEnd w h d c l W) := by
  have Hn := hid (show headErr w h d c l = 4 by unfold headErr; rw [if_neg (by rintro (h | h | h | h | h) <;> first | omega | exact h h3), if_pos (.inr (.inl h7))])
  have d6 : decide (65535 < w) = false := decide_eq_false h6
  have d7 : decide (65535 < h) = true := decide_eq_true h7
  have d1 : decide (w < 1) = false := decide_eq_false h1
  have d2 : decide (h < 1) = false := decide_eq_false h2
  have D3 := hid (show decide (d ∈ dl c) = true from decide_eq_true h3)
  clear h3
  have d4 : decide (l < 0) = false := decide_eq_false h4
  have d5 : decide (1 < l) = false := decide_eq_false h5
  go_enter Try.func76, Try.ntmps76
  go_wp2_with fail
  go_region_held3 (fun w' => w'.cell? ⟨W.heap.size, 0, none⟩ = some (.int .i64 w) ∧ w'.cell? ⟨W.heap.size, 1, none⟩ = some (.int .i64 h) ∧ w'.cell? ⟨W.heap.size, 2, none⟩ = some (.int .i64 d) ∧ w'.cell? ⟨W.heap.size, 3, none⟩ = some (.int .i64 c) ∧ w'.cell? ⟨W.heap.size, 4, none⟩ = some (.int .i64 l)) (first | go_keep | exact ⟨q0, q1, q2, q3, q4⟩) (first
    | (go_at_call 114; refine (hdepths_any c _).mono ?_; rintro e w1 ⟨A1, c1, rfl, hr1, hb1⟩; obtain ⟨hc1, hf1⟩ := bcell hb1; have q0 := (hc1 W.heap.size 0 (by simp)).trans ((Blk.new W 23 _).cell 0); have q1 := (hc1 W.heap.size 1 (by simp)).trans ((Blk.new W 23 _).cell 1); have q2 := (hc1 W.heap.size 2 (by simp)).trans ((Blk.new W 23 _).cell 2); have q3 := (hc1 W.heap.size 3 (by simp)).trans ((Blk.new W 23 _).cell 3); have q4 := (hc1 W.heap.size 4 (by simp)).trans ((Blk.new W 23 _).cell 4); have Hr1 := hid hr1; have Hb1 := hid hb1; clear hr1 hb1 hc1 hf1)
    | (go_at_call 113; refine (contains_any A1 c1 (dl c) d _ _ Hr1.out (dl_le c) true D3.out.symm).mono ?_; rintro e w2 ⟨rfl, rfl⟩))
  all_goals
    go_wp2
    go_ret
    exact hcEnd4 Hn.out (((Below.refl _ _).alloc (Nat.le_refl _) _).drew.trans (Hb1.out.mono (by simp)))

set_option maxRecDepth 100000 in
set_option maxHeartbeats 2000000 in
theorem hc_m4 (w h d c l : Int) (W : World) (h1 : ¬ w < 1) (h2 : ¬ h < 1) (h3 : d ∈ dl c) (h4 : ¬ l < 0) (h5 : ¬ 1 < l) (h6 : ¬ 65535 < w) (h7 : ¬ 65535 < h) (h8 : 262144 < w * h) :
    Calls Try.prog 76 #[.agg #[.int .i64 w, .int .i64 h, .int .i64 d, .int .i64 c, .int .i64 l]] W (HcEnd w h d c l W) := by
  have Hn := hid (show headErr w h d c l = 4 by unfold headErr; rw [if_neg (by rintro (h | h | h | h | h) <;> first | omega | exact h h3), if_pos (.inr (.inr h8))])
  have d6 : decide (65535 < w) = false := decide_eq_false h6
  have d7 : decide (65535 < h) = false := decide_eq_false h7
  have m0 : 0 ≤ w * h := Int.mul_nonneg (by omega) (by omega)
  have m1 : w * h ≤ 65535 * 65535 := Int.mul_le_mul (by omega) (by omega) (by omega) (by omega)
  have d8 : decide (262144 < w * h) = true := decide_eq_true h8
  have d1 : decide (w < 1) = false := decide_eq_false h1
  have d2 : decide (h < 1) = false := decide_eq_false h2
  have D3 := hid (show decide (d ∈ dl c) = true from decide_eq_true h3)
  clear h3
  have d4 : decide (l < 0) = false := decide_eq_false h4
  have d5 : decide (1 < l) = false := decide_eq_false h5
  go_enter Try.func76, Try.ntmps76
  go_wp2_with fail
  go_region_held3 (fun w' => w'.cell? ⟨W.heap.size, 0, none⟩ = some (.int .i64 w) ∧ w'.cell? ⟨W.heap.size, 1, none⟩ = some (.int .i64 h) ∧ w'.cell? ⟨W.heap.size, 2, none⟩ = some (.int .i64 d) ∧ w'.cell? ⟨W.heap.size, 3, none⟩ = some (.int .i64 c) ∧ w'.cell? ⟨W.heap.size, 4, none⟩ = some (.int .i64 l)) (first | go_keep | exact ⟨q0, q1, q2, q3, q4⟩) (first
    | (go_at_call 114; refine (hdepths_any c _).mono ?_; rintro e w1 ⟨A1, c1, rfl, hr1, hb1⟩; obtain ⟨hc1, hf1⟩ := bcell hb1; have q0 := (hc1 W.heap.size 0 (by simp)).trans ((Blk.new W 23 _).cell 0); have q1 := (hc1 W.heap.size 1 (by simp)).trans ((Blk.new W 23 _).cell 1); have q2 := (hc1 W.heap.size 2 (by simp)).trans ((Blk.new W 23 _).cell 2); have q3 := (hc1 W.heap.size 3 (by simp)).trans ((Blk.new W 23 _).cell 3); have q4 := (hc1 W.heap.size 4 (by simp)).trans ((Blk.new W 23 _).cell 4); have Hr1 := hid hr1; have Hb1 := hid hb1; clear hr1 hb1 hc1 hf1)
    | (go_at_call 113; refine (contains_any A1 c1 (dl c) d _ _ Hr1.out (dl_le c) true D3.out.symm).mono ?_; rintro e w2 ⟨rfl, rfl⟩))
  all_goals
    go_wp2
    go_ret
    exact hcEnd4 Hn.out (((Below.refl _ _).alloc (Nat.le_refl _) _).drew.trans (Hb1.out.mono (by simp)))

set_option maxRecDepth 100000 in
set_option maxHeartbeats 2000000 in
theorem hc_ok (w h d c l : Int) (W : World) (h1 : ¬ w < 1) (h2 : ¬ h < 1) (h3 : d ∈ dl c) (h4 : ¬ l < 0) (h5 : ¬ 1 < l) (h6 : ¬ 65535 < w) (h7 : ¬ 65535 < h) (h8 : ¬ 262144 < w * h) :
    Calls Try.prog 76 #[.agg #[.int .i64 w, .int .i64 h, .int .i64 d, .int .i64 c, .int .i64 l]] W (HcEnd w h d c l W) := by
  have Hn := hid (show headErr w h d c l = 0 by unfold headErr; rw [if_neg (by rintro (h | h | h | h | h) <;> first | omega | exact h h3), if_neg (by omega)])
  have d6 : decide (65535 < w) = false := decide_eq_false h6
  have d7 : decide (65535 < h) = false := decide_eq_false h7
  have m0 : 0 ≤ w * h := Int.mul_nonneg (by omega) (by omega)
  have m1 : w * h ≤ 65535 * 65535 := Int.mul_le_mul (by omega) (by omega) (by omega) (by omega)
  have d8 : decide (262144 < w * h) = false := decide_eq_false h8
  have d1 : decide (w < 1) = false := decide_eq_false h1
  have d2 : decide (h < 1) = false := decide_eq_false h2
  have D3 := hid (show decide (d ∈ dl c) = true from decide_eq_true h3)
  clear h3
  have d4 : decide (l < 0) = false := decide_eq_false h4
  have d5 : decide (1 < l) = false := decide_eq_false h5
  go_enter Try.func76, Try.ntmps76
  go_wp2_with fail
  go_region_held3 (fun w' => w'.cell? ⟨W.heap.size, 0, none⟩ = some (.int .i64 w) ∧ w'.cell? ⟨W.heap.size, 1, none⟩ = some (.int .i64 h) ∧ w'.cell? ⟨W.heap.size, 2, none⟩ = some (.int .i64 d) ∧ w'.cell? ⟨W.heap.size, 3, none⟩ = some (.int .i64 c) ∧ w'.cell? ⟨W.heap.size, 4, none⟩ = some (.int .i64 l)) (first | go_keep | exact ⟨q0, q1, q2, q3, q4⟩) (first
    | (go_at_call 114; refine (hdepths_any c _).mono ?_; rintro e w1 ⟨A1, c1, rfl, hr1, hb1⟩; obtain ⟨hc1, hf1⟩ := bcell hb1; have q0 := (hc1 W.heap.size 0 (by simp)).trans ((Blk.new W 23 _).cell 0); have q1 := (hc1 W.heap.size 1 (by simp)).trans ((Blk.new W 23 _).cell 1); have q2 := (hc1 W.heap.size 2 (by simp)).trans ((Blk.new W 23 _).cell 2); have q3 := (hc1 W.heap.size 3 (by simp)).trans ((Blk.new W 23 _).cell 3); have q4 := (hc1 W.heap.size 4 (by simp)).trans ((Blk.new W 23 _).cell 4); have Hr1 := hid hr1; have Hb1 := hid hb1; clear hr1 hb1 hc1 hf1)
    | (go_at_call 113; refine (contains_any A1 c1 (dl c) d _ _ Hr1.out (dl_le c) true D3.out.symm).mono ?_; rintro e w2 ⟨rfl, rfl⟩))
  all_goals
    go_wp2
    go_ret
    exact hcEnd0 Hn.out (((Below.refl _ _).alloc (Nat.le_refl _) _).drew.trans (Hb1.out.mono (by simp)))

theorem headCheck_any (w h d c l : Int) (W : World) :
    Calls Try.prog 76 #[.agg #[.int .i64 w, .int .i64 h, .int .i64 d, .int .i64 c, .int .i64 l]] W (HcEnd w h d c l W) := by
  by_cases h1 : w < 1
  · exact hc_w w h d c l W h1
  by_cases h2 : h < 1
  · exact hc_h w h d c l W h1 h2
  by_cases h3 : d ∉ dl c
  · exact hc_pair w h d c l W h1 h2 h3
  have h3 : d ∈ dl c := Decidable.of_not_not h3
  by_cases h4 : l < 0
  · exact hc_l0 w h d c l W h1 h2 h3 h4
  by_cases h5 : 1 < l
  · exact hc_l1 w h d c l W h1 h2 h3 h5
  by_cases h6 : 65535 < w
  · exact hc_w4 w h d c l W h1 h2 h3 h4 h5 h6
  by_cases h7 : 65535 < h
  · exact hc_h4 w h d c l W h1 h2 h3 h4 h5 h6 h7
  by_cases h8 : 262144 < w * h
  · exact hc_m4 w h d c l W h1 h2 h3 h4 h5 h6 h7 h8
  · exact hc_ok w h d c l W h1 h2 h3 h4 h5 h6 h7 h8

end Go.Proofs.Ytphhoihhmphbdaa
