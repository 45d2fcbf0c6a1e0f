/-
  lace.side, along, grids, Size; head.RowSize.
-/
import Derived.Test.YtphhoihhmphbdaaForm
import Derived.Laws.Tables
import Derived.Great.BuildSlice
import Derived.Laws.Rows
namespace Go.Proofs.Ytphhoihhmphbdaa
open Go.RowKit

def sideB (n : Int) : Bool := decide (1 ≤ n ∧ n ≤ 65535)
theorem side_any (n : Int) (W : World) : Calls Try.prog 80 #[.int .i64 n] W fun e w' => e = .returned (.bool (sideB n)) ∧ W = w' := by
  by_cases h0 : 1 ≤ n
  · by_cases h1 : n ≤ 65535
    · go_enter Try.func80, Try.ntmps80
      go_wp2
      go_ret
      exact ⟨ret_bool (by unfold sideB; simp [h0, h1]), rfl⟩
    · go_enter Try.func80, Try.ntmps80
      go_wp2
      go_ret
      exact ⟨ret_bool (by unfold sideB; simp; omega), rfl⟩
  · go_enter Try.func80, Try.ntmps80
    go_wp2
    go_ret
    exact ⟨ret_bool (by unfold sideB; simp; omega), rfl⟩

def alongM (n first step : Int) : Int := if n ≤ first then 0 else (n - first + step - 1) / step
theorem along_any (n first step : Int) (h1 : 1 ≤ n) (h2 : n ≤ 65535) (h3 : 0 ≤ first) (h4 : first ≤ 8) (h5 : 1 ≤ step) (h6 : step ≤ 8) (W : World) :
    Calls Try.prog 116 #[.int .i64 n, .int .i64 first, .int .i64 step] W fun e w' => e = .returned (.int .i64 (alongM n first step)) ∧ w' = W := by
  by_cases h : n ≤ first
  · have Hn := hid (show alongM n first step = 0 from if_pos h)
    go_enter Try.func116, Try.ntmps116
    go_wp2
    go_ret
    exact ⟨ret_int Hn.out.symm, rfl⟩
  · have Hn := hid (show alongM n first step = (n - first + step - 1) / step from if_neg h)
    have hne : (step == 0) = false := beq_eq_false_iff_ne.2 (by omega)
    have hd : 0 ≤ (n - first + step - 1) / step ∧ (n - first + step - 1) / step ≤ 70000 := ⟨Int.ediv_nonneg (by omega) (by omega), Int.le_trans (Int.ediv_le_self _ (by omega)) (by omega)⟩
    obtain ⟨hd1, hd2⟩ := hd
    go_enter Try.func116, Try.ntmps116
    go_wp2
    go_ret
    exact ⟨ret_int Hn.out.symm, rfl⟩
theorem along_bd (n first step : Int) (h1 : 1 ≤ n) (h2 : n ≤ 65535) (h3 : 0 ≤ first) (h4 : first ≤ 8) (h5 : 1 ≤ step) (h6 : step ≤ 8) : 0 ≤ alongM n first step ∧ alongM n first step ≤ 65535 := by
  unfold alongM
  split
  · omega
  · refine ⟨Int.ediv_nonneg (by omega) (by omega), ?_⟩
    have : (n - first + step - 1) / step < 65536 := by
      rw [Int.ediv_lt_iff_lt_mul (by omega)]
      have : (65536 : Int) * 1 ≤ 65536 * step := Int.mul_le_mul_of_nonneg_left h5 (by omega)
      omega
    omega

/-- a pass's grid -/
def gridM : Nat → Int × Int × Int × Int
  | 0 => (0, 8, 0, 8)
  | 1 => (4, 8, 0, 8)
  | 2 => (0, 4, 4, 8)
  | 3 => (2, 4, 0, 4)
  | 4 => (0, 2, 2, 4)
  | 5 => (1, 2, 0, 2)
  | _ => (0, 1, 1, 2)
/-- a pass's columns and rows -/
def passM (w h : Int) (p : Nat) : Int × Int :=
  if alongM w (gridM p).1 (gridM p).2.1 = 0 ∨ alongM h (gridM p).2.2.1 (gridM p).2.2.2 = 0 then (0, 0) else (alongM w (gridM p).1 (gridM p).2.1, alongM h (gridM p).2.2.1 (gridM p).2.2.2)
theorem grid_bd (p : Nat) : 0 ≤ (gridM p).1 ∧ (gridM p).1 ≤ 8 ∧ 1 ≤ (gridM p).2.1 ∧ (gridM p).2.1 ≤ 8 ∧ 0 ≤ (gridM p).2.2.1 ∧ (gridM p).2.2.1 ≤ 8 ∧ 1 ≤ (gridM p).2.2.2 ∧ (gridM p).2.2.2 ≤ 8 := by
  unfold gridM; split <;> decide
theorem pass_bd (w h : Int) (p : Nat) (w1 : 1 ≤ w) (w2 : w ≤ 65535) (h1 : 1 ≤ h) (h2 : h ≤ 65535) : 0 ≤ (passM w h p).1 ∧ (passM w h p).1 ≤ 65535 ∧ 0 ≤ (passM w h p).2 ∧ (passM w h p).2 ≤ 65535 := by
  obtain ⟨g1, g2, g3, g4, g5, g6, g7, g8⟩ := grid_bd p
  have a := along_bd w _ _ w1 w2 g1 g2 g3 g4
  have b := along_bd h _ _ h1 h2 g5 g6 g7 g8
  unfold passM
  split
  · simp
  · exact ⟨a.1, a.2, b.1, b.2⟩
set_option maxRecDepth 100000 in
theorem grids_any (W : World) : Calls Try.prog 78 #[] W fun e w' => e = .returned (.agg #[.int .i64 0, .int .i64 8, .int .i64 0, .int .i64 8, .int .i64 4, .int .i64 8, .int .i64 0, .int .i64 8, .int .i64 0, .int .i64 4, .int .i64 4, .int .i64 8, .int .i64 2, .int .i64 4, .int .i64 0, .int .i64 4, .int .i64 0, .int .i64 2, .int .i64 2, .int .i64 4, .int .i64 1, .int .i64 2, .int .i64 0, .int .i64 2, .int .i64 0, .int .i64 1, .int .i64 1, .int .i64 2]) ∧ Below W.heap.size W w' := by
  have Hb := hid (Blk.new W 120 #[.int .i64 0, .int .i64 0, .int .i64 0, .int .i64 0, .int .i64 0, .int .i64 0, .int .i64 0, .int .i64 0, .int .i64 0, .int .i64 0, .int .i64 0, .int .i64 0, .int .i64 0, .int .i64 0, .int .i64 0, .int .i64 0, .int .i64 0, .int .i64 0, .int .i64 0, .int .i64 0, .int .i64 0, .int .i64 0, .int .i64 0, .int .i64 0, .int .i64 0, .int .i64 0, .int .i64 0, .int .i64 0])
  go_enter Try.func78, Try.ntmps78
  go_upto_region 1 with (fail)
  go_wp2_with (first
    | (refine wpList_buildTo rfl 119 _ rfl (some 1) rfl #[.int .i64 0, .int .i64 8, .int .i64 0, .int .i64 8] (by kernel_rfl) ?_)
    | (refine wpList_buildTo rfl 119 _ rfl (some 2) rfl #[.int .i64 4, .int .i64 8, .int .i64 0, .int .i64 8] (by kernel_rfl) ?_)
    | (refine wpList_buildTo rfl 119 _ rfl (some 3) rfl #[.int .i64 0, .int .i64 4, .int .i64 4, .int .i64 8] (by kernel_rfl) ?_)
    | (refine wpList_buildTo rfl 119 _ rfl (some 4) rfl #[.int .i64 2, .int .i64 4, .int .i64 0, .int .i64 4] (by kernel_rfl) ?_)
    | (refine wpList_buildTo rfl 119 _ rfl (some 5) rfl #[.int .i64 0, .int .i64 2, .int .i64 2, .int .i64 4] (by kernel_rfl) ?_)
    | (refine wpList_buildTo rfl 119 _ rfl (some 6) rfl #[.int .i64 1, .int .i64 2, .int .i64 0, .int .i64 2] (by kernel_rfl) ?_)
    | (refine wpList_buildTo rfl 119 _ rfl (some 7) rfl #[.int .i64 0, .int .i64 1, .int .i64 1, .int .i64 2] (by kernel_rfl) ?_)
    | (refine wpList_buildTo rfl 120 _ rfl (some 8) rfl #[.int .i64 0, .int .i64 8, .int .i64 0, .int .i64 8, .int .i64 4, .int .i64 8, .int .i64 0, .int .i64 8, .int .i64 0, .int .i64 4, .int .i64 4, .int .i64 8, .int .i64 2, .int .i64 4, .int .i64 0, .int .i64 4, .int .i64 0, .int .i64 2, .int .i64 2, .int .i64 4, .int .i64 1, .int .i64 2, .int .i64 0, .int .i64 2, .int .i64 0, .int .i64 1, .int .i64 1, .int .i64 2] (by kernel_rfl) ?_)
    | (refine wpList_store_row rfl 120 (.tmp 0) (.tmp 8) rfl W.heap.size #[.int .i64 0, .int .i64 8, .int .i64 0, .int .i64 8, .int .i64 4, .int .i64 8, .int .i64 0, .int .i64 8, .int .i64 0, .int .i64 4, .int .i64 4, .int .i64 8, .int .i64 2, .int .i64 4, .int .i64 0, .int .i64 4, .int .i64 0, .int .i64 2, .int .i64 2, .int .i64 4, .int .i64 1, .int .i64 2, .int .i64 0, .int .i64 2, .int .i64 0, .int .i64 1, .int .i64 1, .int .i64 2] (by kernel_rfl) (by kernel_rfl) 120 #[.int .i64 0, .int .i64 0, .int .i64 0, .int .i64 0, .int .i64 0, .int .i64 0, .int .i64 0, .int .i64 0, .int .i64 0, .int .i64 0, .int .i64 0, .int .i64 0, .int .i64 0, .int .i64 0, .int .i64 0, .int .i64 0, .int .i64 0, .int .i64 0, .int .i64 0, .int .i64 0, .int .i64 0, .int .i64 0, .int .i64 0, .int .i64 0, .int .i64 0, .int .i64 0, .int .i64 0, .int .i64 0] Hb.out (by kernel_rfl) (by kernel_rfl) (by kernel_rfl) ?_))
  have hg := setRow_heap _ W.heap.size _ (#[.int .i64 0, .int .i64 8, .int .i64 0, .int .i64 8, .int .i64 4, .int .i64 8, .int .i64 0, .int .i64 8, .int .i64 0, .int .i64 4, .int .i64 4, .int .i64 8, .int .i64 2, .int .i64 4, .int .i64 0, .int .i64 4, .int .i64 0, .int .i64 2, .int .i64 2, .int .i64 4, .int .i64 1, .int .i64 2, .int .i64 0, .int .i64 2, .int .i64 0, .int .i64 1, .int .i64 1, .int .i64 2] : Array Value) 120 (0, 0) Hb.out
  refine bodyPost_ret (results_cell_row (p := 0) (ty := 120) (by kernel_rfl) _ _ W.heap.size 120 _ (0, 0) _ (by kernel_rfl) hg Try.underlying120 (by kernel_rfl) (by kernel_rfl)) (by kernel_rfl) ⟨rfl, ?_⟩
  exact below_setRow ((Below.refl _ _).alloc (Nat.le_refl _) _) (Nat.le_refl _) _

def PassEnd (w h : Int) (p : Nat) (W : World) (e : Ending) (w' : World) : Prop := e = .returned (.tuple #[.int .i64 (passM w h p).1, .int .i64 (passM w h p).2]) ∧ Below W.heap.size W w'
set_option maxRecDepth 100000 in
set_option maxHeartbeats 4000000 in
theorem size_any (w h : Int) (p : Nat) (hp : p < 7) (w1 : 1 ≤ w) (w2 : w ≤ 65535) (h1 : 1 ≤ h) (h2 : h ≤ 65535) (W : World) :
    Calls Try.prog 81 #[.int .i64 w, .int .i64 h, .int .i64 (p : Nat)] W (PassEnd w h p W) := by
  have Hs := hid (show sideB w = true from decide_eq_true ⟨w1, w2⟩)
  have Ht := hid (show sideB h = true from decide_eq_true ⟨h1, h2⟩)
  have hpp : p = 0 ∨ p = 1 ∨ p = 2 ∨ p = 3 ∨ p = 4 ∨ p = 5 ∨ p = 6 := by omega
  obtain ⟨g1, g2, g3, g4, g5, g6, g7, g8⟩ := grid_bd p
  have Hpd : Hid (passM w h p = if alongM w (gridM p).1 (gridM p).2.1 = 0 ∨ alongM h (gridM p).2.2.1 (gridM p).2.2.2 = 0 then (0, 0) else (alongM w (gridM p).1 (gridM p).2.1, alongM h (gridM p).2.2.1 (gridM p).2.2.2)) := rfl
  have ix : ∀ W' : World, (Instr.index 120 (.agg #[.int .i64 0, .int .i64 8, .int .i64 0, .int .i64 8, .int .i64 4, .int .i64 8, .int .i64 0, .int .i64 8, .int .i64 0, .int .i64 4, .int .i64 4, .int .i64 8, .int .i64 2, .int .i64 4, .int .i64 0, .int .i64 4, .int .i64 0, .int .i64 2, .int .i64 2, .int .i64 4, .int .i64 1, .int .i64 2, .int .i64 0, .int .i64 2, .int .i64 0, .int .i64 1, .int .i64 1, .int .i64 2]) (.int .i64 (p : Nat))).run Try.prog W' = .ok (.agg #[.int .i64 (gridM p).1, .int .i64 (gridM p).2.1, .int .i64 (gridM p).2.2.1, .int .i64 (gridM p).2.2.2]) W' := by
    intro W'
    rcases hpp with rfl | rfl | rfl | rfl | rfl | rfl | rfl <;> kernel_rfl
  generalize gridM p = g at *
  obtain ⟨ga, gb, gc, gd⟩ := g
  simp only at g1 g2 g3 g4 g5 g6 g7 g8 ix Hpd
  clear hpp
  go_enter Try.func81, Try.ntmps81
  go_wp2_with fail
  refine (side_any w _).mono ?_
  rintro e w' ⟨rfl, rfl⟩
  rw [Hs.out]
  go_wp2_with fail
  refine (side_any h _).mono ?_
  rintro e w' ⟨rfl, rfl⟩
  rw [Ht.out]
  go_wp2_with fail
  refine (grids_any _).mono ?_
  rintro e w3 ⟨rfl, hb⟩
  have Hb := hid hb
  clear hb
  go_wp2_with fail
  go_quiet ((go_at_call 116; exact Calls.quiet_of_same (along_any _ _ _ (by omega) (by omega) (by omega) (by omega) (by omega) (by omega) _)))
  have Hb2 := hid (below_drewN ((Hb.out).alloc Hb.out.size (.cells #[.int .i64 ga, .int .i64 gb, .int .i64 gc, .int .i64 gd] 119)) nq)
  by_cases a0 : alongM w ga gb = 0
  · have Hn := hid (show passM w h p = (0, 0) by rw [Hpd.out, if_pos (.inl a0)])
    have q : (alongM w ga gb == 0) = true := beq_iff_eq.2 a0
    clear a0
    go_wp2
    go_ret2
    exact ⟨by rw [Hn.out]; rfl, Hb2.out⟩
  have q : (alongM w ga gb == 0) = false := beq_eq_false_iff_ne.2 a0
  by_cases b0 : alongM h gc gd = 0
  · have Hn := hid (show passM w h p = (0, 0) by rw [Hpd.out, if_pos (.inr b0)])
    have q2 : (alongM h gc gd == 0) = true := beq_iff_eq.2 b0
    clear a0 b0
    go_wp2
    go_ret2
    exact ⟨by rw [Hn.out]; rfl, Hb2.out⟩
  · have Hn := hid (show passM w h p = (alongM w ga gb, alongM h gc gd) by rw [Hpd.out, if_neg (fun h => h.elim a0 b0)])
    have q2 : (alongM h gc gd == 0) = false := beq_eq_false_iff_ne.2 b0
    clear a0 b0
    go_wp2
    go_ret2
    exact ⟨by rw [Hn.out]; rfl, Hb2.out⟩

/-- a row's bytes -/
def rowM (w h d c l width : Int) : Int := if headErr w h d c l = 0 ∧ 1 ≤ width ∧ width ≤ 65535 then (width * chan c * d + 7) / 8 else 0
theorem chan_bd (c : Int) : 0 ≤ chan c ∧ chan c ≤ 4 := by unfold chan; (repeat' split) <;> omega
theorem deep_bd {d : Int} (h : deepOk d) : 1 ≤ d ∧ d ≤ 16 := by unfold deepOk at h; omega
set_option maxRecDepth 100000 in
set_option maxHeartbeats 4000000 in
theorem rowSize_any (w h d c l width : Int) (W : World) (w1 : 1 ≤ width) (w2 : width ≤ 65535) (hh : headErr w h d c l = 0) :
    Calls Try.prog 33 #[.agg #[.int .i64 w, .int .i64 h, .int .i64 d, .int .i64 c, .int .i64 l], .int .i64 width] W fun e w' => e = .returned (.int .i64 (rowM w h d c l width)) ∧ Below W.heap.size W w' := by
  have Hr := hid (show rowM w h d c l width = (width * chan c * d + 7) / 8 from if_pos ⟨hh, w1, w2⟩)
  obtain ⟨c1, c2⟩ := chan_bd c
  obtain ⟨dd1, dd2⟩ := deep_bd (headErr_deep hh).1
  have m1 : 0 ≤ width * chan c := Int.mul_nonneg (by omega) c1
  have m2 : width * chan c ≤ 65535 * 4 := Int.mul_le_mul w2 c2 c1 (by omega)
  have m3 : 0 ≤ width * chan c * d := Int.mul_nonneg m1 (by omega)
  have m4 : width * chan c * d ≤ 65535 * 4 * 16 := Int.mul_le_mul m2 dd2 (by omega) (by omega)
  have Hh := hid hh
  have hx0 := Blk.new W 23 #[.int .i64 w, .int .i64 h, .int .i64 d, .int .i64 c, .int .i64 l]
  have Hx := hid hx0
  have Hb0 := hid ((Below.refl W.heap.size W).alloc (Nat.le_refl _) (.cells #[.int .i64 w, .int .i64 h, .int .i64 d, .int .i64 c, .int .i64 l] 23))
  clear hh hx0
  go_enter Try.func33, Try.ntmps33
  go_wp2_with fail
  refine (headCheck_any w h d c l _).mono ?_
  rintro e w1' ⟨rfl, hb⟩
  have Hx1 := hid (Hx.out.below hb (by simp))
  have Hb1 := hid (Hb0.out.trans (hb.mono (by simp)))
  clear hb
  rw [Hh.out, errv_0]
  have q2 := Hx1.out.cell 2
  have q3 := Hx1.out.cell 3
  simp only [List.getElem?_toArray, List.getElem?_cons_zero, List.getElem?_cons_succ] at q2 q3
  have hq1 : IntKind.i64.wrap (width * chan c) = width * chan c := IntWalk.i64_in _ (by omega)
  have hq2 : IntKind.i64.wrap (width * chan c * d) = width * chan c * d := IntWalk.i64_in _ (by omega)
  have hq3 : IntKind.i64.wrap (width * chan c * d + 7) = width * chan c * d + 7 := IntWalk.i64_in _ (by omega)
  have hq4 : (width * chan c * d + 7).tdiv 8 = (width * chan c * d + 7) / 8 := Int.tdiv_eq_ediv_of_nonneg (by omega)
  have hq5 : IntKind.i64.wrap ((width * chan c * d + 7) / 8) = (width * chan c * d + 7) / 8 := IntWalk.i64_in _ (by omega)
  go_wp2_with fail
  go_quiet ((go_at_call 31; exact Calls.quiet_of_same (channels_same _ _)))
  go_wp2
  go_ret
  exact ⟨ret_int Hr.out.symm, below_drewN Hb1.out nq⟩

end Go.Proofs.Ytphhoihhmphbdaa
