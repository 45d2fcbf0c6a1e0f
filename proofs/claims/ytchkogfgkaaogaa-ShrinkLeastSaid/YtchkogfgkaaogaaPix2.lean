/-
  raster.Form.pixel in one color.
-/
import Derived.Test.YtchkogfgkaaogaaPix
import Derived.Deep.RegionHeld3
import Derived.Deep.DeepCutAuto
import Derived.Deep.CutRange
namespace Go.Proofs.Ytchkogfgkaaogaa
open Go.RowKit

set_option maxRecDepth 100000 in
set_option maxHeartbeats 8000000 in
theorem pix_c2 (f : Fm) (PA KA NA : Option Addr) (pc kc nc : Nat) (n : List Int) (W : World) (hc : f.c = 2) (hl : (n.length : Int) = chan f.c) (hd : deepOk f.d) (hn : RdI W W.heap.size NA n) (hk : RdI W W.heap.size KA f.key) (hkm : f.key.length ≤ 1000000) :
    Calls Try.prog 51 #[.agg #[.int .i64 f.w, .int .i64 f.h, .int .i64 f.d, .int .i64 f.c, .int .i64 f.l, .slice PA f.pal.length pc, .slice KA f.key.length kc], .slice NA n.length nc] W (PixEnd (pixOf f n) W) := by
  have hlk : n.length = 3 := by rw [hc] at hl; have : chan 2 = 3 := rfl; omega
  have hq : ((n.length : Int) != chan f.c) = false := by rw [bne_eq_false_iff_eq]; exact hl
  have e3 : (f.c == 3) = false := beq_eq_false_iff_ne.2 (by omega)
  have e2 : (f.c == 2) = true := beq_iff_eq.2 hc
  have e4 : (f.c == 4) = false := beq_eq_false_iff_ne.2 (by omega)
  have e6 : (f.c == 6) = false := beq_eq_false_iff_ne.2 (by omega)
  have Hpx := hid (show pixOf f n = if n.all (keyB f.d) = true then some (clear (pxOf f.c f.d n) (decide (f.key ≠ [] ∧ f.key = n))) else none by unfold pixOf; rw [if_neg (by simpa using hl), if_neg (by omega)])
  have Hd := hid hd
  have Hn := hid hn
  have Hc := hid hc
  have Hlk := hid hlk
  have hl4 : n.length ≤ 4 := by omega
  have hl0 : 0 < n.length := by omega
  obtain ⟨pw1, pw2⟩ := pw_bd f.d
  obtain ⟨st1, st2⟩ := stp_bd f.d
  clear hl hc hd hn hlk
  go_enter Try.func51, Try.ntmps51
  go_wp2_with fail
  refine (channels_same f.c _).mono ?_
  rintro e w1 ⟨rfl, rfl⟩
  go_wp2_with fail
  go_loopw [49] (fun i wr => ∃ j : Nat, j ≤ n.length ∧ i = .int .i64 j ∧ (n.take j).all (keyB f.d) = true ∧ PixW wr W f PA KA pc kc (wcells f.d n j)) (fun i _ => n.length - (intOf i).toNat)
  case atStart =>
    exact ⟨0, by omega, rfl, rfl, pixw_start f PA KA pc kc n W⟩
  case round =>
    obtain ⟨j, hj, rfl, hall, hw⟩ := hrel
    have Hall := hid hall
    have Hw := hid hw
    clear hall hw
    obtain ⟨⟨⟨q0, q1, q2, q3, q4⟩, q5, q6⟩, hb1, hb2, hb3, hbw⟩ := Hw.out
    have hgw := hb3.lt
    have hbsz := hbw.size
    by_cases hlt : j < n.length
    · obtain ⟨nb, no, rfl, hnb, n0⟩ := int_at (Hn.out.below hbw (Nat.le_refl _)) hlt
      have Hkt := hid (key_take f.d n j hlt)
      clear hb1 hb2 hb3 hbw
      cases hkb : keyB f.d n[j]
      · have Hno := hid (show pixOf f n = none from Hpx.out.trans (if_neg (fun h => by rw [List.all_eq_true] at h; have := h n[j] (List.getElem_mem hlt); rw [hkb] at this; cases this)))
        have Hkb := hid (show ¬ (0 ≤ n[j] ∧ n[j] < pw f.d) from of_decide_eq_false hkb)
        have Hwid := hid (fun W => widen_any n[j] f.d Hd.out W)
        generalize n[j] = x at *
        clear hkb
        go_wp2_with fail
        refine (Hwid.out _).mono ?_
        rintro e w2 ⟨he, hb2⟩
        rw [if_neg Hkb.out] at he
        subst he
        obtain ⟨_, hr, hz, _, hbw2⟩ := Hw.out.below hb2
        have r0 := hr.cell 0
        have r1 := hr.cell 1
        have r2 := hr.cell 2
        have r3 := hr.cell 3
        have fr := fun i => hr.frozen i
        have z0 := hz.cell 0
        have z1 := hz.cell 1
        have z2 := hz.cell 2
        have z3 := hz.cell 3
        simp only [List.getElem?_toArray, List.getElem?_cons_zero, List.getElem?_cons_succ] at r0 r1 r2 r3 z0 z1 z2 z3
        have Hbw2 := hid hbw2
        clear hr hz hbw2 hb2 n0 q0 q1 q2 q3 q4 q5 q6
        go_wp2_with fail
        refine bodyPost_ret (v := .tuple #[.agg #[.int .i64 0, .int .i64 0, .int .i64 0, .int .i64 0], .bool false]) (by simp [results, Try.results51, go_sem, r0, r1, r2, r3]) rfl (pixEnd_none Hno.out ?_)
        exact below4 Hbw2.out (by omega)
      · obtain ⟨k0, k1⟩ := keyB_bd hkb
        have Hal := hid (show (n.take (j + 1)).all (keyB f.d) = true by rw [Hkt.out, Hall.out, hkb]; rfl)
        have Hwid := hid (fun W => widen_any n[j] f.d Hd.out W)
        have Hst := hid (fun (w' : World) (hb : Below wr.heap.size wr w') => PixW.store hlt (by omega) (Hw.out.below hb))
        have Hz := hid (wcells_at f.d n j hlt (by omega))
        generalize n[j] = x at *
        clear hkb
        go_wp2_with fail
        refine (Hwid.out _).mono ?_
        rintro e w2 ⟨he, hb2⟩
        rw [if_pos ⟨k0, k1⟩] at he
        subst he
        obtain ⟨_, _, _, h3, _⟩ := Hw.out.below hb2
        have y0 := (h3.cell j).trans Hz.out
        have y1 := h3.frozen j
        have Hb2 := hid hb2
        clear h3 hb2 n0 q0 q1 q2 q3 q4 q5 q6
        have hj3 : (j : Int) < 4 := by omega
        go_wp2_with fail
        go_roundw
        case rel => exact ⟨j + 1, by omega, by go_num, Hal.out, Hst.out w2 Hb2.out⟩
        case measure => simp [intOf]; omega
    · have e : j = n.length := by omega
      subst e
      have Hall2 := hid (show n.all (keyB f.d) = true by have := Hall.out; rwa [List.take_length] at this)
      obtain ⟨x0, x1, x2, hx⟩ : ∃ x0 x1 x2, n = [x0, x1, x2] := by
        have h := Hlk.out
        match n, h with
        | [x0, x1, x2], _ => exact ⟨x0, x1, x2, rfl⟩
      subst hx
      have hb4 : Blk wr (W.heap.size + 1 + 1 + 1) 142 #[.int .i64 (x0 * stp f.d), .int .i64 (x1 * stp f.d), .int .i64 (x2 * stp f.d), .int .i64 0] := hb3
      have y0 := hb4.cell 0
      have y1 := hb4.cell 1
      have y2 := hb4.cell 2
      have y3 := hb4.cell 3
      have r0 := hb1.cell 0
      have r1 := hb1.cell 1
      have r2 := hb1.cell 2
      have r3 := hb1.cell 3
      have fr := fun i => hb1.frozen i
      simp only [List.getElem?_toArray, List.getElem?_cons_zero, List.getElem?_cons_succ] at y0 y1 y2 y3 r0 r1 r2 r3
      have Hbw := hid hbw
      have Hnn := hid (Hn.out.below hbw (Nat.le_refl _))
      have g1 : W.heap.size + 1 < wr.heap.size := by omega
      have g0 : W.heap.size < wr.heap.size := by omega
      clear hb1 hb2 hb3 hb4 hbw Hw
      have Hkr := hid (hk.below Hbw.out (Nat.le_refl _))
      clear hk
      by_cases hk0 : f.key.length = 0
      · have hke : f.key = [] := List.eq_nil_of_length_eq_zero hk0
        have Hfin := hid (show pixOf f [x0, x1, x2] = some (x0 * stp f.d, x1 * stp f.d, x2 * stp f.d, 65535) by
          rw [Hpx.out, if_pos Hall2.out, decide_eq_false (fun h => h.1 hke)]
          unfold pxOf clear
          rw [Hc.out]
          rfl)
        have hkl : (f.key.length : Int) = 0 := by omega
        clear hke
        go_upto_region 21 with (fail)
        go_region_held3 (fun w' => w'.cell? ⟨W.heap.size + 1 + 1 + 1, 1, none⟩ = some (.int .i64 (x1 * stp f.d)) ∧ w'.cell? ⟨W.heap.size + 1 + 1 + 1, 2, none⟩ = some (.int .i64 (x2 * stp f.d))) (go_keep) (fail)
        all_goals
          go_wp2_with fail
          refine bodyPost_ret (v := .tuple #[.agg #[.int .i64 (x0 * stp f.d), .int .i64 (x1 * stp f.d), .int .i64 (x2 * stp f.d), .int .i64 65535], .bool true]) (by simp [results, Try.results51, go_sem, r0, r1, r2, r3, g1]) rfl (pixEnd_some Hfin.out ?_)
          exact ((below4 Hbw.out (by omega)).alloc (by simp; omega) _).drew
      · have hke : f.key ≠ [] := fun h => hk0 (by rw [h]; rfl)
        have hkp : (0 : Int) < (f.key.length : Int) := by omega
        have hkp2 : 0 < f.key.length := by omega
        by_cases heq : f.key = [x0, x1, x2]
        · have Hfin := hid (show pixOf f [x0, x1, x2] = some (x0 * stp f.d, x1 * stp f.d, x2 * stp f.d, 0) by
          rw [Hpx.out, if_pos Hall2.out, decide_eq_true ⟨hke, heq⟩]
          unfold pxOf clear
          rw [Hc.out]
          rfl)
          have Hg := hid (show true = decide (f.key = [x0, x1, x2]) from (decide_eq_true heq).symm)
          clear hke heq hk0
          go_upto_region 21 with (fail)
          go_region_held3 (fun w' => w'.cell? ⟨W.heap.size + 1 + 1 + 1, 1, none⟩ = some (.int .i64 (x1 * stp f.d)) ∧ w'.cell? ⟨W.heap.size + 1 + 1 + 1, 2, none⟩ = some (.int .i64 (x2 * stp f.d))) (go_keep) (fail)
          all_goals
            go_wp2_with fail
            refine (equal_any KA NA kc nc f.key [x0, x1, x2] _ W.heap.size (by first | exact Hkr.out.alloc (Nat.le_of_lt g0) _ | exact (Hkr.out.alloc (Nat.le_of_lt g0) _).drewN 1) (by first | exact Hnn.out.alloc (Nat.le_of_lt g0) _ | exact (Hnn.out.alloc (Nat.le_of_lt g0) _).drewN 1) hkm (by simp) true Hg.out).mono ?_
            rintro e w2 ⟨rfl, nq, rfl⟩
            go_wp2_with fail
            refine bodyPost_ret (v := .tuple #[.agg #[.int .i64 (x0 * stp f.d), .int .i64 (x1 * stp f.d), .int .i64 (x2 * stp f.d), .int .i64 0], .bool true]) (by simp [results, Try.results51, go_sem, r0, r1, r2, r3, g1]) rfl (pixEnd_some Hfin.out ?_)
            exact below4 ((below_drewN (Hbw.out.alloc hbsz _) (1 + nq)).setCell (by exact hbsz) _) (by omega)
        · have Hfin := hid (show pixOf f [x0, x1, x2] = some (x0 * stp f.d, x1 * stp f.d, x2 * stp f.d, 65535) by
          rw [Hpx.out, if_pos Hall2.out, decide_eq_false (fun h => heq h.2)]
          unfold pxOf clear
          rw [Hc.out]
          rfl)
          have Hg := hid (show false = decide (f.key = [x0, x1, x2]) from (decide_eq_false heq).symm)
          clear hke heq hk0
          go_upto_region 21 with (fail)
          go_region_held3 (fun w' => w'.cell? ⟨W.heap.size + 1 + 1 + 1, 1, none⟩ = some (.int .i64 (x1 * stp f.d)) ∧ w'.cell? ⟨W.heap.size + 1 + 1 + 1, 2, none⟩ = some (.int .i64 (x2 * stp f.d))) (go_keep) (fail)
          all_goals
            go_wp2_with fail
            refine (equal_any KA NA kc nc f.key [x0, x1, x2] _ W.heap.size (by first | exact Hkr.out.alloc (Nat.le_of_lt g0) _ | exact (Hkr.out.alloc (Nat.le_of_lt g0) _).drewN 1) (by first | exact Hnn.out.alloc (Nat.le_of_lt g0) _ | exact (Hnn.out.alloc (Nat.le_of_lt g0) _).drewN 1) hkm (by simp) false Hg.out).mono ?_
            rintro e w2 ⟨rfl, nq, rfl⟩
            go_wp2_with fail
            refine bodyPost_ret (v := .tuple #[.agg #[.int .i64 (x0 * stp f.d), .int .i64 (x1 * stp f.d), .int .i64 (x2 * stp f.d), .int .i64 65535], .bool true]) (by simp [results, Try.results51, go_sem, r0, r1, r2, r3, g1]) rfl (pixEnd_some Hfin.out ?_)
            exact below4 (below_drewN (Hbw.out.alloc hbsz _) (1 + nq)) (by omega)

end Go.Proofs.Ytchkogfgkaaogaa
