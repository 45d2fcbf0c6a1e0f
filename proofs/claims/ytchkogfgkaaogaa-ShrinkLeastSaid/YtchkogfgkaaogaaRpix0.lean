/-
  burnishref17.Form.Pixel in one color.
-/
import Derived.Test.YtchkogfgkaaogaaRpix
namespace Go.Proofs.Ytchkogfgkaaogaa
open Go.RowKit

set_option maxRecDepth 100000 in
set_option maxHeartbeats 8000000 in
theorem rpix_c0 (f : Fm) (PA KA NA : Option Addr) (pc kc nc : Nat) (n : List Int) (W : World) (hc : f.c = 0) (hl : (n.length : Int) = chan f.c) (hd : deepOk f.d) (hn : RdI W W.heap.size NA n) (hk : RdI W W.heap.size KA f.key) (hkl : f.key.length = 0 ∨ f.key.length = n.length) :
    Calls Try.prog 63 #[.agg #[.int .i64 f.w, .int .i64 f.h, .int .i64 f.d, .int .i64 f.c, .int .i64 f.l, .slice PA f.pal.length pc, .slice KA f.key.length kc], .slice NA n.length nc] W (PixEnd (pixOf f n) W) := by
  have hlk : n.length = 1 := by rw [hc] at hl; have : chan 0 = 1 := rfl; omega
  have hq : ((n.length : Int) != chan f.c) = false := by rw [bne_eq_false_iff_eq]; exact hl
  have e3 : (f.c == 3) = false := beq_eq_false_iff_ne.2 (by omega)
  have e2 : (f.c == 2) = false := beq_eq_false_iff_ne.2 (by omega)
  have e4 : (f.c == 4) = false := beq_eq_false_iff_ne.2 (by omega)
  have e6 : (f.c == 6) = false := beq_eq_false_iff_ne.2 (by omega)
  have Hpx := hid (show pixOf f n = if n.all (keyB f.d) = true then some (clear (pxOf f.c f.d n) (decide (f.key ≠ [] ∧ f.key = n))) else none by unfold pixOf; rw [if_neg (by simpa using hl), if_neg (by omega)])
  have Hd := hid hd
  have Hn := hid hn
  have Hk := hid hk
  have Hkl := hid hkl
  have Hc := hid hc
  have Hlk := hid hlk
  have hl4 : n.length ≤ 4 := by omega
  have hl0 : 0 < n.length := by omega
  obtain ⟨pw1, pw2⟩ := pw_bd f.d
  obtain ⟨st1, st2⟩ := stp_bd f.d
  have pne : (pw f.d - 1 == 0) = false := beq_eq_false_iff_ne.2 (by omega)
  obtain ⟨i0, hi0, hz0, hz1, hz2⟩ := info_parts int_info
  have Hi0 := hid hi0
  have Hz0 := hid hz0
  have Hz1 := hid hz1
  have Hz2 := hid hz2
  clear hl hc hd hn hk hkl hlk hi0 hz0 hz1 hz2
  go_enter Try.func63, Try.ntmps63
  go_wp2_with fail
  refine (refChannels_any f.c _).mono ?_
  rintro e w1 ⟨rfl, hb⟩
  have Hw := hid ((rpw_start f PA KA pc kc W).below hb)
  clear hb
  have p2 := Hw.out.2.2.1.cell 2
  have p3 := Hw.out.2.2.1.cell 3
  simp only [List.getElem?_toArray, List.getElem?_cons_zero, List.getElem?_cons_succ] at p2 p3
  go_wp2_with fail
  refine (top_same f.d Hd.out _).mono ?_
  rintro e w ⟨rfl, rfl⟩
  go_wp2_with fail
  clear p2 p3
  go_loopw [8, 9] (fun o i wr => ∃ (j : Nat) (A' : Option Addr) (c' : Nat), j ≤ n.length ∧ i = .int .i64 j ∧ o = .slice A' j c' ∧ wr.ownsRow W.heap.size 3 1 (.slice A' j c') j (rcells f.d n j) ∧ (n.take j).all (keyB f.d) = true ∧ RpW wr W f PA KA pc kc) (fun _ i _ => n.length - (intOf i).toNat)
  case atStart =>
    exact ⟨0, none, 0, by omega, rfl, rfl, World.ownsRow_nil _ _ _ _, rfl, Hw.out⟩
  case round =>
    obtain ⟨j, A', c', hj, rfl, rfl, hown, hall, hw⟩ := hrel
    have Hall := hid hall
    have Hwr := hid hw
    have Hown := hid hown
    have hgw := hw.size
    clear hall hw Hw
    by_cases hlt : j < n.length
    · clear hown
      obtain ⟨nb, no, rfl, hnb, n0⟩ := int_at (Hn.out.below Hwr.out.2.2.2 (Nat.le_refl _)) hlt
      have Hkt := hid (key_take f.d n j hlt)
      cases hkb : keyB f.d n[j]
      · have Hno := hid (show pixOf f n = none from Hpx.out.trans (if_neg (fun h => by rw [List.all_eq_true] at h; have := h n[j] (List.getElem_mem hlt); rw [hkb] at this; cases this)))
        have hkf : ¬ (0 ≤ n[j] ∧ n[j] < pw f.d) := of_decide_eq_false hkb
        have r0 := Hwr.out.2.1.cell 0
        have r1 := Hwr.out.2.1.cell 1
        have r2 := Hwr.out.2.1.cell 2
        have r3 := Hwr.out.2.1.cell 3
        have fr := fun i => Hwr.out.2.1.frozen i
        simp only [List.getElem?_toArray, List.getElem?_cons_zero, List.getElem?_cons_succ] at r0 r1 r2 r3
        generalize n[j] = x at *
        clear hkb
        by_cases h0 : x < 0
        · have d0 : decide (x < 0) = true := decide_eq_true h0
          clear hkf
          go_wp2_with fail
          refine bodyPost_ret (v := .tuple #[.agg #[.int .i64 0, .int .i64 0, .int .i64 0, .int .i64 0], .bool false]) (by simp [results, Try.results63, go_sem, r0, r1, r2, r3]) rfl (pixEnd_none Hno.out ?_)
          exact below4 Hwr.out.2.2.2 (by omega)
        · have d0 : decide (x < 0) = false := decide_eq_false h0
          have d1 : decide (pw f.d - 1 < x) = true := decide_eq_true (by omega)
          clear hkf
          go_wp2_with fail
          refine bodyPost_ret (v := .tuple #[.agg #[.int .i64 0, .int .i64 0, .int .i64 0, .int .i64 0], .bool false]) (by simp [results, Try.results63, go_sem, r0, r1, r2, r3]) rfl (pixEnd_none Hno.out ?_)
          exact below4 Hwr.out.2.2.2 (by omega)
      · obtain ⟨k0, k1⟩ := keyB_bd hkb
        have Hal := hid (show (n.take (j + 1)).all (keyB f.d) = true by rw [Hkt.out, Hall.out, hkb]; rfl)
        have Hnx := hid (rcells_next f.d n j hlt)
        obtain ⟨w0, w1b, w2b⟩ := widen_eq Hd.out k0 k1
        generalize n[j] = x at *
        have d0 : decide (x < 0) = false := decide_eq_false (by omega)
        have d1 : decide (pw f.d - 1 < x) = false := decide_eq_false (by omega)
        clear hkb
        go_wp2_with (at_builtin; refine wpList_app _ rfl _ _ _ rfl W.heap.size 3 i0 (.int .i64 0) 1 8 Try.underlying27 Hi0.out Hz0.out Hz1.out Hz2.out rfl (by omega) A' j c' _ rfl (Hown.out.alloc _) _ _ 1 1 [.int .i64 (x * stp f.d)] rfl (rd_one _ _ _ _ (Blk.new _ _ _)) (by simp) (by simp [Value.oneCell']) (by simp only [maxLen]; omega) (by omega) (by simp; omega) ?_; rintro A3 c3 w3 ⟨hown3, hgr3, hb3, _⟩)
        go_roundw
        case rel =>
          refine ⟨j + 1, A3, c3, by omega, by go_num, rfl, ?_, Hal.out, (Hwr.out.alloc _).grown (Hown.out.alloc _) hgr3 ((Hwr.out.2.2.2.alloc (by omega) _).trans hb3)⟩
          rw [← Hnx.out]
          exact hown3
        case measure => simp [intOf]; omega
    · have e : j = n.length := by omega
      subst e
      have Hall2 := hid (show n.all (keyB f.d) = true by have := Hall.out; rwa [List.take_length] at this)
      obtain ⟨x0, hx⟩ : ∃ x0, n = [x0] := by
        have h := Hlk.out
        match n, h with
        | [x0], _ => exact ⟨x0, rfl⟩
      subst hx
      obtain ⟨g, hA, hg0, hg1⟩ := own_block hown (by simp)
      subst hA
      have y0 : wr.cell? ⟨g, 0, none⟩ = some (.int .i64 (x0 * stp f.d)) := hown.cellAt 0 (by simp)
      have p3 := Hwr.out.2.2.1.cell 3
      have q6 := Hwr.out.1.cell 6
      simp only [List.getElem?_toArray, List.getElem?_cons_zero, List.getElem?_cons_succ] at p3 q6
      clear hown Hall
      have g0 : W.heap.size < wr.heap.size := by omega
      have g1 : W.heap.size + 1 < wr.heap.size := by omega
      have hgp : W.heap.size ≤ wr.heap.size := by omega
      go_upto_region 16 with (fail)
      go_region_held3 (fun w' => w'.cell? ⟨g, 0, none⟩ = some (.int .i64 (x0 * stp f.d))) (first | go_keep | exact y0) (fail)
      go_wp2_with fail
      go_loopw [11, 12] (fun s i wi => ∃ (m : Nat) (b : Bool), m ≤ f.key.length ∧ i = .int .i64 m ∧ s = .bool b ∧ b = (decide (0 < f.key.length) && decide (f.key.take m = [x0].take m)) ∧ Blk wi wr.heap.size 69 #[.int .i64 (x0 * stp f.d), .int .i64 (x0 * stp f.d), .int .i64 (x0 * stp f.d), .int .i64 65535] ∧ RpW wi W f PA KA pc kc) (fun _ i _ => f.key.length - (intOf i).toNat)
      case atStart =>
        exact ⟨0, _, by omega, rfl, rfl, by simp, (Blk.new wr _ _).drew, (Hwr.out.alloc _).drew⟩
      case round =>
        obtain ⟨m, b, hm, rfl, rfl, hbe, hpb, hw⟩ := hrel
        have Hpb := hid hpb
        have Hwi := hid hw
        have Hbe := hid hbe
        clear hbe hpb hw p3 q6
        by_cases hlt : m < f.key.length
        · have hn4 : m < [x0].length := by have := Hkl.out; omega
          obtain ⟨kb, ko, rfl, hkb, k0⟩ := int_at (Hk.out.below Hwi.out.2.2.2 (Nat.le_refl _)) hlt
          obtain ⟨nb, no, rfl, hnb, n0⟩ := int_at (Hn.out.below Hwi.out.2.2.2 (Nat.le_refl _)) hn4
          have hn5 : m < 1 := hn4
          have hn6 : (m : Int) < 1 := by omega
          have Hkr := hid (key_run f.key [x0] m hlt hn4)
          have q6 := Hwi.out.1.cell 6
          simp only [List.getElem?_toArray, List.getElem?_cons_zero, List.getElem?_cons_succ] at q6
          generalize f.key[m] = kx at *
          generalize [x0][m] = nx at *
          cases b
          · have Hbe2 := hid (show false = (decide (0 < f.key.length) && decide (f.key.take (m + 1) = [x0].take (m + 1))) by rw [Hkr.out, ← Bool.and_assoc, ← Hbe.out]; rfl)
            go_wp2_with fail
            go_quiet (fail)
            go_wp2_with fail
            go_roundw
            case rel => exact ⟨m + 1, _, by omega, by go_num, rfl, Hbe2.out, Hpb.out.drewN _, Hwi.out.drewN _⟩
            case measure => simp [intOf]; omega
          · have Hbe2 := hid (show (kx == nx) = (decide (0 < f.key.length) && decide (f.key.take (m + 1) = [x0].take (m + 1))) by rw [Hkr.out, ← Bool.and_assoc, ← Hbe.out]; rfl)
            go_wp2_with fail
            go_quiet (fail)
            go_wp2_with fail
            go_roundw
            case rel => exact ⟨m + 1, _, by omega, by go_num, rfl, Hbe2.out, Hpb.out.drewN _, Hwi.out.drewN _⟩
            case measure => simp [intOf]; omega
        · have e : m = f.key.length := by omega
          subst e
          have Hb2 := hid (show b = decide (f.key ≠ [] ∧ f.key = [x0]) from key_end f.key [x0] Hkl.out Hbe.out)
          have q6 := Hwi.out.1.cell 6
          have s0 := Hpb.out.cell 0
          have s1 := Hpb.out.cell 1
          have s2 := Hpb.out.cell 2
          have s3 := Hpb.out.cell 3
          have fs := fun i => Hpb.out.frozen i
          have r0 := Hwi.out.2.1.cell 0
          have r1 := Hwi.out.2.1.cell 1
          have r2 := Hwi.out.2.1.cell 2
          have r3 := Hwi.out.2.1.cell 3
          have fr := fun i => Hwi.out.2.1.frozen i
          simp only [List.getElem?_toArray, List.getElem?_cons_zero, List.getElem?_cons_succ] at q6 s0 s1 s2 s3 r0 r1 r2 r3
          cases b
          · have Hfin := hid (show pixOf f [x0] = some (x0 * stp f.d, x0 * stp f.d, x0 * stp f.d, 65535) by
              rw [Hpx.out, if_pos Hall2.out, ← Hb2.out]
              unfold pxOf clear
              rw [Hc.out]
              rfl)
            go_wp2_with fail
            refine bodyPost_ret (v := .tuple #[.agg #[.int .i64 (x0 * stp f.d), .int .i64 (x0 * stp f.d), .int .i64 (x0 * stp f.d), .int .i64 65535], .bool true]) (by simp [results, Try.results63, go_sem, r0, r1, r2, r3]) rfl (pixEnd_some Hfin.out ?_)
            exact below4 Hwi.out.2.2.2 (by omega)
          · have Hfin := hid (show pixOf f [x0] = some (x0 * stp f.d, x0 * stp f.d, x0 * stp f.d, 0) by
              rw [Hpx.out, if_pos Hall2.out, ← Hb2.out]
              unfold pxOf clear
              rw [Hc.out]
              rfl)
            go_wp2_with fail
            refine bodyPost_ret (v := .tuple #[.agg #[.int .i64 (x0 * stp f.d), .int .i64 (x0 * stp f.d), .int .i64 (x0 * stp f.d), .int .i64 0], .bool true]) (by simp [results, Try.results63, go_sem, r0, r1, r2, r3]) rfl (pixEnd_some Hfin.out ?_)
            exact below4 (Hwi.out.2.2.2.setCell (by exact hgp) _) (by omega)

end Go.Proofs.Ytchkogfgkaaogaa
