/-
  burnishref17.Form.Good.
-/
import Derived.Test.YtphhoihhmphbdaaForm
namespace Go.Proofs.Ytphhoihhmphbdaa
open Go.RowKit

def GdEnd (f : Fm) (W : World) (e : Ending) (w' : World) : Prop := e = .returned (.bool (formOk f)) ∧ Below W.heap.size W w'
theorem gdEnd {f : Fm} {W w' : World} {g : Bool} (h : formOk f = g) (hb : Below W.heap.size W w') : GdEnd f W (.returned (.bool g)) w' := by unfold GdEnd; rw [h]; exact ⟨rfl, hb⟩
theorem top_same (d : Int) (hd : deepOk d) (W : World) : Calls Try.prog 42 #[.int .i64 d] W fun e w' => e = .returned (.int .i64 (pw d - 1)) ∧ w' = W := (top_any d hd W).mono fun _ _ ⟨he, hw⟩ => ⟨he, hw.symm⟩
theorem byteWide_same (n : Int) (W : World) : Calls Try.prog 43 #[.int .i64 n] W fun e w' => e = .returned (.bool (narrowOk n 8)) ∧ w' = W := (byteWide_any n W).mono fun _ _ ⟨he, hw⟩ => ⟨he, hw.symm⟩

theorem rbox_cells (f : Fm) (PA KA : Option Addr) (pc kc : Nat) (W w1 : World) (hb : Below ((W.alloc (.cells #[.int .i64 f.w, .int .i64 f.h, .int .i64 f.d, .int .i64 f.c, .int .i64 f.l, .slice PA f.pal.length pc, .slice KA f.key.length kc] 27)).alloc (.cells #[.int .i64 f.w, .int .i64 f.h, .int .i64 f.d, .int .i64 f.c, .int .i64 f.l] 23)).heap.size ((W.alloc (.cells #[.int .i64 f.w, .int .i64 f.h, .int .i64 f.d, .int .i64 f.c, .int .i64 f.l, .slice PA f.pal.length pc, .slice KA f.key.length kc] 27)).alloc (.cells #[.int .i64 f.w, .int .i64 f.h, .int .i64 f.d, .int .i64 f.c, .int .i64 f.l] 23)) w1) :
    FC w1 W.heap.size f PA KA pc kc ∧ HC w1 (W.heap.size + 1) f.w f.h f.d f.c f.l ∧ Below W.heap.size W w1 ∧ W.heap.size + 2 ≤ w1.heap.size := by
  have b1 := (Blk.new W 27 #[.int .i64 f.w, .int .i64 f.h, .int .i64 f.d, .int .i64 f.c, .int .i64 f.l, .slice PA f.pal.length pc, .slice KA f.key.length kc]).alloc (.cells #[.int .i64 f.w, .int .i64 f.h, .int .i64 f.d, .int .i64 f.c, .int .i64 f.l] 23)
  have b2 := Blk.new (W.alloc (.cells #[.int .i64 f.w, .int .i64 f.h, .int .i64 f.d, .int .i64 f.c, .int .i64 f.l, .slice PA f.pal.length pc, .slice KA f.key.length kc] 27)) 23 #[.int .i64 f.w, .int .i64 f.h, .int .i64 f.d, .int .i64 f.c, .int .i64 f.l]
  rw [World.size_alloc] at b2
  have c1 := b1.below hb (by simp; omega)
  have c2 := b2.below hb (by simp)
  have hs := hb.size
  simp only [World.size_alloc] at hs
  exact ⟨⟨⟨c1.cell 0, c1.cell 1, c1.cell 2, c1.cell 3, c1.cell 4⟩, c1.cell 5, c1.cell 6⟩, ⟨c2.cell 0, c2.cell 1, c2.cell 2, c2.cell 3, c2.cell 4⟩, (((Below.refl _ _).alloc (Nat.le_refl _) _).alloc (by simp) _).trans (hb.mono (by simp; omega)), by omega⟩

set_option maxRecDepth 100000 in
set_option maxHeartbeats 4000000 in
theorem good_head (f : Fm) (PA KA : Option Addr) (pc kc : Nat) (W : World) (hh : headErr f.w f.h f.d f.c f.l ≠ 0) :
    Calls Try.prog 12 #[.agg #[.int .i64 f.w, .int .i64 f.h, .int .i64 f.d, .int .i64 f.c, .int .i64 f.l, .slice PA f.pal.length pc, .slice KA f.key.length kc]] W (GdEnd f W) := by
  have Hn := hid (show formOk f = false by unfold formOk; rw [decide_eq_false hh]; rfl)
  rcases headErr_vals f.w f.h f.d f.c f.l with h0 | h0 | h0
  · exact absurd h0 hh
  all_goals
    have Hh := hid h0
    clear h0 hh
    go_enter Try.func12, Try.ntmps12
    go_wp2_with fail
    refine (refCheck_any f.w f.h f.d f.c f.l _).mono ?_
    rintro e w1 ⟨rfl, hb⟩
    obtain ⟨_, _, hbw, _⟩ := rbox_cells f PA KA pc kc W w1 hb
    have Hb := hid hbw
    clear hb hbw
    rw [Hh.out]
    go_wp2_with fail
    go_ret
    exact gdEnd Hn.out Hb.out

set_option maxRecDepth 100000 in
set_option maxHeartbeats 16000000 in
theorem good_main (f : Fm) (PA KA : Option Addr) (pc kc : Nat) (W : World) (hh : headErr f.w f.h f.d f.c f.l = 0) (hp : RdP W W.heap.size PA f.pal) (hk : RdI W W.heap.size KA f.key) (hpm : f.pal.length ≤ 1000000) (hkm : f.key.length ≤ 1000000) :
    Calls Try.prog 12 #[.agg #[.int .i64 f.w, .int .i64 f.h, .int .i64 f.d, .int .i64 f.c, .int .i64 f.l, .slice PA f.pal.length pc, .slice KA f.key.length kc]] W (GdEnd f W) := by
  obtain ⟨hd, _, _⟩ := headErr_deep hh
  have Hd := hid hd
  have Hh := hid hh
  have Hp := hid hp
  have Hk := hid hk
  have Hfo := hid (show formOk f = (palB f && f.pal.all pxOk && keysB f) by unfold formOk; rw [decide_eq_true hh]; simp)
  obtain ⟨pw1, pw2⟩ := pw_bd f.d
  clear hd hh hp hk
  go_enter Try.func12, Try.ntmps12
  go_wp2_with fail
  refine (refCheck_any f.w f.h f.d f.c f.l _).mono ?_
  rintro e w1 ⟨rfl, hb⟩
  obtain ⟨hfc, hhc, hbw, hsz⟩ := rbox_cells f PA KA pc kc W w1 hb
  have Hfc := hid hfc
  have Hhc := hid hhc
  have Hb := hid hbw
  clear hb hbw hfc hhc
  rw [Hh.out]
  obtain ⟨⟨q0, q1, q2, q3, q4⟩, q5, q6⟩ := Hfc.out
  obtain ⟨p0, p1, p2, p3, p4⟩ := Hhc.out
  go_upto_region 4 with (fail)
  go_cut [41] from 12 to 41 (fun v w => v = .bool (!palB f) ∧ ∃ n, w = w1.drewN n)
  case first =>
    by_cases h3 : f.c = 3
    · have Hg : Hid (palB f = decide (1 ≤ f.pal.length ∧ (f.pal.length : Int) ≤ pw f.d)) := by unfold Hid palB; rw [if_pos h3]
      have e3 : (f.c == 3) = true := beq_iff_eq.2 h3
      have e4 : (f.c != 3) = false := by rw [bne_eq_false_iff_eq]; exact h3
      clear h3
      by_cases h1 : f.pal.length < 1
      · have d1 : decide ((f.pal.length : Int) < 1) = true := decide_eq_true (by omega)
        go_quiet (fail)
        go_wp2
        go_meet
        exact ⟨by rw [Hg.out, decide_eq_false (fun h => by omega)]; rfl, nq, rfl⟩
      · have d1 : decide ((f.pal.length : Int) < 1) = false := decide_eq_false (by omega)
        have e5 : IntKind.i64.wrap (pw f.d - 1 + 1) = pw f.d := by rw [IntKind.wrap_i64]; omega
        by_cases h2 : pw f.d < (f.pal.length : Int)
        · have d2 : decide (pw f.d < (f.pal.length : Int)) = true := decide_eq_true h2
          go_quiet ((go_at_call 42; exact Calls.quiet_of_same (top_same _ Hd.out _)))
          clear e5
          go_wp2
          go_meet
          exact ⟨by rw [Hg.out, decide_eq_false (fun h => by omega)]; rfl, nq, rfl⟩
        · have d2 : decide (pw f.d < (f.pal.length : Int)) = false := decide_eq_false h2
          go_quiet ((go_at_call 42; exact Calls.quiet_of_same (top_same _ Hd.out _)))
          clear e5
          go_wp2
          go_meet
          exact ⟨by rw [Hg.out, decide_eq_true (by omega)]; rfl, nq, rfl⟩
    · have Hg : Hid (palB f = decide (f.pal.length = 0)) := by unfold Hid palB; rw [if_neg h3]
      have e3 : (f.c == 3) = false := beq_eq_false_iff_ne.2 h3
      have e4 : (f.c != 3) = true := bne_iff_ne.2 h3
      clear h3
      by_cases h1 : 0 < f.pal.length
      · have d1 : decide ((0 : Int) < (f.pal.length : Int)) = true := decide_eq_true (by omega)
        have d1' : decide (0 < f.pal.length) = true := decide_eq_true h1
        go_quiet (fail)
        go_wp2
        go_meet
        exact ⟨by rw [Hg.out, decide_eq_false (fun h => by omega)]; rfl, nq, rfl⟩
      · have d1 : decide ((0 : Int) < (f.pal.length : Int)) = false := decide_eq_false (by omega)
        have d1' : decide (0 < f.pal.length) = false := decide_eq_false h1
        go_quiet (fail)
        go_wp2
        go_meet
        exact ⟨by rw [Hg.out, decide_eq_true (by omega)]; rfl, nq, rfl⟩
  case rest =>
    obtain ⟨rfl, nd, rfl⟩ := hcut
    have Hby := hid (below_drewN Hb.out nd)
    have Hpy := hid ((Hp.out.below Hb.out (Nat.le_refl _)).drewN nd)
    have Hky := hid ((Hk.out.below Hb.out (Nat.le_refl _)).drewN nd)
    have HHy : Hid (HC (w1.drewN nd) (W.heap.size + 1) f.w f.h f.d f.c f.l) := Hhc.out
    have HFy : Hid (FC (w1.drewN nd) W.heap.size f PA KA pc kc) := Hfc.out
    have hsy : W.heap.size + 2 ≤ (w1.drewN nd).heap.size := hsz
    clear Hb Hp Hk Hhc Hfc hsz
    generalize w1.drewN nd = wy at *
    clear q0 q1 q2 q3 q4 q5 q6 p0 p1 p2 p3 p4
    cases hpb : palB f
    · have Hn := hid (show formOk f = false by rw [Hfo.out, hpb]; rfl)
      clear hpb
      go_wp2_with fail
      go_ret
      exact gdEnd Hn.out Hby.out
    have Hpb := hid hpb
    clear hpb
    simp only [Bool.not_true]
    go_wp2_with fail
    go_loopw [4] (fun i wr => ∃ j : Nat, j ≤ f.pal.length ∧ i = .int .i64 j ∧ (f.pal.take j).all pxOk = true ∧ Below wy.heap.size wy wr) (fun i _ => f.pal.length - (intOf i).toNat)
    case atStart => exact ⟨0, by omega, rfl, rfl, Below.refl _ _⟩
    case round =>
      obtain ⟨j, hj, rfl, hall, hbr⟩ := hrel
      have Hall := hid hall
      have Hbr := hid hbr
      have hszr := hbr.size
      have HFr := hid (HFy.out.below hbr (by omega))
      obtain ⟨⟨q0, q1, q2, q3, q4⟩, q5, q6⟩ := HFr.out
      have Hhr := hid (HHy.out.below hbr (by omega))
      clear hall hbr
      by_cases hlt : j < f.pal.length
      · obtain ⟨b, off, rfl, hbb, x0, x1, x2, x3⟩ := px_at (Hpy.out.below Hbr.out (by omega)) hlt
        have Hpt := hid (pal_take f.pal j hlt)
        have Hbad := hid (fun (h : pxOk f.pal[j] = false) => show formOk f = false by
          rw [Hfo.out]
          have : f.pal.all pxOk = false := by rw [List.all_eq_false]; exact ⟨f.pal[j], List.getElem_mem hlt, by rw [h]; simp⟩
          rw [this]; simp)
        generalize f.pal[j] = x at *
        obtain ⟨xr, xg, xb, xa⟩ := x
        simp only at x0 x1 x2 x3
        have Hpx : Hid (pxOk (xr, xg, xb, xa) = (narrowOk xr 8 && narrowOk xg 8 && narrowOk xb 8 && narrowOk xa 8)) := rfl
        have Hbx := hid (Hby.out.trans ((Hbr.out.alloc hszr (.cells #[.int .i64 xr, .int .i64 xg, .int .i64 xb, .int .i64 xa] 62)).mono (by omega)))
        have Hbx2 := hid (Hbr.out.alloc hszr (.cells #[.int .i64 xr, .int .i64 xg, .int .i64 xb, .int .i64 xa] 62))
        go_wp2_with fail
        refine (byteWide_same xr _).mono ?_
        rintro e wa ⟨rfl, rfl⟩
        cases hr : narrowOk xr 8
        · have Hn := hid (Hbad.out (by rw [Hpx.out, hr]; simp))
          clear hr
          go_wp2_with fail
          go_ret
          exact gdEnd Hn.out Hbx.out
        have Hr0 := hid hr
        clear hr
        go_wp2_with fail
        refine (byteWide_same xg _).mono ?_
        rintro e wa ⟨rfl, rfl⟩
        cases hr : narrowOk xg 8
        · have Hn := hid (Hbad.out (by rw [Hpx.out, Hr0.out, hr]; simp))
          clear hr
          go_wp2_with fail
          go_ret
          exact gdEnd Hn.out Hbx.out
        have Hr1 := hid hr
        clear hr
        go_wp2_with fail
        refine (byteWide_same xb _).mono ?_
        rintro e wa ⟨rfl, rfl⟩
        cases hr : narrowOk xb 8
        · have Hn := hid (Hbad.out (by rw [Hpx.out, Hr0.out, Hr1.out, hr]; simp))
          clear hr
          go_wp2_with fail
          go_ret
          exact gdEnd Hn.out Hbx.out
        have Hr2 := hid hr
        clear hr
        go_wp2_with fail
        refine (byteWide_same xa _).mono ?_
        rintro e wa ⟨rfl, rfl⟩
        cases hr : narrowOk xa 8
        · have Hn := hid (Hbad.out (by rw [Hpx.out, Hr0.out, Hr1.out, Hr2.out, hr]; simp))
          clear hr
          go_wp2_with fail
          go_ret
          exact gdEnd Hn.out Hbx.out
        have Hr3 := hid hr
        clear hr
        go_wp2_with fail
        have Hn := hid (show (f.pal.take (j + 1)).all pxOk = true by rw [Hpt.out, Hall.out, Hpx.out, Hr0.out, Hr1.out, Hr2.out, Hr3.out]; rfl)
        go_roundw
        case rel => exact ⟨j + 1, by omega, by go_num, Hn.out, Hbx2.out⟩
        case measure => simp [intOf]; omega
      · have e : j = f.pal.length := by omega
        subst e
        have Hall2 := hid (show f.pal.all pxOk = true by have := Hall.out; rwa [List.take_length] at this)
        have Hbz := hid (Hby.out.trans (Hbr.out.mono (by omega)))
        have Hkz := hid (Hky.out.below Hbr.out (by omega))
        obtain ⟨p0, p1, p2, p3, p4⟩ := Hhr.out
        by_cases hk0 : f.key.length = 0
        · have Hn := hid (show formOk f = true by rw [Hfo.out, Hpb.out, Hall2.out]; unfold keysB; rw [decide_eq_true hk0]; rfl)
          go_wp2_with fail
          go_ret
          exact gdEnd Hn.out Hbz.out
        have Hks : Hid (formOk f = (decide (f.c = 0 ∨ f.c = 2) && decide ((f.key.length : Int) = chan f.c) && f.key.all (keyB f.d))) := by unfold Hid; rw [Hfo.out, Hpb.out, Hall2.out]; unfold keysB; rw [decide_eq_false hk0]; simp
        have k0 : ((f.key.length : Int) == 0) = false := beq_eq_false_iff_ne.2 (by omega)
        have k0' : (f.key.length == 0) = false := beq_eq_false_iff_ne.2 hk0
        generalize hwz : wr = wz at *
        clear hwz Hbr Hpy
        go_upto_region 14 with (fail)
        go_cut [109] from 80 to 109 (fun v w => v = .bool (!(decide (f.c = 0 ∨ f.c = 2) && decide ((f.key.length : Int) = chan f.c))) ∧ wz = w)
        case first =>
          by_cases c0 : f.c = 0
          · have e0 : (f.c == 0) = true := beq_iff_eq.2 c0
            have n0 : (f.c != 0) = false := by rw [bne_eq_false_iff_eq]; exact c0
            have e2 : (f.c == 2) = false := beq_eq_false_iff_ne.2 (by omega)
            have Hc := hid (show (decide (f.c = 0 ∨ f.c = 2) && decide ((f.key.length : Int) = chan f.c)) = decide ((f.key.length : Int) = 1) by rw [decide_eq_true (.inl c0), c0]; rfl)
            clear c0
            by_cases h1 : f.key.length = 1
            · have m1 : ((f.key.length : Int) != 1) = false := by rw [bne_eq_false_iff_eq]; omega
              have Hv := hid (show decide ((f.key.length : Int) = 1) = true from decide_eq_true (by omega))
              go_wp2
              go_meet
              exact ⟨by rw [Hc.out, Hv.out]; rfl, rfl⟩
            · have m1 : ((f.key.length : Int) != 1) = true := bne_iff_ne.2 (by omega)
              have Hv := hid (show decide ((f.key.length : Int) = 1) = false from decide_eq_false (by omega))
              go_wp2
              go_meet
              exact ⟨by rw [Hc.out, Hv.out]; rfl, rfl⟩
          · have e0 : (f.c == 0) = false := beq_eq_false_iff_ne.2 c0
            have n0 : (f.c != 0) = true := bne_iff_ne.2 c0
            by_cases c2 : f.c = 2
            · have e2 : (f.c == 2) = true := beq_iff_eq.2 c2
              have n2 : (f.c != 2) = false := by rw [bne_eq_false_iff_eq]; exact c2
              have Hc := hid (show (decide (f.c = 0 ∨ f.c = 2) && decide ((f.key.length : Int) = chan f.c)) = decide ((f.key.length : Int) = 3) by rw [decide_eq_true (.inr c2), c2]; rfl)
              clear c0 c2
              by_cases h1 : f.key.length = 3
              · have m1 : ((f.key.length : Int) != 3) = false := by rw [bne_eq_false_iff_eq]; omega
                have Hv := hid (show decide ((f.key.length : Int) = 3) = true from decide_eq_true (by omega))
                go_wp2
                go_meet
                exact ⟨by rw [Hc.out, Hv.out]; rfl, rfl⟩
              · have m1 : ((f.key.length : Int) != 3) = true := bne_iff_ne.2 (by omega)
                have Hv := hid (show decide ((f.key.length : Int) = 3) = false from decide_eq_false (by omega))
                go_wp2
                go_meet
                exact ⟨by rw [Hc.out, Hv.out]; rfl, rfl⟩
            · have e2 : (f.c == 2) = false := beq_eq_false_iff_ne.2 c2
              have n2 : (f.c != 2) = true := bne_iff_ne.2 c2
              have Hc := hid (show (decide (f.c = 0 ∨ f.c = 2) && decide ((f.key.length : Int) = chan f.c)) = false by rw [decide_eq_false (show ¬ (f.c = 0 ∨ f.c = 2) by omega)]; rfl)
              clear c0 c2
              go_wp2
              go_meet
              exact ⟨by rw [Hc.out]; rfl, rfl⟩
        case rest =>
          obtain ⟨rfl, rfl⟩ := hcut
          cases hkc : (decide (f.c = 0 ∨ f.c = 2) && decide ((f.key.length : Int) = chan f.c))
          · have Hn := hid (show formOk f = false by rw [Hks.out, hkc]; rfl)
            clear hkc
            go_wp2_with fail
            go_ret
            exact gdEnd Hn.out Hbz.out
          have Hfk := hid (show formOk f = f.key.all (keyB f.d) by rw [Hks.out, hkc]; simp)
          clear hkc hk0
          simp only [Bool.not_true]
          go_wp2_with fail
          clear q0 q1 q2 q3 q4 q5 q6 p0 p1 p2 p3 p4
          go_loopw [6] (fun i wr => ∃ j : Nat, j ≤ f.key.length ∧ i = .int .i64 j ∧ (f.key.take j).all (keyB f.d) = true ∧ FC wr W.heap.size f PA KA pc kc ∧ HC wr (W.heap.size + 1) f.w f.h f.d f.c f.l ∧ RdI wr W.heap.size KA f.key ∧ Below W.heap.size W wr) (fun i _ => f.key.length - (intOf i).toNat)
          case atStart => exact ⟨0, by omega, rfl, rfl, HFr.out, Hhr.out, Hkz.out, Hbz.out⟩
          case round =>
            obtain ⟨j, hj, rfl, hall, hf2, hh2, hk2, hb2⟩ := hrel
            have Hal := hid hall
            have HF2 := hid hf2
            have HH2 := hid hh2
            have HK2 := hid hk2
            have HB2 := hid hb2
            clear hall hf2 hh2 hk2 hb2
            obtain ⟨⟨q0, q1, q2, q3, q4⟩, q5, q6⟩ := HF2.out
            obtain ⟨p0, p1, p2, p3, p4⟩ := HH2.out
            by_cases hlt2 : j < f.key.length
            · obtain ⟨b, off, rfl, hbb, x0⟩ := int_at HK2.out hlt2
              have Hkt := hid (key_take f.d f.key j hlt2)
              have Hbad := hid (fun (h : keyB f.d f.key[j] = false) => show formOk f = false by
                rw [Hfk.out, List.all_eq_false]; exact ⟨f.key[j], List.getElem_mem hlt2, by rw [h]; simp⟩)
              generalize f.key[j] = x at *
              by_cases hx0 : x < 0
              · have Hn := hid (Hbad.out (decide_eq_false (fun h => by omega)))
                have dx : decide (x < 0) = true := decide_eq_true hx0
                go_wp2_with fail
                go_quiet (fail)
                go_wp2
                go_ret
                exact gdEnd Hn.out (below_drewN HB2.out nq)
              have dx : decide (x < 0) = false := decide_eq_false hx0
              by_cases hx1 : pw f.d - 1 < x
              · have Hn := hid (Hbad.out (decide_eq_false (fun h => by omega)))
                have dy : decide (pw f.d - 1 < x) = true := decide_eq_true hx1
                go_wp2_with fail
                go_quiet ((go_at_call 42; exact Calls.quiet_of_same (top_same _ Hd.out _)))
                go_wp2
                go_ret
                exact gdEnd Hn.out (below_drewN HB2.out nq)
              · have Hn := hid (show (f.key.take (j + 1)).all (keyB f.d) = true by rw [Hkt.out, Hal.out, Bool.true_and]; exact decide_eq_true (by omega))
                have dy : decide (pw f.d - 1 < x) = false := decide_eq_false hx1
                go_wp2_with fail
                go_quiet ((go_at_call 42; exact Calls.quiet_of_same (top_same _ Hd.out _)))
                go_wp2
                go_roundw
                case rel => exact ⟨j + 1, by omega, by go_num, Hn.out, HF2.out, HH2.out, HK2.out.drewN nq, below_drewN HB2.out nq⟩
                case measure => simp [intOf]; omega
            · have e : j = f.key.length := by omega
              subst e
              have Hn := hid (show formOk f = true by rw [Hfk.out]; have := Hal.out; rwa [List.take_length] at this)
              go_wp2_with fail
              go_ret
              exact gdEnd Hn.out HB2.out

theorem good_form (f : Fm) (PA KA : Option Addr) (pc kc : Nat) (W : World) (hp : RdP W W.heap.size PA f.pal) (hk : RdI W W.heap.size KA f.key) (hpm : f.pal.length ≤ 1000000) (hkm : f.key.length ≤ 1000000) :
    Calls Try.prog 12 #[.agg #[.int .i64 f.w, .int .i64 f.h, .int .i64 f.d, .int .i64 f.c, .int .i64 f.l, .slice PA f.pal.length pc, .slice KA f.key.length kc]] W (GdEnd f W) := by
  by_cases hh : headErr f.w f.h f.d f.c f.l = 0
  · exact good_main f PA KA pc kc W hh hp hk hpm hkm
  · exact good_head f PA KA pc kc W hh
theorem fcheck_any (f : Fm) (PA KA : Option Addr) (pc kc : Nat) (W : World) (hp : RdP W W.heap.size PA f.pal) (hk : RdI W W.heap.size KA f.key) (hpm : f.pal.length ≤ 1000000) (hkm : f.key.length ≤ 1000000) :
    Calls Try.prog 28 #[.agg #[.int .i64 f.w, .int .i64 f.h, .int .i64 f.d, .int .i64 f.c, .int .i64 f.l, .slice PA f.pal.length pc, .slice KA f.key.length kc]] W (FcEnd f W) := by
  by_cases hh : headErr f.w f.h f.d f.c f.l = 0
  · exact fcheck_main f PA KA pc kc W hh hp hk hpm hkm
  · exact fcheck_head f PA KA pc kc W hh

end Go.Proofs.Ytphhoihhmphbdaa
