/-
  ShrinkBest: for every raster and lace the law returns true. No condition.
-/
import Derived.Test.YtbpdkpphhjmalaaShrinkForms
import Derived.Test.YtbpdkpphhjmalaaRefD
namespace Go.Proofs.Ytbpdkpphhjmalaa.ShrinkBest
open Go.ChangeShapes Go.WideShapes Go.ChangeAt Go.RowKit Go.Proofs.Ytbpdkpphhjmalaa Go.Shelf Go.Proofs.Ytbpdkpphhjmalaa.ShrinkForms

/-- the law's boxes: the raster, the best form -/
def LB (w W : World) (x y : Int) (PR : Option Addr) (n pr g : Nat) (f : Fm) (PA KA : Option Addr) (pc kc : Nat) : Prop :=
  RcW w W x y PR n pr ∧ Blk w g 32 #[.int .i64 f.w, .int .i64 f.h, .int .i64 f.d, .int .i64 f.c, .int .i64 f.l, .slice PA f.pal.length pc, .slice KA f.key.length kc] ∧ FmOwn w 0 f PA KA pc kc
theorem LB.below {w w' W : World} {x y : Int} {PR PA KA : Option Addr} {n pr g pc kc : Nat} {f : Fm} (h : LB w W x y PR n pr g f PA KA pc kc) (hb : Below w.heap.size w w') : LB w' W x y PR n pr g f PA KA pc kc :=
  ⟨h.1.below hb, h.2.1.below hb h.2.1.lt, h.2.2.below hb (Nat.le_refl _)⟩
theorem LB.rdx {w W : World} {x y : Int} {PR PA KA : Option Addr} {pr g pc kc : Nat} {f : Fm} {px : List Px} (h : LB w W x y PR px.length pr g f PA KA pc kc) (hp : RdP W W.heap.size PR px) : RdP w w.heap.size PR px := (Rd.below hp h.1.2 (Nat.le_refl _)).more h.1.2.size
theorem bestOf_take (f0 : Fm) (fs : List Fm) : bestM f0 (f0 :: fs) = bestOf (f0 :: fs) := by
  show bestM (bestS f0 f0) fs = bestM f0 fs
  unfold bestS
  split <;> rfl

set_option maxRecDepth 100000 in
set_option maxHeartbeats 16000000 in
theorem walk_bad (x y lc : Int) (PR : Option Addr) (pr : Nat) (px : List Px) (W : World) (hp : RdP W W.heap.size PR px) (hm5 : px.length ≤ 500) (hok : ¬ (rasOk x y px = true ∧ 0 ≤ lc ∧ lc ≤ 1)) :
    Calls Try.prog 13 #[.agg #[.int .i64 x, .int .i64 y, .slice PR px.length pr], .int .i64 lc] W fun e w' => e = .returned (.bool true) ∧ Below W.heap.size W w' := by
  have Hp := hid hp
  have Hw := hid (rcw_start x y PR px.length pr W)
  have Hok := hid hok
  have hm : px.length ≤ 1000000 := by omega
  have Hlg := hid (show largeR px.length = false from decide_eq_false (by omega))
  clear hp hok
  go_enter Try.func13, Try.ntmps13
  go_wp2_with fail
  refine (alive18_any _).mono ?_
  rintro e w1 ⟨rfl, hb⟩
  have Hw1 := hid (Hw.out.below hb)
  have q0 := Hw1.out.1.cell 0
  have q1 := Hw1.out.1.cell 1
  have q2 := Hw1.out.1.cell 2
  simp only [List.getElem?_toArray, List.getElem?_cons_zero, List.getElem?_cons_succ] at q0 q1 q2
  clear hb Hw
  go_wp2_with fail
  refine (large18_any x y PR px.length pr _).mono ?_
  rintro e w2 ⟨rfl, hb⟩
  have Hw2 := hid (Hw1.out.below hb)
  rw [Hlg.out]
  clear q0 q1 q2
  have q0 := Hw2.out.1.cell 0
  have q1 := Hw2.out.1.cell 1
  have q2 := Hw2.out.1.cell 2
  simp only [List.getElem?_toArray, List.getElem?_cons_zero, List.getElem?_cons_succ] at q0 q1 q2
  clear hb Hw1
  go_wp2_with fail
  refine (best_any x y lc PR pr px _ (Rd.below Hp.out Hw2.out.2 (Nat.le_refl _) |>.more Hw2.out.2.size) hm).mono ?_
  rintro e w3 hE
  obtain ⟨he, hb⟩ := (show BestEnd none w2 e w3 by rwa [show fformsM x y lc px = none from if_neg Hok.out] at hE)
  have he : e = .returned (.tuple #[.agg #[.int .i64 0, .int .i64 0, .int .i64 0, .int .i64 0, .int .i64 0, .slice none 0 0, .slice none 0 0], .iface 56 (.int .i64 6)]) := he
  subst he
  have Hw3 := hid ((Hw2.out.below hb).alloc (.cells #[.int .i64 0, .int .i64 0, .int .i64 0, .int .i64 0, .int .i64 0, .slice none 0 0, .slice none 0 0] 32))
  have HF := hid (Blk.new w3 32 #[.int .i64 0, .int .i64 0, .int .i64 0, .int .i64 0, .int .i64 0, .slice none 0 0, .slice none 0 0])
  clear hb hE Hw2
  clear q0 q1 q2
  go_upto_region 6 with (fail)
  generalize w3.alloc (.cells #[.int .i64 0, .int .i64 0, .int .i64 0, .int .i64 0, .int .i64 0, .slice none 0 0, .slice none 0 0] 32) = w4 at *
  generalize w3.heap.size = g at *
  have q0 := Hw3.out.1.cell 0
  have q1 := Hw3.out.1.cell 1
  have q2 := Hw3.out.1.cell 2
  simp only [List.getElem?_toArray, List.getElem?_cons_zero, List.getElem?_cons_succ] at q0 q1 q2
  go_wp2_with fail
  refine (rgood_any x y PR pr px _ (Rd.below Hp.out Hw3.out.2 (Nat.le_refl _) |>.more Hw3.out.2.size) hm).mono ?_
  rintro e w5 ⟨rfl, hb⟩
  have Hw5 := hid (Hw3.out.below hb)
  have HF5 := hid (HF.out.below hb HF.out.lt)
  clear q0 q1 q2
  clear hb Hw3 HF
  have q0 := HF5.out.cell 0
  have q1 := HF5.out.cell 1
  have q2 := HF5.out.cell 2
  have q3 := HF5.out.cell 3
  have q4 := HF5.out.cell 4
  have q5 := HF5.out.cell 5
  have q6 := HF5.out.cell 6
  simp only [List.getElem?_toArray, List.getElem?_cons_zero, List.getElem?_cons_succ] at q0 q1 q2 q3 q4 q5 q6
  cases hr : rasOk x y px
  · clear hr
    go_wp2_with fail
    refine (is_no 6 6 (by omega) _).mono ?_
    rintro e w6 ⟨rfl, rfl⟩
    go_wp2_with fail
    refine (same18_any (bare 0 0 0 0 0) none none none none 0 0 0 0 _ Rd.nil RdI.nil Rd.nil RdI.nil (by simp [bare]) (by simp [bare])).mono ?_
    rintro e w7 ⟨rfl, hb⟩
    have Hw7 := hid (Hw5.out.below hb)
    clear hb
    go_wp2
    go_ret
    exact ⟨rfl, Hw7.out.2⟩
  · have Hlc := hid (show lc < 0 ∨ 1 < lc by
      have h := Hok.out
      rw [hr] at h
      exact Decidable.byContradiction (fun hn => h ⟨rfl, by omega, by omega⟩))
    clear hr
    by_cases hl0 : lc < 0
    · have d1 : decide (lc < 0) = true := decide_eq_true hl0
      clear hl0
      go_wp2_with fail
      refine (is_no 6 6 (by omega) _).mono ?_
      rintro e w6 ⟨rfl, rfl⟩
      go_wp2_with fail
      refine (same18_any (bare 0 0 0 0 0) none none none none 0 0 0 0 _ Rd.nil RdI.nil Rd.nil RdI.nil (by simp [bare]) (by simp [bare])).mono ?_
      rintro e w7 ⟨rfl, hb⟩
      have Hw7 := hid (Hw5.out.below hb)
      clear hb
      go_wp2
      go_ret
      exact ⟨rfl, Hw7.out.2⟩
    · have d1 : decide (lc < 0) = false := decide_eq_false hl0
      have d2 : decide (1 < lc) = true := decide_eq_true (by have := Hlc.out; omega)
      clear hl0
      go_wp2_with fail
      refine (is_no 6 6 (by omega) _).mono ?_
      rintro e w6 ⟨rfl, rfl⟩
      go_wp2_with fail
      refine (same18_any (bare 0 0 0 0 0) none none none none 0 0 0 0 _ Rd.nil RdI.nil Rd.nil RdI.nil (by simp [bare]) (by simp [bare])).mono ?_
      rintro e w7 ⟨rfl, hb⟩
      have Hw7 := hid (Hw5.out.below hb)
      clear hb
      go_wp2
      go_ret
      exact ⟨rfl, Hw7.out.2⟩

set_option maxRecDepth 100000 in
set_option maxHeartbeats 16000000 in
theorem walk_good (x y lc : Int) (PR : Option Addr) (pr : Nat) (px : List Px) (W : World) (hp : RdP W W.heap.size PR px) (hm5 : px.length ≤ 500) (hr : rasOk x y px = true) (hl0 : 0 ≤ lc) (hl1 : lc ≤ 1) :
    Calls Try.prog 13 #[.agg #[.int .i64 x, .int .i64 y, .slice PR px.length pr], .int .i64 lc] W fun e w' => e = .returned (.bool true) ∧ Below W.heap.size W w' := by
  have Hp := hid hp
  have Hw := hid (rcw_start x y PR px.length pr W)
  have hm : px.length ≤ 1000000 := by omega
  have Hr := hid hr
  have Hff := hid (show fformsM x y lc px = some (formsM x y lc px) from if_pos ⟨hr, hl0, hl1⟩)
  have Hne := hid (forms_ne hr hl0 hl1)
  have Hfit := hid (forms_fit x y lc px)
  have Hflen := hid (formsM_len x y lc px)
  have Hlg := hid (show largeR px.length = false from decide_eq_false (by omega))
  have d1 : decide (lc < 0) = false := decide_eq_false (by omega)
  have d2 : decide (1 < lc) = false := decide_eq_false (by omega)
  clear hp hr
  go_enter Try.func13, Try.ntmps13
  go_wp2_with fail
  refine (alive18_any _).mono ?_
  rintro e w1 ⟨rfl, hb⟩
  have Hw1 := hid (Hw.out.below hb)
  have q0 := Hw1.out.1.cell 0
  have q1 := Hw1.out.1.cell 1
  have q2 := Hw1.out.1.cell 2
  simp only [List.getElem?_toArray, List.getElem?_cons_zero, List.getElem?_cons_succ] at q0 q1 q2
  clear hb Hw
  go_wp2_with fail
  refine (large18_any x y PR px.length pr _).mono ?_
  rintro e w2 ⟨rfl, hb⟩
  have Hw2 := hid (Hw1.out.below hb)
  rw [Hlg.out]
  clear q0 q1 q2
  have q0 := Hw2.out.1.cell 0
  have q1 := Hw2.out.1.cell 1
  have q2 := Hw2.out.1.cell 2
  simp only [List.getElem?_toArray, List.getElem?_cons_zero, List.getElem?_cons_succ] at q0 q1 q2
  clear hb Hw1
  go_wp2_with fail
  refine (best_any x y lc PR pr px _ (Rd.below Hp.out Hw2.out.2 (Nat.le_refl _) |>.more Hw2.out.2.size) hm).mono ?_
  rintro e w3 hE
  obtain ⟨⟨z, rfl, hz, hzo⟩, hb⟩ := (show BestEnd (some (formsM x y lc px)) w2 e w3 by rwa [Hff.out] at hE)
  obtain ⟨f, PA, KA, pc, kc⟩ := z
  simp only at hz hzo
  have L4 : Hid (LB (w3.alloc (.cells #[.int .i64 f.w, .int .i64 f.h, .int .i64 f.d, .int .i64 f.c, .int .i64 f.l, .slice PA f.pal.length pc, .slice KA f.key.length kc] 32)) W x y PR px.length pr w3.heap.size f PA KA pc kc) := hid ⟨(Hw2.out.below hb).alloc _, Blk.new _ _ _, (hzo.lower (Nat.zero_le _)).alloc _⟩
  have Hz := hid hz
  clear hb hE Hw2 hz hzo
  clear q0 q1 q2
  go_upto_region 6 with (fail)
  generalize w3.alloc (.cells #[.int .i64 f.w, .int .i64 f.h, .int .i64 f.d, .int .i64 f.c, .int .i64 f.l, .slice PA f.pal.length pc, .slice KA f.key.length kc] 32) = w4 at *
  generalize w3.heap.size = g at *
  have q0 := L4.out.1.1.cell 0
  have q1 := L4.out.1.1.cell 1
  have q2 := L4.out.1.1.cell 2
  simp only [List.getElem?_toArray, List.getElem?_cons_zero, List.getElem?_cons_succ] at q0 q1 q2
  go_wp2_with fail
  refine (rgood_any x y PR pr px _ (L4.out.rdx Hp.out) hm).mono ?_
  rintro e w5 ⟨rfl, hb⟩
  rw [Hr.out]
  have L5 := hid (L4.out.below hb)
  clear q0 q1 q2
  clear hb L4
  have q0 := L5.out.1.1.cell 0
  have q1 := L5.out.1.1.cell 1
  have q2 := L5.out.1.1.cell 2
  simp only [List.getElem?_toArray, List.getElem?_cons_zero, List.getElem?_cons_succ] at q0 q1 q2
  go_wp2_with fail
  refine (rforms_any x y lc PR pr px _ (L5.out.rdx Hp.out) hm).mono ?_
  rintro e w9 ⟨OB, ob, ys, rfl, hym, hyo, hyf, hb⟩
  have L9 := hid (L5.out.below hb)
  rw [rforms_eq] at hym
  have Hym := hid hym
  have Hyo := hid hyo
  have Hyf := hid hyf
  have hl7 : ys.length ≤ 7 := by
    have h2 := congrArg List.length hym
    rw [List.length_map] at h2
    have := Hflen.out
    omega
  have hl1 : 1 ≤ ys.length := by
    cases ys with
    | nil => exact absurd hym.symm Hne.out
    | cons => simp
  have Hok := hid (fun (j : Nat) (hj : j < ys.length) => show formOk ys[j].f = true from fits_ok (Hfit.out _ (by rw [← Hym.out]; exact List.mem_map_of_mem (List.getElem_mem hj))))
  clear hb hym hyo hyf L5 Hfit
  clear q0 q1 q2
  clear d1 d2
  go_upto_region 11 with (fail)
  go_loopw [8, 43] (fun bi i wr => ∃ (j b : Nat) (hb : b < ys.length), j ≤ ys.length ∧ i = .int .i64 j ∧ bi = .int .i64 b ∧ (ys[b]).f = bestM (ys[0]).f ((ys.take j).map (·.f)) ∧ Below w9.heap.size w9 wr) (fun _ i _ => ys.length - (intOf i).toNat)
  case atStart => exact ⟨0, 0, hl1, by omega, rfl, rfl, rfl, Below.refl _ _⟩
  case round =>
    obtain ⟨j, b, hbl, hj, rfl, rfl, hbest, hb⟩ := hrel
    have Hb := hid hb
    have Hbest := hid hbest
    clear hb hbest
    have Hra := hid (own_rd (own_below Hyo.out Hb.out (Nat.le_refl _)))
    by_cases hlt : j < ys.length
    · obtain ⟨g1, off, hA, hbb, hx⟩ := form_at Hra.out hlt
      subst hA
      obtain ⟨g2, off2, hB, hbb2, hy⟩ := form_at Hra.out hbl
      simp only [Option.some.injEq, Addr.mk.injEq] at hB
      obtain ⟨rfl, rfl, _⟩ := hB
      have hfo := Hok.out j hlt
      have hfo2 := Hok.out b hbl
      obtain ⟨fl1, fl2⟩ := form_lens hfo
      obtain ⟨fl3, fl4⟩ := form_lens hfo2
      have HzF := hid ((Hyf.out _ (List.getElem_mem hlt)).below Hb.out (Nat.le_refl _))
      have HyF := hid ((Hyf.out _ (List.getElem_mem hbl)).below Hb.out (Nat.le_refl _))
      have Hsn := hid (show bestM (ys[0]).f ((ys.take (j + 1)).map (·.f)) = if rsize ys[j].f < rsize ys[b].f then ys[j].f else ys[b].f by
        rw [List.take_succ_eq_append_getElem hlt, List.map_append, List.map_singleton, bestM_snoc, ← Hbest.out, rsize_eq hfo, rsize_eq hfo2])
      have hjl : (j : Int) < (ys.length : Int) := by omega
      have hbl' : (b : Int) < (ys.length : Int) := by omega
      have Hfj := hid hfo
      have Hfb := hid hfo2
      have Hgj : ∃ z, z = ys[j] := ⟨_, rfl⟩
      have Hgb : ∃ u, u = ys[b] := ⟨_, rfl⟩
      obtain ⟨z, hz⟩ := Hgj
      obtain ⟨u, hu⟩ := Hgb
      rw [← hz] at hx HzF Hsn Hfj fl1 fl2
      rw [← hu] at hy HyF Hsn Hfb fl3 fl4
      have Hzj := hid hz
      have Hub := hid hu
      clear hz hu hfo hfo2
      obtain ⟨f1, PA1, KA1, pc1, kc1⟩ := z
      obtain ⟨f2, PA2, KA2, pc2, kc2⟩ := u
      simp only at fl1 fl2 fl3 fl4 HzF HyF hx hy Hsn Hfj Hfb
      have x0 := hx 0 _ (by omega) rfl
      have x1 := hx 1 _ (by omega) rfl
      have x2 := hx 2 _ (by omega) rfl
      have x3 := hx 3 _ (by omega) rfl
      have x4 := hx 4 _ (by omega) rfl
      have x5 := hx 5 _ (by omega) rfl
      have x6 := hx 6 _ (by omega) rfl
      have y0 := hy 0 _ (by omega) rfl
      have y1 := hy 1 _ (by omega) rfl
      have y2 := hy 2 _ (by omega) rfl
      have y3 := hy 3 _ (by omega) rfl
      have y4 := hy 4 _ (by omega) rfl
      have y5 := hy 5 _ (by omega) rfl
      have y6 := hy 6 _ (by omega) rfl
      simp only [Nat.add_zero] at x0 y0
      have hbr : ∀ d' os, Below wr.heap.size wr (Sort.grow (redrawn wr d') os) := fun d' os => below_regrown wr d' os
      have cS1 : ∀ d' os, Calls Try.prog 57 #[.agg #[.int .i64 f1.w, .int .i64 f1.h, .int .i64 f1.d, .int .i64 f1.c, .int .i64 f1.l, .slice PA1 f1.pal.length pc1, .slice KA1 f1.key.length kc1]] (Sort.grow (redrawn wr d') os) fun e w'' => e = .returned (.int .i64 (rsize f1)) ∧ ∃ p : Regrown, w'' = Sort.grow (redrawn wr p.d) p.os := fun d' os =>
        Calls.regrown_of (rsize18_any f1 PA1 KA1 pc1 kc1 _ Hfj.out (HzF.out.below (hbr d' os) (Nat.le_refl _)).rdp (by omega) (by omega))
      have cS2 : ∀ d' os, Calls Try.prog 57 #[.agg #[.int .i64 f2.w, .int .i64 f2.h, .int .i64 f2.d, .int .i64 f2.c, .int .i64 f2.l, .slice PA2 f2.pal.length pc2, .slice KA2 f2.key.length kc2]] (Sort.grow (redrawn wr d') os) fun e w'' => e = .returned (.int .i64 (rsize f2)) ∧ ∃ p : Regrown, w'' = Sort.grow (redrawn wr p.d) p.os := fun d' os =>
        Calls.regrown_of (rsize18_any f2 PA2 KA2 pc2 kc2 _ Hfb.out (HyF.out.below (hbr d' os) (Nat.le_refl _)).rdp (by omega) (by omega))
      have k0 := cell_regrown x0
      have k1 := cell_regrown x1
      have k2 := cell_regrown x2
      have k3 := cell_regrown x3
      have k4 := cell_regrown x4
      have k5 := cell_regrown x5
      have k6 := cell_regrown x6
      have m0 := cell_regrown y0
      have m1 := cell_regrown y1
      have m2 := cell_regrown y2
      have m3 := cell_regrown y3
      have m4 := cell_regrown y4
      have m5 := cell_regrown y5
      have m6 := cell_regrown y6
      clear hx hy hbr x0 x1 x2 x3 x4 x5 x6 y0 y1 y2 y3 y4 y5 y6
      go_upto_region 13 with (fail)
      refine wp_region_quiet_below (by kernel_rfl) (by kernel_rfl) ?_
      repeat (go_big_quiet_step (first | with_reducible exact cS1 _ _ | with_reducible exact cS2 _ _))
      refine wpQuiet_nil ?_
      intro wv hwv
      obtain ⟨⟨dq, osq⟩, hwv⟩ := hwv
      have hbv : Below wr.heap.size wr wv := by rw [hwv]; exact below_regrown wr dq osq
      have Hbv := hid (Hb.out.trans (hbv.mono Hb.out.size))
      clear hwv hbv k0 k1 k2 k3 k4 k5 k6 m0 m1 m2 m3 m4 m5 m6 cS1 cS2
      by_cases hs : rsize f1 < rsize f2
      · rw [show decide (rsize f1 < rsize f2) = true from decide_eq_true hs]
        have Hn := hid (show ys[j].f = bestM (ys[0]).f ((ys.take (j + 1)).map (·.f)) by rw [Hsn.out, if_pos hs, ← Hzj.out])
        clear hs
        go_wp2
        go_roundw
        case rel => exact ⟨j + 1, j, hlt, by omega, by go_num, rfl, Hn.out, Hbv.out⟩
        case measure => simp [intOf]; omega
      · rw [show decide (rsize f1 < rsize f2) = false from decide_eq_false hs]
        have Hn := hid (show ys[b].f = bestM (ys[0]).f ((ys.take (j + 1)).map (·.f)) by rw [Hsn.out, if_neg hs, ← Hub.out])
        clear hs
        go_wp2
        go_roundw
        case rel => exact ⟨j + 1, b, hbl, by omega, by go_num, rfl, Hn.out, Hbv.out⟩
        case measure => simp [intOf]; omega
    · obtain rfl : j = ys.length := by omega
      have hbf : (ys[b]).f = f := by
        rw [Hbest.out, List.take_length, Hym.out, Hz.out, ← Hym.out]
        cases ys with
        | nil => simp at hl1
        | cons y0 yt => exact bestOf_take y0.f (yt.map (·.f))
      obtain ⟨g2, off2, hB, hbb2, hy⟩ := form_at Hra.out hbl
      subst hB
      have hfo2 := Hok.out b hbl
      obtain ⟨fl3, fl4⟩ := form_lens hfo2
      have HyF := hid ((Hyf.out _ (List.getElem_mem hbl)).below Hb.out (Nat.le_refl _))
      have hbl' : (b : Int) < (ys.length : Int) := by omega
      have LR := hid (L9.out.below Hb.out)
      clear Hbest Hra
      generalize ys[b] = u at *
      obtain ⟨f2, PA2, KA2, pc2, kc2⟩ := u
      simp only at hbf hfo2 fl3 fl4 HyF hy
      subst hbf
      have y0 := hy 0 _ (by omega) rfl
      have y1 := hy 1 _ (by omega) rfl
      have y2 := hy 2 _ (by omega) rfl
      have y3 := hy 3 _ (by omega) rfl
      have y4 := hy 4 _ (by omega) rfl
      have y5 := hy 5 _ (by omega) rfl
      have y6 := hy 6 _ (by omega) rfl
      simp only [Nat.add_zero] at y0
      have q0 := LR.out.2.1.cell 0
      have q1 := LR.out.2.1.cell 1
      have q2 := LR.out.2.1.cell 2
      have q3 := LR.out.2.1.cell 3
      have q4 := LR.out.2.1.cell 4
      have q5 := LR.out.2.1.cell 5
      have q6 := LR.out.2.1.cell 6
      simp only [List.getElem?_toArray, List.getElem?_cons_zero, List.getElem?_cons_succ] at q0 q1 q2 q3 q4 q5 q6
      have hbr : ∀ d' os, Below wr.heap.size wr (Sort.grow (redrawn wr d') os) := fun d' os => below_regrown wr d' os
      have cS : ∀ d' os, Calls Try.prog 55 #[.agg #[.int .i64 f2.w, .int .i64 f2.h, .int .i64 f2.d, .int .i64 f2.c, .int .i64 f2.l, .slice PA f2.pal.length pc, .slice KA f2.key.length kc], .agg #[.int .i64 f2.w, .int .i64 f2.h, .int .i64 f2.d, .int .i64 f2.c, .int .i64 f2.l, .slice PA2 f2.pal.length pc2, .slice KA2 f2.key.length kc2]] (Sort.grow (redrawn wr d') os) fun e w'' => e = .returned (.bool true) ∧ ∃ p : Regrown, w'' = Sort.grow (redrawn wr p.d) p.os := fun d' os =>
        Calls.regrown_of (same18_any f2 PA2 KA2 PA KA pc2 kc2 pc kc _ (HyF.out.below (hbr d' os) (Nat.le_refl _)).rdp (HyF.out.below (hbr d' os) (Nat.le_refl _)).rdi (LR.out.2.2.below (hbr d' os) (Nat.le_refl _)).rdp (LR.out.2.2.below (hbr d' os) (Nat.le_refl _)).rdi (by omega) (by omega))
      have k0 := cell_regrown q0
      have k1 := cell_regrown q1
      have k2 := cell_regrown q2
      have k3 := cell_regrown q3
      have k4 := cell_regrown q4
      have k5 := cell_regrown q5
      have k6 := cell_regrown q6
      have m0 := cell_regrown y0
      have m1 := cell_regrown y1
      have m2 := cell_regrown y2
      have m3 := cell_regrown y3
      have m4 := cell_regrown y4
      have m5 := cell_regrown y5
      have m6 := cell_regrown y6
      clear hy hbr q0 q1 q2 q3 q4 q5 q6 y0 y1 y2 y3 y4 y5 y6
      go_upto_region 16 with (fail)
      refine wp_region_quiet_below (by kernel_rfl) (by kernel_rfl) ?_
      repeat (go_big_quiet_step (with_reducible exact cS _ _))
      refine wpQuiet_nil ?_
      intro wv hwv
      obtain ⟨⟨dq, osq⟩, hwv⟩ := hwv
      have hbv : Below wr.heap.size wr wv := by rw [hwv]; exact below_regrown wr dq osq
      have Hbv := hid (LR.out.1.2.trans (hbv.mono LR.out.1.2.size))
      clear hwv hbv k0 k1 k2 k3 k4 k5 k6 m0 m1 m2 m3 m4 m5 m6 cS
      go_wp2
      go_ret
      exact ⟨rfl, Hbv.out⟩

set_option maxRecDepth 100000 in
set_option maxHeartbeats 4000000 in
theorem walk_large (x y lc : Int) (PR : Option Addr) (pr : Nat) (px : List Px) (W : World) (h : ¬ px.length ≤ 500) :
    Calls Try.prog 13 #[.agg #[.int .i64 x, .int .i64 y, .slice PR px.length pr], .int .i64 lc] W fun e w' => e = .returned (.bool true) ∧ Below W.heap.size W w' := by
  have Hw := hid (rcw_start x y PR px.length pr W)
  have Hlg := hid (show largeR px.length = true from decide_eq_true (by omega))
  clear h
  go_enter Try.func13, Try.ntmps13
  go_wp2_with fail
  refine (alive18_any _).mono ?_
  rintro e w1 ⟨rfl, hb⟩
  have Hw1 := hid (Hw.out.below hb)
  have q0 := Hw1.out.1.cell 0
  have q1 := Hw1.out.1.cell 1
  have q2 := Hw1.out.1.cell 2
  simp only [List.getElem?_toArray, List.getElem?_cons_zero, List.getElem?_cons_succ] at q0 q1 q2
  clear hb Hw
  go_wp2_with fail
  refine (large18_any x y PR px.length pr _).mono ?_
  rintro e w2 ⟨rfl, hb⟩
  have Hw2 := hid (Hw1.out.below hb)
  rw [Hlg.out]
  clear hb
  go_wp2
  go_ret
  exact ⟨rfl, Hw2.out.2⟩
theorem walk (x y lc : Int) (PR : Option Addr) (pr : Nat) (px : List Px) (W : World) (hp : RdP W W.heap.size PR px) :
    Calls Try.prog 13 #[.agg #[.int .i64 x, .int .i64 y, .slice PR px.length pr], .int .i64 lc] W fun e w' => e = .returned (.bool true) ∧ Below W.heap.size W w' := by
  by_cases hm5 : px.length ≤ 500
  · by_cases hok : rasOk x y px = true ∧ 0 ≤ lc ∧ lc ≤ 1
    · exact walk_good x y lc PR pr px W hp hm5 hok.1 hok.2.1 hok.2.2
    · exact walk_bad x y lc PR pr px W hp hm5 hok
  · exact walk_large x y lc PR pr px W hm5

set_option maxRecDepth 100000 in
theorem lifted (os : Os) (started : os.Started) (H : Type) (enc : TypeId × Value → H) :
    ReturnsInHanded {} Try.checked os 13 .any (Rows.shrinkBestSpec.pre6 enc Try.prog Try.f13 Rows.shrinkBestRow.domain false) (Rows.shrinkBestSpec.post enc Try.prog Try.f13 false true false false) :=
  law_lifted own laidOut started (by kernel_rfl) Try.func13 rfl rfl Try.underlying4
    (by rw [Try.params13]; intro t ht; simp at ht; rcases ht with rfl | rfl <;> exact ⟨by kernel_rfl, of_decide_eq_true (by kernel_rfl)⟩)
    (by
      intro ds h
      match ds, h with
      | [_, _], _ => exact ⟨rfl, rfl, rfl⟩)
    (ChangeSpec.witness6 (enc := enc) (C := Try.checked) false ⟨#[], #[.agg #[.int .i64 0, .int .i64 0, .slice none 0 0], .int .i64 0], []⟩ 8 (by kernel_rfl) (by kernel_rfl) (by kernel_rfl) (by kernel_rfl))
    (by
      intro W base args ds ps hval0 hA0
      have hval : ∀ (j : Nat) t v, Try.f13.params[j]? = some t → args[j]? = some v → Value.okWide Try.prog W .any base t v := hval0
      have hA : DataW.TrodAll enc Try.prog W 0 (fun _ => true) true Try.f13.params.toList args.toList ds ps := hA0
      clear hval0 hA0
      rw [Try.params13] at hA hval
      obtain ⟨v0, vs0, d0, ds0, p0, q0, hargs, rfl, rfl, h0, r0⟩ := trodAll_cons hA
      obtain ⟨v1, vs1, d1, ds1, p1, q1, rfl, rfl, rfl, h1, r1⟩ := trodAll_cons r0
      obtain ⟨rfl, rfl, rfl⟩ := trodAll_nil r1
      obtain rfl : args = #[v0, v1] := by cases args; simp_all
      obtain ⟨x0, y0, PR0, pr0, px0, rfl, hp0⟩ := open_ras (hval 0 83 v0 rfl rfl) h0
      obtain ⟨a1, rfl, rfl, rfl, w1⟩ := open_int Try.underlying3 (hval 1 3 v1 rfl rfl) h1
      exact walk x0 y0 a1 PR0 pr0 px0 W hp0)

theorem over : Rows.shrinkBestRow.holds Try.pinned (OpenSpec.ofChange Rows.shrinkBestSpec) :=
  OpenClaim.holds_of_wide 13 Try.f13 rfl rfl rfl rfl rfl rfl rfl ⟨rfl, rfl, rfl, rfl, rfl⟩ rfl rfl rfl rfl rfl (by kernel_rfl) Try.func13 (by kernel_rfl)
    (of_decide_eq_true (by kernel_rfl)) (by unfold Func.isWrapper; first | (rw [if_pos (by decide +kernel)]; kernel_rfl) | (rw [if_neg (by decide +kernel)]; exact ⟨rfl, rfl⟩))
    (fun os started H enc _ => lifted os started H enc)

theorem proved : Rows.ShrinkBestSaid := over
#print axioms proved
end Go.Proofs.Ytbpdkpphhjmalaa.ShrinkBest
