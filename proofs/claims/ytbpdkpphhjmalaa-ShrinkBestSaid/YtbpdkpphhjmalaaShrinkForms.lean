/-
  ShrinkForms: for every raster and lace the law returns true. No condition.
-/
import Derived.Test.YtbpdkpphhjmalaaL18B
import Derived.Test.YtbpdkpphhjmalaaRefE
import Derived.Test.YtbpdkpphhjmalaaRefB
namespace Go.Proofs.Ytbpdkpphhjmalaa.ShrinkForms
open Go.ChangeShapes Go.WideShapes Go.ChangeAt Go.RowKit Go.Proofs.Ytbpdkpphhjmalaa Go.Shelf

/-- a form in a list, cell by cell -/
theorem form_at {w : World} {B : Nat} {A : Option Addr} {zs : List FR} (h : Rd w B 7 A zs.length (zs.flatMap encF)) {j : Nat} (hj : j < zs.length) :
    ∃ b off, A = some ⟨b, off, none⟩ ∧ b < B ∧ ∀ o u, o < 7 → (encF zs[j])[o]? = some u → w.cell? ⟨b, off + j * 7 + o, none⟩ = some u := by
  obtain ⟨b, off, hA, hb, hc⟩ := Rd.at_ h hj (by omega)
  refine ⟨b, off, hA, hb, fun o u ho hu => ?_⟩
  have h1 := hc (j * 7 + o) u (by
    rw [flat_at encF 7 zs (fun _ _ => rfl) j o _ (List.getElem?_eq_getElem hj) ho]
    exact hu)
  rw [← Nat.add_assoc] at h1
  exact h1
/-- the law's boxes: the raster, its copy, the copy's row -/
def LS (w W : World) (x y : Int) (PR : Option Addr) (pr : Nat) (A : Option Addr) (c g : Nat) (px : List Px) : Prop :=
  RcW w W x y PR px.length pr ∧ Blk w g 83 #[.int .i64 x, .int .i64 y, .slice A px.length c] ∧ RdP w w.heap.size A px
theorem LS.below {w w' W : World} {x y : Int} {PR A : Option Addr} {pr c g : Nat} {px : List Px} (h : LS w W x y PR pr A c g px) (hb : Below w.heap.size w w') : LS w' W x y PR pr A c g px :=
  ⟨h.1.below hb, h.2.1.below hb h.2.1.lt, (Rd.below h.2.2 hb (Nat.le_refl _)).more hb.size⟩
theorem LS.rdp {w W : World} {x y : Int} {PR A : Option Addr} {pr c g : Nat} {px : List Px} (h : LS w W x y PR pr A c g px) (hp : RdP W W.heap.size PR px) : RdP w w.heap.size PR px := (Rd.below hp h.1.2 (Nat.le_refl _)).more h.1.2.size

set_option maxRecDepth 100000 in
set_option maxHeartbeats 8000000 in
theorem walk (x y lc : Int) (PR : Option Addr) (pr : Nat) (px : List Px) (W : World) (hp : RdP W W.heap.size PR px) :
    Calls Try.prog 12 #[.agg #[.int .i64 x, .int .i64 y, .slice PR px.length pr], .int .i64 lc] W fun e w' => e = .returned (.bool true) ∧ Below W.heap.size W w' := by
  have Hp := hid hp
  have Hw := hid (rcw_start x y PR px.length pr W)
  clear hp
  go_enter Try.func12, Try.ntmps12
  go_wp2_with fail
  refine (alive18_any _).mono ?_
  rintro e w1 ⟨rfl, hb⟩
  have Hw1 := hid (Hw.out.below hb)
  have q0 := Hw1.out.1.cell 0
  have q1 := Hw1.out.1.cell 1
  have q2 := Hw1.out.1.cell 2
  simp only [List.getElem?_toArray, List.getElem?_cons_zero, List.getElem?_cons_succ] at q0 q1 q2
  clear hb Hw
  go_wp2_with fail
  refine (large18_any x y PR px.length pr _).mono ?_
  rintro e w2 ⟨rfl, hb⟩
  have Hw2 := hid (Hw1.out.below hb)
  clear q0 q1 q2
  have q0 := Hw2.out.1.cell 0
  have q1 := Hw2.out.1.cell 1
  have q2 := Hw2.out.1.cell 2
  simp only [List.getElem?_toArray, List.getElem?_cons_zero, List.getElem?_cons_succ] at q0 q1 q2
  clear hb Hw1
  cases hl : largeR px.length
  case true =>
    clear hl
    go_wp2
    go_ret
    exact ⟨rfl, Hw2.out.2⟩
  have hm5 : px.length ≤ 500 := by unfold largeR at hl; simpa using hl
  clear hl
  have hm : px.length ≤ 1000000 := by omega
  go_wp2_with fail
  refine (copied_any x y PR pr px _ (Rd.below Hp.out Hw2.out.2 (Nat.le_refl _) |>.more Hw2.out.2.size) hm).mono ?_
  rintro e w3 ⟨A, c, rfl, ho, hb⟩
  have L4 : Hid (LS (w3.alloc (.cells #[.int .i64 x, .int .i64 y, .slice A px.length c] 83)) W x y PR pr A c w3.heap.size px) := hid ⟨(Hw2.out.below hb).alloc _, Blk.new _ _ _, own_rdp (ho.alloc _)⟩
  clear hb ho Hw2
  clear q0 q1 q2
  go_upto_region 6 with (fail)
  generalize w3.alloc (.cells #[.int .i64 x, .int .i64 y, .slice A px.length c] 83) = w4 at *
  generalize w3.heap.size = g at *
  have r0 := L4.out.2.1.cell 0
  have r1 := L4.out.2.1.cell 1
  have r2 := L4.out.2.1.cell 2
  simp only [List.getElem?_toArray, List.getElem?_cons_zero, List.getElem?_cons_succ] at r0 r1 r2
  go_wp2_with fail
  refine (sforms_any x y lc A c px _ L4.out.2.2 hm).mono ?_
  rintro e w5 hE
  have hb5 : Below w4.heap.size w4 w5 := hE.2
  have L5 := hid (L4.out.below hb5)
  have HE := hid hE
  clear hE
  clear r0 r1 r2
  have C7 : ∀ e' w', ScEnd x y px w5 e' w' → LS w' W x y PR pr A c g px := fun e' w' h => L5.out.below h.2
  by_cases hok : rasOk x y px = true ∧ 0 ≤ lc ∧ lc ≤ 1
  · obtain ⟨hr, hl0, hl1⟩ := hok
    have Hr := hid hr
    obtain ⟨⟨OA, oc, zs, rfl, hzm, hzo, hzf⟩, _⟩ := (show SfEnd (some (formsM x y lc px)) w4 e w5 by have h := HE.out; rwa [show fformsM x y lc px = some (formsM x y lc px) from if_pos ⟨hr, hl0, hl1⟩] at h)
    have Hzm := hid hzm
    have Hzo := hid hzo
    have Hzf := hid hzf
    clear hr hzm hzo hzf HE hb5
    have r0 := L5.out.2.1.cell 0
    have r1 := L5.out.2.1.cell 1
    have r2 := L5.out.2.1.cell 2
    simp only [List.getElem?_toArray, List.getElem?_cons_zero, List.getElem?_cons_succ] at r0 r1 r2
    go_wp2_with fail
    refine (scheck_any x y A c px _ L5.out.2.2 hm).mono ?_
    rintro e w6 ⟨rfl, hb⟩
    rw [Hr.out, if_pos rfl, errv_0]
    have L6 := hid (L5.out.below hb)
    have Hzo6 := hid (own_below Hzo.out hb (Nat.le_refl _))
    have Hzf6 := hid (fun z hz => (Hzf.out z hz).below hb (Nat.le_refl _))
    clear hb C7 Hzo Hzf L5
    clear r0 r1 r2
    have q0 := L6.out.1.1.cell 0
    have q1 := L6.out.1.1.cell 1
    have q2 := L6.out.1.1.cell 2
    simp only [List.getElem?_toArray, List.getElem?_cons_zero, List.getElem?_cons_succ] at q0 q1 q2
    go_wp2_with fail
    refine (rgood_any x y PR pr px _ (L6.out.rdp Hp.out) hm).mono ?_
    rintro e w7 ⟨rfl, hb⟩
    rw [Hr.out]
    have L7 := hid (L6.out.below hb)
    have Hzo7 := hid (own_below Hzo6.out hb (Nat.le_refl _))
    have Hzf7 := hid (fun z hz => (Hzf6.out z hz).below hb (Nat.le_refl _))
    clear hb Hzo6 Hzf6 L6
    clear q0 q1 q2
    have q0 := L7.out.1.1.cell 0
    have q1 := L7.out.1.1.cell 1
    have q2 := L7.out.1.1.cell 2
    simp only [List.getElem?_toArray, List.getElem?_cons_zero, List.getElem?_cons_succ] at q0 q1 q2
    have r0 := L7.out.2.1.cell 0
    have r1 := L7.out.2.1.cell 1
    have r2 := L7.out.2.1.cell 2
    simp only [List.getElem?_toArray, List.getElem?_cons_zero, List.getElem?_cons_succ] at r0 r1 r2
    go_wp2_with fail
    refine (rsame17_any x y A PR c pr px _ L7.out.2.2 (L7.out.rdp Hp.out) hm).mono ?_
    rintro e w8 ⟨rfl, hb⟩
    have L8 := hid (L7.out.below hb)
    have Hzo8 := hid (own_below Hzo7.out hb (Nat.le_refl _))
    have Hzf8 := hid (fun z hz => (Hzf7.out z hz).below hb (Nat.le_refl _))
    clear hb Hzo7 Hzf7 L7
    clear q0 q1 q2 r0 r1 r2
    have q0 := L8.out.1.1.cell 0
    have q1 := L8.out.1.1.cell 1
    have q2 := L8.out.1.1.cell 2
    simp only [List.getElem?_toArray, List.getElem?_cons_zero, List.getElem?_cons_succ] at q0 q1 q2
    have d1 : decide (lc < 0) = false := decide_eq_false (by omega)
    have d2 : decide (1 < lc) = false := decide_eq_false (by omega)
    go_wp2_with fail
    refine (rforms_any x y lc PR pr px _ (L8.out.rdp Hp.out) hm).mono ?_
    rintro e w9 ⟨OB, ob, ys, rfl, hym, hyo, hyf, hb⟩
    have L9 := hid (L8.out.below hb)
    have Hzo9 := hid (own_below Hzo8.out hb (Nat.le_refl _))
    have Hzf9 := hid (fun z hz => (Hzf8.out z hz).below hb (Nat.le_refl _))
    rw [rforms_eq] at hym
    have hzy : zs.length = ys.length := by
      have h1 := congrArg List.length Hzm.out
      have h2 := congrArg List.length hym
      rw [List.length_map] at h1 h2
      omega
    have Hfit := hid (forms_fit x y lc px)
    have Hel := hid (fun (j : Nat) (hj : j < zs.length) (hj2 : j < ys.length) => show zs[j].f = ys[j].f ∧ formOk zs[j].f = true by
      have h1 : (zs.map (·.f))[j]? = (ys.map (·.f))[j]? := by rw [Hzm.out, hym]
      rw [List.getElem?_map, List.getElem?_map, List.getElem?_eq_getElem hj, List.getElem?_eq_getElem hj2] at h1
      refine ⟨by simpa using h1, fits_ok (Hfit.out _ ?_)⟩
      rw [← Hzm.out]
      exact List.mem_map_of_mem (List.getElem_mem hj))
    have Hyo := hid hyo
    have Hyf := hid hyf
    have Hlen := hid hzy
    have hl7 : ys.length ≤ 7 := by
      have h2 := congrArg List.length hym
      rw [List.length_map] at h2
      have := formsM_len x y lc px
      omega
    clear hb hym hyo hyf Hzo8 Hzf8 L8 Hfit Hzm hzy
    clear q0 q1 q2
    clear d1 d2
    rw [Hlen.out]
    go_upto_region 17 with (fail)
    go_loopw [78] (fun i wr => ∃ j : Nat, j ≤ ys.length ∧ i = .int .i64 j ∧ Below w9.heap.size w9 wr) (fun i _ => ys.length - (intOf i).toNat)
    case atStart => exact ⟨0, by omega, rfl, Below.refl _ _⟩
    case round =>
      obtain ⟨j, hj, rfl, hb⟩ := hrel
      have Hb := hid hb
      clear hb
      by_cases hlt : j < ys.length
      · have hltz : j < zs.length := by rw [Hlen.out]; exact hlt
        obtain ⟨b, off, hA, hbb, hx⟩ := form_at (own_rd (own_below Hzo9.out Hb.out (Nat.le_refl _))) hltz
        subst hA
        obtain ⟨b', off', hB, hbb', hy⟩ := form_at (own_rd (own_below Hyo.out Hb.out (Nat.le_refl _))) hlt
        subst hB
        obtain ⟨he, hfo⟩ := Hel.out j hltz hlt
        obtain ⟨fl1, fl2⟩ := form_lens hfo
        have HzF := hid ((Hzf9.out _ (List.getElem_mem hltz)).below Hb.out (Nat.le_refl _))
        have HyF := hid ((Hyf.out _ (List.getElem_mem hlt)).below Hb.out (Nat.le_refl _))
        have hltz' : (j : Int) < (zs.length : Int) := by omega
        generalize zs[j] = z at *
        generalize ys[j] = u at *
        obtain ⟨f, PA, KA, pc, kc⟩ := z
        obtain ⟨f2, QA, LA, qc, lc2⟩ := u
        simp only at he hfo fl1 fl2 HzF HyF hx hy
        subst he
        have x0 := hx 0 _ (by omega) rfl
        have x1 := hx 1 _ (by omega) rfl
        have x2 := hx 2 _ (by omega) rfl
        have x3 := hx 3 _ (by omega) rfl
        have x4 := hx 4 _ (by omega) rfl
        have x5 := hx 5 _ (by omega) rfl
        have x6 := hx 6 _ (by omega) rfl
        have y0 := hy 0 _ (by omega) rfl
        have y1 := hy 1 _ (by omega) rfl
        have y2 := hy 2 _ (by omega) rfl
        have y3 := hy 3 _ (by omega) rfl
        have y4 := hy 4 _ (by omega) rfl
        have y5 := hy 5 _ (by omega) rfl
        have y6 := hy 6 _ (by omega) rfl
        simp only [Nat.add_zero] at x0 y0
        have hbr : ∀ d' os, Below wr.heap.size wr (Sort.grow (redrawn wr d') os) := fun d' os => below_regrown wr d' os
        have cS : ∀ d' os, Calls Try.prog 55 #[.agg #[.int .i64 f.w, .int .i64 f.h, .int .i64 f.d, .int .i64 f.c, .int .i64 f.l, .slice PA f.pal.length pc, .slice KA f.key.length kc], .agg #[.int .i64 f.w, .int .i64 f.h, .int .i64 f.d, .int .i64 f.c, .int .i64 f.l, .slice QA f.pal.length qc, .slice LA f.key.length lc2]] (Sort.grow (redrawn wr d') os) fun e w'' => e = .returned (.bool true) ∧ ∃ p : Regrown, w'' = Sort.grow (redrawn wr p.d) p.os := fun d' os =>
          Calls.regrown_of (same18_any f QA LA PA KA qc lc2 pc kc _ (HyF.out.below (hbr d' os) (Nat.le_refl _)).rdp (HyF.out.below (hbr d' os) (Nat.le_refl _)).rdi (HzF.out.below (hbr d' os) (Nat.le_refl _)).rdp (HzF.out.below (hbr d' os) (Nat.le_refl _)).rdi (by omega) (by omega))
        have k0 := cell_regrown x0
        have k1 := cell_regrown x1
        have k2 := cell_regrown x2
        have k3 := cell_regrown x3
        have k4 := cell_regrown x4
        have k5 := cell_regrown x5
        have k6 := cell_regrown x6
        have m0 := cell_regrown y0
        have m1 := cell_regrown y1
        have m2 := cell_regrown y2
        have m3 := cell_regrown y3
        have m4 := cell_regrown y4
        have m5 := cell_regrown y5
        have m6 := cell_regrown y6
        clear hx hy hbr x0 x1 x2 x3 x4 x5 x6 y0 y1 y2 y3 y4 y5 y6
        go_upto_region 19 with (fail)
        refine wp_region_quiet_below (by kernel_rfl) (by kernel_rfl) ?_
        repeat (go_big_quiet_step (with_reducible exact cS _ _))
        refine wpQuiet_nil ?_
        intro wv hwv
        obtain ⟨⟨dq, osq⟩, hwv⟩ := hwv
        have hbv : Below wr.heap.size wr wv := by rw [hwv]; exact below_regrown wr dq osq
        have Hbv := hid (Hb.out.trans (hbv.mono Hb.out.size))
        clear hwv hbv k0 k1 k2 k3 k4 k5 k6 m0 m1 m2 m3 m4 m5 m6 cS
        go_wp2
        go_roundw
        case rel => exact ⟨j + 1, by omega, by go_num, Hbv.out⟩
        case measure => simp [intOf]; omega
      · obtain rfl : j = ys.length := by omega
        go_wp2
        go_ret
        exact ⟨rfl, L9.out.1.2.trans (Hb.out.mono L9.out.1.2.size)⟩
  · have hE2 : SfEnd none w4 e w5 := by have h := HE.out; rwa [show fformsM x y lc px = none from if_neg hok] at h
    obtain ⟨he, _⟩ := hE2
    have he : e = .returned (.tuple #[.slice none 0 0, .iface 56 (.int .i64 6)]) := he
    subst he
    clear HE hb5
    have Hok := hid hok
    clear hok
    have r0 := L5.out.2.1.cell 0
    have r1 := L5.out.2.1.cell 1
    have r2 := L5.out.2.1.cell 2
    simp only [List.getElem?_toArray, List.getElem?_cons_zero, List.getElem?_cons_succ] at r0 r1 r2
    go_wp2_with fail
    refine (scheck_any x y A c px _ L5.out.2.2 hm).mono ?_
    rintro e w6 ⟨rfl, hb⟩
    have L6 := hid (L5.out.below hb)
    clear hb C7 L5
    clear r0 r1 r2
    have q0 := L6.out.1.1.cell 0
    have q1 := L6.out.1.1.cell 1
    have q2 := L6.out.1.1.cell 2
    simp only [List.getElem?_toArray, List.getElem?_cons_zero, List.getElem?_cons_succ] at q0 q1 q2
    cases hr : rasOk x y px
    · have Hr := hid hr
      clear hr
      simp only [Bool.false_eq_true, if_false, show errv 6 = Value.iface 56 (.int .i64 6) from rfl]
      go_wp2_with fail
      refine (rgood_any x y PR pr px _ (L6.out.rdp Hp.out) hm).mono ?_
      rintro e w7 ⟨rfl, hb⟩
      rw [Hr.out]
      have L7 := hid (L6.out.below hb)
      clear hb L6
      clear q0 q1 q2
      have q0 := L7.out.1.1.cell 0
      have q1 := L7.out.1.1.cell 1
      have q2 := L7.out.1.1.cell 2
      simp only [List.getElem?_toArray, List.getElem?_cons_zero, List.getElem?_cons_succ] at q0 q1 q2
      have r0 := L7.out.2.1.cell 0
      have r1 := L7.out.2.1.cell 1
      have r2 := L7.out.2.1.cell 2
      simp only [List.getElem?_toArray, List.getElem?_cons_zero, List.getElem?_cons_succ] at r0 r1 r2
      go_wp2_with fail
      refine (rsame17_any x y A PR c pr px _ L7.out.2.2 (L7.out.rdp Hp.out) hm).mono ?_
      rintro e w8 ⟨rfl, hb⟩
      have L8 := hid (L7.out.below hb)
      clear hb L7
      clear q0 q1 q2 r0 r1 r2
      go_wp2_with fail
      refine (is_no 6 6 (by omega) _).mono ?_
      rintro e w9 ⟨rfl, rfl⟩
      go_wp2_with fail
      refine (is_no 6 6 (by omega) _).mono ?_
      rintro e w9 ⟨rfl, rfl⟩
      go_wp2
      go_ret
      exact ⟨rfl, L8.out.1.2⟩
    · have Hr := hid hr
      have Hlc := hid (show lc < 0 ∨ 1 < lc by
        have h := Hok.out
        rw [hr] at h
        exact Decidable.byContradiction (fun hn => h ⟨rfl, by omega, by omega⟩))
      clear hr
      simp only [if_true, errv_0]
      go_wp2_with fail
      refine (rgood_any x y PR pr px _ (L6.out.rdp Hp.out) hm).mono ?_
      rintro e w7 ⟨rfl, hb⟩
      rw [Hr.out]
      have L7 := hid (L6.out.below hb)
      clear hb L6
      clear q0 q1 q2
      have q0 := L7.out.1.1.cell 0
      have q1 := L7.out.1.1.cell 1
      have q2 := L7.out.1.1.cell 2
      simp only [List.getElem?_toArray, List.getElem?_cons_zero, List.getElem?_cons_succ] at q0 q1 q2
      have r0 := L7.out.2.1.cell 0
      have r1 := L7.out.2.1.cell 1
      have r2 := L7.out.2.1.cell 2
      simp only [List.getElem?_toArray, List.getElem?_cons_zero, List.getElem?_cons_succ] at r0 r1 r2
      go_wp2_with fail
      refine (rsame17_any x y A PR c pr px _ L7.out.2.2 (L7.out.rdp Hp.out) hm).mono ?_
      rintro e w8 ⟨rfl, hb⟩
      have L8 := hid (L7.out.below hb)
      clear hb L7
      clear q0 q1 q2 r0 r1 r2
      by_cases hl0 : lc < 0
      · have d1 : decide (lc < 0) = true := decide_eq_true hl0
        clear hl0
        go_wp2_with fail
        refine (is_no 6 6 (by omega) _).mono ?_
        rintro e w9 ⟨rfl, rfl⟩
        go_wp2
        go_ret
        exact ⟨rfl, L8.out.1.2⟩
      · have d1 : decide (lc < 0) = false := decide_eq_false hl0
        have d2 : decide (1 < lc) = true := decide_eq_true (by have := Hlc.out; omega)
        clear hl0
        go_wp2_with fail
        refine (is_no 6 6 (by omega) _).mono ?_
        rintro e w9 ⟨rfl, rfl⟩
        go_wp2
        go_ret
        exact ⟨rfl, L8.out.1.2⟩

set_option maxRecDepth 100000 in
theorem lifted (os : Os) (started : os.Started) (H : Type) (enc : TypeId × Value → H) :
    ReturnsInHanded {} Try.checked os 12 .any (Rows.shrinkFormsSpec.pre6 enc Try.prog Try.f12 Rows.shrinkFormsRow.domain false) (Rows.shrinkFormsSpec.post enc Try.prog Try.f12 false true false false) :=
  law_lifted own laidOut started (by kernel_rfl) Try.func12 rfl rfl Try.underlying4
    (by rw [Try.params12]; intro t ht; simp at ht; rcases ht with rfl | rfl <;> exact ⟨by kernel_rfl, of_decide_eq_true (by kernel_rfl)⟩)
    (by
      intro ds h
      match ds, h with
      | [_, _], _ => exact ⟨rfl, rfl, rfl⟩)
    (ChangeSpec.witness6 (enc := enc) (C := Try.checked) false ⟨#[], #[.agg #[.int .i64 0, .int .i64 0, .slice none 0 0], .int .i64 0], []⟩ 8 (by kernel_rfl) (by kernel_rfl) (by kernel_rfl) (by kernel_rfl))
    (by
      intro W base args ds ps hval0 hA0
      have hval : ∀ (j : Nat) t v, Try.f12.params[j]? = some t → args[j]? = some v → Value.okWide Try.prog W .any base t v := hval0
      have hA : DataW.TrodAll enc Try.prog W 0 (fun _ => true) true Try.f12.params.toList args.toList ds ps := hA0
      clear hval0 hA0
      rw [Try.params12] at hA hval
      obtain ⟨v0, vs0, d0, ds0, p0, q0, hargs, rfl, rfl, h0, r0⟩ := trodAll_cons hA
      obtain ⟨v1, vs1, d1, ds1, p1, q1, rfl, rfl, rfl, h1, r1⟩ := trodAll_cons r0
      obtain ⟨rfl, rfl, rfl⟩ := trodAll_nil r1
      obtain rfl : args = #[v0, v1] := by cases args; simp_all
      obtain ⟨x0, y0, PR0, pr0, px0, rfl, hp0⟩ := open_ras (hval 0 83 v0 rfl rfl) h0
      obtain ⟨a1, rfl, rfl, rfl, w1⟩ := open_int Try.underlying3 (hval 1 3 v1 rfl rfl) h1
      exact walk x0 y0 a1 PR0 pr0 px0 W hp0)

theorem over : Rows.shrinkFormsRow.holds Try.pinned (OpenSpec.ofChange Rows.shrinkFormsSpec) :=
  OpenClaim.holds_of_wide 12 Try.f12 rfl rfl rfl rfl rfl rfl rfl ⟨rfl, rfl, rfl, rfl, rfl⟩ rfl rfl rfl rfl rfl (by kernel_rfl) Try.func12 (by kernel_rfl)
    (of_decide_eq_true (by kernel_rfl)) (by unfold Func.isWrapper; first | (rw [if_pos (by decide +kernel)]; kernel_rfl) | (rw [if_neg (by decide +kernel)]; exact ⟨rfl, rfl⟩))
    (fun os started H enc _ => lifted os started H enc)

theorem proved : Rows.ShrinkFormsSaid := over
#print axioms proved
end Go.Proofs.Ytbpdkpphhjmalaa.ShrinkForms
