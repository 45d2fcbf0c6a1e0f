/-
  The pen writes a plan's lengths.
  block.usual, planned, Bits.
  block.Bits.
  Blocks, plainly: a block that is written is read again; tokens that come to a text fit it.
  The reference's Literals; the law's cases: the text that tokens come to.
  Blocks, plainly: bits packed and unpacked; blocks one behind another are read as their tokens.
-/
import Derived.Test.YtoppjcmkhhkbmaaGreatSqueezePlainx3
import Derived.Test.YtoppjcmkhhkbmaaGreatSqueezePlainx4
import Derived.Test.YtoppjcmkhhkbmaaGreatSqueezePlainx10
import Derived.Test.YtoppjcmkhhkbmaaGreatSqueezePlainx13
import Derived.Test.YtoppjcmkhhkbmaaGreatSqueezePlainx14
namespace Go.Proofs.YtoppjcmkhhkbmaaGreat
open Go.RowKit Cd

def onesB (O : List Int) (os : List Nat) : List Int := os.flatMap fun s => dgS false (O.getD s 0) 3
def headB (L D : List Int) (R : List (Int × Int)) (O : List Int) : List Int :=
  dgS false ((L.length : Int) - 257) 5 ++ (dgS false ((D.length : Int) - 1) 5 ++ (dgS false ((wrN O 19 : Nat) - 4 : Int) 4 ++ (onesB O (ordT.take (wrN O 19)) ++ R.flatMap (runB O))))
theorem wrN_bd (O : List Int) : ∀ n, 4 ≤ n → 4 ≤ wrN O n ∧ wrN O n ≤ n
  | 0, h => by omega
  | n + 1, h => by
    unfold wrN
    split
    next h1 =>
      have := wrN_bd O n (by omega)
      omega
    next => omega
theorem onesB_snoc (O : List Int) (Q : List Int) {j : Nat} (hj : j < 19) : Q ++ onesB O (ordT.take (j + 1)) = Q ++ onesB O (ordT.take j) ++ dgS false (O.getD (ordT.getD j 0) 0) 3 := by
  have hl : j < ordT.length := hj
  have e : ordT.getD j 0 = ordT[j] := by rw [List.getD_eq_getElem?_getD, List.getElem?_eq_getElem hl]; rfl
  unfold onesB
  rw [List.take_succ_eq_append_getElem hl, List.flatMap_append, e, List.append_assoc]
  simp
theorem onesB_len (O : List Int) (os : List Nat) : (onesB O os).length = 3 * os.length := by
  unfold onesB
  induction os with
  | nil => rfl
  | cons c l ih => rw [List.flatMap_cons, List.length_append, ih, dgS_len, List.length_cons]; omega
theorem lens_le' {l : List Int} (hl : lensB l = true) (s : Nat) : lenOf l s ≤ 16 := by
  have := (lensB_iff.1 hl).2.1
  have := cntB_at (b := 16) (c := l) this (by omega) s
  unfold lenOf
  omega
theorem lt8 {x : Int} (h : x ≤ 7) : x < 2 ^ 3 := by
  have e8 : (2 : Int) ^ 3 = 8 := by decide
  omega
theorem rb_bd (s : Int) : 0 ≤ rb s ∧ rb s ≤ 7 := by unfold rb; (repeat' split) <;> omega
theorem runs_le {O : List Int} (hO : lensB O = true) : ∀ (R : List (Int × Int)), (R.flatMap (runB O)).length ≤ 30 * R.length
  | [] => by simp
  | r :: R => by
    have h1 := lens_le' hO r.1.toNat
    have h2 := runs_le hO R
    have h3 := rb_bd r.1
    have h4 : (runB O r).length = lenOf O r.1.toNat + (rb r.1).toNat := by unfold runB; rw [List.length_append, cdB_len, dgS_len]
    rw [List.flatMap_cons, List.length_append, List.length_cons]
    omega
set_option maxRecDepth 100000 in
set_option maxHeartbeats 8000000 in
theorem penLen_any (a4 : Value) (gp g : Nat) (XL XD XR XO : Option Addr) (nL nD Lc Dc Rc Oc : Nat) (PL PD : List Int) (R : List (Int × Int)) (O : List Int) (A : Option Addr) (c base : Nat) (LB : List Int) (W : World)
    (hXR : TRow W 195 XR (R.flatMap encTok)) (hXO : TRow W 3 XO (intsV O)) (hnO : XO = none → Oc = 0) (eL : PL.length = nL) (eD : PD.length = nD) (bL : 257 ≤ nL ∧ nL ≤ 286) (bD : 1 ≤ nD ∧ nD ≤ 30) (hOl : O.length = 19) (hO7 : ∀ x ∈ O, 0 ≤ x ∧ x ≤ 7)
    (lO : lensB O = true) (hR : ∀ r ∈ R, 0 < O.getD r.1.toNat 0 ∧ 0 ≤ r.1 ∧ r.1 ≤ 18 ∧ 0 ≤ r.2 ∧ r.2 < 2 ^ (rb r.1).toNat) (hm : R.length ≤ 1000) (hLB : LB.length ≤ 20000000) (hp : PenS W gp g A c base LB) :
    Calls Tryz.prog 108 #[.pointer (some ⟨gp, 0, none⟩), .agg #[.slice XL nL Lc, .slice XD nD Dc, .slice XR R.length Rc, .slice XO 19 Oc, a4]] W fun e w' => e = .returned (.tuple #[]) ∧ ∃ A' c', PenS w' gp g A' c' base (LB ++ headB PL PD R O) ∧ TwP gp g A A' W w' := by
  have hal := (Below.refl W.heap.size W).alloc (Nat.le_refl _) (.cells #[.slice XL nL Lc, .slice XD nD Dc, .slice XR R.length Rc, .slice XO 19 Oc, a4] 100)
  have P0 := hid (hp.below hal)
  have T0 := hid ((TwP.refl gp g A W).below hal)
  have XR0 := hid (hXR.below hal)
  have XO0 := hid (hXO.below hal)
  have Z0 := hid (Blk.new W 100 #[.slice XL nL Lc, .slice XD nD Dc, .slice XR R.length Rc, .slice XO 19 Oc, a4])
  have HNO := hid hnO
  have HO7 := hid hO7
  have HLO := hid lO
  have HR := hid hR
  have EL := hid eL
  have ED := hid eD
  have e5 : (2 : Int) ^ 5 = 32 := by decide
  have e4 : (2 : Int) ^ 4 = 16 := by decide
  obtain ⟨wn, hwn⟩ : ∃ n, n = wrN O 19 := ⟨_, rfl⟩
  have hw19 : 4 ≤ wn ∧ wn ≤ 19 := by rw [hwn]; exact wrN_bd O 19 (by omega)
  have HWN := hid hwn
  have cW := hid (fun (w : World) (h : TRow w 3 XO (intsV O)) => written10_any (.slice XL nL Lc) (.slice XD nD Dc) (.slice XR R.length Rc) a4 XO Oc O w h.ints hOl)
  rw [← hwn] at cW
  clear hXR hXO hnO eL eD hO7 lO hR hp hal hwn
  go_enter Tryz.func108, Tryz.ntmps108
  go_upto_region 1 with (fail)
  generalize W.alloc (.cells #[.slice XL nL Lc, .slice XD nD Dc, .slice XR R.length Rc, .slice XO 19 Oc, a4] 100) = w0 at *
  obtain ⟨gz, hgz⟩ : ∃ gz, gz = W.heap.size := ⟨_, rfl⟩
  rw [← hgz] at Z0 ⊢
  clear hgz
  have z0 := Z0.out.cell 0
  simp only [List.getElem?_toArray, List.getElem?_cons_zero] at z0
  have hz := Z0.out.lt
  have hput1 := penPut_any gp g A c base LB ((nL : Int) - 257) 5 (by omega) (by omega) (by omega) w0 P0.out (by omega)
  go_wp2_with fail
  refine hput1.mono ?_
  rintro e w1 ⟨rfl, A1, c1, M1, T1⟩
  have Z1 := hid (T1.blk P0.out Z0.out (by decide) (by decide) (by decide))
  have XR1 := hid (T1.row P0.out XR0.out (by decide) (by decide) (by decide))
  have XO1 := hid (T1.row P0.out XO0.out (by decide) (by decide) (by decide))
  have T01 := hid (T0.out.trans T1)
  have y1 := Z1.out.cell 1
  simp only [List.getElem?_toArray, List.getElem?_cons_zero, List.getElem?_cons_succ] at y1
  have hy := Z1.out.lt
  have hput2 := penPut_any gp g A1 c1 base _ ((nD : Int) - 1) 5 (by omega) (by omega) (by omega) w1 M1 (by rw [List.length_append, dgS_len]; omega)
  have M1h := hid M1
  clear z0 hz hput1 T1 M1 Z0 XR0 XO0 T0 P0
  go_wp2_with fail
  refine hput2.mono ?_
  rintro e w2 ⟨rfl, A2, c2, M2, T2⟩
  have Z2 := hid (T2.blk M1h.out Z1.out (by decide) (by decide) (by decide))
  have XR2 := hid (T2.row M1h.out XR1.out (by decide) (by decide) (by decide))
  have XO2 := hid (T2.row M1h.out XO1.out (by decide) (by decide) (by decide))
  have T02 := hid (T01.out.trans T2)
  have u0 := Z2.out.cell 0
  have u1 := Z2.out.cell 1
  have u2 := Z2.out.cell 2
  have u3 := Z2.out.cell 3
  have u4 := Z2.out.cell 4
  simp only [List.getElem?_toArray, List.getElem?_cons_zero, List.getElem?_cons_succ] at u0 u1 u2 u3 u4
  have hu := Z2.out.lt
  have cW2 := cW.out w2 XO2.out
  have M2h := hid M2
  clear y1 hy hput2 T2 M2 Z1 XR1 XO1 T01 M1h
  go_wp2_with fail
  refine cW2.mono ?_
  rintro e w3 ⟨rfl, hb3⟩
  have P3 := hid (M2h.out.below hb3)
  have Z3 := hid (Z2.out.below hb3 Z2.out.lt)
  have XR3 := hid (XR2.out.below hb3)
  have XO3 := hid (XO2.out.below hb3)
  have T03 := hid (T02.out.below hb3)
  have hput3 := penPut_any gp g A2 c2 base _ ((wn : Int) - 4) 4 (by omega) (by omega) (by omega) w3 P3.out (by rw [List.length_append, List.length_append, dgS_len, dgS_len]; omega)
  clear u0 u1 u2 u3 u4 hu cW2 hb3 Z2 XR2 XO2 T02 M2h
  go_wp2_with fail
  refine hput3.mono ?_
  rintro e w4 ⟨rfl, A4, c4, M4, T4⟩
  have Z4 := hid (T4.blk P3.out Z3.out (by decide) (by decide) (by decide))
  have XR4 := hid (T4.row P3.out XR3.out (by decide) (by decide) (by decide))
  have XO4 := hid (T4.row P3.out XO3.out (by decide) (by decide) (by decide))
  have T04 := hid (T03.out.trans T4)
  obtain ⟨Q, hQ⟩ : ∃ Q, Q = LB ++ dgS false ((nL : Int) - 257) 5 ++ dgS false ((nD : Int) - 1) 5 ++ dgS false ((wn : Int) - 4) 4 := ⟨_, rfl⟩
  rw [← hQ] at M4
  have hQl : Q.length ≤ 20000020 := by rw [hQ, List.length_append, List.length_append, List.length_append, dgS_len, dgS_len, dgS_len]; omega
  have M4h := hid M4
  have HQ := hid hQ
  clear hput3 T4 M4 Z3 XR3 XO3 T03 P3 hQ e5 e4
  have u0 := Z4.out.cell 0
  have u1 := Z4.out.cell 1
  have u2 := Z4.out.cell 2
  have u3 := Z4.out.cell 3
  have u4 := Z4.out.cell 4
  simp only [List.getElem?_toArray, List.getElem?_cons_zero, List.getElem?_cons_succ] at u0 u1 u2 u3 u4
  have hu := Z4.out.lt
  have U := hid (And.intro u0 (And.intro u1 (And.intro u2 (And.intro u3 u4))))
  have XOd := hid (XO4.out.below (Below.refl w4.heap.size w4).drew)
  have hwi : (0 : Int) ≤ (wn : Int) ∧ (wn : Int) ≤ 19 := by omega
  go_upto_region 4 with (fail)
  go_cut [31, 32, 33] from 28 to 33 (fun u v x wq => ∃ go, u = .slice (some ⟨go, 0, none⟩) wn 19 ∧ v = .int .i64 (wn : Int) ∧ x = .int .i64 0 ∧ Hid (Blk wq go 3 (intsV ordI).toArray) ∧ Hid (Below w4.heap.size w4 wq))
  case first =>
    go_region_with (first
      | (go_at_call 123; refine (order10_any _).mono ?_; rintro e w5 ⟨go, rfl, _, hB, hb5⟩; have hb6 : Below w4.heap.size w4 w5 := (Below.refl w4.heap.size w4).drew.trans hb5; have Hb6 := hid hb6; have GO := hid hB; have v0 := cell_up U.out.1 hb6 hu; have v1 := cell_up U.out.2.1 hb6 hu; have v2 := cell_up U.out.2.2.1 hb6 hu; have v3 := cell_up U.out.2.2.2.1 hb6 hu; have v4 := cell_up U.out.2.2.2.2 hb6 hu; have vs := hb6.size; have X5 := hid (XO4.out.below hb6); clear hB hb5 hb6)
      | (go_at_call 124; with_reducible refine (cW.out _ X5.out).mono ?_; rintro e w7 ⟨rfl, hb7⟩; have GO7 := hid (GO.out.below hb7 GO.out.lt); have Hb7 := hid (Hb6.out.trans (hb7.mono Hb6.out.size)); clear hb7)
      | (go_at_call 124; with_reducible refine (cW.out _ XOd.out).mono ?_; rintro e w7 ⟨rfl, hb7⟩))
    all_goals
      go_wp2
      go_meet
      exact ⟨_, rfl, rfl, rfl, GO7, Hb7⟩
  case rest =>
    obtain ⟨go, rfl, rfl, rfl, GO, Hb⟩ := hcut
    have P5 := hid (M4h.out.below Hb.out)
    have Z5 := hid (Z4.out.below Hb.out Z4.out.lt)
    have XR5 := hid (XR4.out.below Hb.out)
    have XO5 := hid (XO4.out.below Hb.out)
    have T05 := hid (T04.out.below Hb.out)
    clear u0 u1 u2 u3 u4 hu U XOd M4h Z4 XR4 XO4 T04 Hb cW
    go_wp2
    go_loopw [33] (fun i wr => ∃ (j : Nat) (A6 : Option Addr) (c6 : Nat), j ≤ wn ∧ i = .int .i64 (j : Int) ∧ Hid (PenS wr gp g A6 c6 base (Q ++ onesB O (ordT.take j))) ∧ Hid (TwP gp g A4 A6 wc wr)) (fun i _ => wn - (intOf i).toNat)
    case atStart => exact ⟨0, A4, c4, by omega, rfl, hid (by show PenS wc gp g A4 c4 base (Q ++ []); rw [List.append_nil]; exact P5.out), hid (TwP.refl gp g A4 wc)⟩
    case round =>
      obtain ⟨j, A6, c6, hj, rfl, M, T⟩ := hrel
      by_cases hlt : j < wn
      · have Gr := T.out.blk P5.out GO.out (by decide) (by decide) (by decide)
        have p0 := blkI_at Gr (s := j) (by show j < 19; omega)
        have hgr := Gr.lt
        have hoo := ord_at ⟨j, by omega⟩
        simp only at hoo
        obtain ⟨o, ho⟩ : ∃ o, o = ordT.getD j 0 := ⟨_, rfl⟩
        have hsn := onesB_snoc O Q (j := j) (by omega)
        rw [← ho] at hoo hsn
        rw [hoo.1] at p0
        have ho19 := hoo.2
        have Zr := T.out.blk P5.out Z5.out (by decide) (by decide) (by decide)
        have z3 := Zr.cell 3
        simp only [List.getElem?_toArray, List.getElem?_cons_zero, List.getElem?_cons_succ] at z3
        have hzr := Zr.lt
        obtain ⟨bo, oo, hA, hbo, q0⟩ := int_at (T.out.row P5.out XO5.out (by decide) (by decide) (by decide)).ints (j := o) (by rw [hOl]; exact ho19)
        rw [getD_at] at q0
        rw [hA] at z3
        have hy := cntB_at (b := 7) HO7.out (by omega) o
        have hput := penPut_any gp g A6 c6 base _ (O.getD o 0) 3 (by omega) (lt8 hy.2) (by omega) wr M.out (by rw [List.length_append, onesB_len, List.length_take]; omega)
        rw [← hsn] at hput
        clear hA ho hoo hsn Gr Zr
        generalize O.getD o 0 = y at *
        go_wp2_with fail
        refine hput.mono ?_
        rintro e w8 ⟨rfl, A8, c8, M8, T8⟩
        have M9 := hid M8
        have T9 := hid (T.out.trans T8)
        clear M8 T8 hput p0 q0 z3
        go_wp2
        go_roundw
        case rel => exact ⟨j + 1, A8, c8, by omega, by go_num, M9, T9⟩
        case measure => simp [intOf]; omega
      · have e : j = wn := by omega
        subst e
        have Zr := hid (T.out.blk P5.out Z5.out (by decide) (by decide) (by decide))
        have z3 := Zr.out.cell 3
        simp only [List.getElem?_toArray, List.getElem?_cons_zero, List.getElem?_cons_succ] at z3
        have hzr := Zr.out.lt
        have XRr := hid (T.out.row P5.out XR5.out (by decide) (by decide) (by decide))
        have XOr := T.out.row P5.out XO5.out (by decide) (by decide) (by decide)
        have T06 := hid (T05.out.trans T.out)
        have hbk := penBook_any gp g XO Oc O A6 c6 base _ wr XOr HLO.out HNO.out M.out
        rw [hOl] at hbk
        have Mh := hid M.out
        clear GO P5 Z5 XR5 XO5 T05 T M XOr
        go_wp2_with fail
        refine hbk.mono ?_
        rintro e w9 ⟨gb, bb, rfl, hWB, hP9, hT9⟩
        have Z9 := hid (hT9.blk Mh.out Zr.out (by decide) (by decide) (by decide))
        have XR9 := hid (hT9.row Mh.out XRr.out (by decide) (by decide) (by decide))
        have T09 := hid (T06.out.trans hT9)
        have B9 := hid hWB
        have P9 := hid hP9
        have z2 := Z9.out.cell 2
        simp only [List.getElem?_toArray, List.getElem?_cons_zero, List.getElem?_cons_succ] at z2
        have hz9 := Z9.out.lt
        obtain ⟨Q2, hQ2⟩ : ∃ Q2, Q2 = Q ++ onesB O (ordT.take j) := ⟨_, rfl⟩
        have hQ2l : Q2.length ≤ 20000100 := by rw [hQ2, List.length_append, onesB_len, List.length_take]; omega
        rw [← hQ2] at P9
        have HQ2 := hid hQ2
        clear z3 hzr hbk hWB hP9 hT9 Zr XRr T06 Mh hQ2
        go_wp2
        go_loopw [52] (fun i wr => ∃ (q : Nat) (A7 : Option Addr) (c7 : Nat), q ≤ R.length ∧ i = .int .i64 (q : Int) ∧ Hid (PenS wr gp g A7 c7 base (Q2 ++ (R.take q).flatMap (runB O))) ∧ Hid (TwP gp g A6 A7 w9 wr)) (fun i _ => R.length - (intOf i).toNat)
        case atStart => exact ⟨0, A6, c6, by omega, rfl, hid (by show PenS w9 gp g A6 c6 base (Q2 ++ []); rw [List.append_nil]; exact P9.out), hid (TwP.refl gp g A6 w9)⟩
        case round =>
          obtain ⟨q, A7, c7, hq, rfl, M7, T7⟩ := hrel
          have hsz : (Q2 ++ (R.take q).flatMap (runB O)).length ≤ 20040000 := by
            have := runs_le HLO.out (R.take q)
            rw [List.length_take] at this
            rw [List.length_append]
            omega
          by_cases hql : q < R.length
          · have Rr : Rd wr wr.heap.size 2 XR R.length (R.flatMap encTok) := (T7.out.row P9.out XR9.out (by decide) (by decide) (by decide)).rd (by rw [flat_length encTok 2 R (fun _ _ => rfl)])
            obtain ⟨b, off, rfl, hbb, h0, h1⟩ := tok_at Rr hql
            obtain ⟨hpos, hs0, hs1, he0, he1⟩ := HR.out _ (List.getElem_mem hql)
            have hstep : Q2 ++ (R.take (q + 1)).flatMap (runB O) = Q2 ++ (R.take q).flatMap (runB O) ++ runB O R[q] := by
              rw [List.take_succ_eq_append_getElem hql, List.flatMap_append, List.append_assoc]
              simp
            obtain ⟨t, htj⟩ : ∃ t, R[q] = t := ⟨_, rfl⟩
            rw [htj] at h0 h1 hpos hs0 hs1 he0 he1 hstep
            obtain ⟨s, ee⟩ := t
            simp only at h0 h1 hpos hs0 hs1 he0 he1
            obtain ⟨s, rfl⟩ : ∃ n : Nat, s = (n : Int) := ⟨s.toNat, by omega⟩
            rw [Int.toNat_natCast] at hpos
            have hE : Q2 ++ (R.take (q + 1)).flatMap (runB O) = Q2 ++ (R.take q).flatMap (runB O) ++ cdB O s ++ dgS false ee (rb (s : Int)).toNat := by
              rw [hstep, List.append_assoc]
              unfold runB
              simp only [Int.toNat_natCast, List.append_assoc]
            have hrb := rb_bd (s : Int)
            obtain ⟨x, hx⟩ : ∃ x : Nat, rb (s : Int) = (x : Int) := ⟨(rb (s : Int)).toNat, by omega⟩
            have cR := reach_any (s : Int)
            rw [hx] at hE he1 hrb cR
            rw [Int.toNat_natCast] at hE he1
            generalize rl (s : Int) = rl0 at *
            have hal := (Below.refl wr.heap.size wr).alloc (Nat.le_refl _) (.cells #[.int .i64 (s : Int), .int .i64 ee] 195)
            have M8 := hid (M7.out.below hal)
            have T8 := hid (T7.out.below hal)
            have Zb := hid (Blk.new wr 195 #[.int .i64 (s : Int), .int .i64 ee])
            have hln := lens_le' HLO.out s
            have HE := hid hE
            clear htj hstep Rr hal M7 T7 hE hx
            go_upto_region 13 with (fail)
            generalize wr.alloc (.cells #[.int .i64 (s : Int), .int .i64 ee] 195) = wz at *
            clear h0 h1 hbb
            generalize wr.heap.size = gy at *
            have z0 := Zb.out.cell 0
            have z1 := Zb.out.cell 1
            have z3 := Zb.out.lt
            simp only [List.getElem?_toArray, List.getElem?_cons_zero, List.getElem?_cons_succ] at z0 z1
            have hB8 := B9.out.twp T8.out P9.out
            have hsym := penSym_any gb gp g bb O s A7 c7 base _ wz hB8 HLO.out hpos M8.out (by omega)
            have hcd := cdB_len O s
            have Hcd := hid hcd
            have e7 : ee ≤ 4294967296 := by
              have h9 := pow_mono (show x ≤ 32 by omega)
              have : (2 : Int) ^ 32 = 4294967296 := by decide
              omega
            clear hB8 hcd
            generalize cdB O s = cb at *
            generalize lenOf O s = ln at *
            go_wp2_with fail
            refine (cR _).mono ?_
            rintro e w10 ⟨rfl, rfl⟩
            go_wp2_with fail
            refine hsym.mono ?_
            rintro e w11 ⟨rfl, A11, c11, M11, T11⟩
            have Z11 := hid (T11.blk M8.out Zb.out (by decide) (by decide) (by decide))
            have T12 := hid (T8.out.trans T11)
            have y1 := Z11.out.cell 1
            simp only [List.getElem?_toArray, List.getElem?_cons_zero, List.getElem?_cons_succ] at y1
            have y3 := Z11.out.lt
            have hput := penPut_any gp g A11 c11 base _ ee x he0 he1 (by omega) w11 M11 (by rw [List.length_append, Hcd.out]; omega)
            clear z0 z1 z3 T11 M11 hsym
            go_wp2_with fail
            refine hput.mono ?_
            rintro e w12 ⟨rfl, A12, c12, M12, T13⟩
            have M14 := hid (show PenS w12 gp g A12 c12 base (Q2 ++ (R.take (q + 1)).flatMap (runB O)) by rw [HE.out]; exact M12)
            have T14 := hid (T12.out.trans T13)
            clear M12 T13 hput y1 y3
            go_wp2
            go_roundw
            case rel => exact ⟨q + 1, A12, c12, by omega, by go_num, M14, T14⟩
            case measure => simp [intOf]; omega
          · have e : q = R.length := by omega
            subst e
            rw [List.take_length] at M7
            have E := hid (show Q2 ++ R.flatMap (runB O) = LB ++ headB PL PD R O by
              rw [HQ2.out, HQ.out]
              unfold headB
              rw [EL.out, ED.out, ← HWN.out]
              simp only [List.append_assoc])
            have TE := hid (T09.out.trans T7.out)
            go_wp2
            go_end0
            exact ⟨rfl, A7, c7, by rw [← E.out]; exact M7.out, TE.out⟩
end Go.Proofs.YtoppjcmkhhkbmaaGreat

namespace Go.Proofs.YtoppjcmkhhkbmaaGreat
open Go.RowKit

theorem rep10 (x : Int) (n : Nat) (h1 : 1 ≤ n) (h2 : n ≤ 1000) (W : World) : Calls Tryz.prog 135 #[.slice (some ⟨W.heap.size, 0, none⟩) 1 1, .int .i64 (n : Int)] (W.alloc (.cells #[.int .i64 x] 3)) fun e w' => ∃ g, e = .returned (.slice (some ⟨g, 0, none⟩) n n) ∧ Blk w' g 3 (intsV (List.replicate n x)).toArray ∧ Below W.heap.size W w' := by
  refine (repeat_any W.heap.size 1 x n _ h1 h2 (by have h := rdi_one W x; rw [World.size_alloc]; exact h)).mono ?_
  rintro e w1 ⟨g, rfl, _, hB, hb⟩
  exact ⟨g, rfl, hB, ((Below.refl W.heap.size W).alloc (Nat.le_refl _) _).trans (hb.mono (by simp))⟩
theorem blkrow10 {w : World} {g n : Nat} {x : Int} (h : Blk w g 3 (intsV (List.replicate n x)).toArray) (hn : n ≤ 1000) : Rd w w.heap.size 1 (some ⟨g, 0, none⟩) n (intsV (List.replicate n x)) :=
  own_rd (own_of_blk (base := 0) (n := n) h (Nat.zero_le _) (by rw [intsV_length, List.length_replicate]) (by unfold maxLen; omega))
theorem parts410 (w4 : World) (g1 g2 g3 g4 : Nat) (h : Blk w4 g1 3 (intsV (List.replicate 144 8)).toArray ∧ Blk w4 g2 3 (intsV (List.replicate 112 9)).toArray ∧ Blk w4 g3 3 (intsV (List.replicate 24 7)).toArray ∧ Blk w4 g4 3 (intsV (List.replicate 8 8)).toArray) :
    PartsCI (w4.alloc (.cells #[.slice (some ⟨g1, 0, none⟩) 144 144, .slice (some ⟨g2, 0, none⟩) 112 112, .slice (some ⟨g3, 0, none⟩) 24 24, .slice (some ⟨g4, 0, none⟩) 8 8] 65)) (w4.alloc (.cells #[.slice (some ⟨g1, 0, none⟩) 144 144, .slice (some ⟨g2, 0, none⟩) 112 112, .slice (some ⟨g3, 0, none⟩) 24 24, .slice (some ⟨g4, 0, none⟩) 8 8] 65)).heap.size w4.heap.size
      [(some ⟨g1, 0, none⟩, 144, 144), (some ⟨g2, 0, none⟩, 112, 112), (some ⟨g3, 0, none⟩, 24, 24), (some ⟨g4, 0, none⟩, 8, 8)] [intsV (List.replicate 144 8), intsV (List.replicate 112 9), intsV (List.replicate 24 7), intsV (List.replicate 8 8)] := by
  refine ⟨Blk.new _ _ _, rfl, ?_⟩
  intro k s l hs hl
  obtain ⟨h1, h2, h3, h4⟩ := h
  rcases k with _ | _ | _ | _ | k
  · injection hs with hs; injection hl with hl; subst hs hl; exact ⟨blkrow10 (h1.alloc _) (by simp), intsV_cells⟩
  · injection hs with hs; injection hl with hl; subst hs hl; exact ⟨blkrow10 (h2.alloc _) (by simp), intsV_cells⟩
  · injection hs with hs; injection hl with hl; subst hs hl; exact ⟨blkrow10 (h3.alloc _) (by simp), intsV_cells⟩
  · injection hs with hs; injection hl with hl; subst hs hl; exact ⟨blkrow10 (h4.alloc _) (by simp), intsV_cells⟩
  · simp at hs
theorem fix_flat : [intsV (List.replicate 144 8), intsV (List.replicate 112 9), intsV (List.replicate 24 7), intsV (List.replicate 8 8)].flatten = intsV fixL := by
  unfold fixL intsV
  simp only [List.flatten_cons, List.flatten_nil, List.append_nil, List.map_append]
theorem row5 {w : World} {base t sz n gp : Nat} {v : Value} {xs : List Value} {cs : Array Value} (ho : w.ownsRow base t sz v n xs) (hz : Blk w gp 100 cs) (ht : t ≠ 100) (u0 u1 u2 u3 u4 : Value) :
    (((((w.setCell ⟨gp, 0, none⟩ u0).setCell ⟨gp, 1, none⟩ u1).setCell ⟨gp, 2, none⟩ u2).setCell ⟨gp, 3, none⟩ u3).setCell ⟨gp, 4, none⟩ u4).ownsRow base t sz v n xs := by
  have z1 := hz.set_ 0 u0
  have z2 := z1.set_ 1 u1
  have z3 := z2.set_ 2 u2
  have z4 := z3.set_ 3 u3
  exact row_set (row_set (row_set (row_set (row_set ho hz ht 0 u0) z1 ht 1 u1) z2 ht 2 u2) z3 ht 3 u3) z4 ht 4 u4
theorem plan_stored {W w : World} {gp : Nat} {a b c d e : Value} (hz : Blk w gp 100 #[a, b, c, d, e]) (p : PlV) (h : PlR w p) (hb : Below W.heap.size W w) (hg : W.heap.size ≤ gp) :
    Blk (((((w.setCell ⟨gp, 0, none⟩ (.slice p.LA p.L.length p.Lc)).setCell ⟨gp, 1, none⟩ (.slice p.DA p.D.length p.Dc)).setCell ⟨gp, 2, none⟩ (.slice p.RA p.R.length p.Rc)).setCell ⟨gp, 3, none⟩ (.slice p.OA p.O.length p.Oc)).setCell ⟨gp, 4, none⟩ (.int .i64 p.h)) gp 100 p.cs ∧
    PlR (((((w.setCell ⟨gp, 0, none⟩ (.slice p.LA p.L.length p.Lc)).setCell ⟨gp, 1, none⟩ (.slice p.DA p.D.length p.Dc)).setCell ⟨gp, 2, none⟩ (.slice p.RA p.R.length p.Rc)).setCell ⟨gp, 3, none⟩ (.slice p.OA p.O.length p.Oc)).setCell ⟨gp, 4, none⟩ (.int .i64 p.h)) p ∧
    Below W.heap.size W (((((w.setCell ⟨gp, 0, none⟩ (.slice p.LA p.L.length p.Lc)).setCell ⟨gp, 1, none⟩ (.slice p.DA p.D.length p.Dc)).setCell ⟨gp, 2, none⟩ (.slice p.RA p.R.length p.Rc)).setCell ⟨gp, 3, none⟩ (.slice p.OA p.O.length p.Oc)).setCell ⟨gp, 4, none⟩ (.int .i64 p.h)) :=
  ⟨((((hz.set_ 0 _).set_ 1 _).set_ 2 _).set_ 3 _).set_ 4 _, ⟨row5 h.ol hz (by decide) _ _ _ _ _, row5 h.od hz (by decide) _ _ _ _ _, row5 h.or_ hz (by decide) _ _ _ _ _, row5 h.oo hz (by decide) _ _ _ _ _⟩,
    ((((hb.setCell (p := ⟨gp, 0, none⟩) hg _).setCell (p := ⟨gp, 1, none⟩) hg _).setCell (p := ⟨gp, 2, none⟩) hg _).setCell (p := ⟨gp, 3, none⟩) hg _).setCell (p := ⟨gp, 4, none⟩) hg _⟩
/-- the plan of a kind -/
def planM (kind : Int) (l : List (Int × Int)) : PlanM := if kind = 1 then ⟨fixL, usuD, [], []⟩ else ownM l
def headK (kind : Int) (l : List (Int × Int)) : Int := if kind = 1 then 0 else headM (ownM l)
def PlanEnd (kind : Int) (l : List (Int × Int)) (W : World) (v : Value) (w' : World) : Prop :=
  ∃ p : PlV, v = .agg p.cs ∧ p.L = (planM kind l).L ∧ p.D = (planM kind l).D ∧ p.R = (planM kind l).R ∧ p.O = (planM kind l).O ∧ p.h = headK kind l ∧ PlR w' p ∧ Below W.heap.size W w'
set_option maxRecDepth 100000 in
set_option maxHeartbeats 8000000 in
theorem usual10_any (l : List (Int × Int)) (W : World) : Calls Tryz.prog 100 #[] W fun e w' => ∃ v, e = .returned v ∧ PlanEnd 1 l W v w' := by
  have hal := (Below.refl W.heap.size W).alloc (Nat.le_refl _) (.cells #[.slice none 0 0, .slice none 0 0, .slice none 0 0, .slice none 0 0, .int .i64 0] 100)
  have Z0 := hid (Blk.new W 100 #[.slice none 0 0, .slice none 0 0, .slice none 0 0, .slice none 0 0, .int .i64 0])
  have Hal := hid hal
  clear hal
  go_enter Tryz.func100, Tryz.ntmps100
  go_upto_region 1 with (fail)
  generalize W.alloc (.cells #[.slice none 0 0, .slice none 0 0, .slice none 0 0, .slice none 0 0, .int .i64 0] 100) = w0 at *
  obtain ⟨gz, hgz⟩ : ∃ gz, gz = W.heap.size := ⟨_, rfl⟩
  have Hgz := hid (show W.heap.size ≤ gz by omega)
  rw [← hgz] at Z0 ⊢
  clear hgz
  go_wp2_with fail
  refine (rep10 8 144 (by decide) (by decide) w0).mono ?_
  rintro e w1 ⟨g1, rfl, hB1, hb1⟩
  go_wp2_with fail
  refine (rep10 9 112 (by decide) (by decide) w1).mono ?_
  rintro e w2 ⟨g2, rfl, hB2, hb2⟩
  go_wp2_with fail
  refine (rep10 7 24 (by decide) (by decide) w2).mono ?_
  rintro e w3 ⟨g3, rfl, hB3, hb3⟩
  go_wp2_with fail
  refine (rep10 8 8 (by decide) (by decide) w3).mono ?_
  rintro e w4 ⟨g4, rfl, hB4, hb4⟩
  have b12 := hb1.size
  have b23 := hb2.size
  have b34 := hb3.size
  have b45 := hb4.size
  have hb24 := hb3.trans (hb4.mono b34)
  have hb14 := hb2.trans (hb24.mono b23)
  have Hb04 := hid (hb1.trans (hb14.mono b12))
  have B4 := hid (And.intro (hB1.below hb14 hB1.lt) (And.intro (hB2.below hb24 hB2.lt) (And.intro (hB3.below hb4 hB3.lt) hB4)))
  clear hB1 hB2 hB3 hB4 hb1 hb2 hb3 hb4 hb24 hb14 b12 b23 b34 b45
  go_wp2_with fail
  have hp := parts410 w4 g1 g2 g3 g4 B4.out
  have hcc := concatI_any w4.heap.size 4 288 _ _ _ hp (by simp) (by simp [intsV_length]) (by decide)
  rw [fix_flat] at hcc
  have ha4 := (Below.refl w4.heap.size w4).alloc (Nat.le_refl _) (.cells #[.slice (some ⟨g1, 0, none⟩) 144 144, .slice (some ⟨g2, 0, none⟩) 112 112, .slice (some ⟨g3, 0, none⟩) 24 24, .slice (some ⟨g4, 0, none⟩) 8 8] 65)
  have Ha4 := hid ha4
  refine hcc.mono ?_
  rintro e w5 ⟨A5, c5, rfl, hown5, hb5⟩
  have Hb5 := hid (Hb04.out.trans ((ha4.trans (hb5.mono ha4.size)).mono Hb04.out.size))
  have O5 := hid (own_base hown5 (Nat.zero_le _))
  clear B4 hp hcc hown5 hb5 ha4 Ha4 Hb04
  go_wp2_with fail
  refine (rep10 5 30 (by decide) (by decide) w5).mono ?_
  rintro e w6 ⟨g6, rfl, hB6, hb6⟩
  have O6 := hid (own_below O5.out hb6 (Nat.le_refl _))
  have D6 := hid (own_of_blk (base := 0) (n := 30) hB6 (Nat.zero_le _) (by rw [intsV_length, List.length_replicate]) (by unfold maxLen; omega))
  have Hb6 := hid (Hb5.out.trans (hb6.mono Hb5.out.size))
  have Z6 := hid (Z0.out.below Hb6.out Z0.out.lt)
  have z0 := Z6.out.cell 0
  have z1 := Z6.out.cell 1
  have z2 := Z6.out.cell 2
  have z3 := Z6.out.cell 3
  have z4 := Z6.out.cell 4
  simp only [List.getElem?_toArray, List.getElem?_cons_zero, List.getElem?_cons_succ] at z0 z1 z2 z3 z4
  have hz := Z6.out.lt
  have fz := fun i => Z6.out.frozen i
  have hfl := fix_lens.2.2.1
  have hul := fix_lens.2.2.2
  have SE := plan_stored Z6.out ⟨fixL, A5, c5, usuD, some ⟨g6, 0, none⟩, 30, [], none, 0, [], none, 0, 0⟩ ⟨by rw [hfl]; exact O6.out, by rw [hul]; exact D6.out, World.ownsRow_nil _ _ _ _, World.ownsRow_nil _ _ _ _⟩ (Hal.out.trans (Hb6.out.mono Hal.out.size)) Hgz.out
  simp only [hfl, hul, List.length_nil] at SE
  have HSE := hid SE
  clear hB6 hb6 Hb5 O5 Z0 SE hfl hul
  go_wp2
  have SE := HSE.out
  clear HSE
  generalize (((((w6.setCell ⟨gz, 0, none⟩ (.slice A5 288 c5)).setCell ⟨gz, 1, none⟩ (.slice (some ⟨g6, 0, none⟩) 30 30)).setCell ⟨gz, 2, none⟩ (.slice none 0 0)).setCell ⟨gz, 3, none⟩ (.slice none 0 0)).setCell ⟨gz, 4, none⟩ (.int .i64 0)) = wE at *
  have r0 := SE.1.cell 0
  have r1 := SE.1.cell 1
  have r2 := SE.1.cell 2
  have r3 := SE.1.cell 3
  have r4 := SE.1.cell 4
  unfold PlV.cs at r0 r1 r2 r3 r4
  simp only [List.getElem?_toArray, List.getElem?_cons_zero, List.getElem?_cons_succ, fix_lens.2.2.1, fix_lens.2.2.2, List.length_nil] at r0 r1 r2 r3 r4
  refine bodyPost_ret (v := .agg #[.slice A5 288 c5, .slice (some ⟨g6, 0, none⟩) 30 30, .slice none 0 0, .slice none 0 0, .int .i64 0]) (by simp [results, Tryz.results100, go_sem, r0, r1, r2, r3, r4]) rfl ?_
  exact ⟨_, rfl, ⟨fixL, A5, c5, usuD, some ⟨g6, 0, none⟩, 30, [], none, 0, [], none, 0, 0⟩, by unfold PlV.cs; simp only [fix_lens.2.2.1, fix_lens.2.2.2, List.length_nil], rfl, rfl, rfl, rfl, rfl, SE.2.1, SE.2.2⟩
set_option maxRecDepth 100000 in
set_option maxHeartbeats 8000000 in
theorem planned10_any (A B : Option Addr) (c d nB : Nat) (kind : Int) (l : List (Int × Int)) (W : World) (hr : Rd W W.heap.size 2 A l.length (l.flatMap encTok)) (hm : l.length ≤ 1000000) (hg : ∀ t ∈ l, tgood t = true) :
    Calls Tryz.prog 59 #[.agg #[.int .i64 kind, .slice A l.length c, .slice B nB d]] W fun e w' => ∃ v, e = .returned (.tuple #[v, .nilIface]) ∧ PlanEnd kind l W v w' := by
  have hb1 := (Below.refl W.heap.size W).alloc (Nat.le_refl _) (.cells #[.int .i64 kind, .slice A l.length c, .slice B nB d] 48)
  have hb2 := hb1.alloc hb1.size (.cells #[.slice none 0 0, .slice none 0 0, .slice none 0 0, .slice none 0 0, .int .i64 0] 100)
  have ZB := hid ((Blk.new W 48 #[.int .i64 kind, .slice A l.length c, .slice B nB d]).alloc (.cells #[.slice none 0 0, .slice none 0 0, .slice none 0 0, .slice none 0 0, .int .i64 0] 100))
  have ZP0 := Blk.new (W.alloc (.cells #[.int .i64 kind, .slice A l.length c, .slice B nB d] 48)) 100 #[.slice none 0 0, .slice none 0 0, .slice none 0 0, .slice none 0 0, .int .i64 0]
  rw [World.size_alloc] at ZP0
  have ZP := hid ZP0
  have Hb := hid hb2
  have Hr := hid (rd_up hr hb2)
  have Hg := hid hg
  clear hr hg hb1 hb2 ZP0
  go_enter Tryz.func59, Tryz.ntmps59
  go_upto_region 1 with (fail)
  generalize (W.alloc (.cells #[.int .i64 kind, .slice A l.length c, .slice B nB d] 48)).alloc (.cells #[.slice none 0 0, .slice none 0 0, .slice none 0 0, .slice none 0 0, .int .i64 0] 100) = w0 at *
  obtain ⟨gb, hgb⟩ : ∃ g, g = W.heap.size := ⟨_, rfl⟩
  obtain ⟨gz, hgz⟩ : ∃ g, g = W.heap.size + 1 := ⟨_, rfl⟩
  have Hgz := hid (show W.heap.size ≤ gz by omega)
  rw [← hgz] at ZP ⊢
  rw [← hgb] at ZB ⊢
  clear hgz hgb
  have q0 := ZB.out.cell 0
  have q1 := ZB.out.cell 1
  simp only [List.getElem?_toArray, List.getElem?_cons_zero, List.getElem?_cons_succ] at q0 q1
  have hq := ZB.out.lt
  have hS0 := Hb.out.size
  by_cases hk : kind = 1
  · subst hk
    go_wp2_with fail
    refine (usual10_any l _).mono ?_
    rintro e w1 ⟨v, rfl, p, rfl, e1, e2, e3, e4, e5, hR, hb⟩
    have Z1 := hid (ZP.out.below hb ZP.out.lt)
    have SE := plan_stored Z1.out p hR (Hb.out.trans (hb.mono hS0)) Hgz.out
    have z0 := Z1.out.cell 0
    have z1 := Z1.out.cell 1
    have z2 := Z1.out.cell 2
    have z3 := Z1.out.cell 3
    have z4 := Z1.out.cell 4
    simp only [List.getElem?_toArray, List.getElem?_cons_zero, List.getElem?_cons_succ] at z0 z1 z2 z3 z4
    have hz := Z1.out.lt
    have fz := fun i => Z1.out.frozen i
    have HSE := hid SE
    have HE := hid (And.intro e1 (And.intro e2 (And.intro e3 (And.intro e4 e5))))
    clear SE hR hb q0 q1 e1 e2 e3 e4 e5
    obtain ⟨L, LA, Lc, D, DA, Dc, R, RA, Rc, O, OA, Oc, h⟩ := p
    unfold PlV.cs
    simp only at HSE HE ⊢
    go_wp2
    have SE := HSE.out
    clear HSE
    generalize (((((w1.setCell ⟨gz, 0, none⟩ (.slice LA L.length Lc)).setCell ⟨gz, 1, none⟩ (.slice DA D.length Dc)).setCell ⟨gz, 2, none⟩ (.slice RA R.length Rc)).setCell ⟨gz, 3, none⟩ (.slice OA O.length Oc)).setCell ⟨gz, 4, none⟩ (.int .i64 h)) = wE at *
    have r0 := SE.1.cell 0
    have r1 := SE.1.cell 1
    have r2 := SE.1.cell 2
    have r3 := SE.1.cell 3
    have r4 := SE.1.cell 4
    unfold PlV.cs at r0 r1 r2 r3 r4
    simp only [List.getElem?_toArray, List.getElem?_cons_zero, List.getElem?_cons_succ] at r0 r1 r2 r3 r4
    refine bodyPost_ret (v := .tuple #[.agg #[.slice LA L.length Lc, .slice DA D.length Dc, .slice RA R.length Rc, .slice OA O.length Oc, .int .i64 h], .nilIface]) (by simp [results, Tryz.results59, go_sem, r0, r1, r2, r3, r4]) rfl ?_
    exact ⟨_, rfl, ⟨L, LA, Lc, D, DA, Dc, R, RA, Rc, O, OA, Oc, h⟩, rfl, HE.out.1, HE.out.2.1, HE.out.2.2.1, HE.out.2.2.2.1, HE.out.2.2.2.2, SE.2.1, SE.2.2⟩
  · go_wp2_with fail
    refine (own10_any A c l _ Hr.out hm Hg.out).mono ?_
    rintro e w1 ⟨p, rfl, e1, e2, e3, e4, e5, hR, hb⟩
    have Z1 := hid (ZP.out.below hb ZP.out.lt)
    have SE := plan_stored Z1.out p hR (Hb.out.trans (hb.mono hS0)) Hgz.out
    have z0 := Z1.out.cell 0
    have z1 := Z1.out.cell 1
    have z2 := Z1.out.cell 2
    have z3 := Z1.out.cell 3
    have z4 := Z1.out.cell 4
    simp only [List.getElem?_toArray, List.getElem?_cons_zero, List.getElem?_cons_succ] at z0 z1 z2 z3 z4
    have hz := Z1.out.lt
    have fz := fun i => Z1.out.frozen i
    have HSE := hid SE
    have hp : planM kind l = ownM l := if_neg hk
    have hh : headK kind l = headM (ownM l) := if_neg hk
    have HE := hid (show p.L = (planM kind l).L ∧ p.D = (planM kind l).D ∧ p.R = (planM kind l).R ∧ p.O = (planM kind l).O ∧ p.h = headK kind l by rw [hp, hh]; exact ⟨e1, e2, e3, e4, e5⟩)
    clear SE hR hb q0 q1 e1 e2 e3 e4 e5 hp hh
    obtain ⟨L, LA, Lc, D, DA, Dc, R, RA, Rc, O, OA, Oc, h⟩ := p
    unfold PlV.cs
    simp only at HSE HE ⊢
    go_wp2
    have SE := HSE.out
    clear HSE
    generalize (((((w1.setCell ⟨gz, 0, none⟩ (.slice LA L.length Lc)).setCell ⟨gz, 1, none⟩ (.slice DA D.length Dc)).setCell ⟨gz, 2, none⟩ (.slice RA R.length Rc)).setCell ⟨gz, 3, none⟩ (.slice OA O.length Oc)).setCell ⟨gz, 4, none⟩ (.int .i64 h)) = wE at *
    have r0 := SE.1.cell 0
    have r1 := SE.1.cell 1
    have r2 := SE.1.cell 2
    have r3 := SE.1.cell 3
    have r4 := SE.1.cell 4
    unfold PlV.cs at r0 r1 r2 r3 r4
    simp only [List.getElem?_toArray, List.getElem?_cons_zero, List.getElem?_cons_succ] at r0 r1 r2 r3 r4
    refine bodyPost_ret (v := .tuple #[.agg #[.slice LA L.length Lc, .slice DA D.length Dc, .slice RA R.length Rc, .slice OA O.length Oc, .int .i64 h], .nilIface]) (by simp [results, Tryz.results59, go_sem, r0, r1, r2, r3, r4]) rfl ?_
    exact ⟨_, rfl, ⟨L, LA, Lc, D, DA, Dc, R, RA, Rc, O, OA, Oc, h⟩, rfl, HE.out.1, HE.out.2.1, HE.out.2.2.1, HE.out.2.2.2.1, HE.out.2.2.2.2, SE.2.1, SE.2.2⟩
end Go.Proofs.YtoppjcmkhhkbmaaGreat

namespace Go.Proofs.YtoppjcmkhhkbmaaGreat
open Go.RowKit

/-- a block's bits behind so many -/
def wrB (k : Nat) (last : Bool) (kind : Int) (l : List (Int × Int)) (text : List Int) : List Int :=
  dgS false (2 * kind + (if last then 1 else 0)) 3 ++ (if kind = 0 then stB (k + 3) text else (if kind = 2 then headB (ownM l).L (ownM l).D (ownM l).R (ownM l).O else []) ++ toksB (planM kind l).L (planM kind l).D l)
theorem plan_good {kind : Int} {l : List (Int × Int)} (hg : ∀ t ∈ l, tgood t = true) : PlG (planM kind l).L (planM kind l).D l := by
  unfold planM
  split
  · exact usual_good hg
  · exact own_good hg
theorem sum_bd {α : Type} (f : α → Int) (b : Int) : ∀ (l : List α), (∀ x ∈ l, 0 ≤ f x ∧ f x ≤ b) → 0 ≤ (l.map f).sum ∧ (l.map f).sum ≤ b * l.length
  | [], _ => by simp
  | x :: l, h => by
    have h1 := sum_bd f b l fun y hy => h y (List.mem_cons_of_mem _ hy)
    have h2 := h x List.mem_cons_self
    rw [List.map_cons, List.sum_cons, List.length_cons]
    push_cast
    rw [Int.mul_add, Int.mul_one]
    omega
theorem head_bd {l : List (Int × Int)} (hg : ∀ t ∈ l, tgood t = true) : 0 ≤ headM (ownM l) ∧ headM (ownM l) ≤ 10000 := by
  obtain ⟨h1, h2, _⟩ := own_runs hg
  have hw := wrN_le (ownM l).O 19
  have hs := sum_bd (runBits (ownM l).O) 14 (ownM l).R fun r hr => by
    have hb := cntB_at (b := 7) h1.b7 (by omega) r.1.toNat
    unfold runBits rb
    (repeat' split) <;> omega
  unfold headM
  omega
theorem headK_bd {kind : Int} {l : List (Int × Int)} (hg : ∀ t ∈ l, tgood t = true) : 0 ≤ headK kind l ∧ headK kind l ≤ 10000 := by
  unfold headK
  split
  · omega
  · exact head_bd hg
theorem body_bd {L D : List Int} {l : List (Int × Int)} (h : PlG L D l) (hg : ∀ t ∈ l, tgood t = true) : 0 ≤ bodyM L D l ∧ bodyM L D l ≤ 16 + 50 * l.length := by
  have hs := sum_bd (tokBits L D) 50 l fun t ht => tokBits_bd h.bL h.bD (hg t ht)
  have := len_bd h.bL 256
  unfold bodyM
  omega
theorem bits_of {kind : Int} {l : List (Int × Int)} {text : List Int} (h1 : kind ≠ 0) : bitsM kind l text = 3 + headK kind l + bodyM (planM kind l).L (planM kind l).D l := by
  unfold bitsM headK planM
  rw [if_neg h1]
  by_cases hk : kind = 1
  · rw [if_pos hk, if_pos hk, if_pos hk]; dsimp only; omega
  · rw [if_neg hk, if_neg hk, if_neg hk]
theorem good_parts {kind : Int} {l : List (Int × Int)} {text : List Int} (h : blkGood kind l text = true) : 0 ≤ kind ∧ kind ≤ 2 ∧ fitM text 0 l = true ∧ (kind = 0 → text.length ≤ 65535) := by
  unfold blkGood at h
  rw [Bool.and_eq_true, Bool.and_eq_true, decide_eq_true_iff, decide_eq_true_iff] at h
  exact ⟨h.1.1, h.1.2, h.2.1, h.2.2⟩
end Go.Proofs.YtoppjcmkhhkbmaaGreat

namespace Go.Proofs.YtoppjcmkhhkbmaaGreat
open Go.RowKit Cd
theorem own_lens (l : List (Int × Int)) : 257 ≤ (ownM l).L.length ∧ (ownM l).L.length ≤ 286 := by
  have n1 : (litM l).length = trimN 257 (bestLs (itemsOf (twoM (cntM l).1)) 14 286) 286 := by unfold litM; rw [trim_len, bestLs_len]
  have a1 := trimN_ge 257 (bestLs (itemsOf (twoM (cntM l).1)) 14 286) 286 (by omega)
  have a2 := trimN_le 257 (bestLs (itemsOf (twoM (cntM l).1)) 14 286) 286
  show 257 ≤ (litM l).length ∧ (litM l).length ≤ 286
  omega
def litsN (text : List Int) : List (Int × Int) := text.map fun c => (0, c)
/-- how many bits are written -/
theorem lenOf_eq {l : List Int} (hl : lensB l = true) (s : Nat) : ((lenOf l s : Nat) : Int) = l.getD s 0 := by
  have h := cntB_at (b := 16) (c := l) (lensB_iff.1 hl).2.1 (by omega) s
  unfold lenOf
  omega
theorem tok_bits {L D : List Int} (hL : lensB L = true) (hD : lensB D = true) {t : Int × Int} (hg : tgood t = true) : ((tokB L D t).length : Int) = tokBits L D t := by
  unfold tokB tokBits
  have h1 := lenOf_eq hL t.2.toNat
  have h2 := lenOf_eq hL (lsN t.1)
  have h3 := lenOf_eq hD (dsN t.2)
  split
  · rw [cdB_len]; exact h1
  next h =>
    have hb : 3 ≤ t.1 ∧ t.1 ≤ 258 ∧ 1 ≤ t.2 ∧ t.2 ≤ 32768 := by rcases tgood_true.1 hg with h | h <;> omega
    have h4 := (lrest hb.1 hb.2.1).2.2
    have h5 := (drest hb.2.2.1 hb.2.2.2).2.2
    rw [List.length_append, List.length_append, List.length_append, cdB_len, cdB_len, dgS_len, dgS_len]
    omega
theorem toks_bits {L D : List Int} (hL : lensB L = true) (hD : lensB D = true) {l : List (Int × Int)} (hg : ∀ t ∈ l, tgood t = true) : ((toksB L D l).length : Int) = bodyM L D l := by
  unfold toksB bodyM
  rw [List.length_append, cdB_len]
  have h1 := lenOf_eq hL 256
  have h2 : ((l.flatMap (tokB L D)).length : Int) = (l.map (tokBits L D)).sum := by
    induction l with
    | nil => rfl
    | cons t l ih =>
      have h3 := ih fun x hx => hg x (List.mem_cons_of_mem _ hx)
      have h4 := tok_bits hL hD (hg t List.mem_cons_self)
      rw [List.flatMap_cons, List.length_append, List.map_cons, List.sum_cons]
      omega
  omega
theorem runs_bits {O : List Int} (hO : lensB O = true) (R : List (Int × Int)) : ((R.flatMap (runB O)).length : Int) = (R.map (runBits O)).sum := by
  induction R with
  | nil => rfl
  | cons r R ih =>
    have h1 := lenOf_eq hO r.1.toNat
    have h3 := rb_bd r.1
    have h4 : (runB O r).length = lenOf O r.1.toNat + (rb r.1).toNat := by unfold runB; rw [List.length_append, cdB_len, dgS_len]
    rw [List.flatMap_cons, List.length_append, List.map_cons, List.sum_cons]
    unfold runBits
    unfold runBits at ih
    omega
theorem headB_bits {l : List (Int × Int)} (hg : ∀ t ∈ l, tgood t = true) : ((headB (ownM l).L (ownM l).D (ownM l).R (ownM l).O).length : Int) = headM (ownM l) := by
  obtain ⟨h1, _, _⟩ := own_runs hg
  have h2 := runs_bits h1.l (ownM l).R
  have h3 := (wrN_bd (ownM l).O 19 (by omega)).2
  have h4 : (ordT.take (wrN (ownM l).O 19)).length = wrN (ownM l).O 19 := by rw [List.length_take]; exact Nat.min_eq_left h3
  unfold headB headM
  simp only [List.length_append, dgS_len, onesB_len, h4]
  omega
theorem wrB_bits {l : List (Int × Int)} (hg : ∀ t ∈ l, tgood t = true) (k : Nat) (last : Bool) {kind : Int} (text : List Int) (h0 : 0 ≤ kind) (h2 : kind ≤ 2) :
    ((wrB k last kind l text).length : Int) ≤ bitsM kind l text ∧ (kind ≠ 0 → ((wrB k last kind l text).length : Int) = bitsM kind l text) ∧ 3 ≤ (wrB k last kind l text).length := by
  have hG := plan_good (kind := kind) hg
  have ht := toks_bits hG.lL hG.lD hg
  have e : (wrB k last kind l text).length = 3 + (if kind = 0 then stB (k + 3) text else (if kind = 2 then headB (ownM l).L (ownM l).D (ownM l).R (ownM l).O else []) ++ toksB (planM kind l).L (planM kind l).D l).length := by
    unfold wrB
    rw [List.length_append, dgS_len]
  rw [e]
  by_cases hk : kind = 0
  · subst hk
    rw [if_pos rfl]
    have : (stB (k + 3) text).length = (8 - (k + 3) % 8) % 8 + (16 + (16 + 8 * text.length)) := by
      unfold stB padB
      simp only [List.length_append, List.length_replicate, dgS_len, bytB_len]
    have e2 : bitsM 0 l text = 42 + 8 * text.length := rfl
    rw [this, e2]
    omega
  · rw [if_neg hk, bits_of hk]
    by_cases hk2 : kind = 2
    · subst hk2
      have hh := headB_bits hg
      have e3 : headK 2 l = headM (ownM l) := rfl
      rw [if_pos rfl, List.length_append, e3]
      omega
    · obtain rfl : kind = 1 := by omega
      have e3 : headK 1 l = 0 := rfl
      rw [if_neg (by decide), List.nil_append, e3]
      omega
end Go.Proofs.YtoppjcmkhhkbmaaGreat

namespace Go.Proofs.YtoppjcmkhhkbmaaGreat
open Go.RowKit

theorem tok_infoB : (Tryz.prog.info? 54).map (fun i => (i.zero, i.size, i.bytes)) = some (some (.agg #[.int .i64 0, .int .i64 0]), 2, 16) := by kernel_rfl
theorem lits_snoc (l : List Int) {j : Nat} (hj : j < l.length) : litsN (l.take (j + 1)) = litsN (l.take j) ++ [(0, l.getD j 0)] := by
  unfold litsN
  rw [List.take_succ_eq_append_getElem hj, List.map_append, getD_at hj]
  rfl
theorem lits_len (l : List Int) : (litsN l).length = l.length := by unfold litsN; rw [List.length_map]
end Go.Proofs.YtoppjcmkhhkbmaaGreat

namespace Go.Proofs.YtoppjcmkhhkbmaaGreat
open Go.RowKit Cd
theorem fillN_eq (L : List Int) : ∀ n, fillN false L n = L ++ List.replicate n 0
  | 0 => by simp [fillN]
  | n + 1 => by
    rw [fillN, fillN_eq L n, List.append_assoc, List.replicate_succ']
    rfl
/-- blocks one behind another -/
structure Bq where
  kind : Int
  l : List (Int × Int)
  text : List Int
def wrAll (k : Nat) : List Bq → List Int
  | [] => []
  | b :: bs => wrB k bs.isEmpty b.kind b.l b.text ++ wrAll (k + (wrB k bs.isEmpty b.kind b.l b.text).length) bs
theorem wrB_bit (k : Nat) (last : Bool) (kind : Int) (l : List (Int × Int)) (text : List Int) : ∀ x ∈ wrB k last kind l text, isBit x := by
  have hc : ∀ (l : List Int) (s : Nat), ∀ x ∈ cdB l s, isBit x := fun l s => dgS_bit _ _ _
  have ht : ∀ (L D : List Int) (t : Int × Int), ∀ x ∈ tokB L D t, isBit x := by
    intro L D t x hx
    unfold tokB at hx
    split at hx
    · exact hc _ _ x hx
    · rcases List.mem_append.1 hx with h | h
      · exact hc _ _ x h
      · rcases List.mem_append.1 h with h | h
        · exact dgS_bit _ _ _ x h
        · rcases List.mem_append.1 h with h | h
          · exact hc _ _ x h
          · exact dgS_bit _ _ _ x h
  have hts : ∀ (L D : List Int) (l : List (Int × Int)), ∀ x ∈ toksB L D l, isBit x := by
    intro L D l x hx
    unfold toksB at hx
    rcases List.mem_append.1 hx with h | h
    · obtain ⟨t, _, h⟩ := List.mem_flatMap.1 h
      exact ht _ _ t x h
    · exact hc _ _ x h
  have hh : ∀ (L D : List Int) (R : List (Int × Int)) (O : List Int), ∀ x ∈ headB L D R O, isBit x := by
    intro L D R O x hx
    unfold headB at hx
    rcases List.mem_append.1 hx with h | h
    · exact dgS_bit _ _ _ x h
    rcases List.mem_append.1 h with h | h
    · exact dgS_bit _ _ _ x h
    rcases List.mem_append.1 h with h | h
    · exact dgS_bit _ _ _ x h
    rcases List.mem_append.1 h with h | h
    · unfold onesB at h
      obtain ⟨s, _, h⟩ := List.mem_flatMap.1 h
      exact dgS_bit _ _ _ x h
    · obtain ⟨r, _, h⟩ := List.mem_flatMap.1 h
      unfold runB at h
      rcases List.mem_append.1 h with h | h
      · exact hc _ _ x h
      · exact dgS_bit _ _ _ x h
  intro x hx
  unfold wrB at hx
  rcases List.mem_append.1 hx with h | h
  · exact dgS_bit _ _ _ x h
  · split at h
    · unfold stB padB at h
      rcases List.mem_append.1 h with h | h
      · rw [(List.mem_replicate.1 h).2]; exact .inl rfl
      rcases List.mem_append.1 h with h | h
      · exact dgS_bit _ _ _ x h
      rcases List.mem_append.1 h with h | h
      · exact dgS_bit _ _ _ x h
      · unfold bytB at h
        obtain ⟨c, _, h⟩ := List.mem_flatMap.1 h
        exact dgS_bit _ _ _ x h
    · rcases List.mem_append.1 h with h | h
      · split at h
        · exact hh _ _ _ _ x h
        · cases h
      · exact hts _ _ _ x h
end Go.Proofs.YtoppjcmkhhkbmaaGreat
