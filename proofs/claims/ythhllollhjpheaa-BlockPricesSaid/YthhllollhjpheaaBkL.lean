/-
  The pen writes a plan's lengths.
-/
import Derived.Test.YthhllollhjpheaaBkW
import Derived.Test.YthhllollhjpheaaBkD
import Derived.Test.YthhllollhjpheaaUnruns
namespace Go.Proofs.Ythhllollhjpheaa
open Go.RowKit Cd

def onesB (O : List Int) (os : List Nat) : List Int := os.flatMap fun s => dgS false (O.getD s 0) 3
def headB (L D : List Int) (R : List (Int × Int)) (O : List Int) : List Int :=
  dgS false ((L.length : Int) - 257) 5 ++ (dgS false ((D.length : Int) - 1) 5 ++ (dgS false ((wrN O 19 : Nat) - 4 : Int) 4 ++ (onesB O (ordT.take (wrN O 19)) ++ R.flatMap (runB O))))
theorem wrN_bd (O : List Int) : ∀ n, 4 ≤ n → 4 ≤ wrN O n ∧ wrN O n ≤ n
  | 0, h => by omega
  | n + 1, h => by
    unfold wrN
    split
    next h1 =>
      have := wrN_bd O n (by omega)
      omega
    next => omega
theorem onesB_snoc (O : List Int) (Q : List Int) {j : Nat} (hj : j < 19) : Q ++ onesB O (ordT.take (j + 1)) = Q ++ onesB O (ordT.take j) ++ dgS false (O.getD (ordT.getD j 0) 0) 3 := by
  have hl : j < ordT.length := hj
  have e : ordT.getD j 0 = ordT[j] := by rw [List.getD_eq_getElem?_getD, List.getElem?_eq_getElem hl]; rfl
  unfold onesB
  rw [List.take_succ_eq_append_getElem hl, List.flatMap_append, e, List.append_assoc]
  simp
theorem onesB_len (O : List Int) (os : List Nat) : (onesB O os).length = 3 * os.length := by
  unfold onesB
  induction os with
  | nil => rfl
  | cons c l ih => rw [List.flatMap_cons, List.length_append, ih, dgS_len, List.length_cons]; omega
theorem lens_le' {l : List Int} (hl : lensB l = true) (s : Nat) : lenOf l s ≤ 16 := by
  have := (lensB_iff.1 hl).2.1
  have := cntB_at (b := 16) (c := l) this (by omega) s
  unfold lenOf
  omega
theorem lt8 {x : Int} (h : x ≤ 7) : x < 2 ^ 3 := by
  have e8 : (2 : Int) ^ 3 = 8 := by decide
  omega
theorem rb_bd (s : Int) : 0 ≤ rb s ∧ rb s ≤ 7 := by unfold rb; (repeat' split) <;> omega
theorem runs_le {O : List Int} (hO : lensB O = true) : ∀ (R : List (Int × Int)), (R.flatMap (runB O)).length ≤ 30 * R.length
  | [] => by simp
  | r :: R => by
    have h1 := lens_le' hO r.1.toNat
    have h2 := runs_le hO R
    have h3 := rb_bd r.1
    have h4 : (runB O r).length = lenOf O r.1.toNat + (rb r.1).toNat := by unfold runB; rw [List.length_append, cdB_len, dgS_len]
    rw [List.flatMap_cons, List.length_append, List.length_cons]
    omega
set_option maxRecDepth 100000 in
set_option maxHeartbeats 8000000 in
theorem penLen_any (a4 : Value) (gp g : Nat) (XL XD XR XO : Option Addr) (nL nD Lc Dc Rc Oc : Nat) (PL PD : List Int) (R : List (Int × Int)) (O : List Int) (A : Option Addr) (c base : Nat) (LB : List Int) (W : World)
    (hXR : TRow W 107 XR (R.flatMap encTok)) (hXO : TRow W 3 XO (intsV O)) (hnO : XO = none → Oc = 0) (eL : PL.length = nL) (eD : PD.length = nD) (bL : 257 ≤ nL ∧ nL ≤ 286) (bD : 1 ≤ nD ∧ nD ≤ 30) (hOl : O.length = 19) (hO7 : ∀ x ∈ O, 0 ≤ x ∧ x ≤ 7)
    (lO : lensB O = true) (hR : ∀ r ∈ R, 0 < O.getD r.1.toNat 0 ∧ 0 ≤ r.1 ∧ r.1 ≤ 18 ∧ 0 ≤ r.2 ∧ r.2 < 2 ^ (rb r.1).toNat) (hm : R.length ≤ 1000) (hLB : LB.length ≤ 20000000) (hp : PenS W gp g A c base LB) :
    Calls Try.prog 32 #[.pointer (some ⟨gp, 0, none⟩), .agg #[.slice XL nL Lc, .slice XD nD Dc, .slice XR R.length Rc, .slice XO 19 Oc, a4]] W fun e w' => e = .returned (.tuple #[]) ∧ ∃ A' c', PenS w' gp g A' c' base (LB ++ headB PL PD R O) ∧ TwP gp g A A' W w' := by
  have hal := (Below.refl W.heap.size W).alloc (Nat.le_refl _) (.cells #[.slice XL nL Lc, .slice XD nD Dc, .slice XR R.length Rc, .slice XO 19 Oc, a4] 70)
  have P0 := hid (hp.below hal)
  have T0 := hid ((TwP.refl gp g A W).below hal)
  have XR0 := hid (hXR.below hal)
  have XO0 := hid (hXO.below hal)
  have Z0 := hid (Blk.new W 70 #[.slice XL nL Lc, .slice XD nD Dc, .slice XR R.length Rc, .slice XO 19 Oc, a4])
  have HNO := hid hnO
  have HO7 := hid hO7
  have HLO := hid lO
  have HR := hid hR
  have EL := hid eL
  have ED := hid eD
  have e5 : (2 : Int) ^ 5 = 32 := by decide
  have e4 : (2 : Int) ^ 4 = 16 := by decide
  obtain ⟨wn, hwn⟩ : ∃ n, n = wrN O 19 := ⟨_, rfl⟩
  have hw19 : 4 ≤ wn ∧ wn ≤ 19 := by rw [hwn]; exact wrN_bd O 19 (by omega)
  have HWN := hid hwn
  have cW := hid (fun (w : World) (h : TRow w 3 XO (intsV O)) => written10_any (.slice XL nL Lc) (.slice XD nD Dc) (.slice XR R.length Rc) a4 XO Oc O w h.ints hOl)
  rw [← hwn] at cW
  clear hXR hXO hnO eL eD hO7 lO hR hp hal hwn
  go_enter Try.func32, Try.ntmps32
  go_upto_region 1 with (fail)
  generalize W.alloc (.cells #[.slice XL nL Lc, .slice XD nD Dc, .slice XR R.length Rc, .slice XO 19 Oc, a4] 70) = w0 at *
  obtain ⟨gz, hgz⟩ : ∃ gz, gz = W.heap.size := ⟨_, rfl⟩
  rw [← hgz] at Z0 ⊢
  clear hgz
  have z0 := Z0.out.cell 0
  simp only [List.getElem?_toArray, List.getElem?_cons_zero] at z0
  have hz := Z0.out.lt
  have hput1 := penPut_any gp g A c base LB ((nL : Int) - 257) 5 (by omega) (by omega) (by omega) w0 P0.out (by omega)
  go_wp2_with fail
  refine hput1.mono ?_
  rintro e w1 ⟨rfl, A1, c1, M1, T1⟩
  have Z1 := hid (T1.blk P0.out Z0.out (by decide) (by decide) (by decide))
  have XR1 := hid (T1.row P0.out XR0.out (by decide) (by decide) (by decide))
  have XO1 := hid (T1.row P0.out XO0.out (by decide) (by decide) (by decide))
  have T01 := hid (T0.out.trans T1)
  have y1 := Z1.out.cell 1
  simp only [List.getElem?_toArray, List.getElem?_cons_zero, List.getElem?_cons_succ] at y1
  have hy := Z1.out.lt
  have hput2 := penPut_any gp g A1 c1 base _ ((nD : Int) - 1) 5 (by omega) (by omega) (by omega) w1 M1 (by rw [List.length_append, dgS_len]; omega)
  have M1h := hid M1
  clear z0 hz hput1 T1 M1 Z0 XR0 XO0 T0 P0
  go_wp2_with fail
  refine hput2.mono ?_
  rintro e w2 ⟨rfl, A2, c2, M2, T2⟩
  have Z2 := hid (T2.blk M1h.out Z1.out (by decide) (by decide) (by decide))
  have XR2 := hid (T2.row M1h.out XR1.out (by decide) (by decide) (by decide))
  have XO2 := hid (T2.row M1h.out XO1.out (by decide) (by decide) (by decide))
  have T02 := hid (T01.out.trans T2)
  have u0 := Z2.out.cell 0
  have u1 := Z2.out.cell 1
  have u2 := Z2.out.cell 2
  have u3 := Z2.out.cell 3
  have u4 := Z2.out.cell 4
  simp only [List.getElem?_toArray, List.getElem?_cons_zero, List.getElem?_cons_succ] at u0 u1 u2 u3 u4
  have hu := Z2.out.lt
  have cW2 := cW.out w2 XO2.out
  have M2h := hid M2
  clear y1 hy hput2 T2 M2 Z1 XR1 XO1 T01 M1h
  go_wp2_with fail
  refine cW2.mono ?_
  rintro e w3 ⟨rfl, hb3⟩
  have P3 := hid (M2h.out.below hb3)
  have Z3 := hid (Z2.out.below hb3 Z2.out.lt)
  have XR3 := hid (XR2.out.below hb3)
  have XO3 := hid (XO2.out.below hb3)
  have T03 := hid (T02.out.below hb3)
  have hput3 := penPut_any gp g A2 c2 base _ ((wn : Int) - 4) 4 (by omega) (by omega) (by omega) w3 P3.out (by rw [List.length_append, List.length_append, dgS_len, dgS_len]; omega)
  clear u0 u1 u2 u3 u4 hu cW2 hb3 Z2 XR2 XO2 T02 M2h
  go_wp2_with fail
  refine hput3.mono ?_
  rintro e w4 ⟨rfl, A4, c4, M4, T4⟩
  have Z4 := hid (T4.blk P3.out Z3.out (by decide) (by decide) (by decide))
  have XR4 := hid (T4.row P3.out XR3.out (by decide) (by decide) (by decide))
  have XO4 := hid (T4.row P3.out XO3.out (by decide) (by decide) (by decide))
  have T04 := hid (T03.out.trans T4)
  obtain ⟨Q, hQ⟩ : ∃ Q, Q = LB ++ dgS false ((nL : Int) - 257) 5 ++ dgS false ((nD : Int) - 1) 5 ++ dgS false ((wn : Int) - 4) 4 := ⟨_, rfl⟩
  rw [← hQ] at M4
  have hQl : Q.length ≤ 20000020 := by rw [hQ, List.length_append, List.length_append, List.length_append, dgS_len, dgS_len, dgS_len]; omega
  have M4h := hid M4
  have HQ := hid hQ
  clear hput3 T4 M4 Z3 XR3 XO3 T03 P3 hQ e5 e4
  have u0 := Z4.out.cell 0
  have u1 := Z4.out.cell 1
  have u2 := Z4.out.cell 2
  have u3 := Z4.out.cell 3
  have u4 := Z4.out.cell 4
  simp only [List.getElem?_toArray, List.getElem?_cons_zero, List.getElem?_cons_succ] at u0 u1 u2 u3 u4
  have hu := Z4.out.lt
  have U := hid (And.intro u0 (And.intro u1 (And.intro u2 (And.intro u3 u4))))
  have XOd := hid (XO4.out.below (Below.refl w4.heap.size w4).drew)
  have hwi : (0 : Int) ≤ (wn : Int) ∧ (wn : Int) ≤ 19 := by omega
  go_upto_region 4 with (fail)
  go_cut [31, 32, 33] from 28 to 33 (fun u v x wq => ∃ go, u = .slice (some ⟨go, 0, none⟩) wn 19 ∧ v = .int .i64 (wn : Int) ∧ x = .int .i64 0 ∧ Hid (Blk wq go 3 (intsV ordI).toArray) ∧ Hid (Below w4.heap.size w4 wq))
  case first =>
    go_region_with (first
      | (go_at_call 56; refine (order10_any _).mono ?_; rintro e w5 ⟨go, rfl, _, hB, hb5⟩; have hb6 : Below w4.heap.size w4 w5 := (Below.refl w4.heap.size w4).drew.trans hb5; have Hb6 := hid hb6; have GO := hid hB; have v0 := cell_up U.out.1 hb6 hu; have v1 := cell_up U.out.2.1 hb6 hu; have v2 := cell_up U.out.2.2.1 hb6 hu; have v3 := cell_up U.out.2.2.2.1 hb6 hu; have v4 := cell_up U.out.2.2.2.2 hb6 hu; have vs := hb6.size; have X5 := hid (XO4.out.below hb6); clear hB hb5 hb6)
      | (go_at_call 55; with_reducible refine (cW.out _ X5.out).mono ?_; rintro e w7 ⟨rfl, hb7⟩; have GO7 := hid (GO.out.below hb7 GO.out.lt); have Hb7 := hid (Hb6.out.trans (hb7.mono Hb6.out.size)); clear hb7)
      | (go_at_call 55; with_reducible refine (cW.out _ XOd.out).mono ?_; rintro e w7 ⟨rfl, hb7⟩))
    all_goals
      go_wp2
      go_meet
      exact ⟨_, rfl, rfl, rfl, GO7, Hb7⟩
  case rest =>
    obtain ⟨go, rfl, rfl, rfl, GO, Hb⟩ := hcut
    have P5 := hid (M4h.out.below Hb.out)
    have Z5 := hid (Z4.out.below Hb.out Z4.out.lt)
    have XR5 := hid (XR4.out.below Hb.out)
    have XO5 := hid (XO4.out.below Hb.out)
    have T05 := hid (T04.out.below Hb.out)
    clear u0 u1 u2 u3 u4 hu U XOd M4h Z4 XR4 XO4 T04 Hb cW
    go_wp2
    go_loopw [33] (fun i wr => ∃ (j : Nat) (A6 : Option Addr) (c6 : Nat), j ≤ wn ∧ i = .int .i64 (j : Int) ∧ Hid (PenS wr gp g A6 c6 base (Q ++ onesB O (ordT.take j))) ∧ Hid (TwP gp g A4 A6 wc wr)) (fun i _ => wn - (intOf i).toNat)
    case atStart => exact ⟨0, A4, c4, by omega, rfl, hid (by show PenS wc gp g A4 c4 base (Q ++ []); rw [List.append_nil]; exact P5.out), hid (TwP.refl gp g A4 wc)⟩
    case round =>
      obtain ⟨j, A6, c6, hj, rfl, M, T⟩ := hrel
      by_cases hlt : j < wn
      · have Gr := T.out.blk P5.out GO.out (by decide) (by decide) (by decide)
        have p0 := blkI_at Gr (s := j) (by show j < 19; omega)
        have hgr := Gr.lt
        have hoo := ord_at ⟨j, by omega⟩
        simp only at hoo
        obtain ⟨o, ho⟩ : ∃ o, o = ordT.getD j 0 := ⟨_, rfl⟩
        have hsn := onesB_snoc O Q (j := j) (by omega)
        rw [← ho] at hoo hsn
        rw [hoo.1] at p0
        have ho19 := hoo.2
        have Zr := T.out.blk P5.out Z5.out (by decide) (by decide) (by decide)
        have z3 := Zr.cell 3
        simp only [List.getElem?_toArray, List.getElem?_cons_zero, List.getElem?_cons_succ] at z3
        have hzr := Zr.lt
        obtain ⟨bo, oo, hA, hbo, q0⟩ := int_at (T.out.row P5.out XO5.out (by decide) (by decide) (by decide)).ints (j := o) (by rw [hOl]; exact ho19)
        rw [getD_at] at q0
        rw [hA] at z3
        have hy := cntB_at (b := 7) HO7.out (by omega) o
        have hput := penPut_any gp g A6 c6 base _ (O.getD o 0) 3 (by omega) (lt8 hy.2) (by omega) wr M.out (by rw [List.length_append, onesB_len, List.length_take]; omega)
        rw [← hsn] at hput
        clear hA ho hoo hsn Gr Zr
        generalize O.getD o 0 = y at *
        go_wp2_with fail
        refine hput.mono ?_
        rintro e w8 ⟨rfl, A8, c8, M8, T8⟩
        have M9 := hid M8
        have T9 := hid (T.out.trans T8)
        clear M8 T8 hput p0 q0 z3
        go_wp2
        go_roundw
        case rel => exact ⟨j + 1, A8, c8, by omega, by go_num, M9, T9⟩
        case measure => simp [intOf]; omega
      · have e : j = wn := by omega
        subst e
        have Zr := hid (T.out.blk P5.out Z5.out (by decide) (by decide) (by decide))
        have z3 := Zr.out.cell 3
        simp only [List.getElem?_toArray, List.getElem?_cons_zero, List.getElem?_cons_succ] at z3
        have hzr := Zr.out.lt
        have XRr := hid (T.out.row P5.out XR5.out (by decide) (by decide) (by decide))
        have XOr := T.out.row P5.out XO5.out (by decide) (by decide) (by decide)
        have T06 := hid (T05.out.trans T.out)
        have hbk := penBook_any gp g XO Oc O A6 c6 base _ wr XOr HLO.out HNO.out M.out
        rw [hOl] at hbk
        have Mh := hid M.out
        clear GO P5 Z5 XR5 XO5 T05 T M XOr
        go_wp2_with fail
        refine hbk.mono ?_
        rintro e w9 ⟨gb, bb, rfl, hWB, hP9, hT9⟩
        have Z9 := hid (hT9.blk Mh.out Zr.out (by decide) (by decide) (by decide))
        have XR9 := hid (hT9.row Mh.out XRr.out (by decide) (by decide) (by decide))
        have T09 := hid (T06.out.trans hT9)
        have B9 := hid hWB
        have P9 := hid hP9
        have z2 := Z9.out.cell 2
        simp only [List.getElem?_toArray, List.getElem?_cons_zero, List.getElem?_cons_succ] at z2
        have hz9 := Z9.out.lt
        obtain ⟨Q2, hQ2⟩ : ∃ Q2, Q2 = Q ++ onesB O (ordT.take j) := ⟨_, rfl⟩
        have hQ2l : Q2.length ≤ 20000100 := by rw [hQ2, List.length_append, onesB_len, List.length_take]; omega
        rw [← hQ2] at P9
        have HQ2 := hid hQ2
        clear z3 hzr hbk hWB hP9 hT9 Zr XRr T06 Mh hQ2
        go_wp2
        go_loopw [52] (fun i wr => ∃ (q : Nat) (A7 : Option Addr) (c7 : Nat), q ≤ R.length ∧ i = .int .i64 (q : Int) ∧ Hid (PenS wr gp g A7 c7 base (Q2 ++ (R.take q).flatMap (runB O))) ∧ Hid (TwP gp g A6 A7 w9 wr)) (fun i _ => R.length - (intOf i).toNat)
        case atStart => exact ⟨0, A6, c6, by omega, rfl, hid (by show PenS w9 gp g A6 c6 base (Q2 ++ []); rw [List.append_nil]; exact P9.out), hid (TwP.refl gp g A6 w9)⟩
        case round =>
          obtain ⟨q, A7, c7, hq, rfl, M7, T7⟩ := hrel
          have hsz : (Q2 ++ (R.take q).flatMap (runB O)).length ≤ 20040000 := by
            have := runs_le HLO.out (R.take q)
            rw [List.length_take] at this
            rw [List.length_append]
            omega
          by_cases hql : q < R.length
          · have Rr : Rd wr wr.heap.size 2 XR R.length (R.flatMap encTok) := (T7.out.row P9.out XR9.out (by decide) (by decide) (by decide)).rd (by rw [flat_length encTok 2 R (fun _ _ => rfl)])
            obtain ⟨b, off, rfl, hbb, h0, h1⟩ := tok_at Rr hql
            obtain ⟨hpos, hs0, hs1, he0, he1⟩ := HR.out _ (List.getElem_mem hql)
            have hstep : Q2 ++ (R.take (q + 1)).flatMap (runB O) = Q2 ++ (R.take q).flatMap (runB O) ++ runB O R[q] := by
              rw [List.take_succ_eq_append_getElem hql, List.flatMap_append, List.append_assoc]
              simp
            obtain ⟨t, htj⟩ : ∃ t, R[q] = t := ⟨_, rfl⟩
            rw [htj] at h0 h1 hpos hs0 hs1 he0 he1 hstep
            obtain ⟨s, ee⟩ := t
            simp only at h0 h1 hpos hs0 hs1 he0 he1
            obtain ⟨s, rfl⟩ : ∃ n : Nat, s = (n : Int) := ⟨s.toNat, by omega⟩
            rw [Int.toNat_natCast] at hpos
            have hE : Q2 ++ (R.take (q + 1)).flatMap (runB O) = Q2 ++ (R.take q).flatMap (runB O) ++ cdB O s ++ dgS false ee (rb (s : Int)).toNat := by
              rw [hstep, List.append_assoc]
              unfold runB
              simp only [Int.toNat_natCast, List.append_assoc]
            have hrb := rb_bd (s : Int)
            obtain ⟨x, hx⟩ : ∃ x : Nat, rb (s : Int) = (x : Int) := ⟨(rb (s : Int)).toNat, by omega⟩
            have cR := reach_any (s : Int)
            rw [hx] at hE he1 hrb cR
            rw [Int.toNat_natCast] at hE he1
            generalize rl (s : Int) = rl0 at *
            have hal := (Below.refl wr.heap.size wr).alloc (Nat.le_refl _) (.cells #[.int .i64 (s : Int), .int .i64 ee] 107)
            have M8 := hid (M7.out.below hal)
            have T8 := hid (T7.out.below hal)
            have Zb := hid (Blk.new wr 107 #[.int .i64 (s : Int), .int .i64 ee])
            have hln := lens_le' HLO.out s
            have HE := hid hE
            clear htj hstep Rr hal M7 T7 hE hx
            go_upto_region 13 with (fail)
            generalize wr.alloc (.cells #[.int .i64 (s : Int), .int .i64 ee] 107) = wz at *
            clear h0 h1 hbb
            generalize wr.heap.size = gy at *
            have z0 := Zb.out.cell 0
            have z1 := Zb.out.cell 1
            have z3 := Zb.out.lt
            simp only [List.getElem?_toArray, List.getElem?_cons_zero, List.getElem?_cons_succ] at z0 z1
            have hB8 := B9.out.twp T8.out P9.out
            have hsym := penSym_any gb gp g bb O s A7 c7 base _ wz hB8 HLO.out hpos M8.out (by omega)
            have hcd := cdB_len O s
            have Hcd := hid hcd
            have e7 : ee ≤ 4294967296 := by
              have h9 := pow_mono (show x ≤ 32 by omega)
              have : (2 : Int) ^ 32 = 4294967296 := by decide
              omega
            clear hB8 hcd
            generalize cdB O s = cb at *
            generalize lenOf O s = ln at *
            go_wp2_with fail
            refine (cR _).mono ?_
            rintro e w10 ⟨rfl, rfl⟩
            go_wp2_with fail
            refine hsym.mono ?_
            rintro e w11 ⟨rfl, A11, c11, M11, T11⟩
            have Z11 := hid (T11.blk M8.out Zb.out (by decide) (by decide) (by decide))
            have T12 := hid (T8.out.trans T11)
            have y1 := Z11.out.cell 1
            simp only [List.getElem?_toArray, List.getElem?_cons_zero, List.getElem?_cons_succ] at y1
            have y3 := Z11.out.lt
            have hput := penPut_any gp g A11 c11 base _ ee x he0 he1 (by omega) w11 M11 (by rw [List.length_append, Hcd.out]; omega)
            clear z0 z1 z3 T11 M11 hsym
            go_wp2_with fail
            refine hput.mono ?_
            rintro e w12 ⟨rfl, A12, c12, M12, T13⟩
            have M14 := hid (show PenS w12 gp g A12 c12 base (Q2 ++ (R.take (q + 1)).flatMap (runB O)) by rw [HE.out]; exact M12)
            have T14 := hid (T12.out.trans T13)
            clear M12 T13 hput y1 y3
            go_wp2
            go_roundw
            case rel => exact ⟨q + 1, A12, c12, by omega, by go_num, M14, T14⟩
            case measure => simp [intOf]; omega
          · have e : q = R.length := by omega
            subst e
            rw [List.take_length] at M7
            have E := hid (show Q2 ++ R.flatMap (runB O) = LB ++ headB PL PD R O by
              rw [HQ2.out, HQ.out]
              unfold headB
              rw [EL.out, ED.out, ← HWN.out]
              simp only [List.append_assoc])
            have TE := hid (T09.out.trans T7.out)
            go_wp2
            go_end0
            exact ⟨rfl, A7, c7, by rw [← E.out]; exact M7.out, TE.out⟩
end Go.Proofs.Ythhllollhjpheaa
