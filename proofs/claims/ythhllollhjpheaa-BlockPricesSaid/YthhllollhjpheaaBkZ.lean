/-
  The pen writes tokens.
-/
import Derived.Test.YthhllollhjpheaaBkW
import Derived.Test.YthhllollhjpheaaBkD
namespace Go.Proofs.Ythhllollhjpheaa
open Go.RowKit Cd

theorem lens_le {l : List Int} (hl : lensB l = true) (s : Nat) : lenOf l s ≤ 16 := by
  have := (lensB_iff.1 hl).2.1
  have := cntB_at (b := 16) (c := l) this (by omega) s
  unfold lenOf
  omega
theorem tokB_le {L D : List Int} (hL : lensB L = true) (hD : lensB D = true) {t : Int × Int} (hg : tgood t = true) : (tokB L D t).length ≤ 50 := by
  unfold tokB
  split
  · rw [cdB_len]; have := lens_le hL t.2.toNat; omega
  · next h =>
    have hb : 3 ≤ t.1 ∧ t.1 ≤ 258 ∧ 1 ≤ t.2 ∧ t.2 ≤ 32768 := by rcases tgood_true.1 hg with h | h <;> omega
    have := lrest hb.1 hb.2.1
    have := drest hb.2.2.1 hb.2.2.2
    have := lens_le hL (lsN t.1)
    have := lens_le hD (dsN t.2)
    rw [List.length_append, List.length_append, List.length_append, cdB_len, cdB_len, dgS_len, dgS_len]
    omega
theorem toks_le {L D : List Int} (hL : lensB L = true) (hD : lensB D = true) : ∀ {l : List (Int × Int)}, (∀ t ∈ l, tgood t = true) → (l.flatMap (tokB L D)).length ≤ 50 * l.length
  | [], _ => by simp
  | t :: l, h => by
    have h1 := tokB_le hL hD (h t List.mem_cons_self)
    have h2 := toks_le hL hD (l := l) fun x hx => h x (List.mem_cons_of_mem _ hx)
    rw [List.flatMap_cons, List.length_append, List.length_cons]
    omega
set_option maxRecDepth 100000 in
set_option maxHeartbeats 8000000 in
theorem penTok_any (a2 a3 a4 : Value) (gp g : Nat) (XL XD X : Option Addr) (Lc Dc xc : Nat) (PL PD : List Int) (l : List (Int × Int)) (A : Option Addr) (c base : Nat) (LB : List Int) (W : World)
    (hXL : TRow W 3 XL (intsV PL)) (hXD : TRow W 3 XD (intsV PD)) (hX : TextIn W gp g A X (l.flatMap encTok)) (nL : XL = none → Lc = 0) (nD : XD = none → Dc = 0)
    (lL : lensB PL = true) (lD : lensB PD = true) (h256 : 0 < PL.getD 256 0) (hg : ∀ t ∈ l, tgood t = true ∧ hasT PL PD t) (hm : l.length ≤ 1000000) (hLB : LB.length ≤ 20000000) (hp : PenS W gp g A c base LB) :
    Calls Try.prog 33 #[.pointer (some ⟨gp, 0, none⟩), .agg #[.slice XL PL.length Lc, .slice XD PD.length Dc, a2, a3, a4], .slice X l.length xc] W fun e w' => e = .returned (.tuple #[]) ∧ ∃ A' c', PenS w' gp g A' c' base (LB ++ toksB PL PD l) ∧ TwP gp g A A' W w' := by
  have hal := (Below.refl W.heap.size W).alloc (Nat.le_refl _) (.cells #[.slice XL PL.length Lc, .slice XD PD.length Dc, a2, a3, a4] 70)
  have P0 := hid (hp.below hal)
  have T0 := hid ((TwP.refl gp g A W).below hal)
  have X1 := hid (hXL.below hal)
  have X2 := hid (hXD.below hal)
  have X3 := hid (hX.below hal)
  have Z := hid (Blk.new W 70 #[.slice XL PL.length Lc, .slice XD PD.length Dc, a2, a3, a4])
  have KL := hid (fun (w : World) (A1 : Option Addr) (c1 : Nat) (L1 : List Int) (h1 : TRow w 3 XL (intsV PL)) (h2 : PenS w gp g A1 c1 base L1) => penBook_any gp g XL Lc PL A1 c1 base L1 w h1 lL nL h2)
  have KD := hid (fun (w : World) (A1 : Option Addr) (c1 : Nat) (L1 : List Int) (h1 : TRow w 3 XD (intsV PD)) (h2 : PenS w gp g A1 c1 base L1) => penBook_any gp g XD Dc PD A1 c1 base L1 w h1 lD nD h2)
  have HL := hid lL
  have HD := hid lD
  have H256 := hid h256
  have Hg := hid hg
  clear hXL hXD hX nL nD lL lD h256 hg hp hal
  go_enter Try.func33, Try.ntmps33
  go_upto_region 1 with (fail)
  generalize W.alloc (.cells #[.slice XL PL.length Lc, .slice XD PD.length Dc, a2, a3, a4] 70) = w0 at *
  have z0 := Z.out.cell 0
  have z1 := Z.out.cell 1
  simp only [List.getElem?_toArray, List.getElem?_cons_zero, List.getElem?_cons_succ] at z0 z1
  have hz := Z.out.lt
  obtain ⟨gz, hgz⟩ : ∃ gz, gz = W.heap.size := ⟨_, rfl⟩
  rw [← hgz] at z0 z1 hz Z ⊢
  clear hgz
  have D0 := hid (P0.out.below (Below.refl w0.heap.size w0).drew)
  have X1d := hid (X1.out.below (Below.refl w0.heap.size w0).drew)
  have X2d := hid (X2.out.below (Below.refl w0.heap.size w0).drew)
  have Zd := hid (Z.out.drew)
  have Td := hid ((TwP.refl gp g A w0).below (Below.refl w0.heap.size w0).drew)
  go_cut [6, 7] from 15 to 22 (fun u v wq => ∃ g1 b1 g2 b2, u = .pointer (some ⟨g1, 0, none⟩) ∧ v = .pointer (some ⟨g2, 0, none⟩) ∧ Hid (WB wq g1 PL b1) ∧ Hid (WB wq g2 PD b2) ∧ Hid (PenS wq gp g A c base LB) ∧ Hid (TwP gp g A A w0 wq))
  case first =>
    go_region_with (first
      | (go_at_call 57; with_reducible refine (KL.out _ A c LB X1d.out D0.out).mono ?_; rintro e w1 ⟨g1, b1, rfl, hB1, hP1, hT1⟩; have B1 := hid hB1; have P1 := hid hP1; have T1 := hid hT1; have Y2 := hid (hT1.row D0.out X2d.out (by decide) (by decide) (by decide)); have Z1 := hT1.blk D0.out Zd.out (by decide) (by decide) (by decide); have y1 := Z1.cell 1; simp only [List.getElem?_toArray, List.getElem?_cons_zero, List.getElem?_cons_succ] at y1; have yz := Z1.lt; clear hB1 hP1 hT1 Z1)
      | (go_at_call 57; with_reducible refine (KD.out _ A c LB Y2.out P1.out).mono ?_; rintro e w2 ⟨g2, b2, rfl, hB2, hP2, hT2⟩; have B2 := hid hB2; have P2 := hid hP2; have BB1 := hid (B1.out.twp hT2 P1.out); have TT := hid ((Td.out.trans T1.out).trans hT2); clear hB2 hP2 hT2))
    all_goals
      go_wp2
      go_meet
      exact ⟨_, _, _, _, rfl, rfl, BB1, B2, P2, TT⟩
  case rest =>
    obtain ⟨g1, b1, g2, b2, rfl, rfl, B1, B2, P, T1⟩ := hcut
    have TW := hid (T0.out.trans T1.out)
    have Y3 := hid (X3.out.twp T1.out)
    clear D0 X1d X2d Zd Td z0 z1 hz X1 X2 X3 Z KL KD P0 T0 T1
    go_wp2
    go_loopw [25] (fun i wr => ∃ (j : Nat) (A1 : Option Addr) (c1 : Nat), j ≤ l.length ∧ i = .int .i64 (j : Int) ∧ Hid (PenS wr gp g A1 c1 base (LB ++ (l.take j).flatMap (tokB PL PD))) ∧ Hid (TwP gp g A A1 wc wr)) (fun i _ => l.length - (intOf i).toNat)
    case atStart => exact ⟨0, A, c, by omega, rfl, hid (by rw [List.take_zero, List.flatMap_nil, List.append_nil]; exact P.out), hid (TwP.refl gp g A wc)⟩
    case round =>
      obtain ⟨j, A1, c1, hj, rfl, M, T⟩ := hrel
      have hsz : (LB ++ (l.take j).flatMap (tokB PL PD)).length ≤ 70000000 := by
        have := toks_le HL.out HD.out (l := l.take j) (fun t ht => (Hg.out t (List.mem_of_mem_take ht)).1)
        rw [List.length_take] at this
        rw [List.length_append]
        omega
      by_cases hlt : j < l.length
      · have R3 : Rd wr wr.heap.size 2 X l.length (l.flatMap encTok) := (Y3.out.twp T.out).rd (by rw [flat_length encTok 2 l (fun _ _ => rfl)])
        obtain ⟨b, off, rfl, hbb, h0, h1⟩ := tok_at R3 hlt
        obtain ⟨gt, ht⟩ := Hg.out _ (List.getElem_mem hlt)
        have hstep : LB ++ (l.take (j + 1)).flatMap (tokB PL PD) = LB ++ (l.take j).flatMap (tokB PL PD) ++ tokB PL PD l[j] := by
          rw [List.take_succ_eq_append_getElem hlt, List.flatMap_append, List.append_assoc]
          simp
        obtain ⟨t, htj⟩ : ∃ t, l[j] = t := ⟨_, rfl⟩
        rw [htj] at h0 h1 gt ht hstep
        obtain ⟨a, dd⟩ := t
        have htg := tgood_true.1 gt
        simp only at h0 h1 htg
        have hal := (Below.refl wr.heap.size wr).alloc (Nat.le_refl _) (.cells #[.int .i64 a, .int .i64 dd] 54)
        have M1 := hid (M.out.below hal)
        have T1 := hid (T.out.below hal)
        have Zb := hid (Blk.new wr 54 #[.int .i64 a, .int .i64 dd])
        obtain ⟨Q, hQ⟩ : ∃ Q, Q = LB ++ (l.take j).flatMap (tokB PL PD) := ⟨_, rfl⟩
        rw [← hQ] at M1 hstep hsz
        have E := hid hstep
        clear htj hstep R3 hal M T hQ
        go_upto_region 5 with (fail)
        generalize wr.alloc (.cells #[.int .i64 a, .int .i64 dd] 54) = wz at *
        clear h0 h1 hbb
        generalize wr.heap.size = gz at *
        have z0 := Zb.out.cell 0
        have z1 := Zb.out.cell 1
        have z3 := Zb.out.lt
        simp only [List.getElem?_toArray, List.getElem?_cons_zero, List.getElem?_cons_succ] at z0 z1
        have C1 := hid (B1.out.twp T1.out P.out)
        have C2 := hid (B2.out.twp T1.out P.out)
        unfold hasT at ht
        simp only at ht
        by_cases ha : a = 0
        · subst ha
          obtain ⟨s, rfl⟩ : ∃ s : Nat, dd = (s : Int) := ⟨dd.toNat, by omega⟩
          rw [if_pos rfl, Int.toNat_natCast] at ht
          have hsym := penSym_any g1 gp g b1 PL s A1 c1 base Q wz C1.out HL.out ht M1.out (by omega)
          have E2 := hid (show LB ++ (l.take (j + 1)).flatMap (tokB PL PD) = Q ++ cdB PL s from E.out)
          clear ht htg gt
          go_wp2_with fail
          refine hsym.mono ?_
          rintro e w3 ⟨rfl, A3, c3, M3, T3⟩
          have M4 := hid (show PenS w3 gp g A3 c3 base (LB ++ (l.take (j + 1)).flatMap (tokB PL PD)) by rw [E2.out]; exact M3)
          have T4 := hid (T1.out.trans T3)
          clear M3 T3 hsym z0 z1
          go_wp2
          go_roundw
          case rel => exact ⟨j + 1, A3, c3, by omega, by go_num, M4, T4⟩
          case measure => simp [intOf]; omega
        · rw [if_neg ha] at ht
          have hb3 : 3 ≤ a ∧ a ≤ 258 ∧ 1 ≤ dd ∧ dd ≤ 32768 := by omega
          obtain ⟨k1, k2, k3, k4⟩ := hb3
          have cE := lsym_at a k1 k2
          have cD := dsym_at dd k3 k4
          have cB := lbase_at a
          have cF := dbase_at dd
          obtain ⟨r1, r2, r3, r4⟩ := lrest k1 k2
          obtain ⟨q1, q2, q3, q4⟩ := drest k3 k4
          have hE : LB ++ (l.take (j + 1)).flatMap (tokB PL PD) = Q ++ cdB PL (lsN a) ++ dgS false (a - lbase (lsN a : Nat)) (lextra (lsN a : Nat)).toNat ++ cdB PD (dsN dd) ++ dgS false (dd - dbase (dsN dd : Nat)) (dextra (dsN dd : Nat)).toNat := by
            rw [E.out]
            unfold tokB
            rw [if_neg ha]
            simp only [List.append_assoc]
          have l1 := lens_le HL.out (lsN a)
          have l2 := lens_le HD.out (dsN dd)
          obtain ⟨x1, hx1⟩ : ∃ x : Nat, lextra (lsN a : Nat) = (x : Int) := ⟨(lextra (lsN a : Nat)).toNat, by omega⟩
          obtain ⟨x2, hx2⟩ : ∃ x : Nat, dextra (dsN dd : Nat) = (x : Int) := ⟨(dextra (dsN dd : Nat)).toNat, by omega⟩
          rw [hx1] at cB r2 r4 hE
          rw [hx2] at cF q2 q4 hE
          rw [Int.toNat_natCast, Int.toNat_natCast] at hE
          rw [Int.toNat_natCast] at r2 q2
          generalize lbase (lsN a : Nat) = e1 at *
          generalize dbase (dsN dd : Nat) = e2 at *
          have hs1 := ht.1
          have hs2 := ht.2
          have ecd1 := cdB_len PL (lsN a)
          have ecd2 := cdB_len PD (dsN dd)
          have hsym1 := penSym_any g1 gp g b1 PL (lsN a) A1 c1 base Q wz C1.out HL.out hs1 M1.out (by omega)
          have KS2 := hid (fun (w : World) (b : BV) (A4 : Option Addr) (c4 : Nat) (L4 : List Int) (h1 : WB w g2 PD b) (h2 : PenS w gp g A4 c4 base L4) (h3 : L4.length ≤ 80000000) => penSym_any g2 gp g b PD (dsN dd) A4 c4 base L4 w h1 HD.out hs2 h2 h3)
          have Hcd1 := hid ecd1
          have Hcd2 := hid ecd2
          have Hl1 := hid l1
          have Hl2 := hid l2
          have HE := hid hE
          clear ht htg gt hs1 hs2 ecd1 ecd2 hE r3 q3 hx1 hx2 l1 l2
          generalize hB1x : cdB PL (lsN a) = cb1 at *
          generalize hB2x : cdB PD (dsN dd) = cb2 at *
          clear hB1x hB2x
          generalize lenOf PL (lsN a) = ln1 at *
          generalize lenOf PD (dsN dd) = ln2 at *
          generalize lsN a = s1 at *
          generalize dsN dd = s2 at *
          have hx15 : x1 ≤ 5 := by omega
          have hx25 : x2 ≤ 13 := by omega
          have hae : a - e1 ≤ 4294967296 := by
            have h9 := pow_mono (show x1 ≤ 32 by omega)
            have : (2 : Int) ^ 32 = 4294967296 := by decide
            omega
          have hde : dd - e2 ≤ 4294967296 := by
            have h9 := pow_mono (show x2 ≤ 32 by omega)
            have : (2 : Int) ^ 32 = 4294967296 := by decide
            omega
          go_wp2_with fail
          refine (cE _).mono ?_
          rintro e w1 ⟨rfl, rfl⟩
          go_wp2_with fail
          refine (cB _).mono ?_
          rintro e w1 ⟨rfl, rfl⟩
          go_wp2_with fail
          refine hsym1.mono ?_
          rintro e w3 ⟨rfl, A3, c3, M3, T3⟩
          have Z3 := hid (T3.blk M1.out Zb.out (by decide) (by decide) (by decide))
          have C23 := hid (C2.out.twp T3 M1.out)
          have T13 := hid (T1.out.trans T3)
          have y0 := Z3.out.cell 0
          have y1 := Z3.out.cell 1
          simp only [List.getElem?_toArray, List.getElem?_cons_zero, List.getElem?_cons_succ] at y0 y1
          have y3 := Z3.out.lt
          have hput1 := penPut_any gp g A3 c3 base _ (a - e1) x1 r1 r2 (by omega) w3 M3 (by rw [List.length_append, Hcd1.out]; have := Hl1.out; omega)
          have M3h := hid M3
          clear z0 z1 z3 T3 M3 hsym1
          go_wp2_with fail
          refine hput1.mono ?_
          rintro e w4 ⟨rfl, A4, c4, M4, T4⟩
          have Z4 := hid (T4.blk M3h.out Z3.out (by decide) (by decide) (by decide))
          have C24 := hid (C23.out.twp T4 M3h.out)
          have T14 := hid (T13.out.trans T4)
          have u0 := Z4.out.cell 0
          have u1 := Z4.out.cell 1
          simp only [List.getElem?_toArray, List.getElem?_cons_zero, List.getElem?_cons_succ] at u0 u1
          have u3 := Z4.out.lt
          have hsym2 := KS2.out w4 b2 A4 c4 _ C24.out M4 (by rw [List.length_append, List.length_append, Hcd1.out, dgS_len]; have := Hl1.out; omega)
          have M4h := hid M4
          clear y0 y1 y3 T4 M4 hput1
          go_wp2_with fail
          refine (cD _).mono ?_
          rintro e w5 ⟨rfl, rfl⟩
          go_wp2_with fail
          refine (cF _).mono ?_
          rintro e w5 ⟨rfl, rfl⟩
          go_wp2_with fail
          refine hsym2.mono ?_
          rintro e w6 ⟨rfl, A6, c6, M6, T6⟩
          have Z6 := hid (T6.blk M4h.out Z4.out (by decide) (by decide) (by decide))
          have T16 := hid (T14.out.trans T6)
          have v0 := Z6.out.cell 0
          have v1 := Z6.out.cell 1
          simp only [List.getElem?_toArray, List.getElem?_cons_zero, List.getElem?_cons_succ] at v0 v1
          have v3 := Z6.out.lt
          have hput2 := penPut_any gp g A6 c6 base _ (dd - e2) x2 q1 q2 (by omega) w6 M6 (by rw [List.length_append, List.length_append, List.length_append, Hcd1.out, Hcd2.out, dgS_len]; have := Hl1.out; have := Hl2.out; omega)
          clear u0 u1 u3 T6 M6 hsym2
          go_wp2_with fail
          refine hput2.mono ?_
          rintro e w7 ⟨rfl, A7, c7, M7, T7⟩
          have M8 := hid (show PenS w7 gp g A7 c7 base (LB ++ (l.take (j + 1)).flatMap (tokB PL PD)) by rw [HE.out]; exact M7)
          have T8 := hid (T16.out.trans T7)
          clear M7 T7 hput2 v0 v1 v3
          go_wp2
          go_roundw
          case rel => exact ⟨j + 1, A7, c7, by omega, by go_num, M8, T8⟩
          case measure => simp [intOf]; omega
      · have e : j = l.length := by omega
        subst e
        have C1 := B1.out.twp T.out P.out
        have hsym := penSym_any g1 gp g b1 PL 256 A1 c1 base _ wr C1 HL.out H256.out M.out (by omega)
        rw [List.take_length] at hsym
        have Ta := hid (TW.out.trans T.out)
        clear C1 M T
        go_wp2_with fail
        refine hsym.mono ?_
        rintro e w3 ⟨rfl, A3, c3, M3, T3⟩
        have M4 := hid (show PenS w3 gp g A3 c3 base (LB ++ toksB PL PD l) by unfold toksB; rw [← List.append_assoc]; exact M3)
        have T4 := hid (Ta.out.trans T3)
        clear M3 T3 hsym
        go_wp2
        go_end0
        exact ⟨rfl, A3, c3, M4.out, T4.out⟩
end Go.Proofs.Ythhllollhjpheaa
