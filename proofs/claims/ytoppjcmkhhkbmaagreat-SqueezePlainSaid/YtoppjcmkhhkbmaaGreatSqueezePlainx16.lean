/-
  The pen writes tokens.
  block.Write.
  Slices that a writer does not turn.
  squeeze.check, literals, write.
  squeeze.literals.
-/
import Derived.Test.YtoppjcmkhhkbmaaGreatSqueezePlainx10
import Derived.Test.YtoppjcmkhhkbmaaGreatSqueezePlainx14
import Derived.Test.YtoppjcmkhhkbmaaGreatSqueezePlainx15
import Derived.BigQuiet
import Derived.Deep.Cut
namespace Go.Proofs.YtoppjcmkhhkbmaaGreat
open Go.RowKit Cd

theorem lens_le {l : List Int} (hl : lensB l = true) (s : Nat) : lenOf l s ≤ 16 := by
  have := (lensB_iff.1 hl).2.1
  have := cntB_at (b := 16) (c := l) this (by omega) s
  unfold lenOf
  omega
theorem tokB_le {L D : List Int} (hL : lensB L = true) (hD : lensB D = true) {t : Int × Int} (hg : tgood t = true) : (tokB L D t).length ≤ 50 := by
  unfold tokB
  split
  · rw [cdB_len]; have := lens_le hL t.2.toNat; omega
  · next h =>
    have hb : 3 ≤ t.1 ∧ t.1 ≤ 258 ∧ 1 ≤ t.2 ∧ t.2 ≤ 32768 := by rcases tgood_true.1 hg with h | h <;> omega
    have := lrest hb.1 hb.2.1
    have := drest hb.2.2.1 hb.2.2.2
    have := lens_le hL (lsN t.1)
    have := lens_le hD (dsN t.2)
    rw [List.length_append, List.length_append, List.length_append, cdB_len, cdB_len, dgS_len, dgS_len]
    omega
theorem toks_le {L D : List Int} (hL : lensB L = true) (hD : lensB D = true) : ∀ {l : List (Int × Int)}, (∀ t ∈ l, tgood t = true) → (l.flatMap (tokB L D)).length ≤ 50 * l.length
  | [], _ => by simp
  | t :: l, h => by
    have h1 := tokB_le hL hD (h t List.mem_cons_self)
    have h2 := toks_le hL hD (l := l) fun x hx => h x (List.mem_cons_of_mem _ hx)
    rw [List.flatMap_cons, List.length_append, List.length_cons]
    omega
set_option maxRecDepth 100000 in
set_option maxHeartbeats 8000000 in
theorem penTok_any (a2 a3 a4 : Value) (gp g : Nat) (XL XD X : Option Addr) (Lc Dc xc : Nat) (PL PD : List Int) (l : List (Int × Int)) (A : Option Addr) (c base : Nat) (LB : List Int) (W : World)
    (hXL : TRow W 3 XL (intsV PL)) (hXD : TRow W 3 XD (intsV PD)) (hX : TextIn W gp g A X (l.flatMap encTok)) (nL : XL = none → Lc = 0) (nD : XD = none → Dc = 0)
    (lL : lensB PL = true) (lD : lensB PD = true) (h256 : 0 < PL.getD 256 0) (hg : ∀ t ∈ l, tgood t = true ∧ hasT PL PD t) (hm : l.length ≤ 1000000) (hLB : LB.length ≤ 20000000) (hp : PenS W gp g A c base LB) :
    Calls Tryz.prog 109 #[.pointer (some ⟨gp, 0, none⟩), .agg #[.slice XL PL.length Lc, .slice XD PD.length Dc, a2, a3, a4], .slice X l.length xc] W fun e w' => e = .returned (.tuple #[]) ∧ ∃ A' c', PenS w' gp g A' c' base (LB ++ toksB PL PD l) ∧ TwP gp g A A' W w' := by
  have hal := (Below.refl W.heap.size W).alloc (Nat.le_refl _) (.cells #[.slice XL PL.length Lc, .slice XD PD.length Dc, a2, a3, a4] 100)
  have P0 := hid (hp.below hal)
  have T0 := hid ((TwP.refl gp g A W).below hal)
  have X1 := hid (hXL.below hal)
  have X2 := hid (hXD.below hal)
  have X3 := hid (hX.below hal)
  have Z := hid (Blk.new W 100 #[.slice XL PL.length Lc, .slice XD PD.length Dc, a2, a3, a4])
  have KL := hid (fun (w : World) (A1 : Option Addr) (c1 : Nat) (L1 : List Int) (h1 : TRow w 3 XL (intsV PL)) (h2 : PenS w gp g A1 c1 base L1) => penBook_any gp g XL Lc PL A1 c1 base L1 w h1 lL nL h2)
  have KD := hid (fun (w : World) (A1 : Option Addr) (c1 : Nat) (L1 : List Int) (h1 : TRow w 3 XD (intsV PD)) (h2 : PenS w gp g A1 c1 base L1) => penBook_any gp g XD Dc PD A1 c1 base L1 w h1 lD nD h2)
  have HL := hid lL
  have HD := hid lD
  have H256 := hid h256
  have Hg := hid hg
  clear hXL hXD hX nL nD lL lD h256 hg hp hal
  go_enter Tryz.func109, Tryz.ntmps109
  go_upto_region 1 with (fail)
  generalize W.alloc (.cells #[.slice XL PL.length Lc, .slice XD PD.length Dc, a2, a3, a4] 100) = w0 at *
  have z0 := Z.out.cell 0
  have z1 := Z.out.cell 1
  simp only [List.getElem?_toArray, List.getElem?_cons_zero, List.getElem?_cons_succ] at z0 z1
  have hz := Z.out.lt
  obtain ⟨gz, hgz⟩ : ∃ gz, gz = W.heap.size := ⟨_, rfl⟩
  rw [← hgz] at z0 z1 hz Z ⊢
  clear hgz
  have D0 := hid (P0.out.below (Below.refl w0.heap.size w0).drew)
  have X1d := hid (X1.out.below (Below.refl w0.heap.size w0).drew)
  have X2d := hid (X2.out.below (Below.refl w0.heap.size w0).drew)
  have Zd := hid (Z.out.drew)
  have Td := hid ((TwP.refl gp g A w0).below (Below.refl w0.heap.size w0).drew)
  go_cut [6, 7] from 15 to 22 (fun u v wq => ∃ g1 b1 g2 b2, u = .pointer (some ⟨g1, 0, none⟩) ∧ v = .pointer (some ⟨g2, 0, none⟩) ∧ Hid (WB wq g1 PL b1) ∧ Hid (WB wq g2 PD b2) ∧ Hid (PenS wq gp g A c base LB) ∧ Hid (TwP gp g A A w0 wq))
  case first =>
    go_region_with (first
      | (go_at_call 142; with_reducible refine (KL.out _ A c LB X1d.out D0.out).mono ?_; rintro e w1 ⟨g1, b1, rfl, hB1, hP1, hT1⟩; have B1 := hid hB1; have P1 := hid hP1; have T1 := hid hT1; have Y2 := hid (hT1.row D0.out X2d.out (by decide) (by decide) (by decide)); have Z1 := hT1.blk D0.out Zd.out (by decide) (by decide) (by decide); have y1 := Z1.cell 1; simp only [List.getElem?_toArray, List.getElem?_cons_zero, List.getElem?_cons_succ] at y1; have yz := Z1.lt; clear hB1 hP1 hT1 Z1)
      | (go_at_call 142; with_reducible refine (KD.out _ A c LB Y2.out P1.out).mono ?_; rintro e w2 ⟨g2, b2, rfl, hB2, hP2, hT2⟩; have B2 := hid hB2; have P2 := hid hP2; have BB1 := hid (B1.out.twp hT2 P1.out); have TT := hid ((Td.out.trans T1.out).trans hT2); clear hB2 hP2 hT2))
    all_goals
      go_wp2
      go_meet
      exact ⟨_, _, _, _, rfl, rfl, BB1, B2, P2, TT⟩
  case rest =>
    obtain ⟨g1, b1, g2, b2, rfl, rfl, B1, B2, P, T1⟩ := hcut
    have TW := hid (T0.out.trans T1.out)
    have Y3 := hid (X3.out.twp T1.out)
    clear D0 X1d X2d Zd Td z0 z1 hz X1 X2 X3 Z KL KD P0 T0 T1
    go_wp2
    go_loopw [25] (fun i wr => ∃ (j : Nat) (A1 : Option Addr) (c1 : Nat), j ≤ l.length ∧ i = .int .i64 (j : Int) ∧ Hid (PenS wr gp g A1 c1 base (LB ++ (l.take j).flatMap (tokB PL PD))) ∧ Hid (TwP gp g A A1 wc wr)) (fun i _ => l.length - (intOf i).toNat)
    case atStart => exact ⟨0, A, c, by omega, rfl, hid (by rw [List.take_zero, List.flatMap_nil, List.append_nil]; exact P.out), hid (TwP.refl gp g A wc)⟩
    case round =>
      obtain ⟨j, A1, c1, hj, rfl, M, T⟩ := hrel
      have hsz : (LB ++ (l.take j).flatMap (tokB PL PD)).length ≤ 70000000 := by
        have := toks_le HL.out HD.out (l := l.take j) (fun t ht => (Hg.out t (List.mem_of_mem_take ht)).1)
        rw [List.length_take] at this
        rw [List.length_append]
        omega
      by_cases hlt : j < l.length
      · have R3 : Rd wr wr.heap.size 2 X l.length (l.flatMap encTok) := (Y3.out.twp T.out).rd (by rw [flat_length encTok 2 l (fun _ _ => rfl)])
        obtain ⟨b, off, rfl, hbb, h0, h1⟩ := tok_at R3 hlt
        obtain ⟨gt, ht⟩ := Hg.out _ (List.getElem_mem hlt)
        have hstep : LB ++ (l.take (j + 1)).flatMap (tokB PL PD) = LB ++ (l.take j).flatMap (tokB PL PD) ++ tokB PL PD l[j] := by
          rw [List.take_succ_eq_append_getElem hlt, List.flatMap_append, List.append_assoc]
          simp
        obtain ⟨t, htj⟩ : ∃ t, l[j] = t := ⟨_, rfl⟩
        rw [htj] at h0 h1 gt ht hstep
        obtain ⟨a, dd⟩ := t
        have htg := tgood_true.1 gt
        simp only at h0 h1 htg
        have hal := (Below.refl wr.heap.size wr).alloc (Nat.le_refl _) (.cells #[.int .i64 a, .int .i64 dd] 54)
        have M1 := hid (M.out.below hal)
        have T1 := hid (T.out.below hal)
        have Zb := hid (Blk.new wr 54 #[.int .i64 a, .int .i64 dd])
        obtain ⟨Q, hQ⟩ : ∃ Q, Q = LB ++ (l.take j).flatMap (tokB PL PD) := ⟨_, rfl⟩
        rw [← hQ] at M1 hstep hsz
        have E := hid hstep
        clear htj hstep R3 hal M T hQ
        go_upto_region 5 with (fail)
        generalize wr.alloc (.cells #[.int .i64 a, .int .i64 dd] 54) = wz at *
        clear h0 h1 hbb
        generalize wr.heap.size = gz at *
        have z0 := Zb.out.cell 0
        have z1 := Zb.out.cell 1
        have z3 := Zb.out.lt
        simp only [List.getElem?_toArray, List.getElem?_cons_zero, List.getElem?_cons_succ] at z0 z1
        have C1 := hid (B1.out.twp T1.out P.out)
        have C2 := hid (B2.out.twp T1.out P.out)
        unfold hasT at ht
        simp only at ht
        by_cases ha : a = 0
        · subst ha
          obtain ⟨s, rfl⟩ : ∃ s : Nat, dd = (s : Int) := ⟨dd.toNat, by omega⟩
          rw [if_pos rfl, Int.toNat_natCast] at ht
          have hsym := penSym_any g1 gp g b1 PL s A1 c1 base Q wz C1.out HL.out ht M1.out (by omega)
          have E2 := hid (show LB ++ (l.take (j + 1)).flatMap (tokB PL PD) = Q ++ cdB PL s from E.out)
          clear ht htg gt
          go_wp2_with fail
          refine hsym.mono ?_
          rintro e w3 ⟨rfl, A3, c3, M3, T3⟩
          have M4 := hid (show PenS w3 gp g A3 c3 base (LB ++ (l.take (j + 1)).flatMap (tokB PL PD)) by rw [E2.out]; exact M3)
          have T4 := hid (T1.out.trans T3)
          clear M3 T3 hsym z0 z1
          go_wp2
          go_roundw
          case rel => exact ⟨j + 1, A3, c3, by omega, by go_num, M4, T4⟩
          case measure => simp [intOf]; omega
        · rw [if_neg ha] at ht
          have hb3 : 3 ≤ a ∧ a ≤ 258 ∧ 1 ≤ dd ∧ dd ≤ 32768 := by omega
          obtain ⟨k1, k2, k3, k4⟩ := hb3
          have cE := lsym_at a k1 k2
          have cD := dsym_at dd k3 k4
          have cB := lbase_at a
          have cF := dbase_at dd
          obtain ⟨r1, r2, r3, r4⟩ := lrest k1 k2
          obtain ⟨q1, q2, q3, q4⟩ := drest k3 k4
          have hE : LB ++ (l.take (j + 1)).flatMap (tokB PL PD) = Q ++ cdB PL (lsN a) ++ dgS false (a - lbase (lsN a : Nat)) (lextra (lsN a : Nat)).toNat ++ cdB PD (dsN dd) ++ dgS false (dd - dbase (dsN dd : Nat)) (dextra (dsN dd : Nat)).toNat := by
            rw [E.out]
            unfold tokB
            rw [if_neg ha]
            simp only [List.append_assoc]
          have l1 := lens_le HL.out (lsN a)
          have l2 := lens_le HD.out (dsN dd)
          obtain ⟨x1, hx1⟩ : ∃ x : Nat, lextra (lsN a : Nat) = (x : Int) := ⟨(lextra (lsN a : Nat)).toNat, by omega⟩
          obtain ⟨x2, hx2⟩ : ∃ x : Nat, dextra (dsN dd : Nat) = (x : Int) := ⟨(dextra (dsN dd : Nat)).toNat, by omega⟩
          rw [hx1] at cB r2 r4 hE
          rw [hx2] at cF q2 q4 hE
          rw [Int.toNat_natCast, Int.toNat_natCast] at hE
          rw [Int.toNat_natCast] at r2 q2
          generalize lbase (lsN a : Nat) = e1 at *
          generalize dbase (dsN dd : Nat) = e2 at *
          have hs1 := ht.1
          have hs2 := ht.2
          have ecd1 := cdB_len PL (lsN a)
          have ecd2 := cdB_len PD (dsN dd)
          have hsym1 := penSym_any g1 gp g b1 PL (lsN a) A1 c1 base Q wz C1.out HL.out hs1 M1.out (by omega)
          have KS2 := hid (fun (w : World) (b : BV) (A4 : Option Addr) (c4 : Nat) (L4 : List Int) (h1 : WB w g2 PD b) (h2 : PenS w gp g A4 c4 base L4) (h3 : L4.length ≤ 80000000) => penSym_any g2 gp g b PD (dsN dd) A4 c4 base L4 w h1 HD.out hs2 h2 h3)
          have Hcd1 := hid ecd1
          have Hcd2 := hid ecd2
          have Hl1 := hid l1
          have Hl2 := hid l2
          have HE := hid hE
          clear ht htg gt hs1 hs2 ecd1 ecd2 hE r3 q3 hx1 hx2 l1 l2
          generalize hB1x : cdB PL (lsN a) = cb1 at *
          generalize hB2x : cdB PD (dsN dd) = cb2 at *
          clear hB1x hB2x
          generalize lenOf PL (lsN a) = ln1 at *
          generalize lenOf PD (dsN dd) = ln2 at *
          generalize lsN a = s1 at *
          generalize dsN dd = s2 at *
          have hx15 : x1 ≤ 5 := by omega
          have hx25 : x2 ≤ 13 := by omega
          have hae : a - e1 ≤ 4294967296 := by
            have h9 := pow_mono (show x1 ≤ 32 by omega)
            have : (2 : Int) ^ 32 = 4294967296 := by decide
            omega
          have hde : dd - e2 ≤ 4294967296 := by
            have h9 := pow_mono (show x2 ≤ 32 by omega)
            have : (2 : Int) ^ 32 = 4294967296 := by decide
            omega
          go_wp2_with fail
          refine (cE _).mono ?_
          rintro e w1 ⟨rfl, rfl⟩
          go_wp2_with fail
          refine (cB _).mono ?_
          rintro e w1 ⟨rfl, rfl⟩
          go_wp2_with fail
          refine hsym1.mono ?_
          rintro e w3 ⟨rfl, A3, c3, M3, T3⟩
          have Z3 := hid (T3.blk M1.out Zb.out (by decide) (by decide) (by decide))
          have C23 := hid (C2.out.twp T3 M1.out)
          have T13 := hid (T1.out.trans T3)
          have y0 := Z3.out.cell 0
          have y1 := Z3.out.cell 1
          simp only [List.getElem?_toArray, List.getElem?_cons_zero, List.getElem?_cons_succ] at y0 y1
          have y3 := Z3.out.lt
          have hput1 := penPut_any gp g A3 c3 base _ (a - e1) x1 r1 r2 (by omega) w3 M3 (by rw [List.length_append, Hcd1.out]; have := Hl1.out; omega)
          have M3h := hid M3
          clear z0 z1 z3 T3 M3 hsym1
          go_wp2_with fail
          refine hput1.mono ?_
          rintro e w4 ⟨rfl, A4, c4, M4, T4⟩
          have Z4 := hid (T4.blk M3h.out Z3.out (by decide) (by decide) (by decide))
          have C24 := hid (C23.out.twp T4 M3h.out)
          have T14 := hid (T13.out.trans T4)
          have u0 := Z4.out.cell 0
          have u1 := Z4.out.cell 1
          simp only [List.getElem?_toArray, List.getElem?_cons_zero, List.getElem?_cons_succ] at u0 u1
          have u3 := Z4.out.lt
          have hsym2 := KS2.out w4 b2 A4 c4 _ C24.out M4 (by rw [List.length_append, List.length_append, Hcd1.out, dgS_len]; have := Hl1.out; omega)
          have M4h := hid M4
          clear y0 y1 y3 T4 M4 hput1
          go_wp2_with fail
          refine (cD _).mono ?_
          rintro e w5 ⟨rfl, rfl⟩
          go_wp2_with fail
          refine (cF _).mono ?_
          rintro e w5 ⟨rfl, rfl⟩
          go_wp2_with fail
          refine hsym2.mono ?_
          rintro e w6 ⟨rfl, A6, c6, M6, T6⟩
          have Z6 := hid (T6.blk M4h.out Z4.out (by decide) (by decide) (by decide))
          have T16 := hid (T14.out.trans T6)
          have v0 := Z6.out.cell 0
          have v1 := Z6.out.cell 1
          simp only [List.getElem?_toArray, List.getElem?_cons_zero, List.getElem?_cons_succ] at v0 v1
          have v3 := Z6.out.lt
          have hput2 := penPut_any gp g A6 c6 base _ (dd - e2) x2 q1 q2 (by omega) w6 M6 (by rw [List.length_append, List.length_append, List.length_append, Hcd1.out, Hcd2.out, dgS_len]; have := Hl1.out; have := Hl2.out; omega)
          clear u0 u1 u3 T6 M6 hsym2
          go_wp2_with fail
          refine hput2.mono ?_
          rintro e w7 ⟨rfl, A7, c7, M7, T7⟩
          have M8 := hid (show PenS w7 gp g A7 c7 base (LB ++ (l.take (j + 1)).flatMap (tokB PL PD)) by rw [HE.out]; exact M7)
          have T8 := hid (T16.out.trans T7)
          clear M7 T7 hput2 v0 v1 v3
          go_wp2
          go_roundw
          case rel => exact ⟨j + 1, A7, c7, by omega, by go_num, M8, T8⟩
          case measure => simp [intOf]; omega
      · have e : j = l.length := by omega
        subst e
        have C1 := B1.out.twp T.out P.out
        have hsym := penSym_any g1 gp g b1 PL 256 A1 c1 base _ wr C1 HL.out H256.out M.out (by omega)
        rw [List.take_length] at hsym
        have Ta := hid (TW.out.trans T.out)
        clear C1 M T
        go_wp2_with fail
        refine hsym.mono ?_
        rintro e w3 ⟨rfl, A3, c3, M3, T3⟩
        have M4 := hid (show PenS w3 gp g A3 c3 base (LB ++ toksB PL PD l) by unfold toksB; rw [← List.append_assoc]; exact M3)
        have T4 := hid (Ta.out.trans T3)
        clear M3 T3 hsym
        go_wp2
        go_end0
        exact ⟨rfl, A3, c3, M4.out, T4.out⟩
end Go.Proofs.YtoppjcmkhhkbmaaGreat

namespace Go.Proofs.YtoppjcmkhhkbmaaGreat
open Go.RowKit

theorem high_any (s : Bool) (g : Nat) (A : Option Addr) (c base : Nat) (L : List Int) (W : World) (h : WrS W g s A c base L) : Calls Tryz.prog 139 #[.pointer (some ⟨g, 0, none⟩)] W fun e w' => e = .returned (.bool s) ∧ W = w' := by
  have q0 := (h.blk.cell 0).trans rfl
  have hg := h.blk.lt
  clear h
  go_enter Tryz.func139, Tryz.ntmps139
  go_wp2
  go_ret
  exact ⟨rfl, rfl⟩
theorem low_any (s : Bool) (g : Nat) (A : Option Addr) (c base : Nat) (L : List Int) (W : World) (h : WrS W g s A c base L) : Calls Tryz.prog 105 #[.pointer (some ⟨g, 0, none⟩)] W fun e w' => e = .returned (.bool (!s)) ∧ W = w' := by
  have hh := high_any s g A c base L W h
  clear h
  go_enter Tryz.func105, Tryz.ntmps105
  go_wp2_with fail
  refine hh.mono ?_
  rintro e w1 ⟨rfl, rfl⟩
  cases s
  all_goals
    go_wp2
    go_ret
    exact ⟨rfl, rfl⟩
/-- bytes that a writer does not turn -/
def TextS (w : World) (g : Nat) (A X : Option Addr) (xs : List Value) : Prop := xs = [] ∨ ∃ b off, X = some ⟨b, off, none⟩ ∧ b < w.heap.size ∧ b ≠ g ∧ (∀ a, A = some a → a.block ≠ b) ∧ ∀ j u, xs[j]? = some u → w.cell? ⟨b, off + j, none⟩ = some u
theorem TextS.rd {w : World} {g : Nat} {A X : Option Addr} {xs : List Value} (h : TextS w g A X xs) {size n : Nat} (hl : xs.length = n * size) : Rd w w.heap.size size X n xs := by
  refine ⟨hl, fun hp => ?_⟩
  rcases h with h | ⟨b, off, hA, hb, _, _, hc⟩
  · rw [h] at hp; exact absurd hp (Nat.lt_irrefl 0)
  · exact ⟨b, off, hA, hb, hc⟩
theorem TextS.pen {w w1 : World} {gp g : Nat} {A X : Option Addr} {xs : List Value} (h : TextS w g A X xs) (hb : Below w.heap.size w w1) (hgp : w.heap.size ≤ gp) : TextIn w1 gp g A X xs := by
  rcases h with h | ⟨b, off, hA, hlt, h1, h2, hc⟩
  · exact .inl h
  · exact .inr ⟨b, off, hA, Nat.lt_of_lt_of_le hlt hb.size, by omega, h1, h2, fun j u hu => cell_up (hc j u hu) hb hlt⟩
/-- a pen that was made anew is no more than a turned writer -/
theorem TwP.tw {gp g : Nat} {A A1 : Option Addr} {w0 w w1 : World} (hb : Below w0.heap.size w0 w) (h : TwP gp g A A1 w w1) (hgp : w0.heap.size ≤ gp) : Tw g A A1 w0 w1 :=
  ⟨h.os.trans hb.os, h.tape.trans hb.tape, h.output.trans hb.output, Nat.le_trans hb.size h.size, fun k hk hg ha => (h.same k (Nat.lt_of_lt_of_le hk hb.size) (by omega) hg ha).trans (hb.block k hk), fun a ha => by
    rcases h.new a ha with h1 | h1
    · exact .inl h1
    · exact .inr (Nat.le_trans hb.size h1)⟩
theorem headB_le {l : List (Int × Int)} (hg : ∀ t ∈ l, tgood t = true) : (headB (ownM l).L (ownM l).D (ownM l).R (ownM l).O).length ≤ 10000 := by
  obtain ⟨h1, h2, _⟩ := own_runs hg
  have := runs_le h1.l (ownM l).R
  have := List.length_take_le (wrN (ownM l).O 19) ordT
  have := (wrN_bd (ownM l).O 19 (by omega)).2
  unfold headB
  simp only [List.length_append, dgS_len, onesB_len]
  omega
theorem penLen_own (a4 : Value) (gp g : Nat) (XL XD XR XO : Option Addr) (Lc Dc Rc Oc : Nat) (PL PD : List Int) (R : List (Int × Int)) (O : List Int) (A : Option Addr) (c base : Nat) (LB : List Int) (l : List (Int × Int)) (W : World)
    (hg : ∀ t ∈ l, tgood t = true) (e : PL = (ownM l).L ∧ PD = (ownM l).D ∧ R = (ownM l).R ∧ O = (ownM l).O)
    (hXR : W.ownsRow 0 195 2 (.slice XR R.length Rc) R.length (R.flatMap encTok)) (hXO : W.ownsRow 0 3 1 (.slice XO O.length Oc) O.length (intsV O)) (hLB : LB.length ≤ 20000000) (hp : PenS W gp g A c base LB) :
    Calls Tryz.prog 108 #[.pointer (some ⟨gp, 0, none⟩), .agg #[.slice XL PL.length Lc, .slice XD PD.length Dc, .slice XR R.length Rc, .slice XO O.length Oc, a4]] W fun e w' => e = .returned (.tuple #[]) ∧ ∃ A' c', PenS w' gp g A' c' base (LB ++ headB PL PD R O) ∧ TwP gp g A A' W w' := by
  obtain ⟨e1, e2, e3, e4⟩ := e
  subst e1 e2 e3 e4
  obtain ⟨h1, h2, _⟩ := own_runs hg
  have hG := own_good hg
  have hL := own_lens l
  have key : ∀ n, n = 19 → Calls Tryz.prog 108 #[.pointer (some ⟨gp, 0, none⟩), .agg #[.slice XL (ownM l).L.length Lc, .slice XD (ownM l).D.length Dc, .slice XR (ownM l).R.length Rc, .slice XO n Oc, a4]] W fun e w' => e = .returned (.tuple #[]) ∧ ∃ A' c', PenS w' gp g A' c' base (LB ++ headB (ownM l).L (ownM l).D (ownM l).R (ownM l).O) ∧ TwP gp g A A' W w' := by
    rintro _ rfl
    exact penLen_any a4 gp g XL XD XR XO _ _ Lc Dc Rc Oc _ _ _ _ A c base LB W (TRow.own hXR) (TRow.own hXO) (own_czS hXO) rfl rfl hL ⟨hG.n3, hG.n2⟩ h1.n h1.b7 h1.l h1.r (by omega) hLB hp
  exact key _ h1.n
set_option maxRecDepth 100000 in
set_option maxHeartbeats 8000000 in
theorem write_good (gw : Nat) (WA : Option Addr) (wc base : Nat) (L : List Int) (A B : Option Addr) (c d : Nat) (kind : Int) (last : Bool) (l : List (Int × Int)) (text : List Int) (W : World) (hr : TextS W gw WA A (l.flatMap encTok)) (ht : TextS W gw WA B (bytesV text)) (hm : l.length ≤ 1000000) (hm2 : text.length ≤ 1000000) (hok : ∀ t ∈ l, okTok t) (hB : ∀ x ∈ text, isB x)
    (hw : WrS W gw false WA wc base L) (hbs : base ≤ W.heap.size) (hL : L.length ≤ 10000000) (hg : blkGood kind l text = true) :
    Calls Tryz.prog 69 #[.pointer (some ⟨gw, 0, none⟩), .agg #[.int .i64 kind, .slice A l.length c, .slice B text.length d], .bool last] W fun e w' => e = .returned .nilIface ∧ ∃ A' c', WrS w' gw false A' c' base (L ++ wrB L.length last kind l text) ∧ Tw gw WA A' W w' := by
  have hb1 := (Below.refl W.heap.size W).alloc (Nat.le_refl _) (.cells #[.int .i64 kind, .slice A l.length c, .slice B text.length d] 48)
  have ZB := hid (Blk.new W 48 #[.int .i64 kind, .slice A l.length c, .slice B text.length d])
  have Hb := hid hb1
  have hrd : Rd W W.heap.size 2 A l.length (l.flatMap encTok) := hr.rd (by rw [flat_length encTok 2 l (fun _ _ => rfl)])
  have htd : Rd W W.heap.size 1 B text.length (bytesV text) := ht.rd (by simp [bytesV])
  have hck := check10_any A B c d kind l text _ (rd_up hrd hb1) (rd_up htd hb1) hm hm2 hok hB true hg
  have Hr := hid hr
  have Ht := hid ht
  have Hw := hid hw
  have HB := hid hB
  obtain ⟨k0, k2, hfit, hk0⟩ := good_parts hg
  have Hgt := hid (fit_good hfit)
  have hbsz := hbs
  clear hr ht hok hB hb1 hrd htd hw hfit hg
  go_enter Tryz.func69, Tryz.ntmps69
  go_upto_region 1 with (fail)
  generalize W.alloc (.cells #[.int .i64 kind, .slice A l.length c, .slice B text.length d] 48) = w0 at *
  obtain ⟨gb, hgb⟩ : ∃ g, g = W.heap.size := ⟨_, rfl⟩
  rw [← hgb] at ZB ⊢
  clear hgb
  have q0 := ZB.out.cell 0
  have q1 := ZB.out.cell 1
  have q2 := ZB.out.cell 2
  simp only [List.getElem?_toArray, List.getElem?_cons_zero, List.getElem?_cons_succ] at q0 q1 q2
  have hq := ZB.out.lt
  have hS0 := Hb.out.size
  go_wp2_with fail
  refine hck.mono ?_
  rintro e w1 ⟨rfl, hb⟩
  have Hb1 := hid (Hb.out.trans (hb.mono hS0))
  have Z1 := hid (ZB.out.below hb ZB.out.lt)
  have hlow := low_any false gw WA wc base L w1 (Hw.out.below' Hb1.out)
  clear hck hb q0 q1 q2 hq ZB Hb
  go_wp2_with fail
  refine hlow.mono ?_
  rintro e w2 ⟨rfl, rfl⟩
  have hS1 := Hb1.out.size
  have hpa := (Below.refl w1.heap.size w1).alloc (Nat.le_refl _) (.cells #[.pointer (some ⟨gw, 0, none⟩), .nilIface] 169)
  have Hb2 := hid (Hb1.out.trans (hpa.mono hS1))
  have P2 := hid (show PenS (w1.alloc (.cells #[.pointer (some ⟨gw, 0, none⟩), .nilIface] 169)) w1.heap.size gw WA wc base L from ⟨Blk.new _ _ _, (Hw.out.below' Hb1.out).below' hpa, by have := hpa.size; omega⟩)
  have Z2 := hid (Z1.out.below hpa Z1.out.lt)
  clear hlow hpa
  go_upto_region 5 with (fail)
  generalize w1.alloc (.cells #[.pointer (some ⟨gw, 0, none⟩), .nilIface] 169) = w2 at *
  obtain ⟨gp, hgp⟩ : ∃ g, g = w1.heap.size := ⟨_, rfl⟩
  have hgpW : W.heap.size ≤ gp := by omega
  rw [← hgp] at P2 ⊢
  clear hgp hS1 Z1 Hb1
  have q0 := Z2.out.cell 0
  simp only [List.getElem?_toArray, List.getElem?_cons_zero] at q0
  have hq := Z2.out.lt
  obtain ⟨n, hn⟩ : ∃ n : Int, n = 2 * kind + (if last then 1 else 0) := ⟨_, rfl⟩
  have hn8 : 0 ≤ n ∧ n < 8 := by rw [hn]; split <;> omega
  have Hn := hid hn
  have HO := hid (show bits .or .i64 (2 * kind) 1 = 2 * kind + 1 by
    rcases (show kind = 0 ∨ kind = 1 ∨ kind = 2 by omega) with h | h | h <;> subst h <;> decide +kernel)
  go_cut [9] from 25 to 27 (fun v wq => v = .int .i64 (2 * kind) ∧ w2 = wq)
  case first =>
    rcases (show kind = 0 ∨ kind = 1 ∨ kind = 2 by omega) with h | h | h
    all_goals
      subst h
      clear Hn hn8 HO
      go_wp2
      go_meet
      exact ⟨rfl, rfl⟩
  case rest =>
    obtain ⟨rfl, rfl⟩ := hcut
    have hmm : 2 * kind ≤ 4 := by omega
    obtain ⟨m, hme⟩ : ∃ m, m = 2 * kind := ⟨_, rfl⟩
    have hm0 : 0 ≤ m ∧ m ≤ 4 := by omega
    have HnN := hid hn
    rw [← hme] at HO hn Hn ⊢
    clear hme hmm
    have E1 := hid (show last = true → n = m + 1 by intro h; rw [hn, h]; rfl)
    have E0 := hid (show last = false → n = m by intro h; rw [hn, h]; simp)
    clear hn
    clear q0 hq
    have hput := penPut_any gp gw WA wc base L n 3 hn8.1 (by have e3 : (2 : Int) ^ 3 = 8 := (by decide); omega) (by omega) w2 P2.out (by omega)
    have TXT := hid (Ht.out.pen Hb2.out hgpW)
    have TR2 := hid (Hr.out.pen Hb2.out hgpW)
    cases last
    · have hn0 := E0.out rfl
      go_upto_region 8 with (fail)
      rw [← hn0] at hm0 ⊢
      clear hn0
      go_wp2_with fail
      refine hput.mono ?_
      rintro e w3 ⟨rfl, A3, c3, M3, T3⟩
      have Z3 := hid (T3.blk P2.out Z2.out (by decide) (by decide) (by decide))
      have TX3 := hid (TXT.out.twp T3)
      have TR3 := hid (TR2.out.twp T3)
      have T03 := hid T3
      have M3h := hid M3
      have e3 : (L ++ dgS false n 3).length = L.length + 3 := by rw [List.length_append, dgS_len]
      have q0 := Z3.out.cell 0
      have q1 := Z3.out.cell 1
      have q2 := Z3.out.cell 2
      simp only [List.getElem?_toArray, List.getElem?_cons_zero, List.getElem?_cons_succ] at q0 q1 q2
      have hq := Z3.out.lt
      clear hput T3 M3 TXT TR2 Z2
      by_cases hk : kind = 0
      · subst hk
        have hst := penStored_any gp gw B d text A3 c3 base _ w3 TX3.out HB.out (hk0 rfl) (by rw [e3]; omega) M3h.out
        rw [e3] at hst
        go_wp2_with fail
        refine hst.mono ?_
        rintro e w4 ⟨rfl, A4, c4, M4, T4⟩
        have TT := hid ((T03.out.trans T4).tw Hb2.out hgpW)
        have r1 := M4.pen.cell 1
        simp only [List.getElem?_toArray, List.getElem?_cons_zero, List.getElem?_cons_succ] at r1
        have hr1 := M4.pen.lt
        have E := hid (show WrS w4 gw false A4 c4 base (L ++ wrB L.length false 0 l text) by
          unfold wrB
          rw [← HnN.out, if_pos rfl, ← List.append_assoc]
          exact M4.wr)
        clear hst M4 T4 q0 q1 q2 hq
        go_wp2
        go_ret
        exact ⟨rfl, A4, c4, E.out, TT.out⟩
      · have cTr : Rd w3 w3.heap.size 2 A l.length (l.flatMap encTok) := TR3.out.rd (by rw [flat_length encTok 2 l (fun _ _ => rfl)])
        have hpl := planned10_any A B c d text.length kind l w3 cTr hm Hgt.out
        clear cTr
        go_wp2_with fail
        refine hpl.mono ?_
        rintro e w4 ⟨v, rfl, p, rfl, x1, x2, x3, x4, x5, hR, hb⟩
        clear x5
        have P4 := hid (M3h.out.below hb)
        have Z4 := hid (Z3.out.below hb Z3.out.lt)
        have TR4 := hid (TR3.out.below hb)
        have T04 := hid (T03.out.below hb)
        have PR := hid hR
        have PG := hid (plan_good (kind := kind) Hgt.out)
        rw [← x1, ← x2] at PG
        have E5 := hid (And.intro x1 (And.intro x2 (And.intro x3 x4)))
        have y0 := Z4.out.cell 0
        have y1 := Z4.out.cell 1
        simp only [List.getElem?_toArray, List.getElem?_cons_zero, List.getElem?_cons_succ] at y0 y1
        have hy := Z4.out.lt
        clear hpl hR hb q0 q1 q2 hq x1 x2 x3 x4 Z3 TR3 T03 M3h TX3
        obtain ⟨PL, XL, Lc, PD, XD, Dc, R, XR, Rc, O, XO, Oc, h⟩ := p
        unfold PlV.cs
        simp only at PR PG E5 ⊢
        have hal := (Below.refl w4.heap.size w4).alloc (Nat.le_refl _) (.cells #[.slice XL PL.length Lc, .slice XD PD.length Dc, .slice XR R.length Rc, .slice XO O.length Oc, .int .i64 h] 100)
        have P5 := hid (P4.out.below hal)
        have Z5 := hid (Z4.out.below hal Z4.out.lt)
        have TR5 := hid (TR4.out.below hal)
        have T05 := hid (T04.out.below hal)
        have PR5 := hid (PR.out.below hal)
        have ZP := hid (Blk.new w4 100 #[.slice XL PL.length Lc, .slice XD PD.length Dc, .slice XR R.length Rc, .slice XO O.length Oc, .int .i64 h])
        clear hal
        go_upto_region 13 with (fail)
        generalize w4.alloc (.cells #[.slice XL PL.length Lc, .slice XD PD.length Dc, .slice XR R.length Rc, .slice XO O.length Oc, .int .i64 h] 100) = w5 at *
        obtain ⟨gpl, hgpl⟩ : ∃ g, g = w4.heap.size := ⟨_, rfl⟩
        rw [← hgpl] at ZP ⊢
        clear hgpl y0 y1 hy P4 Z4 TR4 T04 PR
        have y0 := Z5.out.cell 0
        have y1 := Z5.out.cell 1
        have z0 := ZP.out.cell 0
        have z1 := ZP.out.cell 1
        have z2 := ZP.out.cell 2
        have z3 := ZP.out.cell 3
        have z4 := ZP.out.cell 4
        simp only [List.getElem?_toArray, List.getElem?_cons_zero, List.getElem?_cons_succ] at y0 y1 z0 z1 z2 z3 z4
        have hy := Z5.out.lt
        have hz := ZP.out.lt
        by_cases hk1 : kind = 1
        · subst hk1
          have htok := penTok_any (.slice XR R.length Rc) (.slice XO O.length Oc) (.int .i64 h) gp gw XL XD A Lc Dc c PL PD l A3 c3 base _ w5 (TRow.own PR5.out.ol) (TRow.own PR5.out.od) TR5.out (own_czS PR5.out.ol) (own_czS PR5.out.od) PG.out.lL PG.out.lD PG.out.p (fun t ht => ⟨Hgt.out t ht, PG.out.has t ht⟩) hm (by rw [e3]; omega) P5.out
          go_wp2_with fail
          refine htok.mono ?_
          rintro e w6 ⟨rfl, A6, c6, M6, T6⟩
          have TT := hid ((T05.out.trans T6).tw Hb2.out hgpW)
          have r1 := M6.pen.cell 1
          simp only [List.getElem?_toArray, List.getElem?_cons_zero, List.getElem?_cons_succ] at r1
          have hr1 := M6.pen.lt
          have E := hid (show WrS w6 gw false A6 c6 base (L ++ wrB L.length false 1 l text) by
            unfold wrB
            rw [← HnN.out, if_neg (by decide), if_neg (by decide), List.nil_append]
            rw [← E5.out.1, ← E5.out.2.1, ← List.append_assoc]
            exact M6.wr)
          clear htok M6 T6 y0 y1 z0 z1 z2 z3 z4 hy hz
          go_wp2
          go_ret
          exact ⟨rfl, A6, c6, E.out, TT.out⟩
        · have hk22 : kind = 2 := by omega
          subst hk22
          have hlen := penLen_own (.int .i64 h) gp gw XL XD XR XO Lc Dc Rc Oc PL PD R O A3 c3 base _ l w5 Hgt.out E5.out PR5.out.or_ PR5.out.oo (by rw [e3]; omega) P5.out
          have hHB := headB_le Hgt.out
          have e33 := e3
          go_wp2_with fail
          refine hlen.mono ?_
          rintro e w6 ⟨rfl, A6, c6, M6, T6⟩
          have Z6 := hid (T6.blk P5.out Z5.out (by decide) (by decide) (by decide))
          have ZP6 := hid (T6.blk P5.out ZP.out (by decide) (by decide) (by decide))
          have htok := penTok_any (.slice XR R.length Rc) (.slice XO O.length Oc) (.int .i64 h) gp gw XL XD A Lc Dc c PL PD l A6 c6 base _ w6 (T6.row P5.out (TRow.own PR5.out.ol) (by decide) (by decide) (by decide)) (T6.row P5.out (TRow.own PR5.out.od) (by decide) (by decide) (by decide)) (TR5.out.twp T6) (own_czS PR5.out.ol) (own_czS PR5.out.od) PG.out.lL PG.out.lD PG.out.p (fun t ht => ⟨Hgt.out t ht, PG.out.has t ht⟩) hm (by rw [List.length_append, e33]; have e5 := E5.out; rw [e5.1, e5.2.1, e5.2.2.1, e5.2.2.2]; exact Nat.le_trans (Nat.add_le_add (Nat.add_le_add hL (Nat.le_refl 3)) hHB) (by decide)) M6
          have T06 := hid (T05.out.trans T6)
          have y0 := Z6.out.cell 0
          have y1 := Z6.out.cell 1
          have z0 := ZP6.out.cell 0
          have z1 := ZP6.out.cell 1
          have z2 := ZP6.out.cell 2
          have z3 := ZP6.out.cell 3
          have z4 := ZP6.out.cell 4
          simp only [List.getElem?_toArray, List.getElem?_cons_zero, List.getElem?_cons_succ] at y0 y1 z0 z1 z2 z3 z4
          have hy := Z6.out.lt
          have hz := ZP6.out.lt
          clear hlen M6 T6 hHB e33
          go_wp2_with fail
          refine htok.mono ?_
          rintro e w7 ⟨rfl, A7, c7, M7, T7⟩
          have TT := hid ((T06.out.trans T7).tw Hb2.out hgpW)
          have r1 := M7.pen.cell 1
          simp only [List.getElem?_toArray, List.getElem?_cons_zero, List.getElem?_cons_succ] at r1
          have hr1 := M7.pen.lt
          have E := hid (show WrS w7 gw false A7 c7 base (L ++ wrB L.length false 2 l text) by
            unfold wrB
            rw [← HnN.out, if_neg (by decide), if_pos rfl]
            rw [← E5.out.1, ← E5.out.2.1]
            have hh := M7.wr
            rw [List.append_assoc, List.append_assoc] at hh
            have e1 : PL = (ownM l).L := E5.out.1
            have e2 : PD = (ownM l).D := E5.out.2.1
            have e3 : R = (ownM l).R := E5.out.2.2.1
            have e4 : O = (ownM l).O := E5.out.2.2.2
            rw [← e1, ← e2, ← e3, ← e4]
            exact hh)
          clear htok M7 T7 y0 y1 z0 z1 z2 z3 z4 hy hz
          go_wp2
          go_ret
          exact ⟨rfl, A7, c7, E.out, TT.out⟩
    · have hn1 := E1.out rfl
      have HnT := hid (show n = 2 * kind + 1 from HnN.out)
      go_upto_region 8 with (fail)
      rw [HO.out, ← hn1]
      clear hn1
      go_wp2_with fail
      refine hput.mono ?_
      rintro e w3 ⟨rfl, A3, c3, M3, T3⟩
      have Z3 := hid (T3.blk P2.out Z2.out (by decide) (by decide) (by decide))
      have TX3 := hid (TXT.out.twp T3)
      have TR3 := hid (TR2.out.twp T3)
      have T03 := hid T3
      have M3h := hid M3
      have e3 : (L ++ dgS false n 3).length = L.length + 3 := by rw [List.length_append, dgS_len]
      have q0 := Z3.out.cell 0
      have q1 := Z3.out.cell 1
      have q2 := Z3.out.cell 2
      simp only [List.getElem?_toArray, List.getElem?_cons_zero, List.getElem?_cons_succ] at q0 q1 q2
      have hq := Z3.out.lt
      clear hput T3 M3 TXT TR2 Z2
      by_cases hk : kind = 0
      · subst hk
        have hst := penStored_any gp gw B d text A3 c3 base _ w3 TX3.out HB.out (hk0 rfl) (by rw [e3]; omega) M3h.out
        rw [e3] at hst
        go_wp2_with fail
        refine hst.mono ?_
        rintro e w4 ⟨rfl, A4, c4, M4, T4⟩
        have TT := hid ((T03.out.trans T4).tw Hb2.out hgpW)
        have r1 := M4.pen.cell 1
        simp only [List.getElem?_toArray, List.getElem?_cons_zero, List.getElem?_cons_succ] at r1
        have hr1 := M4.pen.lt
        have E := hid (show WrS w4 gw false A4 c4 base (L ++ wrB L.length true 0 l text) by
          unfold wrB
          rw [if_pos rfl, if_pos rfl, ← HnT.out, ← List.append_assoc]
          exact M4.wr)
        clear hst M4 T4 q0 q1 q2 hq
        go_wp2
        go_ret
        exact ⟨rfl, A4, c4, E.out, TT.out⟩
      · have cTr : Rd w3 w3.heap.size 2 A l.length (l.flatMap encTok) := TR3.out.rd (by rw [flat_length encTok 2 l (fun _ _ => rfl)])
        have hpl := planned10_any A B c d text.length kind l w3 cTr hm Hgt.out
        clear cTr
        go_wp2_with fail
        refine hpl.mono ?_
        rintro e w4 ⟨v, rfl, p, rfl, x1, x2, x3, x4, x5, hR, hb⟩
        clear x5
        have P4 := hid (M3h.out.below hb)
        have Z4 := hid (Z3.out.below hb Z3.out.lt)
        have TR4 := hid (TR3.out.below hb)
        have T04 := hid (T03.out.below hb)
        have PR := hid hR
        have PG := hid (plan_good (kind := kind) Hgt.out)
        rw [← x1, ← x2] at PG
        have E5 := hid (And.intro x1 (And.intro x2 (And.intro x3 x4)))
        have y0 := Z4.out.cell 0
        have y1 := Z4.out.cell 1
        simp only [List.getElem?_toArray, List.getElem?_cons_zero, List.getElem?_cons_succ] at y0 y1
        have hy := Z4.out.lt
        clear hpl hR hb q0 q1 q2 hq x1 x2 x3 x4 Z3 TR3 T03 M3h TX3
        obtain ⟨PL, XL, Lc, PD, XD, Dc, R, XR, Rc, O, XO, Oc, h⟩ := p
        unfold PlV.cs
        simp only at PR PG E5 ⊢
        have hal := (Below.refl w4.heap.size w4).alloc (Nat.le_refl _) (.cells #[.slice XL PL.length Lc, .slice XD PD.length Dc, .slice XR R.length Rc, .slice XO O.length Oc, .int .i64 h] 100)
        have P5 := hid (P4.out.below hal)
        have Z5 := hid (Z4.out.below hal Z4.out.lt)
        have TR5 := hid (TR4.out.below hal)
        have T05 := hid (T04.out.below hal)
        have PR5 := hid (PR.out.below hal)
        have ZP := hid (Blk.new w4 100 #[.slice XL PL.length Lc, .slice XD PD.length Dc, .slice XR R.length Rc, .slice XO O.length Oc, .int .i64 h])
        clear hal
        go_upto_region 13 with (fail)
        generalize w4.alloc (.cells #[.slice XL PL.length Lc, .slice XD PD.length Dc, .slice XR R.length Rc, .slice XO O.length Oc, .int .i64 h] 100) = w5 at *
        obtain ⟨gpl, hgpl⟩ : ∃ g, g = w4.heap.size := ⟨_, rfl⟩
        rw [← hgpl] at ZP ⊢
        clear hgpl y0 y1 hy P4 Z4 TR4 T04 PR
        have y0 := Z5.out.cell 0
        have y1 := Z5.out.cell 1
        have z0 := ZP.out.cell 0
        have z1 := ZP.out.cell 1
        have z2 := ZP.out.cell 2
        have z3 := ZP.out.cell 3
        have z4 := ZP.out.cell 4
        simp only [List.getElem?_toArray, List.getElem?_cons_zero, List.getElem?_cons_succ] at y0 y1 z0 z1 z2 z3 z4
        have hy := Z5.out.lt
        have hz := ZP.out.lt
        by_cases hk1 : kind = 1
        · subst hk1
          have htok := penTok_any (.slice XR R.length Rc) (.slice XO O.length Oc) (.int .i64 h) gp gw XL XD A Lc Dc c PL PD l A3 c3 base _ w5 (TRow.own PR5.out.ol) (TRow.own PR5.out.od) TR5.out (own_czS PR5.out.ol) (own_czS PR5.out.od) PG.out.lL PG.out.lD PG.out.p (fun t ht => ⟨Hgt.out t ht, PG.out.has t ht⟩) hm (by rw [e3]; omega) P5.out
          go_wp2_with fail
          refine htok.mono ?_
          rintro e w6 ⟨rfl, A6, c6, M6, T6⟩
          have TT := hid ((T05.out.trans T6).tw Hb2.out hgpW)
          have r1 := M6.pen.cell 1
          simp only [List.getElem?_toArray, List.getElem?_cons_zero, List.getElem?_cons_succ] at r1
          have hr1 := M6.pen.lt
          have E := hid (show WrS w6 gw false A6 c6 base (L ++ wrB L.length true 1 l text) by
            unfold wrB
            rw [if_pos rfl, ← HnT.out, if_neg (by decide), if_neg (by decide), List.nil_append]
            rw [← E5.out.1, ← E5.out.2.1, ← List.append_assoc]
            exact M6.wr)
          clear htok M6 T6 y0 y1 z0 z1 z2 z3 z4 hy hz
          go_wp2
          go_ret
          exact ⟨rfl, A6, c6, E.out, TT.out⟩
        · have hk22 : kind = 2 := by omega
          subst hk22
          have hlen := penLen_own (.int .i64 h) gp gw XL XD XR XO Lc Dc Rc Oc PL PD R O A3 c3 base _ l w5 Hgt.out E5.out PR5.out.or_ PR5.out.oo (by rw [e3]; omega) P5.out
          have hHB := headB_le Hgt.out
          have e33 := e3
          go_wp2_with fail
          refine hlen.mono ?_
          rintro e w6 ⟨rfl, A6, c6, M6, T6⟩
          have Z6 := hid (T6.blk P5.out Z5.out (by decide) (by decide) (by decide))
          have ZP6 := hid (T6.blk P5.out ZP.out (by decide) (by decide) (by decide))
          have htok := penTok_any (.slice XR R.length Rc) (.slice XO O.length Oc) (.int .i64 h) gp gw XL XD A Lc Dc c PL PD l A6 c6 base _ w6 (T6.row P5.out (TRow.own PR5.out.ol) (by decide) (by decide) (by decide)) (T6.row P5.out (TRow.own PR5.out.od) (by decide) (by decide) (by decide)) (TR5.out.twp T6) (own_czS PR5.out.ol) (own_czS PR5.out.od) PG.out.lL PG.out.lD PG.out.p (fun t ht => ⟨Hgt.out t ht, PG.out.has t ht⟩) hm (by rw [List.length_append, e33]; have e5 := E5.out; rw [e5.1, e5.2.1, e5.2.2.1, e5.2.2.2]; exact Nat.le_trans (Nat.add_le_add (Nat.add_le_add hL (Nat.le_refl 3)) hHB) (by decide)) M6
          have T06 := hid (T05.out.trans T6)
          have y0 := Z6.out.cell 0
          have y1 := Z6.out.cell 1
          have z0 := ZP6.out.cell 0
          have z1 := ZP6.out.cell 1
          have z2 := ZP6.out.cell 2
          have z3 := ZP6.out.cell 3
          have z4 := ZP6.out.cell 4
          simp only [List.getElem?_toArray, List.getElem?_cons_zero, List.getElem?_cons_succ] at y0 y1 z0 z1 z2 z3 z4
          have hy := Z6.out.lt
          have hz := ZP6.out.lt
          clear hlen M6 T6 hHB e33
          go_wp2_with fail
          refine htok.mono ?_
          rintro e w7 ⟨rfl, A7, c7, M7, T7⟩
          have TT := hid ((T06.out.trans T7).tw Hb2.out hgpW)
          have r1 := M7.pen.cell 1
          simp only [List.getElem?_toArray, List.getElem?_cons_zero, List.getElem?_cons_succ] at r1
          have hr1 := M7.pen.lt
          have E := hid (show WrS w7 gw false A7 c7 base (L ++ wrB L.length true 2 l text) by
            unfold wrB
            rw [if_pos rfl, ← HnT.out, if_neg (by decide), if_pos rfl]
            rw [← E5.out.1, ← E5.out.2.1]
            have hh := M7.wr
            rw [List.append_assoc, List.append_assoc] at hh
            have e1 : PL = (ownM l).L := E5.out.1
            have e2 : PD = (ownM l).D := E5.out.2.1
            have e3 : R = (ownM l).R := E5.out.2.2.1
            have e4 : O = (ownM l).O := E5.out.2.2.2
            rw [← e1, ← e2, ← e3, ← e4]
            exact hh)
          clear htok M7 T7 y0 y1 z0 z1 z2 z3 z4 hy hz
          go_wp2
          go_ret
          exact ⟨rfl, A7, c7, E.out, TT.out⟩
end Go.Proofs.YtoppjcmkhhkbmaaGreat

namespace Go.Proofs.YtoppjcmkhhkbmaaGreat
open Go.RowKit
/-- what lies below the writer -/
theorem TextS.of_rd {w : World} {g base c size n B : Nat} {s : Bool} {A X : Option Addr} {L : List Int} {xs : List Value} (h : Rd w B size X n xs) (hB : B ≤ base) (hw : WrS w g s A c base L) (hs : base ≤ w.heap.size) : TextS w g A X xs := by
  by_cases h0 : xs = []
  · exact .inl h0
  · obtain ⟨b, off, e, hb, hc⟩ := h.2 (List.length_pos_iff.2 h0)
    have hgb := hw.gb
    exact .inr ⟨b, off, e, by omega, by omega, fun a ha => by have := (hw.far a ha).1; omega, hc⟩
/-- a row made behind the writer -/
theorem TextS.of_own {w : World} {g B c n size : Nat} {t : TypeId} {A X : Option Addr} {xs : List Value} (h : w.ownsRow B t size (.slice X n c) n xs) (hs : 0 < size) (hg : g < B) (hA : ∀ a, A = some a → a.block < B) : TextS w g A X xs := by
  by_cases h0 : n = 0
  · left
    have h1 := (own_rd h).1
    rw [h0, Nat.zero_mul] at h1
    exact List.eq_nil_of_length_eq_zero h1
  · obtain ⟨b, off, e, hb, hc⟩ := (own_rd h).2 (by rw [(own_rd h).1]; exact Nat.mul_pos (by omega) hs)
    obtain ⟨b', e', hb', _⟩ := own_block h (by omega)
    rw [e] at e'
    injection e' with e'
    injection e' with e'
    subst e'
    exact .inr ⟨b, off, e, hb, by omega, fun a ha => by have := hA a ha; omega, hc⟩
end Go.Proofs.YtoppjcmkhhkbmaaGreat

namespace Go.Proofs.YtoppjcmkhhkbmaaGreat
open Go.ChangeShapes Go.WideShapes Go.ChangeAt Go.RowKit Go.Proofs.YtoppjcmkhhkbmaaGreat

theorem check11_any (A : Option Addr) (c n : Nat) (W : World) : Calls Tryz.prog 29 #[.slice A n c] W fun e w' => e = .returned (if n ≤ 1048576 then .nilIface else .iface 35 (.int .i64 4)) ∧ W = w' := by
  by_cases h : n ≤ 1048576
  · have d : decide ((1048576 : Int) < (n : Int)) = false := decide_eq_false (by omega)
    have d2 : decide (1048576 < n) = false := decide_eq_false (by omega)
    rw [if_pos h]
    go_enter Tryz.func29, Tryz.ntmps29
    go_wp2
    go_ret
    exact ⟨rfl, rfl⟩
  · have d : decide ((1048576 : Int) < (n : Int)) = true := decide_eq_true (by omega)
    have d2 : decide (1048576 < n) = true := decide_eq_true (by omega)
    rw [if_neg h]
    go_enter Tryz.func29, Tryz.ntmps29
    go_wp2
    go_ret
    exact ⟨rfl, rfl⟩
/-- a block as it lies in memory -/
structure SBk where
  kind : Int
  A : Option Addr
  c : Nat
  B : Option Addr
  d : Nat
  l : List (Int × Int)
  text : List Int
def encSBk (b : SBk) : List Value := [.int .i64 b.kind, .slice b.A b.l.length b.c, .slice b.B b.text.length b.d]
def SBk.q (b : SBk) : Bq := ⟨b.kind, b.l, b.text⟩
structure BvOk (w : World) (B : Nat) (b : SBk) : Prop where
  tok : Rd w B 2 b.A b.l.length (b.l.flatMap encTok)
  txt : Rd w B 1 b.B b.text.length (bytesV b.text)
  good : blkGood b.kind b.l b.text = true
  n1 : b.l.length ≤ 1000000
  n2 : b.text.length ≤ 1000000
  byt : ∀ x ∈ b.text, isB x
theorem BvOk.below {w w' : World} {B C : Nat} {b : SBk} (h : BvOk w B b) (hb : Below C w w') (hC : B ≤ C) : BvOk w' B b := ⟨h.tok.below hb hC, h.txt.below hb hC, h.good, h.n1, h.n2, h.byt⟩
theorem okTok_good {t : Int × Int} (h : tgood t = true) : okTok t := by
  have := tgood_true.1 h
  exact ⟨WalkArith.wf_i64 ⟨by omega, by omega⟩, WalkArith.wf_i64 ⟨by omega, by omega⟩⟩
theorem bv_at {w : World} {B : Nat} {A : Option Addr} {bs : List SBk} (h : Rd w B 3 A bs.length (bs.flatMap encSBk)) {j : Nat} (hj : j < bs.length) :
    ∃ b off, A = some ⟨b, off, none⟩ ∧ b < B ∧ w.cell? ⟨b, off + j * 3, none⟩ = some (.int .i64 bs[j].kind) ∧ w.cell? ⟨b, off + j * 3 + 1, none⟩ = some (.slice bs[j].A bs[j].l.length bs[j].c) ∧ w.cell? ⟨b, off + j * 3 + 2, none⟩ = some (.slice bs[j].B bs[j].text.length bs[j].d) := by
  obtain ⟨b, off, hA, hb, hc⟩ := Rd.at_ h hj (by omega)
  have f := fun i hi => flat_at encSBk 3 bs (fun _ _ => rfl) j i bs[j] (List.getElem?_eq_getElem hj) hi
  exact ⟨b, off, hA, hb, hc _ _ (f 0 (by omega)), hc _ _ (f 1 (by omega)), hc _ _ (f 2 (by omega))⟩
def WroteEnd (qs : List Bq) (W : World) (e : Ending) (w' : World) : Prop :=
  ∃ A c, e = .returned (.tuple #[.slice A (pkS false (fillS false (wrAll 0 qs))).length c, .nilIface]) ∧ w'.ownsRow W.heap.size 5 1 (.slice A (pkS false (fillS false (wrAll 0 qs))).length c) (pkS false (fillS false (wrAll 0 qs))).length (bytesV (pkS false (fillS false (wrAll 0 qs)))) ∧ Below W.heap.size W w'
set_option maxRecDepth 100000 in
set_option maxHeartbeats 8000000 in
theorem write11_any (A : Option Addr) (c : Nat) (bs : List SBk) (W : World) (hr : Rd W W.heap.size 3 A bs.length (bs.flatMap encSBk)) (hb : ∀ b ∈ bs, BvOk W W.heap.size b) (hn : bs.length ≤ 100000) (hL : (wrAll 0 (bs.map SBk.q)).length ≤ 10000000) :
    Calls Tryz.prog 32 #[.slice A bs.length c] W (WroteEnd (bs.map SBk.q) W) := by
  have Hr := hid hr
  have Hb := hid hb
  have HL := hid hL
  have NW := hid (newW_any false W)
  clear hr hb hL
  go_enter Tryz.func32, Tryz.ntmps32
  go_wp2_with fail
  refine NW.out.mono ?_
  rintro e w1 ⟨rfl, hM, b1⟩
  have M1 := hid hM
  have B1 := hid b1
  obtain ⟨gw, hgw⟩ : ∃ g, g = W.heap.size := ⟨_, rfl⟩
  have HG := hid hgw
  have S0 := hid (show ∃ (WA : Option Addr) (wc : Nat) (L : List Int), WrS w1 gw false WA wc gw L ∧ wrAll 0 (bs.map SBk.q) = L ++ wrAll L.length ((bs.map SBk.q).drop 0) from ⟨none, 0, [], by rw [hgw]; exact hM, rfl⟩)
  rw [← hgw]
  clear hM b1 NW M1 hgw
  go_wp2_with fail
  go_loopw [11] (fun i wr => ∃ j : Nat, j ≤ bs.length ∧ i = .int .i64 (j : Int) ∧ Hid (∃ (WA : Option Addr) (wc : Nat) (L : List Int), WrS wr gw false WA wc gw L ∧ wrAll 0 (bs.map SBk.q) = L ++ wrAll L.length ((bs.map SBk.q).drop j)) ∧ Hid (Below W.heap.size W wr)) (fun i _ => bs.length - (intOf i).toNat)
  case atStart => exact ⟨0, by omega, rfl, S0, B1⟩
  case round =>
    obtain ⟨j, hj, rfl, HS, HB⟩ := hrel
    clear S0 B1
    obtain ⟨WA, wc, L, hW, hLL⟩ := HS.out
    have HWr := hid hW
    have HLL := hid hLL
    clear HS hW hLL
    by_cases hlt : j < bs.length
    · have d1 : decide (j < bs.length) = true := decide_eq_true hlt
      obtain ⟨bk, off, rfl, hbk, k0, k1, k2⟩ := bv_at (Hr.out.below HB.out (Nat.le_refl _)) hlt
      have OK := hid (BvOk.below (Hb.out _ (List.getElem_mem hlt)) HB.out (Nat.le_refl _))
      have hdr : (bs.map SBk.q).drop j = bs[j].q :: (bs.map SBk.q).drop (j + 1) := by
        rw [List.drop_eq_getElem_cons (by rw [List.length_map]; exact hlt), List.getElem_map]
      have HLL2 := hid (show wrAll 0 (bs.map SBk.q) = L ++ (wrB L.length ((bs.map SBk.q).drop (j + 1)).isEmpty bs[j].kind bs[j].l bs[j].text ++ wrAll (L.length + (wrB L.length ((bs.map SBk.q).drop (j + 1)).isEmpty bs[j].kind bs[j].l bs[j].text).length) ((bs.map SBk.q).drop (j + 1))) by rw [HLL.out, hdr]; rfl)
      have hem : ((bs.map SBk.q).drop (j + 1)).isEmpty = decide (j + 1 = bs.length) := by
        cases h : ((bs.map SBk.q).drop (j + 1)) with
        | nil =>
          have := congrArg List.length h
          rw [List.length_drop, List.length_map] at this
          simp at this
          exact (decide_eq_true (by omega)).symm
        | cons x xs =>
          have := congrArg List.length h
          rw [List.length_drop, List.length_map] at this
          simp at this
          exact (decide_eq_false (by omega)).symm
      rw [hem] at HLL2
      have hdl : ((j : Int) == (bs.length : Int) - 1) = decide (j + 1 = bs.length) := by
        by_cases h : j + 1 = bs.length
        · rw [decide_eq_true h, beq_iff_eq]; omega
        · rw [decide_eq_false h, beq_eq_false_iff_ne]; omega
      obtain ⟨b, hbj⟩ : ∃ b, b = bs[j] := ⟨_, rfl⟩
      rw [← hbj] at k0 k1 k2 OK HLL2
      obtain ⟨kind, BA, bc, BB, bd, l, text⟩ := b
      clear hbj hdr hem HLL
      dsimp only at k0 k1 k2 HLL2
      obtain ⟨lst, hlst⟩ : ∃ b : Bool, b = decide (j + 1 = bs.length) := ⟨_, rfl⟩
      rw [← hlst] at HLL2 hdl
      clear hlst
      obtain ⟨cur, hcur⟩ : ∃ x, x = wrB L.length lst kind l text := ⟨_, rfl⟩
      rw [← hcur] at HLL2
      have hLm : L.length ≤ 10000000 := by
        have := HL.out
        rw [HLL2.out] at this
        rw [List.length_append] at this
        omega
      have hgl := HWr.out.blk.lt
      have hWs := HB.out.size
      have WG := hid (fun (w : World) (hb : Below wr.heap.size wr w) => write_good gw WA wc gw L BA BB bc bd kind lst l text w (TextS.of_rd (OK.out.tok.below hb hWs) (Nat.le_of_eq HG.out.symm) (HWr.out.below' hb) (by have := hb.size; have := HG.out; omega)) (TextS.of_rd (OK.out.txt.below hb hWs) (Nat.le_of_eq HG.out.symm) (HWr.out.below' hb) (by have := hb.size; have := HG.out; omega)) OK.out.n1 OK.out.n2 (fun t ht => okTok_good (fit_good (good_parts OK.out.good).2.2.1 t ht)) OK.out.byt (HWr.out.below' hb) (by have := hb.size; have := HG.out; omega) hLm OK.out.good)
      go_upto_region 5 with (fail)
      have bA := hid ((Below.refl wr.heap.size wr).alloc (Nat.le_refl _) (.cells #[.int .i64 kind, .slice BA l.length bc, .slice BB text.length bd] 48))
      have KB := hid (Blk.new wr 48 #[.int .i64 kind, .slice BA l.length bc, .slice BB text.length bd])
      generalize wr.alloc (.cells #[.int .i64 kind, .slice BA l.length bc, .slice BB text.length bd] 48) = w2 at *
      obtain ⟨kb, hkb⟩ : ∃ k, k = wr.heap.size := ⟨_, rfl⟩
      rw [← hkb] at KB ⊢
      have q0 := KB.out.cell 0
      have q1 := KB.out.cell 1
      have q2 := KB.out.cell 2
      simp only [List.getElem?_toArray, List.getElem?_cons_zero, List.getElem?_cons_succ] at q0 q1 q2
      have lK := KB.out.lt
      have WG2 := WG.out w2 bA.out
      have WG3 := hid WG2
      clear WG WG2 k0 k1 k2 hkb
      go_wp2_with fail
      refine WG3.out.mono ?_
      rintro e w3 ⟨rfl, A6, c6, M6, T6⟩
      have B6 := hid (show Below W.heap.size W w3 from (HB.out.trans (bA.out.mono hWs)).trans (by rw [← HG.out]; exact (HWr.out.below' bA.out).low T6 (by have := bA.out.size; have := HG.out; omega)))
      have S6 := hid (show ∃ (WA : Option Addr) (wc : Nat) (L : List Int), WrS w3 gw false WA wc gw L ∧ wrAll 0 (bs.map SBk.q) = L ++ wrAll L.length ((bs.map SBk.q).drop (j + 1)) from ⟨A6, c6, _, M6, by rw [HLL2.out, ← hcur, List.length_append, List.append_assoc]⟩)
      clear M6 T6 WG3 KB bA HWr HLL2 OK q0 q1 q2 lK
      go_wp2
      go_roundw
      case rel => exact ⟨j + 1, by omega, by go_num, S6, B6⟩
      case measure => simp [intOf]; omega
    · obtain rfl : j = bs.length := by omega
      have d1 : decide (bs.length < bs.length) = false := decide_eq_false (Nat.lt_irrefl _)
      have e : (bs.map SBk.q).drop bs.length = [] := List.drop_of_length_le (by rw [List.length_map]; exact Nat.le_refl _)
      rw [e] at HLL
      have e2 := HLL.out
      rw [wrAll, List.append_nil] at e2
      have E2 := hid e2
      have BY := hid (bytesS_any false gw WA wc gw L wr HWr.out (by have := HL.out; rw [e2] at this; omega))
      clear e e2 HLL HWr
      go_wp2_with fail
      refine BY.out.mono ?_
      rintro e w3 ⟨A3, c3, rfl, o3, b3⟩
      go_wp2_with fail
      go_ret2
      unfold WroteEnd
      rw [E2.out]
      exact ⟨A3, c3, rfl, own_base o3 HB.out.size, HB.out.trans (b3.mono HB.out.size)⟩
end Go.Proofs.YtoppjcmkhhkbmaaGreat

namespace Go.Proofs.YtoppjcmkhhkbmaaGreat
open Go.ChangeShapes Go.WideShapes Go.ChangeAt Go.RowKit Go.Proofs.YtoppjcmkhhkbmaaGreat

/-- room for tokens -/
theorem room_tok (n : Nat) (hn : n ≤ 2000000) : ∃ cs : Array Value, cs.size = n * 2 ∧ ∀ w : World, (Instr.makeSlice 40 (.int .i64 0) (.int .i64 (n : Int))).run Tryz.prog w = .ok (.slice (some ⟨w.heap.size, 0, none⟩) 0 n) (w.alloc (.cells cs 54)) := by
  obtain ⟨i0, hi0, hz0, hz1, hz2⟩ := info_parts tok_infoB
  refine ⟨_, size_madeCells (Value.agg #[.int .i64 0, .int .i64 0]).cells (n * 2), fun w => ?_⟩
  have h := run_make (P := Tryz.prog) w 40 54 i0 (.agg #[.int .i64 0, .int .i64 0]) Tryz.underlying40 hi0 hz0 .i64 .i64 0 (n : Int) (by omega) (by omega) (by rw [hz2]; omega) (by omega)
  rw [hz1, Int.toNat_natCast] at h
  exact h
theorem own_room {w : World} {n : Nat} {cs : Array Value} (h : cs.size = n * 2) (hn : n ≤ 2000000) : (w.alloc (.cells cs 54)).ownsRow w.heap.size 54 2 (.slice (some ⟨w.heap.size, 0, none⟩) 0 n) 0 [] :=
  ⟨by simp, .inr ⟨w.heap.size, n, cs, rfl, Nat.le_refl _, Blk.new w 54 cs, Nat.zero_le _, by unfold maxLen; omega, h, by simp⟩⟩
set_option maxRecDepth 100000 in
set_option maxHeartbeats 4000000 in
theorem lits11_any (A : Option Addr) (c : Nat) (l : List Int) (W : World) (hr : Rd W W.heap.size 1 A l.length (bytesV l)) (hm : l.length ≤ 1000000) (hB : ∀ x ∈ l, isB x) :
    Calls Tryz.prog 31 #[.slice A l.length c] W fun e w' => ∃ A' c', e = .returned (.slice A' l.length c') ∧ w'.ownsRow W.heap.size 54 2 (.slice A' l.length c') l.length ((litsN l).flatMap encTok) ∧ Below W.heap.size W w' := by
  obtain ⟨i0, hi0, hz0, hz1, hz2⟩ := info_parts tok_infoB
  have Hi0 := hid hi0
  have Hz0 := hid hz0
  have Hz1 := hid hz1
  have Hz2 := hid hz2
  have Hr := hid hr
  have HB := hid hB
  obtain ⟨cs, hcs, hmk⟩ := room_tok l.length (by omega)
  have O1 := hid (own_room (w := W) hcs (by omega))
  have B1 := hid ((Below.refl W.heap.size W).alloc (Nat.le_refl _) (.cells cs 54))
  clear hi0 hz0 hz1 hz2 hr hB
  go_enter Tryz.func31, Tryz.ntmps31
  go_upto_region 2 with (fail)
  generalize W.alloc (.cells cs 54) = w1 at *
  obtain ⟨g0, hg0⟩ : ∃ g, g = W.heap.size := ⟨_, rfl⟩
  rw [← hg0]
  have S0 := hid (show w1.ownsRow W.heap.size 54 2 (.slice (some ⟨g0, 0, none⟩) 0 l.length) 0 [] by rw [hg0]; exact O1.out)
  clear O1 hg0 hmk hcs
  go_wp2_with fail
  go_loopw [3, 11] (fun o i wr => ∃ (j : Nat) (A' : Option Addr) (c' : Nat), j ≤ l.length ∧ i = .int .i64 j ∧ o = .slice A' j c' ∧ Hid (wr.ownsRow W.heap.size 54 2 (.slice A' j c') j ((litsN (l.take j)).flatMap encTok)) ∧ Hid (Below W.heap.size W wr)) (fun _ i _ => l.length - (intOf i).toNat)
  case atStart => exact ⟨0, _, _, by omega, rfl, rfl, S0, B1⟩
  case round =>
    obtain ⟨j, A', c', hj, rfl, rfl, Hown, Hb⟩ := hrel
    clear S0 B1
    have hsz := Hb.out.size
    by_cases hlt : j < l.length
    · have d1 : decide (j < l.length) = true := decide_eq_true hlt
      obtain ⟨b, off, rfl, hbb, q0⟩ := byte_at (Hr.out.below Hb.out (Nat.le_refl _)) hlt
      have Htk := hid (lits_snoc l hlt)
      have hvB : isB (l.getD j 0) := getD_isB HB.out j
      unfold isB at hvB
      generalize l.getD j 0 = v at *
      go_wp2_with (at_builtin; refine wpList_app _ rfl _ _ _ rfl W.heap.size 54 i0 (.agg #[.int .i64 0, .int .i64 0]) 2 16 Tryz.underlying40 Hi0.out Hz0.out Hz1.out Hz2.out rfl (by omega) _ j c' _ rfl (Hown.out.alloc _) _ _ 1 1 [.int .i64 0, .int .i64 v] rfl (rd_one _ _ _ _ (Blk.new _ _ _)) (by simp) (by intro u hu; simp at hu; rcases hu with rfl | rfl <;> rfl) (by simp only [maxLen]; omega) (by omega) (by simp; omega) ?_; rintro A3 c3 w3 ⟨hown3, hgr3, hb3, _⟩)
      go_roundw
      case rel => exact ⟨j + 1, A3, c3, by omega, by go_num, rfl, hid (by rw [Htk.out, List.flatMap_append, List.flatMap_cons, List.flatMap_nil, List.append_nil]; exact hown3), hid ((Hb.out.alloc hsz _).trans hb3)⟩
      case measure => simp [intOf]; omega
    · have ej : j = l.length := by omega
      subst ej
      have d1 : decide (l.length < l.length) = false := decide_eq_false (Nat.lt_irrefl _)
      rw [List.take_length] at Hown
      go_wp2_with fail
      go_ret
      exact ⟨A', c', rfl, Hown.out, Hb.out⟩
end Go.Proofs.YtoppjcmkhhkbmaaGreat
