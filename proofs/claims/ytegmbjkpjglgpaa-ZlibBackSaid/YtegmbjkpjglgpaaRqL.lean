/-
  The reference's inflate: a block's symbols, walked.
-/
import Derived.Test.YtegmbjkpjglgpaaRqK
namespace Go.Proofs.Ytegmbjkpjglgpaa
open Go.RowKit

set_option maxRecDepth 100000 in
set_option maxHeartbeats 8000000 in
theorem rsyms_any {v : Rv} {w : World} {s : Sk} (h : RI v w s 0) (hL : 0 < v.L.length) (A D : Option Addr) (c d : Nat) (l m : List Int) (hl : IRow w A l) (hd : IRow w D m) (hlm : l.length ≤ 1000) (hdm : m.length ≤ 1000) (hll : lensB l = true) (hdl : lensB m = true) :
    Calls Try.prog 55 #[.pointer (some ⟨v.g, 0, none⟩), .slice A l.length c, .slice D m.length d] w fun e w' => e = .returned (.tuple #[]) ∧ ROut v w (symsAll l m v.L v.most s) w' := by
  have H := hid h
  have Ll := hid hll
  have Ld := hid hdl
  have c1 := hid (codesR A c l w hl hlm)
  have c2 := hid (fun (w' : World) (hk : Kp w w') => codesR D d m w' (hd.kp hk) hdm)
  obtain ⟨N, hN⟩ : ∃ N, N = v.L.length := ⟨_, rfl⟩
  have HN := hid hN
  have hln := h.ln
  rw [← hN] at hL hln
  obtain ⟨nl, hnl⟩ : ∃ nl, nl = l.length := ⟨_, rfl⟩
  obtain ⟨nd, hnd⟩ : ∃ nd, nd = m.length := ⟨_, rfl⟩
  rw [← hnl] at c1 ⊢
  rw [← hnd] at c2 ⊢
  clear h hl hd hlm hdm hnl hnd hll hdl hN
  go_enter Try.func55, Try.ntmps55
  go_wp2_with fail
  refine c1.out.mono ?_
  rintro e w1 ⟨C, cc, K, rfl, hB1, hb1⟩
  have R1 := hid (H.out.below hb1 (Nat.le_refl _))
  have B1 := hid hB1
  clear hb1 hB1
  go_wp2_with fail
  refine (c2.out w1 R1.out.2).mono ?_
  rintro e w2 ⟨C2, cc2, K2, rfl, hB2, hb2⟩
  have R2 := hid (R1.out.1.below hb2 (Nat.le_refl _))
  have B2 := hid hB2
  clear hb2 hB2
  go_wp2_with fail
  refine (lensB_any w2).mono ?_
  rintro e w3 ⟨a3, b3, rfl, hb3, ht3, ht4⟩
  have R3 := hid (R2.out.1.below hb3 (Nat.le_refl _))
  have T3 := hid ht3
  have T4 := hid ht4
  clear hb3 ht3 ht4
  go_wp2_with fail
  refine (distsB_any w3).mono ?_
  rintro e w4 ⟨a4, b4, rfl, hb4, ht5, ht6⟩
  have R4 := hid (R3.out.1.below hb4 (Nat.le_refl _))
  have TD5 := hid ht5
  have TD6 := hid ht6
  have KK := hid (R1.out.2.trans (R2.out.2.trans (R3.out.2.trans R4.out.2)))
  have B1' := hid (B1.out.kp (R2.out.2.trans (R3.out.2.trans R4.out.2)))
  have B2' := hid (B2.out.kp (R3.out.2.trans R4.out.2))
  have T3' := hid (T3.out.kp R4.out.2)
  have T4' := hid (T4.out.kp R4.out.2)
  clear hb4 ht5 ht6 B1 B2 T3 T4
  go_wp2_with fail
  go_loopw [] (fun wr => ∃ (sj : Sk) (bj : Int) (f : Nat), Hid (RI v wr sj bj) ∧ Hid (Kp w4 wr) ∧ Hid (YG v l m (symsAll l m v.L v.most s) f sj bj)) (fun wr => mOf v.g N wr)
  case atStart => exact ⟨s, 0, N + 1 - s.k, hid R4.out.1, hid (Kp.refl _), hid ⟨fun _ => ⟨by rw [HN.out]; rfl, by rw [← HN.out]; omega⟩, fun h => absurd rfl h⟩⟩
  case round =>
    obtain ⟨sj, bj, f, R, KW, G⟩ := hrel
    rw [HN.out]
    obtain ⟨T, tc, hb, _⟩ := R.out.tok
    unfold inCs at hb
    have q2 := hb.cell 2
    simp only [List.getElem?_toArray, List.getElem?_cons_zero, List.getElem?_cons_succ] at q2
    have hg := hb.lt
    clear hb
    by_cases hb0 : bj = 0
    · subst hb0
      have SY := hid (rsym_gen R.out l Ll.out C cc K (B1'.out.kp KW.out) (by rw [← HN.out]; exact hL))
      have HKL := hid R.out.kl
      go_wp2_with fail
      refine SY.out.mono ?_
      rintro e w5 ⟨y, s5, b5, rfl, hr5, hk5, hsy⟩
      have R5 := hid hr5
      have K5 := hid (KW.out.trans hk5)
      have YR := hid (yg_round G.out HKL.out hsy)
      obtain ⟨T5, tc5, hb5, _⟩ := hr5.tok
      unfold inCs at hb5
      have p2 := hb5.cell 2
      simp only [List.getElem?_toArray, List.getElem?_cons_zero, List.getElem?_cons_succ] at p2
      have hg5 := hb5.lt
      clear hb5 hr5 hk5 hsy q2 hg SY G
      by_cases hb5 : b5 = 0
      case neg =>
        have d0 : (b5 == 0) = false := by rw [beq_eq_false_iff_ne]; exact hb5
        have d0b : (b5 != 0) = true := by rw [bne, d0]; rfl
        have HE := hid (YR.out.1 hb5).2
        have H0 := hid hb5
        clear hb5
        go_wp2_with fail
        refine bodyPost_ret (results_none rfl _ _ _) rfl ?_
        refine ⟨rfl, KK.out.trans K5.out, ?_⟩
        rw [HE.out]
        exact ⟨H0.out, _, R5.out⟩
      subst hb5
      obtain ⟨hgt, h256a, h256b⟩ := YR.out.2 rfl
      have Hgt := hid hgt
      by_cases h256 : y = 256
      · have e1 : ((y : Int) == 256) = true := by rw [beq_iff_eq]; omega
        have HE := hid (h256a h256)
        clear h256 h256a h256b hgt
        go_wp2_with fail
        refine bodyPost_ret (results_none rfl _ _ _) rfl ?_
        refine ⟨rfl, KK.out.trans K5.out, ?_⟩
        rw [HE.out]
        exact R5.out
      have e1 : ((y : Int) == 256) = false := by rw [beq_eq_false_iff_ne]; omega
      obtain ⟨f1, hf1, hr1⟩ := h256b h256
      have HF := hid hf1
      have HR := hid hr1
      clear h256a h256b hgt hf1 hr1
      by_cases hy : y < 256
      · have e2 : decide ((y : Int) < 256) = true := decide_eq_true (by omega)
        have e3 : decide (y < 256) = true := decide_eq_true hy
        have PU := hid (rput_gen R5.out 0 (y : Int) (.inl rfl))
        have HQ := hid (show (if y < 256 then putM v.most (0, (y : Int)) s5 else matchM m v.L v.most y s5) = putM v.most (0, (y : Int)) s5 from if_pos hy)
        clear h256 hy
        go_wp2_with fail
        refine PU.out.mono ?_
        rintro e w6 ⟨s6, b6, rfl, hr6, hk6, hp6⟩
        have R6 := hid hr6
        have K6 := hid (K5.out.trans hk6)
        have Y6 := hid (yg_put HF.out Hgt.out HR.out HQ.out hp6)
        clear hk6 hr6 hp6
        go_wp2_with fail
        exact ⟨⟨s6, b6, f1, R6, K6, hid Y6.out.1⟩, mOf_lt R.out R6.out Y6.out.2⟩
      have e2 : decide ((y : Int) < 256) = false := decide_eq_false (by omega)
      have e3 : decide (y < 256) = false := decide_eq_false hy
      have HR2 := hid (show symsAll l m v.L v.most s = match matchM m v.L v.most y s5 with
        | .error e => .error e
        | .ok s2 => symsM l m v.L v.most f1 s2 from by have := HR.out; rw [if_neg hy] at this; exact this)
      clear HR
      by_cases h285 : 285 < y
      · have e4 : decide ((285 : Int) < (y : Int)) = true := decide_eq_true (by omega)
        have e5 : decide (285 < y) = true := decide_eq_true h285
        have HE := hid (show symsAll l m v.L v.most s = .error 2 from by rw [HR2.out, matchM, if_pos h285])
        clear h285 hy h256
        go_wp2_with fail
        refine (fail_any R5.out 2).mono ?_
        rintro e w6 ⟨rfl, hr6, hk6⟩
        have R6 := hid hr6
        have K6 := hid (K5.out.trans hk6)
        clear hr6 hk6
        go_wp2_with fail
        refine bodyPost_ret (results_none rfl _ _ _) rfl ?_
        refine ⟨rfl, KK.out.trans K6.out, ?_⟩
        rw [HE.out]
        exact ⟨by decide, _, R6.out⟩
      have e4 : decide ((285 : Int) < (y : Int)) = false := decide_eq_false (by omega)
      have e5 : decide (285 < y) = false := decide_eq_false h285
      have H285 := hid h285
      obtain ⟨j, hj⟩ : ∃ j, 257 + j = y := ⟨y - 257, by omega⟩
      have hj29 : j < 29 := by omega
      have hjy : 257 + (j : Int) = (y : Int) := by omega
      have lbb := lbase_bd ⟨j, hj29⟩
      have leb := lextra_bd ⟨j, hj29⟩
      simp only at lbb leb
      rw [hjy] at lbb leb
      obtain ⟨le, hle⟩ : ∃ le : Nat, lextra (y : Int) = (le : Int) := ⟨(lextra (y : Int)).toNat, by omega⟩
      have Hle := hid hle
      rw [hle] at lbb leb
      rw [Int.toNat_natCast] at lbb
      obtain ⟨lb, hlb⟩ : ∃ lb, lb = lbase (y : Int) := ⟨_, rfl⟩
      have Hlb := hid hlb
      rw [← hlb] at lbb
      have hle5 : le ≤ 5 := by omega
      have tw : IntKind.i64.wrap ((y : Int) - 257) = (j : Int) := (IntWalk.i64_in _ (by omega)).trans (by omega)
      have T3c := hid (fun (w : World) (h : Kp w5 w) => show w.cell? ⟨a3, j, none⟩ = some (.int .i64 lb) ∧ a3 < w.heap.size from by have this : w.cell? ⟨a3, j, none⟩ = some (.int .i64 (lbase (257 + (j : Int)))) := tab_at ((T3'.out.kp K5.out).kp h) hj29; rw [hjy, ← hlb] at this; exact ⟨this, ((T3'.out.kp K5.out).kp h).lt⟩)
      have T4c := hid (fun (w : World) (h : Kp w5 w) => show w.cell? ⟨b3, j, none⟩ = some (.int .i64 (le : Int)) ∧ b3 < w.heap.size from by have this : w.cell? ⟨b3, j, none⟩ = some (.int .i64 (lextra (257 + (j : Int)))) := tab_at ((T4'.out.kp K5.out).kp h) hj29; rw [hjy, hle] at this; exact ⟨this, ((T4'.out.kp K5.out).kp h).lt⟩)
      obtain ⟨t3, ha3⟩ := T3c.out w5 (Kp.refl _)
      obtain ⟨t4, hb3⟩ := T4c.out w5 (Kp.refl _)
      have LBX := hid (show ∀ x : Nat, x < 2 ^ le → 3 ≤ lb + (x : Int) ∧ lb + (x : Int) ≤ 258 from fun x hx => by
        have h1 := lbb.2
        have h2 : (x : Int) < 2 ^ le := by have : ((2 ^ le : Nat) : Int) = 2 ^ le := by push_cast; rfl
                                           omega
        have := lbb.1
        omega)
      have F := hid (rtake_gen (R5.out.drewN 1).1 le (by omega) (by rw [← HN.out]; exact hL))
      clear lbb leb hle hlb h256 hy h285 hj YR
      go_upto_region 11 with (fail)
      go_cut [13] from 55 to 67 (fun v13 wq => ∃ (x : Nat) (s6 : Sk) (b6 tl : Int), v13 = .int .i64 tl ∧ Hid (lb + (x : Int) = tl) ∧ 3 ≤ tl ∧ tl ≤ 258 ∧ Hid (RI v wq s6 b6) ∧ Hid (Kp w5 wq) ∧ Hid (TkG v le s5 0 x s6 b6))
      case first =>
        go_region_with (go_at_call 52; refine Calls.mono F.out ?_; rintro e w6 ⟨x, s6, b6, rfl, hr6, hk6, htx⟩; have R6 := hid hr6; have K56 := hid ((R5.out.drewN 1).2.trans hk6); have TX := hid htx; obtain ⟨t3, ha3⟩ := T3c.out w6 K56.out; obtain ⟨t4, hb3⟩ := T4c.out w6 K56.out; obtain ⟨tl, htl⟩ : ∃ tl, lb + (x : Int) = tl := ⟨_, rfl⟩; have Htl := hid htl; have htb := LBX.out x htx.1; rw [htl] at htb; have twl : IntKind.i64.wrap (lb + (x : Int)) = tl := (IntWalk.i64_in _ (by omega)).trans htl; clear hr6 hk6 htx htl)
        all_goals
          go_wp2_with fail
          go_meet
          exact ⟨x, s6, b6, tl, rfl, Htl, htb.1, htb.2, R6, K56, TX⟩
      case rest =>
      obtain ⟨x, s6, b6, tl, rfl, Htl, htb1, htb2, R6, K56, TX⟩ := hcut
      have K6 := hid (K5.out.trans K56.out)
      have SY2 := hid (rsym_gen R6.out m Ld.out C2 cc2 K2 (B2'.out.kp K6.out) (by rw [← HN.out]; exact hL))
      clear t3 t4 ha3 hb3 p2 hg5 T3c T4c F LBX
      go_wp2_with fail
      refine SY2.out.mono ?_
      rintro e w7 ⟨t, s7, b7, rfl, hr7, hk7, hst⟩
      have R7 := hid hr7
      have K7 := hid (K6.out.trans hk7)
      have YM := hid (yg_match H285.out Hle.out Hlb.out TX.out hst)
      obtain ⟨T7, tc7, hb7, _⟩ := hr7.tok
      unfold inCs at hb7
      have r2 := hb7.cell 2
      simp only [List.getElem?_toArray, List.getElem?_cons_zero, List.getElem?_cons_succ] at r2
      have hg7 := hb7.lt
      clear hb7 hr7 hk7 hst SY2 TX
      by_cases hb7 : b7 = 0
      case neg =>
        have d0 : (b7 == 0) = false := by rw [beq_eq_false_iff_ne]; exact hb7
        have d0b : (b7 != 0) = true := by rw [bne, d0]; rfl
        have HE := hid (show symsAll l m v.L v.most s = .error b7 from by rw [HR2.out, (YM.out.1 hb7).2])
        have H0 := hid hb7
        clear hb7
        go_wp2_with fail
        refine bodyPost_ret (results_none rfl _ _ _) rfl ?_
        refine ⟨rfl, KK.out.trans K7.out, ?_⟩
        rw [HE.out]
        exact ⟨H0.out, _, R7.out⟩
      subst hb7
      obtain ⟨hk57, h29a, h29b⟩ := YM.out.2 rfl
      have HK57 := hid hk57
      clear YM hk57
      by_cases h29 : 29 < t
      · have e6 : decide ((29 : Int) < (t : Int)) = true := decide_eq_true (by omega)
        have e7 : decide (29 < t) = true := decide_eq_true h29
        have HE := hid (show symsAll l m v.L v.most s = .error 2 from by rw [HR2.out, h29a h29])
        clear h29 h29a h29b
        go_wp2_with fail
        refine (fail_any R7.out 2).mono ?_
        rintro e w8 ⟨rfl, hr8, hk8⟩
        have R8 := hid hr8
        have K8 := hid (K7.out.trans hk8)
        obtain ⟨T8, tc8, hb8, _⟩ := hr8.tok
        unfold inCs at hb8
        have u2 := hb8.cell 2
        simp only [List.getElem?_toArray, List.getElem?_cons_zero, List.getElem?_cons_succ] at u2
        have hg8 := hb8.lt
        clear hr8 hk8 hb8
        go_wp2_with fail
        refine bodyPost_ret (results_none rfl _ _ _) rfl ?_
        refine ⟨rfl, KK.out.trans K8.out, ?_⟩
        rw [HE.out]
        exact ⟨by decide, _, R8.out⟩
      have e6 : decide ((29 : Int) < (t : Int)) = false := decide_eq_false (by omega)
      have e7 : decide (29 < t) = false := decide_eq_false h29
      have ht30 : t < 30 := by omega
      have dbb := dbase_bd ⟨t, ht30⟩
      have deb := dextra_bd ⟨t, ht30⟩
      simp only at dbb deb
      obtain ⟨de, hde⟩ : ∃ de : Nat, dextra (t : Int) = (de : Int) := ⟨(dextra (t : Int)).toNat, by omega⟩
      have HM := hid (h29b h29 de hde)
      rw [hde] at dbb deb
      rw [Int.toNat_natCast] at dbb
      obtain ⟨db, hdb⟩ : ∃ db, db = dbase (t : Int) := ⟨_, rfl⟩
      have Hdb := hid hdb
      rw [← hdb] at dbb
      have hde13 : de ≤ 13 := by omega
      have T5c := hid (fun (w : World) (h : Kp w7 w) => show w.cell? ⟨a4, t, none⟩ = some (.int .i64 db) ∧ a4 < w.heap.size from by have this : w.cell? ⟨a4, t, none⟩ = some (.int .i64 (dbase (t : Int))) := tab_at ((TD5.out.kp K7.out).kp h) ht30; rw [← hdb] at this; exact ⟨this, ((TD5.out.kp K7.out).kp h).lt⟩)
      have T6c := hid (fun (w : World) (h : Kp w7 w) => show w.cell? ⟨b4, t, none⟩ = some (.int .i64 (de : Int)) ∧ b4 < w.heap.size from by have this : w.cell? ⟨b4, t, none⟩ = some (.int .i64 (dextra (t : Int))) := tab_at ((TD6.out.kp K7.out).kp h) ht30; rw [hde] at this; exact ⟨this, ((TD6.out.kp K7.out).kp h).lt⟩)
      obtain ⟨t5, ha4⟩ := T5c.out w7 (Kp.refl _)
      obtain ⟨t6, hb4⟩ := T6c.out w7 (Kp.refl _)
      have DBX := hid (show ∀ x : Nat, x < 2 ^ de → 1 ≤ db + (x : Int) ∧ db + (x : Int) ≤ 32768 from fun x hx => by
        have h1 := dbb.2
        have h2 : (x : Int) < 2 ^ de := by have : ((2 ^ de : Nat) : Int) = 2 ^ de := by push_cast; rfl
                                           omega
        have := dbb.1
        omega)
      have F := hid (rtake_gen (R7.out.drewN 1).1 de (by omega) (by rw [← HN.out]; exact hL))
      clear dbb deb hde hdb h29 h29a h29b
      go_upto_region 16 with (fail)
      go_cut [15] from 87 to 97 (fun v15 wq => ∃ (z : Nat) (s8 : Sk) (b8 td : Int), v15 = .int .i64 td ∧ Hid (db + (z : Int) = td) ∧ 1 ≤ td ∧ td ≤ 32768 ∧ Hid (RI v wq s8 b8) ∧ Hid (Kp w7 wq) ∧ Hid (TkG v de s7 0 z s8 b8))
      case first =>
        go_region_with (go_at_call 52; refine Calls.mono F.out ?_; rintro e w8 ⟨z, s8, b8, rfl, hr8, hk8, htz⟩; have R8 := hid hr8; have K78 := hid ((R7.out.drewN 1).2.trans hk8); have TZ := hid htz; obtain ⟨t5, ha4⟩ := T5c.out w8 K78.out; obtain ⟨t6, hb4⟩ := T6c.out w8 K78.out; obtain ⟨td, htd⟩ : ∃ td, db + (z : Int) = td := ⟨_, rfl⟩; have Htd := hid htd; have hdb2 := DBX.out z htz.1; rw [htd] at hdb2; have twd : IntKind.i64.wrap (db + (z : Int)) = td := (IntWalk.i64_in _ (by omega)).trans htd; clear hr8 hk8 htz htd)
        all_goals
          go_wp2_with fail
          go_meet
          exact ⟨z, s8, b8, td, rfl, Htd, hdb2.1, hdb2.2, R8, K78, TZ⟩
      case rest =>
      obtain ⟨z, s8, b8, td, rfl, Htd, hd1, hd2, R8, K78, TZ⟩ := hcut
      have PU := hid (rput_gen R8.out tl td (.inr ⟨htb1, htb2, hd1⟩))
      have K8 := hid (K7.out.trans K78.out)
      have MM := hid (HM.out z s8 b8 TZ.out)
      clear t5 t6 ha4 hb4 r2 hg7 T5c T6c F DBX HM
      go_wp2_with fail
      refine PU.out.mono ?_
      rintro e w9 ⟨s9, b9, rfl, hr9, hk9, hp9⟩
      have R9 := hid hr9
      have K9 := hid (K8.out.trans hk9)
      have Y9 := hid (show YG v l m (symsAll l m v.L v.most s) f1 s9 b9 ∧ (b9 = 0 → sj.k < s9.k) from by
        by_cases hb8 : b8 = 0
        · obtain ⟨g1, g2⟩ := MM.out.2 hb8
          subst hb8
          exact yg_put HF.out (by have := Hgt.out; have := HK57.out; omega) HR2.out (g2.trans (by rw [← Htl.out, ← Htd.out, ← Hdb.out])) hp9
        · have e9 := hp9.1 hb8
          subst e9
          exact ⟨yg_err (by rw [HR2.out, MM.out.1 hb8]) hb8, fun h => absurd h hb8⟩)
      clear hk9 hr9 hp9 MM
      go_wp2_with fail
      exact ⟨⟨s9, b9, f1, R9, K9, hid Y9.out.1⟩, mOf_lt R.out R9.out Y9.out.2⟩
    · have d0 : (bj == 0) = false := by rw [beq_eq_false_iff_ne]; exact hb0
      have GE := hid (G.out.2 hb0)
      have H0 := hid hb0
      clear hb0 G
      go_wp2_with fail
      go_end0
      refine ⟨rfl, KK.out.trans KW.out, ?_⟩
      rw [GE.out]
      exact ⟨H0.out, _, R.out⟩
end Go.Proofs.Ytegmbjkpjglgpaa
