/-
  burnishref11.Fixed, walked.
  For burnishnum.Apart: rows of bytes, each its own; what a store or an append does to them.
-/
import Derived.Test.YtoppjcmkhhkbmaaGreatSqueezePlainx4
import Derived.Test.YtoppjcmkhhkbmaaGreatSqueezePlainx22
namespace Go.Proofs.YtoppjcmkhhkbmaaGreat
open Go.RowKit Cd

theorem rlit_row {W : World} : (W.alloc (.cells #[.int .i64 1, .int .i64 1, .int .i64 0] 3)).ownsRow W.heap.size 3 1 (.slice (some ⟨W.heap.size, 0, none⟩) 3 3) 3 (intsV [1, 1, 0]) :=
  ⟨rfl, .inr ⟨W.heap.size, 3, #[.int .i64 1, .int .i64 1, .int .i64 0], rfl, Nat.le_refl _, Blk.new W 3 _, Nat.le_refl _, by unfold maxLen; omega, rfl, rfl⟩⟩
theorem tokB_lit {t2 : Int} : tokB fixL usuD (0, t2) = cdB fixL t2.toNat := by unfold tokB; rw [if_pos rfl]
theorem tokB_mat {t1 t2 : Int} (h : t1 ≠ 0) : tokB fixL usuD (t1, t2) = cdB fixL (lsN t1) ++ (dgS false (t1 - lbase (lsN t1 : Nat)) (lextra (lsN t1 : Nat)).toNat ++ (dgS true (dsN t2 : Nat) 5 ++ dgS false (t2 - dbase (dsN t2 : Nat)) (dextra (dsN t2 : Nat)).toNat)) := by
  unfold tokB
  rw [if_neg h]
  have := usu_code ⟨dsN t2, by have := dsN_bd t2; omega⟩
  simp only at this
  rw [this]
set_option maxRecDepth 100000 in
set_option maxHeartbeats 16000000 in
theorem rfixed_any (A : Option Addr) (c : Nat) (text : List Int) (W : World) (h : Rd W W.heap.size 1 A text.length (bytesV text)) (hm : text.length ≤ 20000) (hB : ∀ x ∈ text, isB x) :
    Calls Tryz.prog 15 #[.slice A text.length c] W fun e w' => ∃ A' c', e = .returned (.slice A' (pkS false (fillS false (wrB 0 true 1 (grM text) text))).length c') ∧ w'.ownsRow W.heap.size 5 1 (.slice A' (pkS false (fillS false (wrB 0 true 1 (grM text) text))).length c') (pkS false (fillS false (wrB 0 true 1 (grM text) text))).length (bytesV (pkS false (fillS false (wrB 0 true 1 (grM text) text)))) ∧ Below W.heap.size W w' := by
  obtain ⟨i0, hi0, hz0, hz1, hz2⟩ := info_parts int_info
  have Hi0 := hid hi0
  have Hz0 := hid hz0
  have Hz1 := hid hz1
  have Hz2 := hid hz2
  have H := hid h
  have HB := hid hB
  have HGD := hid (fit_good (prS_fit (prS_grM hB)))
  have hgl : (grM text).length ≤ text.length := by have := fit_le (prS_fit (prS_grM hB)); omega
  have RG := hid (fun w (h : Rd w w.heap.size 1 A text.length (bytesV text)) => rgreedy_any A c text w h (by omega) hB)
  have hWB : wrB 0 true 1 (grM text) text = fxB (grM text) (grM text).length ++ cdB fixL 256 := by
    unfold wrB fxB toksB planM
    rw [if_pos (rfl : true = true), if_neg (show ¬ (1 : Int) = 0 by decide), if_neg (show ¬ (1 : Int) = 2 by decide), if_pos (rfl : (1 : Int) = 1), List.take_length]
    have e : dgS false (2 * 1 + 1) 3 = [1, 1, 0] := by decide
    rw [e]
    simp only [List.append_assoc, List.nil_append]
  have HWB := hid hWB
  have R0 := hid (rlit_row (W := W))
  have B0 := hid ((Below.refl W.heap.size W).alloc (Nat.le_refl _) (.cells #[.int .i64 1, .int .i64 1, .int .i64 0] 3))
  have hs0 : (W.alloc (.cells #[.int .i64 1, .int .i64 1, .int .i64 0] 3)).heap.size = W.heap.size + 1 := World.size_alloc ..
  clear hi0 hz0 hz1 hz2 h hB hWB
  go_enter Tryz.func15, Tryz.ntmps15
  go_upto_region 2 with (fail)
  generalize W.alloc (.cells #[.int .i64 1, .int .i64 1, .int .i64 0] 3) = w0 at *
  obtain ⟨g0, hg0⟩ : ∃ g, g = W.heap.size := ⟨_, rfl⟩
  rw [← hg0] at hs0 R0 ⊢
  have HG0 := hid hg0
  clear hg0
  go_wp2_with fail
  refine (lits11c_any w0).mono ?_
  rintro e w1 ⟨C, cc, X, rfl, hXn, hXt, hC, b1⟩
  have C1 := hid hC
  have B1 := hid b1
  have HX := hid hXt
  have HXn := hid hXn
  clear hC b1 hXt
  go_wp2_with fail
  refine (lens_any w1).mono ?_
  rintro e w2 ⟨rfl, b2, s2, l0, l1⟩
  have B2 := hid b2
  have L0 := hid l0
  have L1 := hid l1
  have S2 := hid s2
  clear b2 s2 l0 l1
  go_wp2_with fail
  refine (dists_any w2).mono ?_
  rintro e w3 ⟨rfl, b3, s3, l0, l1⟩
  have B3 := hid b3
  have D0 := hid l0
  have D1 := hid l1
  have S3 := hid s3
  clear b3 s3 l0 l1
  have BW3 := hid (((B0.out.trans (B1.out.mono (by have := B0.out.size; omega))).trans (B2.out.mono (by have := B0.out.size; have := B1.out.size; omega))).trans (B3.out.mono (by have := B0.out.size; have := B1.out.size; have := B2.out.size; omega)))
  go_wp2_with fail
  refine (RG.out w3 (Rd.more (H.out.below BW3.out (Nat.le_refl _)) BW3.out.size)).mono ?_
  rintro e w4 ⟨A1, c1, rfl, o1, b4⟩
  have B4 := hid b4
  have HT := hid (show FxT W w4 g0 w1.heap.size w2.heap.size w3.heap.size C A1 cc c1 X (grM text) from
    ⟨((by have := hs0; rw [← hs0]; exact C1.out : CRow w1 (g0 + 1) C cc X).below (B2.out.trans ((B3.out.mono B2.out.size).trans (b4.mono (by have := B2.out.size; have := B3.out.size; omega)))) (Nat.le_refl _)), HX.out, HXn.out,
     fun k hk => ((B3.out.trans (b4.mono B3.out.size)).cell (p := ⟨w1.heap.size, k, none⟩) (by show w1.heap.size < w2.heap.size; have := S2.out; omega)).trans (L0.out k hk),
     fun k hk => ((B3.out.trans (b4.mono B3.out.size)).cell (p := ⟨w1.heap.size + 1, k, none⟩) (by show w1.heap.size + 1 < w2.heap.size; have := S2.out; omega)).trans (L1.out k hk),
     fun k hk => (b4.cell (p := ⟨w2.heap.size, k, none⟩) (by show w2.heap.size < w3.heap.size; have := S3.out; omega)).trans (D0.out k hk),
     fun k hk => (b4.cell (p := ⟨w2.heap.size + 1, k, none⟩) (by show w2.heap.size + 1 < w3.heap.size; have := S3.out; omega)).trans (D1.out k hk),
     ⟨by have := B1.out.size; omega, by have := B1.out.size; have := B2.out.size; omega, by have := B1.out.size; have := B2.out.size; have := B3.out.size; omega⟩, o1, ⟨by have := b4.size; have := B3.out.size; have := S2.out; omega, by have := b4.size; have := S3.out; omega⟩⟩)
  have HS0 := hid (show FxS W w4 w4 g0 none (some ⟨g0, 0, none⟩) 3 3 (fxB (grM text) 0) from
    ⟨own_below (by rw [HG0.out]; have := R0.out; rw [HG0.out] at this; exact this) (B1.out.trans ((B2.out.mono B1.out.size).trans ((B3.out.mono (by have := B1.out.size; have := B2.out.size; omega)).trans (b4.mono (by have := B1.out.size; have := B2.out.size; have := B3.out.size; omega))))) (Nat.le_refl _), fun r hr => ⟨.inl (by injection hr with hr; exact hr.symm), fun _ _ e => by cases e⟩, fun _ _ _ => rfl, Nat.le_refl _, BW3.out.trans (b4.mono (by have := BW3.out.size; omega)), fun _ _ e => by cases e⟩)
  obtain ⟨tl, htl⟩ : ∃ k, k = w1.heap.size := ⟨_, rfl⟩
  obtain ⟨td, htd⟩ : ∃ k, k = w2.heap.size := ⟨_, rfl⟩
  obtain ⟨b1, hb1⟩ : ∃ k, k = w3.heap.size := ⟨_, rfl⟩
  rw [← htl, ← htd, ← hb1] at HT
  rw [← htl, ← htd]
  obtain ⟨l, hl⟩ : ∃ l, l = grM text := ⟨_, rfl⟩
  have HLG := hid hl
  rw [← hl] at HT HS0 HGD HWB hgl ⊢
  clear hl htl htd hb1 o1 b4 B4 B3 B2 B1 C1 L0 L1 D0 D1 S2 S3 RG BW3 H HX hs0 R0 B0 HXn
  obtain ⟨N, hN⟩ : ∃ n, n = l.length := ⟨_, rfl⟩
  have HN := hid hN
  rw [← hN] at hgl ⊢
  clear hN
  go_wp2_with fail
  go_loopw [3, 10] (fun o i wr => ∃ (j n : Nat) (A' : Option Addr) (c' : Nat), j ≤ N ∧ i = .int .i64 (j : Int) ∧ o = .slice A' n c' ∧ n ≤ 3 + 60 * j ∧ Hid (FxS W w4 wr g0 none A' n c' (fxB l j))) (fun _ i _ => N - (intOf i).toNat)
  case atStart => exact ⟨0, 3, _, 3, Nat.zero_le _, rfl, rfl, by omega, HS0⟩
  case round =>
    obtain ⟨j, n, A', c', hj, rfl, rfl, hn, HS⟩ := hrel
    clear HS0
    by_cases hlt : j < N
    · have d1 : decide ((j : Int) < (N : Int)) = true := decide_eq_true (by omega)
      have hjl : j < l.length := by rw [← HN.out]; exact hlt
      obtain ⟨bk, off, rfl, hbk, k0, k1⟩ := tok_at (own_rd (HS.out.own HT.out.tok HT.out.tl0.2.2)) hjl
      have hgj := HGD.out _ (List.getElem_mem hjl)
      have HNX := hid (fxB_next l hjl)
      generalize l[j] = t at *
      obtain ⟨t1, t2⟩ := t
      have hgt := tgood_true.1 hgj
      have hgt : (t1 = 0 ∧ 0 ≤ t2 ∧ t2 ≤ 255) ∨ (3 ≤ t1 ∧ t1 ≤ 258 ∧ 1 ≤ t2 ∧ t2 ≤ 32768) := hgt
      dsimp only at k0 k1
      have HA2 := hid (HS.out.addbox (t1, t2))
      go_upto_region 10 with (fail)
      generalize wr.alloc (.cells #[.int .i64 t1, .int .i64 t2] 54) = w2 at *
      obtain ⟨kb, hkb⟩ : ∃ k, k = wr.heap.size := ⟨_, rfl⟩
      have HA := hid (show FxS W w4 w2 g0 (some (kb, (t1, t2))) A' n c' (fxB l j) by rw [hkb]; exact HA2.out)
      rw [← hkb]
      clear hkb HA2 HS k0 k1
      have HN2 := hid (show j + 1 ≤ N from hlt)
      have CX := hid (show ∀ (w : World) (A0 : Option Addr) (n0 c0 : Nat) (R : List Int), FxS W w4 w g0 (some (kb, (t1, t2))) A0 n0 c0 R → ∀ (s : Nat) (x : CX), X.find? (fun x => x.s == s) = some x → Calls Tryz.prog 38 #[.slice C 288 cc, .int .i64 (s : Int)] w fun e w' => e = .returned (.slice x.A x.n x.c) ∧ w = w' from fun w A0 n0 c0 R hw s x hx => by
        have h := code11_any C cc (g0 + 1) X s x w (hw.crow HT.out.codes (Nat.le_refl _)) hx (by rw [HT.out.cn]; omega) (cx_small HT.out.ct)
        rw [HT.out.cn] at h
        exact h)
      have q0 := ((HA.out.box kb (t1, t2) rfl)).cell 0
      have q1 := ((HA.out.box kb (t1, t2) rfl)).cell 1
      simp only [List.getElem?_toArray, List.getElem?_cons_zero, List.getElem?_cons_succ] at q0 q1
      have lK := (HA.out.box kb (t1, t2) rfl).lt
      have hWs := HA.out.below.size
      by_cases ht : t1 = 0
      · subst ht
        have ht2 : 0 ≤ t2 ∧ t2 ≤ 255 := by omega
        obtain ⟨s, hs⟩ : ∃ s : Nat, s = t2.toNat := ⟨_, rfl⟩
        have hst : t2 = (s : Int) := by omega
        have HTB := hid (show tokB fixL usuD (0, t2) = cdB fixL s by rw [tokB_lit, hs])
        obtain ⟨x, hx, hxm, hxd, hxn, hx16⟩ := find_cx HT.out.ct (s := s) (by omega)
        have CC := hid (CX.out w2 _ _ _ _ HA.out s x hx)
        have OX := hid ((HA.out.crow HT.out.codes (Nat.le_refl _)).2 x hxm)
        have HXD := hid hxd
        have HXN := hid hxn
        subst hst
        clear hs CX hx hxm hxd hxn hgt hgj
        go_upto_region 8 with (first | (go_at_call 38; refine CC.out.mono ?_; rintro e w5 ⟨rfl, rfl⟩) | (at_builtin; go_loud (refine wpList_app _ rfl _ _ _ rfl W.heap.size 3 i0 (.int .i64 0) 1 8 Tryz.underlying65 Hi0.out Hz0.out Hz1.out Hz2.out rfl (by omega) A' (n) c' (intsV (fxB l j)) rfl HA.out.row _ x.A (x.n) x.c (intsV (dgH x.n x.v)) rfl (own_rd OX.out) (fun e => rd_nil (own_rd OX.out) (by omega) e) intsV_cellsH (by simp only [maxLen]; omega) (by omega) (by omega) ?_); intro A6 c6 w6 ha; have Ha := hid ha; clear ha))
        have HF := hid (show FxS W w4 w6 g0 none A6 (n + x.n) c6 (fxB l (j + 1)) by
          have h := (HA.out.app (cs := cdB fixL s) (by rw [← HXD.out]; exact Ha.out)).nobox
          rw [HNX.out, HTB.out]
          exact h)
        clear HA Ha CC OX q0 q1 lK
        go_wp2_with fail
        go_roundw
        case rel => exact ⟨j + 1, n + x.n, A6, c6, hlt, by go_num, rfl, by omega, HF⟩
        case measure => simp [intOf]; omega
      · have hm3 : 3 ≤ t1 ∧ t1 ≤ 258 ∧ 1 ≤ t2 ∧ t2 ≤ 32768 := by omega
        have dt : (t1 == 0) = false := by rw [beq_eq_false_iff_ne]; exact ht
        have HTB := hid (tokB_mat (t2 := t2) ht)
        have hls := lsN_sym (n := t1) hm3.1
        have hds := dsN_sym (n := t2) hm3.2.2.1
        have RL := hid (rlen9_any t1 w2)
        have RD := hid (fun w => rdist9_any t2 w)
        obtain ⟨s, hs⟩ : ∃ s, s = lsN t1 := ⟨_, rfl⟩
        obtain ⟨d, hd⟩ : ∃ d, d = dsN t2 := ⟨_, rfl⟩
        rw [← hs] at hls HTB RL
        rw [← hd] at hds HTB RD
        obtain ⟨ls1, ls2, ls3, ls4⟩ := hls
        obtain ⟨ds1, ds2, ds3, ds4⟩ := hds
        have hle : 0 ≤ lextra (s : Nat) ∧ lextra (s : Nat) ≤ 6 := by unfold lextra; split <;> (try split) <;> omega
        have hde : 0 ≤ dextra (d : Nat) ∧ dextra (d : Nat) ≤ 14 := by unfold dextra; split <;> omega
        have hlb : 3 ≤ lbase (s : Nat) := by
          have := lbase_mono ⟨0, by omega⟩ ⟨s - 257, by omega⟩ (Nat.zero_le _)
          simp only at this
          rw [show (257 : Int) + ((s - 257 : Nat) : Int) = (s : Int) by omega] at this
          exact this
        have hdb : 1 ≤ dbase (d : Nat) := by
          have := dbase_mono ⟨0, by omega⟩ ⟨d, by omega⟩ (Nat.zero_le _)
          exact this
        obtain ⟨k, hk⟩ : ∃ k, k = s - 257 := ⟨_, rfl⟩
        have hks : (s : Int) - 257 = (k : Int) := by omega
        have hk29 : k < 29 := by omega
        have TL0 := hid (show w4.cell? ⟨tl, k, none⟩ = some (.int .i64 (lbase (s : Nat))) by rw [HT.out.l0 k hk29, show (257 : Int) + (k : Int) = (s : Int) by omega])
        have TL1 := hid (show w4.cell? ⟨tl + 1, k, none⟩ = some (.int .i64 (lextra (s : Nat))) by rw [HT.out.l1 k hk29, show (257 : Int) + (k : Int) = (s : Int) by omega])
        have TD0 := hid (HT.out.d0 d (by omega))
        have TD1 := hid (HT.out.d1 d (by omega))
        obtain ⟨x, hx, hxm, hxd, hxn, hx16⟩ := find_cx HT.out.ct (s := s) (by omega)
        have HXF := hid hx
        have HXM := hid hxm
        have HXD := hid hxd
        have HXN := hid hxn
        have hs9 : s ≤ 285 := by omega
        have hd9 : d ≤ 29 := by omega
        clear hs hd hk hx hxm hxd hxn hgt hgj ls4 ds4 ht
        generalize lbase (s : Nat) = lb at *
        generalize lextra (s : Nat) = le at *
        generalize dbase (d : Nat) = db at *
        generalize dextra (d : Nat) = de at *
        obtain ⟨le', hle'⟩ : ∃ n : Nat, (n : Int) = le := ⟨le.toNat, by omega⟩
        obtain ⟨de', hde'⟩ : ∃ n : Nat, (n : Int) = de := ⟨de.toNat, by omega⟩
        subst hle' hde'
        rw [Int.toNat_natCast, Int.toNat_natCast] at HTB
        have DL := hid (fun w => digits_any (t1 - lb) le' (by omega) (by omega) (by omega) w)
        have DM := hid (fun w => (show Calls Tryz.prog 40 #[.int .i64 (d : Int), .int .i64 5, .bool true] w (IntsEndH (dgB (d : Int) 5) w) from digitsH_any (d : Int) 5 (by omega) (by omega) (by omega) w))
        have DD := hid (fun w => digits_any (t2 - db) de' (by omega) (by omega) (by omega) w)
        go_upto_region 13 with (go_at_call 39; refine RL.out.mono ?_; rintro e w5 ⟨rfl, hb5⟩; have Hb5 := hid hb5; clear hb5)
        have H5 := hid (HA.out.low Hb5.out)
        clear HA RL Hb5 q0 q1 lK hWs
        have hWs := H5.out.below.size
        have CC := hid (CX.out w5 _ _ _ _ H5.out s x HXF.out)
        have OX := hid ((H5.out.crow HT.out.codes (Nat.le_refl _)).2 x HXM.out)
        go_upto_region 14 with (first | (go_at_call 38; refine CC.out.mono ?_; rintro e w6 ⟨rfl, rfl⟩) | (at_builtin; go_loud (refine wpList_app _ rfl _ _ _ rfl W.heap.size 3 i0 (.int .i64 0) 1 8 Tryz.underlying65 Hi0.out Hz0.out Hz1.out Hz2.out rfl (by omega) A' (n) c' (intsV (fxB l j)) rfl H5.out.row _ x.A (x.n) x.c (intsV (dgH x.n x.v)) rfl (own_rd OX.out) (fun e => rd_nil (own_rd OX.out) (by omega) e) intsV_cellsH (by simp only [maxLen]; omega) (by omega) (by omega) ?_); intro A6 c6 w6 ha; have Ha := hid ha; clear ha))
        have H6 := hid (show FxS W w4 w6 g0 (some (kb, (t1, t2))) A6 (n + x.n) c6 (fxB l j ++ cdB fixL s) from H5.out.app (cs := cdB fixL s) (by rw [← HXD.out]; exact Ha.out))
        clear H5 Ha CC OX CX hWs
        have hn6 : n + x.n ≤ 19 + 60 * j := by omega
        obtain ⟨R6, hR6⟩ : ∃ R, R = fxB l j ++ cdB fixL s := ⟨_, rfl⟩
        have HR6 := hid hR6
        rw [← hR6] at H6
        obtain ⟨n6, hn6e⟩ : ∃ m, m = n + x.n := ⟨_, rfl⟩
        rw [← hn6e] at H6 hn6 ⊢
        clear hR6 hn6e
        have wk : IntKind.i64.wrap (k : Int) = (k : Int) := IntWalk.i64_in _ (by omega)
        have wt : IntKind.i64.wrap (t1 - lb) = t1 - lb := IntWalk.i64_in _ (by omega)
        have wd : IntKind.i64.wrap (t2 - db) = t2 - db := IntWalk.i64_in _ (by omega)
        have n29 : ((29 : Int) ≤ (k : Int)) = False := eq_false (by omega)
        have n30 : ((30 : Int) ≤ (d : Int)) = False := eq_false (by omega)
        have CF := hid (fun (w : World) (A0 : Option Addr) (n0 c0 : Nat) (R0 : List Int) (hw : FxS W w4 w g0 (some (kb, (t1, t2))) A0 n0 c0 R0) => (show w.cell? ⟨tl, k, none⟩ = some (.int .i64 lb) ∧ w.cell? ⟨tl + 1, k, none⟩ = some (.int .i64 (le' : Int)) ∧ w.cell? ⟨td, d, none⟩ = some (.int .i64 db) ∧ w.cell? ⟨td + 1, d, none⟩ = some (.int .i64 (de' : Int)) ∧ w.cell? ⟨kb, 0, none⟩ = some (.int .i64 t1) ∧ w.cell? ⟨kb, 1, none⟩ = some (.int .i64 t2) ∧ kb < w.heap.size from ⟨hw.cell TL0.out HT.out.tl0.1, hw.cell TL1.out (by have := HT.out.tl0.1; omega), hw.cell TD0.out HT.out.tl0.2.1, hw.cell TD1.out (by have := HT.out.tl0.2.1; omega), ((hw.box kb (t1, t2) rfl).cell 0).trans rfl, ((hw.box kb (t1, t2) rfl).cell 1).trans rfl, (hw.box kb (t1, t2) rfl).lt⟩))
        refine free_lit (S := ((Option Addr × Nat) × (Option Addr × Nat)) × World) (fun i => (i == 14) || (i == 15))
          (fun x i => [.slice A6 n6 c6, .pointer (some ⟨kb, 0, none⟩), .int .i64 t1, .slice (some ⟨tl, 0, none⟩) 29 29, .int .i64 (s : Int), .int .i64 (k : Int), .pointer (some ⟨tl, k, none⟩), .int .i64 lb, .int .i64 (t1 - lb), .slice (some ⟨tl + 1, 0, none⟩) 29 29, .int .i64 (s : Int), .int .i64 (k : Int), .pointer (some ⟨tl + 1, k, none⟩), .int .i64 (le' : Int), .slice x.1.1.1 le' x.1.1.2, .slice x.1.2.1 (n6 + le') x.1.2.2, .slice x.1.2.1 (n6 + le') x.1.2.2].getD i undef)
          (fun x => x.2) (fun k x => match k with | 0 => x = (((none, 0), (none, 0)), w6.drew) | 1 => Below w6.heap.size w6 x.2 ∧ x.2.ownsRow w6.heap.size 3 1 (.slice x.1.1.1 le' x.1.1.2) le' (intsV (dgL (t1 - lb) le')) | 2 => FxS W w4 x.2 g0 (some (kb, (t1, t2))) x.1.2.1 (n6 + le') x.1.2.2 (R6 ++ dgS false (t1 - lb) le') | _ => False)
          (fun i => if i ≤ 14 then 0 else if i = 15 then 1 else 2) (fun i => 2) (fun i => (i == 0)) (fun i => (i == 16)) ?af1 ?ab1 2 ((((none, 0), (none, 0)), w6.drew)) (by kernel_rfl) (by kernel_rfl) (by kernel_rfl) (by kernel_rfl) (by kernel_rfl) (by kernel_rfl) (by kernel_rfl) rfl rfl ?haf1 ?hab1 ?hy1 ?hQ1
        case haf1 =>
          intro x
          simp only [actOf, dstAt, List.length_cons, List.length_nil, Nat.reduceAdd, List.getElem?_cons_zero, List.getElem?_cons_succ, Option.bind_some, if_true, List.getD_cons_zero, List.getD_cons_succ, Act.put, List.setIfInBounds_toArray, List.set_cons_zero, List.set_cons_succ]
          rfl
        case hab1 =>
          intro x
          simp only [actOf, dstAt, List.length_cons, List.length_nil, Nat.reduceAdd, List.getElem?_cons_zero, List.getElem?_cons_succ, Option.bind_some, Nat.reduceBEq, Bool.not_false, Bool.not_true, Bool.false_eq_true, if_false, if_true, List.getD_cons_zero, List.getD_cons_succ, Act.put, List.setIfInBounds_toArray, List.set_cons_zero, List.set_cons_succ]
          rfl
        case hy1 =>
          intro q y hR
          obtain ⟨⟨⟨y1, y2⟩, ⟨y3, y4⟩⟩, yw⟩ := y
          have hc : yw.cell? ⟨tl, k, none⟩ = some (.int .i64 lb) ∧ yw.cell? ⟨tl + 1, k, none⟩ = some (.int .i64 (le' : Int)) ∧ yw.cell? ⟨td, d, none⟩ = some (.int .i64 db) ∧ yw.cell? ⟨td + 1, d, none⟩ = some (.int .i64 (de' : Int)) ∧ yw.cell? ⟨kb, 0, none⟩ = some (.int .i64 t1) ∧ yw.cell? ⟨kb, 1, none⟩ = some (.int .i64 t2) ∧ kb < yw.heap.size := by
            match q, hR with
            | 0, h =>
              have e : yw = w6.drew := congrArg Prod.snd h
              have hs := H6.out.low (show Below w6.heap.size w6 yw by rw [e]; exact (Below.refl _ _).drew)
              exact CF.out yw _ _ _ _ hs
            | 1, h => exact CF.out yw _ _ _ _ (H6.out.low h.1)
            | 2, h => exact CF.out yw _ _ _ _ h
          obtain ⟨c0, c1, c2, c3, c4, c5, c6'⟩ := hc
          simp only [AllY]
          refine ⟨?_, ?_, ?_, ?_, ?_, ?_, ?_, ?_, ?_, ?_, ?_, ?_, ?_, ?_, ?_, ?_, ?_, trivial⟩
          case refine_15 =>
            intro hk
            obtain rfl : q = 0 := hk
            have e : yw = w6.drew := congrArg Prod.snd hR
            have hb : Below w6.heap.size w6 yw := by rw [e]; exact (Below.refl _ _).drew
            refine .inr (.inr ⟨40, #[.int .i64 (t1 - lb), .int .i64 (le' : Int), .bool false], yw, by simp [execOp, go_sem, Act.eval], ?_⟩)
            refine (DL.out yw).mono ?_
            rintro e5 w5 ⟨A5, c5, rfl, o5, b5⟩
            rw [dgL_length] at o5 ⊢
            exact ⟨_, rfl, (((A5, c5), (y3, y4)), w5), ⟨hb.trans (b5.mono hb.size), own_base o5 hb.size⟩, rfl, rfl, fun i hi hd hn => by
              have hd : (if i ≤ 14 then 0 else if i = 15 then 1 else 2) ≤ 0 := hd
              have hn : i ≠ 14 := hn
              have hi : i < 17 := hi
              have hle : i ≤ 14 := by
                refine Nat.le_of_not_lt fun h => ?_
                rw [if_neg (by omega)] at hd
                split at hd <;> omega
              rcases (show i = 0 ∨ i = 1 ∨ i = 2 ∨ i = 3 ∨ i = 4 ∨ i = 5 ∨ i = 6 ∨ i = 7 ∨ i = 8 ∨ i = 9 ∨ i = 10 ∨ i = 11 ∨ i = 12 ∨ i = 13 by omega) with rfl | rfl | rfl | rfl | rfl | rfl | rfl | rfl | rfl | rfl | rfl | rfl | rfl | rfl <;> rfl⟩
          case refine_16 =>
            intro hk
            obtain rfl : q = 1 := hk
            have hb : Below w6.heap.size w6 yw := hR.1
            have ho : yw.ownsRow w6.heap.size 3 1 (.slice y1 le' y2) le' (intsV (dgL (t1 - lb) le')) := hR.2
            have hs := H6.out.low hb
            refine turn_app _ _ _ rfl W.heap.size 3 i0 (.int .i64 0) 1 8 Tryz.underlying65 Hi0.out Hz0.out Hz1.out Hz2.out rfl (by omega) A6 (n6) c6 (intsV (R6)) rfl hs.row _ y1 le' y2 (intsV (dgL (t1 - lb) le')) rfl (own_rd ho) (fun e => rd_nil (own_rd ho) (by omega) e) intsV_cellsH (by simp only [maxLen]; omega) (by omega) hs.below.size ?_
            intro A6 c6 w6 ha
            exact ⟨(((y1, y2), (A6, c6)), w6), hs.app (cs := dgS false (t1 - lb) le') ha, rfl, rfl, fun i hi hd hn => by
              have hd : (if i ≤ 14 then 0 else if i = 15 then 1 else 2) ≤ 1 := hd
              have hn : i ≠ 15 := hn
              have hi : i < 17 := hi
              have hle : i ≤ 15 := by
                refine Nat.le_of_not_lt fun h => ?_
                rw [if_neg (by omega), if_neg (by omega)] at hd
                omega
              rcases (show i = 0 ∨ i = 1 ∨ i = 2 ∨ i = 3 ∨ i = 4 ∨ i = 5 ∨ i = 6 ∨ i = 7 ∨ i = 8 ∨ i = 9 ∨ i = 10 ∨ i = 11 ∨ i = 12 ∨ i = 13 ∨ i = 14 by omega) with rfl | rfl | rfl | rfl | rfl | rfl | rfl | rfl | rfl | rfl | rfl | rfl | rfl | rfl | rfl <;> rfl⟩
          all_goals exact fun _ _ => .inl (by simp [execOp, go_sem, Act.eval, hks, c0, c1, c4, wk, wt, n29])
        case hQ1 =>
          rintro ⟨⟨⟨y1, y2⟩, ⟨A7, c7⟩⟩, w7⟩ hR
          have hR : FxS W w4 w7 g0 (some (kb, (t1, t2))) A7 (n6 + le') c7 (R6 ++ dgS false (t1 - lb) le') := hR
          have H7 := hid hR
          clear hR
          dsimp only
          have hn7 : n6 + le' ≤ 25 + 60 * j := by omega
          obtain ⟨c0, c1, c2, c3, c4, c5, c6'⟩ := CF.out w7 _ _ _ _ H7.out
          clear c0 c1 c2 c3 H6
          go_upto_region 16 with (go_at_call 41; refine (RD.out w7).mono ?_; rintro e w8 ⟨rfl, hb8⟩; have Hb8 := hid hb8; clear hb8)
          have H8 := hid (H7.out.low Hb8.out)
          have DM8 := hid (show Calls Tryz.prog 40 #[.int .i64 (d : Int), .int .i64 5, .bool true] w8 fun e w' => ∃ A c, e = .returned (.slice A 5 c) ∧ w'.ownsRow w8.heap.size 3 1 (.slice A 5 c) 5 (intsV (dgS true (d : Int) 5)) ∧ Below w8.heap.size w8 w' by
            have h := DM.out w8
            unfold IntsEndH at h
            rw [dgB_length, dgB_dgSQ] at h
            exact h)
          clear H7 Hb8 c4 c5 c6' RD DM
          go_upto_region 17 with (first | (go_at_call 40; refine DM8.out.mono ?_; rintro e w9 ⟨A8, c8, rfl, o8, hb9⟩; have H9 := hid (H8.out.low hb9); have O8 := hid o8; have hz9 := H9.out.below.size; clear o8 hb9) | (at_builtin; go_loud (refine wpList_app _ rfl _ _ _ rfl W.heap.size 3 i0 (.int .i64 0) 1 8 Tryz.underlying65 Hi0.out Hz0.out Hz1.out Hz2.out rfl (by omega) A7 (n6 + le') c7 (intsV (R6 ++ dgS false (t1 - lb) le')) rfl H9.out.row _ A8 (5) c8 (intsV (dgS true (d : Int) 5)) rfl (own_rd O8.out) (fun e => rd_nil (own_rd O8.out) (by omega) e) intsV_cellsH (by simp only [maxLen]; omega) (by omega) (by omega) ?_); intro A9 c9 w10 ha; have Ha := hid ha; clear ha))
          have H10 := hid (show FxS W w4 w10 g0 (some (kb, (t1, t2))) A9 (n6 + le' + 5) c9 (R6 ++ dgS false (t1 - lb) le' ++ dgS true (d : Int) 5) from H9.out.app (cs := dgS true (d : Int) 5) Ha.out)
          clear Ha H9 H8 DM8 O8 hz9
          obtain ⟨R9, hR9⟩ : ∃ R, R = R6 ++ dgS false (t1 - lb) le' ++ dgS true (d : Int) 5 := ⟨_, rfl⟩
          have HR9 := hid hR9
          rw [← hR9] at H10
          obtain ⟨n9, hn9e⟩ : ∃ m, m = n6 + le' + 5 := ⟨_, rfl⟩
          have hn9 : n9 ≤ 30 + 60 * j := by omega
          rw [← hn9e] at H10 ⊢
          clear hR9 hn9e hn7 hn6
          refine free_lit (S := ((Option Addr × Nat) × (Option Addr × Nat)) × World) (fun i => (i == 12) || (i == 13))
            (fun x i => [.slice A9 n9 c9, .pointer (some ⟨kb, 1, none⟩), .int .i64 t2, .slice (some ⟨td, 0, none⟩) 30 30, .int .i64 (d : Int), .pointer (some ⟨td, d, none⟩), .int .i64 db, .int .i64 (t2 - db), .slice (some ⟨td + 1, 0, none⟩) 30 30, .int .i64 (d : Int), .pointer (some ⟨td + 1, d, none⟩), .int .i64 (de' : Int), .slice x.1.1.1 de' x.1.1.2, .slice x.1.2.1 (n9 + de') x.1.2.2, .slice x.1.2.1 (n9 + de') x.1.2.2].getD i undef)
            (fun x => x.2) (fun k x => match k with | 0 => x = (((none, 0), (none, 0)), w10.drew) | 1 => Below w10.heap.size w10 x.2 ∧ x.2.ownsRow w10.heap.size 3 1 (.slice x.1.1.1 de' x.1.1.2) de' (intsV (dgL (t2 - db) de')) | 2 => FxS W w4 x.2 g0 (some (kb, (t1, t2))) x.1.2.1 (n9 + de') x.1.2.2 (R9 ++ dgS false (t2 - db) de') | _ => False)
            (fun i => if i ≤ 12 then 0 else if i = 13 then 1 else 2) (fun i => 2) (fun i => (i == 0)) (fun i => (i == 14)) ?af2 ?ab2 2 ((((none, 0), (none, 0)), w10.drew)) (by kernel_rfl) (by kernel_rfl) (by kernel_rfl) (by kernel_rfl) (by kernel_rfl) (by kernel_rfl) (by kernel_rfl) rfl rfl ?haf2 ?hab2 ?hy2 ?hQ2
          case haf2 =>
            intro x
            simp only [actOf, dstAt, List.length_cons, List.length_nil, Nat.reduceAdd, List.getElem?_cons_zero, List.getElem?_cons_succ, Option.bind_some, if_true, List.getD_cons_zero, List.getD_cons_succ, Act.put, List.setIfInBounds_toArray, List.set_cons_zero, List.set_cons_succ]
            rfl
          case hab2 =>
            intro x
            simp only [actOf, dstAt, List.length_cons, List.length_nil, Nat.reduceAdd, List.getElem?_cons_zero, List.getElem?_cons_succ, Option.bind_some, Nat.reduceBEq, Bool.not_false, Bool.not_true, Bool.false_eq_true, if_false, if_true, List.getD_cons_zero, List.getD_cons_succ, Act.put, List.setIfInBounds_toArray, List.set_cons_zero, List.set_cons_succ]
            rfl
          case hy2 =>
            intro q y hR
            obtain ⟨⟨⟨y1, y2⟩, ⟨y3, y4⟩⟩, yw⟩ := y
            have hc : yw.cell? ⟨tl, k, none⟩ = some (.int .i64 lb) ∧ yw.cell? ⟨tl + 1, k, none⟩ = some (.int .i64 (le' : Int)) ∧ yw.cell? ⟨td, d, none⟩ = some (.int .i64 db) ∧ yw.cell? ⟨td + 1, d, none⟩ = some (.int .i64 (de' : Int)) ∧ yw.cell? ⟨kb, 0, none⟩ = some (.int .i64 t1) ∧ yw.cell? ⟨kb, 1, none⟩ = some (.int .i64 t2) ∧ kb < yw.heap.size := by
              match q, hR with
              | 0, h =>
                have e : yw = w10.drew := congrArg Prod.snd h
                have hs := H10.out.low (show Below w10.heap.size w10 yw by rw [e]; exact (Below.refl _ _).drew)
                exact CF.out yw _ _ _ _ hs
              | 1, h => exact CF.out yw _ _ _ _ (H10.out.low h.1)
              | 2, h => exact CF.out yw _ _ _ _ h
            obtain ⟨c0, c1, c2, c3, c4, c5, c6'⟩ := hc
            simp only [AllY]
            refine ⟨?_, ?_, ?_, ?_, ?_, ?_, ?_, ?_, ?_, ?_, ?_, ?_, ?_, ?_, ?_, trivial⟩
            case refine_13 =>
              intro hk
              obtain rfl : q = 0 := hk
              have e : yw = w10.drew := congrArg Prod.snd hR
              have hb : Below w10.heap.size w10 yw := by rw [e]; exact (Below.refl _ _).drew
              refine .inr (.inr ⟨40, #[.int .i64 (t2 - db), .int .i64 (de' : Int), .bool false], yw, by simp [execOp, go_sem, Act.eval], ?_⟩)
              refine (DD.out yw).mono ?_
              rintro e5 w5 ⟨A5, c5, rfl, o5, b5⟩
              rw [dgL_length] at o5 ⊢
              exact ⟨_, rfl, (((A5, c5), (y3, y4)), w5), ⟨hb.trans (b5.mono hb.size), own_base o5 hb.size⟩, rfl, rfl, fun i hi hd hn => by
                have hd : (if i ≤ 12 then 0 else if i = 13 then 1 else 2) ≤ 0 := hd
                have hn : i ≠ 12 := hn
                have hi : i < 15 := hi
                have hle : i ≤ 12 := by
                  refine Nat.le_of_not_lt fun h => ?_
                  rw [if_neg (by omega)] at hd
                  split at hd <;> omega
                rcases (show i = 0 ∨ i = 1 ∨ i = 2 ∨ i = 3 ∨ i = 4 ∨ i = 5 ∨ i = 6 ∨ i = 7 ∨ i = 8 ∨ i = 9 ∨ i = 10 ∨ i = 11 by omega) with rfl | rfl | rfl | rfl | rfl | rfl | rfl | rfl | rfl | rfl | rfl | rfl <;> rfl⟩
            case refine_14 =>
              intro hk
              obtain rfl : q = 1 := hk
              have hb : Below w10.heap.size w10 yw := hR.1
              have ho : yw.ownsRow w10.heap.size 3 1 (.slice y1 de' y2) de' (intsV (dgL (t2 - db) de')) := hR.2
              have hs := H10.out.low hb
              refine turn_app _ _ _ rfl W.heap.size 3 i0 (.int .i64 0) 1 8 Tryz.underlying65 Hi0.out Hz0.out Hz1.out Hz2.out rfl (by omega) A9 (n9) c9 (intsV (R9)) rfl hs.row _ y1 de' y2 (intsV (dgL (t2 - db) de')) rfl (own_rd ho) (fun e => rd_nil (own_rd ho) (by omega) e) intsV_cellsH (by simp only [maxLen]; omega) (by omega) hs.below.size ?_
              intro A6 c6 w6 ha
              exact ⟨(((y1, y2), (A6, c6)), w6), hs.app (cs := dgS false (t2 - db) de') ha, rfl, rfl, fun i hi hd hn => by
                have hd : (if i ≤ 12 then 0 else if i = 13 then 1 else 2) ≤ 1 := hd
                have hn : i ≠ 13 := hn
                have hi : i < 15 := hi
                have hle : i ≤ 13 := by
                  refine Nat.le_of_not_lt fun h => ?_
                  rw [if_neg (by omega), if_neg (by omega)] at hd
                  omega
                rcases (show i = 0 ∨ i = 1 ∨ i = 2 ∨ i = 3 ∨ i = 4 ∨ i = 5 ∨ i = 6 ∨ i = 7 ∨ i = 8 ∨ i = 9 ∨ i = 10 ∨ i = 11 ∨ i = 12 by omega) with rfl | rfl | rfl | rfl | rfl | rfl | rfl | rfl | rfl | rfl | rfl | rfl | rfl <;> rfl⟩
            all_goals exact fun _ _ => .inl (by simp [execOp, go_sem, Act.eval, c2, c3, c5, wd, n30])
          case hQ2 =>
            rintro ⟨⟨⟨y1, y2⟩, ⟨A11, c11⟩⟩, w11⟩ hR
            have hR : FxS W w4 w11 g0 (some (kb, (t1, t2))) A11 (n9 + de') c11 (R9 ++ dgS false (t2 - db) de') := hR
            have HX_2 := hid hR
            clear hR
            dsimp only
            have HF := hid (show FxS W w4 w11 g0 none A11 (n9 + de') c11 (fxB l (j + 1)) by
              have h := HX_2.out.nobox
              rw [HR9.out, HR6.out] at h
              rw [HNX.out, HTB.out]
              simp only [List.append_assoc] at h ⊢
              exact h)
            clear HX_2 H10 CF
            go_wp2_with fail
            go_roundw
            case rel => exact ⟨j + 1, n9 + de', A11, c11, hlt, by go_num, rfl, by omega, HF⟩
            case measure => simp [intOf]; omega
    · obtain rfl : j = N := by omega
      have d1 : decide ((j : Int) < (j : Int)) = false := decide_eq_false (by omega)
      obtain ⟨x, hx, hxm, hxd, hxn, hx16⟩ := find_cx HT.out.ct (s := 256) (by omega)
      have CC := hid (show Calls Tryz.prog 38 #[.slice C 288 cc, .int .i64 256] wr fun e w' => e = .returned (.slice x.A x.n x.c) ∧ wr = w' from by
        have h := code11_any C cc (g0 + 1) X 256 x wr (HS.out.crow HT.out.codes (Nat.le_refl _)) hx (by rw [HT.out.cn]; omega) (cx_small HT.out.ct)
        rw [HT.out.cn] at h
        exact h)
      have OX := hid ((HS.out.crow HT.out.codes (Nat.le_refl _)).2 x hxm)
      obtain ⟨E, hE⟩ : ∃ E, E = cdB fixL 256 := ⟨_, rfl⟩
      rw [← hE] at hxd
      have HXD := hid hxd
      have hWs := HS.out.below.size
      have HWr : Hid (wrB 0 true 1 l text = fxB l j ++ E) := hid (by rw [HWB.out, ← HN.out, hE])
      have HBT := hid (wrB_bit 0 true 1 l text)
      obtain ⟨R, hR⟩ : ∃ R, R = wrB 0 true 1 l text := ⟨_, rfl⟩
      rw [← hR] at HWr HBT
      have HR := hid (show wrB 0 true 1 (grM text) text = R by rw [hR, HLG.out])
      clear hx hxm hxd hxn hE hR HWB
      go_upto_region 19 with (first | (go_at_call 38; refine CC.out.mono ?_; rintro e w5 ⟨rfl, rfl⟩) | (at_builtin; go_loud (refine wpList_app _ rfl _ _ _ rfl W.heap.size 3 i0 (.int .i64 0) 1 8 Tryz.underlying65 Hi0.out Hz0.out Hz1.out Hz2.out rfl (by omega) A' (n) c' (intsV (fxB l j)) rfl HS.out.row _ x.A (x.n) x.c (intsV (dgH x.n x.v)) rfl (own_rd OX.out) (fun e => rd_nil (own_rd OX.out) (by omega) e) intsV_cellsH (by simp only [maxLen]; omega) (by omega) (by omega) ?_); intro A6 c6 w6 ha; have Ha := hid ha; clear ha))
      have H6 := hid (HS.out.app (cs := E) (by rw [← HXD.out]; exact Ha.out))
      have hrl : n + x.n = R.length := by
        have h := H6.out.row.1
        rw [intsV_length, Nat.mul_one, ← HWr.out] at h
        exact h.symm
      have H6b := hid (show w6.ownsRow W.heap.size 3 1 (.slice A6 R.length c6) R.length (intsV R) by rw [← hrl, HWr.out]; exact H6.out.row)
      have RB := hid (rbytesL_any A6 c6 R w6 (by unfold RdI; rw [intsV_eq]; exact own_rd H6b.out) HBT.out (by omega))
      have B6 := hid H6.out.below
      rw [← hrl] at RB
      have HRL := hid hrl
      clear hrl H6 H6b HS Ha CC OX HWr hWs
      go_wp2_with fail
      refine RB.out.mono ?_
      rintro e w7 ⟨A7, c7, rfl, o7, b7⟩
      go_wp2_with fail
      go_ret
      rw [HR.out]
      exact ⟨A7, c7, rfl, own_base o7 B6.out.size, B6.out.trans (b7.mono B6.out.size)⟩
end Go.Proofs.YtoppjcmkhhkbmaaGreat

namespace Go.Proofs.YtoppjcmkhhkbmaaGreat
open Go.RowKit

/-- a slice value's parts -/
abbrev SlU := Option Addr × Nat × Nat
def slvU (s : SlU) : Value := .slice s.1 s.2.1 s.2.2
def mk (k j : Nat) : Int := (((29 * k + 5 * j + 3) % 256 : Nat) : Int)
def marks (k n : Nat) : List Value := (List.range n).map fun j => .int .u8 (mk k j)
theorem marks_length (k n : Nat) : (marks k n).length = n := by simp [marks]
theorem marks_succ (k n : Nat) : marks k (n + 1) = marks k n ++ [.int .u8 (mk k n)] := by simp [marks, List.range_succ]
theorem marks_at (k n j : Nat) (h : j < n) : (marks k n)[j]? = some (.int .u8 (mk k j)) := by simp [marks, h]
theorem marks_set (k j : Nat) (xs : List Value) (h : j < xs.length) : (marks k j ++ xs.drop j).set j (.int .u8 (mk k j)) = marks k (j + 1) ++ xs.drop (j + 1) := by
  rw [marks_succ, List.append_assoc, List.set_append_right j _ (by rw [marks_length]; exact Nat.le_refl _), marks_length, Nat.sub_self, List.drop_eq_getElem_cons h]
  rfl

/-- rows of bytes of the call's own -/
def BRows (w : World) (base : Nat) (R : List SlU) (X : Nat → List Value) : Prop := ∀ (k : Nat) (s : SlU), R[k]? = some s → w.ownsRow base 5 1 (slvU s) s.2.1 (X k)
/-- each in a block of its own -/
def Dist (R : List SlU) : Prop := ∀ (i j : Nat) (s t : SlU), R[i]? = some s → R[j]? = some t → i ≠ j → ∀ g, (slvU s).ownBlock = some g → (slvU t).ownBlock ≠ some g

section
variable {w w' : World} {base : Nat} {R : List SlU} {X Y : Nat → List Value}
theorem BRows.kept (h : BRows w base R X) {row : Option Nat} (hg : w.grownBy w' row) (hne : ∀ (k : Nat) (s : SlU), R[k]? = some s → (slvU s).ownBlock = none ∨ (slvU s).ownBlock ≠ row) : BRows w' base R X :=
  fun k s hs => (h k s hs).kept hg (hne k s hs)
theorem BRows.to (h : BRows w base R X) (hxy : ∀ (k : Nat) (s : SlU), R[k]? = some s → X k = Y k) : BRows w base R Y := fun k s hs => by rw [← hxy k s hs]; exact h k s hs
theorem BRows.store (h : BRows w base R X) (hd : Dist R) {k g n c j : Nat} (hk : R[k]? = some (some ⟨g, 0, none⟩, n, c)) (u : Value) :
    BRows (w.setCell ⟨g, j, none⟩ u) base R (fun i => if i = k then (X k).set j u else X i) := by
  intro i s hs
  by_cases hi : i = k
  · subst hi
    rw [hk] at hs
    injection hs with hs
    subst hs
    simp only [if_pos]
    exact ((h i _ hk).stored (g := g) j u).1
  · simp only [if_neg hi]
    have hst := ((h k _ hk).stored (g := g) j u).2
    refine (h i s hs).kept hst ?_
    cases hb : (slvU s).ownBlock with
    | none => exact .inl rfl
    | some b => exact .inr fun he => hd i k s _ hs hk hi b hb (by rw [he]; rfl)
end

/-- an append of one element, with what becomes of the blocks -/
def App1 (w : World) (base : Nat) (e : TypeId) (A : Option Addr) (n c : Nat) (xs : List Value) (u : Value) (A' : Option Addr) (c' : Nat) (w' : World) : Prop :=
  Apped w base e 1 A n c xs 1 [u] A' c' w' ∧ ((Value.slice A' (n + 1) c').ownBlock = (Value.slice A n c).ownBlock ∨ ((Value.slice A' (n + 1) c').ownBlock = some w.heap.size ∧ w.grownBy w' none))

section
variable {P : Program} (w : World)
theorem run_app1 (base : Nat) (t ty e : TypeId) (i : TypeInfo) (z : Value) (bytes : Nat) (ht : P.underlying t = some (.slice e)) (hi : P.info? e = some i) (hz : i.zero = some z)
    (hsize : i.size = 1) (hby : i.bytes = bytes) (hzs : z.cells.size = 1)
    (A : Option Addr) (n c : Nat) (xs : List Value) (hown : w.ownsRow base e 1 (.slice A n c) n xs)
    (p d : Nat) (u : Value) (hp : w.cell? ⟨p, 0, none⟩ = some u) (h1 : u.oneCell' = true)
    (h63 : n + 1 ≤ maxLen) (hbytes : (n + 1) * bytes ≤ 140737488355328) (hbase : base ≤ w.heap.size) :
    ∃ A' c' w', (Builtin.append_ #[t, t] ty #[.slice A n c, .slice (some ⟨p, 0, none⟩) 1 d]).run P w = .ok (.slice A' (n + 1) c') w' ∧ App1 w base e A n c xs u A' c' w' := by
  have hcells : ∀ j v, [u][j]? = some v → w.cell? ((⟨p, 0, none⟩ : Addr).add j) = some v := by
    intro j v hv
    have hj : j = 0 := by
      rcases Nat.eq_zero_or_pos j with h | h
      · exact h
      · rw [List.getElem?_eq_none (by simp; omega)] at hv; cases hv
    subst hj
    simp at hv
    subst hv
    exact hp
  have hu1 : ∀ v ∈ [u], v.oneCell' = true := by intro v hv; simp at hv; subst hv; exact h1
  obtain ⟨v', w', hrun, h2, h3, _, h5⟩ := run_append_own_at (P := P) w base t ty e i z 1 bytes ht hi hz hsize hby hzs (by omega) _ n xs hown ⟨p, 0, none⟩ 1 d [u] rfl hcells hu1 h63 hbytes hbase
  obtain ⟨A', c', rfl, _⟩ := own_form h2
  refine ⟨A', c', w', hrun, ⟨h2, h3, (Below.refl base w).grown h3 hbase (fun k hk => (hown.lt k hk).1), h5⟩, ?_⟩
  rcases hown.2 with ⟨hv, rfl⟩ | ⟨g, cap, cur, hv, hbg, hg, hnc, hcm, hcs, htake⟩
  · rcases h5 with h5 | h5
    · exact .inl h5
    · refine .inr ⟨h5, ?_⟩
      rw [hv] at h3
      exact h3
  · injection hv with e1 e2 e3
    subst e1 e3
    by_cases hroom : n + 1 ≤ c
    · have hr := run_append_room (P := P) w t ty e i ht hi g n c cur hg ⟨p, 0, none⟩ 1 d [u] (by rw [hsize]; rfl) hcells hu1 hroom (by rw [hsize]; simp; omega)
      rw [hrun] at hr
      injection hr with hr _
      rw [hr]
      exact .inl rfl
    · have holds : ∀ j v, xs[j]? = some v → w.cell? ((⟨g, 0, none⟩ : Addr).add j) = some v := hown.cells (g := g) rfl
      obtain ⟨v2, w2, hr, ho2, hg2⟩ := run_append_arg_grows (P := P) w t ty e i z 1 bytes ht hi hz hsize hby hzs (by omega) ⟨g, 0, none⟩ n c xs hown.1 holds ⟨p, 0, none⟩ 1 d [u] rfl hcells (by omega) h63 hbytes
      rw [hrun] at hr
      injection hr with hr hw
      subst hw
      refine .inr ⟨?_, hg2⟩
      rcases h5 with h5 | h5
      · exfalso
        have hb := ho2.lt g (by rw [← hr, h5]; rfl)
        have := (Array.getElem?_eq_some_iff.1 hg).1
        omega
      · exact h5

theorem wp_app1 {o : Oper} {a : Act} {K : Act → World → Prop} {Q : Exit → Act → World → Prop} (s x : Operand) (t : TypeId)
    (ho : o.op = .call { callee := .builtin .append, args := #[s, x], argTypes := #[t, t] })
    (base : Nat) (e : TypeId) (i : TypeInfo) (z : Value) (bytes : Nat) (ht : P.underlying t = some (.slice e)) (hi : P.info? e = some i) (hz : i.zero = some z)
    (hsize : i.size = 1) (hby : i.bytes = bytes) (hzs : z.cells.size = 1)
    (A : Option Addr) (n c : Nat) (xs : List Value) (hs : a.eval s = .slice A n c) (hown : w.ownsRow base e 1 (.slice A n c) n xs)
    (p d : Nat) (u : Value) (hx : a.eval x = .slice (some ⟨p, 0, none⟩) 1 d) (hp : w.cell? ⟨p, 0, none⟩ = some u) (h1 : u.oneCell' = true)
    (h63 : n + 1 ≤ maxLen) (hbytes : (n + 1) * bytes ≤ 140737488355328) (hbase : base ≤ w.heap.size)
    (h : ∀ A' c' w', App1 w base e A n c xs u A' c' w' → K (a.put o.dst (.slice A' (n + 1) c')) w') : o.wp P a w K Q := by
  obtain ⟨A', c', w', hrun, h2⟩ := run_app1 (P := P) w base t o.type e i z bytes ht hi hz hsize hby hzs A n c xs hown p d u hp h1 h63 hbytes hbase
  unfold Oper.wp execOp
  simp only [ho, resolve, invoke, builtin, Sem.run_bind, Sem.run_pure, Result.andThen_ok, List.map_toArray, List.map_cons, List.map_nil, hs, hx, hrun]
  exact h A' c' w' h2

theorem wpList_app1 {ops : Array Oper} {rest : List Oper} {o : Oper} {a : Act} {Q : Exit → Act → World → Prop} (hgd : o.guard = none) (s x : Operand) (t : TypeId)
    (ho : o.op = .call { callee := .builtin .append, args := #[s, x], argTypes := #[t, t] })
    (base : Nat) (e : TypeId) (i : TypeInfo) (z : Value) (bytes : Nat) (ht : P.underlying t = some (.slice e)) (hi : P.info? e = some i) (hz : i.zero = some z)
    (hsize : i.size = 1) (hby : i.bytes = bytes) (hzs : z.cells.size = 1)
    (A : Option Addr) (n c : Nat) (xs : List Value) (hs : a.eval s = .slice A n c) (hown : w.ownsRow base e 1 (.slice A n c) n xs)
    (p d : Nat) (u : Value) (hx : a.eval x = .slice (some ⟨p, 0, none⟩) 1 d) (hp : w.cell? ⟨p, 0, none⟩ = some u) (h1 : u.oneCell' = true)
    (h63 : n + 1 ≤ maxLen) (hbytes : (n + 1) * bytes ≤ 140737488355328) (hbase : base ≤ w.heap.size)
    (h : ∀ A' c' w', App1 w base e A n c xs u A' c' w' → wpList P ops Q rest (a.put o.dst (.slice A' (n + 1) c')) w') : wpList P ops Q (o :: rest) a w :=
  wpList_plain hgd fun _ hK => wp_app1 w s x t ho base e i z bytes ht hi hz hsize hby hzs A n c xs hs hown p d u hx hp h1 h63 hbytes hbase fun A' c' w' h2 => hK _ _ (h A' c' w' h2)
end

/-- while row k is marked -/
def mid (X : Nat → List Value) (k j : Nat) : Nat → List Value := fun i => if i = k then marks k j ++ (X k).drop j else if i < k then marks i (X i).length else X i
def ahead (X : Nat → List Value) (k : Nat) : Nat → List Value := fun i => if i < k then marks i (X i).length else X i
section
variable {w : World} {base : Nat} {R : List SlU} {X : Nat → List Value} {k j n c g : Nat} {A : Option Addr}
theorem rows_start (h : BRows w base R (ahead X k)) : BRows w base R (mid X k 0) :=
  h.to fun i s _ => by
    unfold ahead mid
    by_cases hi : i = k
    · subst hi
      rw [if_neg (by omega), if_pos rfl]
      rfl
    · rw [if_neg hi]
theorem rows_len (h : BRows w base R (mid X k j)) (hk : R[k]? = some (A, n, c)) (hj : j < n) : (X k).length = n := by
  have := (h k _ hk).1
  unfold mid at this
  rw [if_pos rfl, List.length_append, marks_length, List.length_drop, Nat.mul_one] at this
  simp only at this
  omega
theorem rows_step (h : BRows w base R (mid X k j)) (hd : Dist R) (hk : R[k]? = some (some ⟨g, 0, none⟩, n, c)) (hj : j < n) : BRows (w.setCell ⟨g, j, none⟩ (.int .u8 (mk k j))) base R (mid X k (j + 1)) := by
  have hl := rows_len h hk hj
  refine (h.store hd hk (.int .u8 (mk k j))).to fun i s _ => ?_
  by_cases hi : i = k
  · subst hi
    unfold mid
    simp only [if_pos]
    exact marks_set i j (X i) (by omega)
  · unfold mid
    simp only [if_neg hi]
theorem rows_end (h : BRows w base R (mid X k n)) (hk : R[k]? = some (A, n, c)) (hl : (X k).length = n) : BRows w base R (ahead X (k + 1)) :=
  h.to fun i s _ => by
    unfold ahead mid
    by_cases hi : i = k
    · subst hi
      rw [if_pos rfl, if_pos (by omega), hl, List.drop_eq_nil_of_le (by omega), List.append_nil]
    · rw [if_neg hi]
      by_cases h2 : i < k
      · rw [if_pos h2, if_pos (by omega)]
      · rw [if_neg h2, if_neg (by omega)]
end

/-- rows of different elements lie in different blocks -/
theorem own_own_neU {w : World} {b b' : Nat} {e e' : TypeId} {size size' n n' : Nat} {v v' : Value} {xs xs' : List Value} (h : w.ownsRow b e size v n xs) (h' : w.ownsRow b' e' size' v' n' xs') (hne : e ≠ e') :
    v.ownBlock = none ∨ v.ownBlock ≠ v'.ownBlock := by
  rcases h.2 with ⟨rfl, _⟩ | ⟨g, cap, cur, rfl, _, hh, _⟩
  · exact .inl rfl
  · right
    intro he
    rcases h'.2 with ⟨rfl, _⟩ | ⟨g', cap', cur', rfl, _, hh', _⟩
    · simp [Value.ownBlock] at he
    · have : g = g' := by simpa [Value.ownBlock] using he
      subst this
      rw [hh] at hh'
      injection hh' with hh'
      injection hh' with _ ht
      exact hne ht

/-- the rows that a list of slices holds -/
def Lists (w : World) (gl : Nat) (R : List SlU) : Prop := Blk w gl 22 (R.map slvU).toArray
/-- one row while it grows -/
def Grow1 (wk w : World) (base k : Nat) (s : SlU) (A : Option Addr) (c t : Nat) : Prop :=
  wk.grownBy w (slvU s).ownBlock ∧ w.ownsRow base 5 1 (.slice A (s.2.1 + t) c) (s.2.1 + t) (marks k (s.2.1 + t)) ∧
    ((Value.slice A (s.2.1 + t) c).ownBlock = (slvU s).ownBlock ∨ ∃ b, (Value.slice A (s.2.1 + t) c).ownBlock = some b ∧ wk.heap.size ≤ b) ∧
    (∀ g, (slvU s).ownBlock = some g → ∀ j, j < s.2.1 → w.cell? ⟨g, j, none⟩ = some (.int .u8 (mk k j))) ∧ Below base wk w
theorem own_mark {w : World} {base k n c g j : Nat} {A : Option Addr} (h : w.ownsRow base 5 1 (.slice A n c) n (marks k n)) (hg : (Value.slice A n c).ownBlock = some g) (hj : j < n) : w.cell? ⟨g, j, none⟩ = some (.int .u8 (mk k j)) := by
  obtain ⟨g', u, rfl, _, _, hu, hc⟩ := own_cell h hj
  have : g' = g := by simpa [Value.ownBlock] using hg
  subst this
  rw [hc, ← hu, marks_at k n j hj]

theorem grown_trans {a b c : World} {row row' : Option Nat} (h : a.grownBy b row) (h' : b.grownBy c row') (hr : row' = row ∨ row' = none ∨ ∃ k, row' = some k ∧ a.heap.size ≤ k) : a.grownBy c row := by
  refine ⟨h'.1.trans h.1, h'.2.trans h.2, h'.3.trans h.3, Nat.le_trans h.4 h'.4, fun k hk hne => ?_⟩
  have h1 := h.block k hk hne
  have h2 := h'.block k (Nat.lt_of_lt_of_le hk h.4) (by
    rcases hr with e | e | ⟨b, e, hb⟩
    · rw [e]; exact hne
    · rw [e]; simp
    · rw [e]; intro e2; injection e2 with e2; omega)
  exact h2.trans h1

section
variable {wk w w' : World} {base k : Nat} {s : SlU} {A A' : Option Addr} {c c' t : Nat}
theorem grow1_start (hown : wk.ownsRow base 5 1 (slvU s) s.2.1 (marks k s.2.1)) : Grow1 wk wk base k s s.1 s.2.2 0 :=
  ⟨World.grownBy.refl wk _, hown, .inl rfl, fun _ hg _ hj => own_mark hown hg hj, Below.refl _ _⟩
theorem grow1_step (h : Grow1 wk w base k s A c t) (hb : base ≤ wk.heap.size) (o : Obj) (ha : App1 (w.alloc o) base 5 A (s.2.1 + t) c (marks k (s.2.1 + t)) (.int .u8 (mk k (s.2.1 + t))) A' c' w') : Grow1 wk w' base k s A' c' (t + 1) := by
  obtain ⟨h1, h2, h3, h4, h5⟩ := h
  obtain ⟨⟨a1, a2, a3, a4⟩, a5⟩ := ha
  rw [← marks_succ] at a1
  have hbw : base ≤ w.heap.size := Nat.le_trans hb h5.size
  have hgr : wk.grownBy w' (slvU s).ownBlock := grown_trans (grown_trans h1 (World.grownBy_alloc w o none) (.inr (.inl rfl))) a2 (by
    rcases h3 with h3 | ⟨b, h3, hb⟩
    · exact .inl h3
    · exact .inr (.inr ⟨b, h3, hb⟩))
  refine ⟨hgr, a1, ?_, ?_, (h5.alloc hbw o).trans a3⟩
  · rcases a5 with a5 | ⟨a5, _⟩
    · rw [show s.2.1 + (t + 1) = s.2.1 + t + 1 from rfl, a5]; exact h3
    · exact .inr ⟨_, a5, by rw [World.size_alloc]; have := h1.4; omega⟩
  · intro g hg j hj
    have hold := h4 g hg j hj
    have hgw : g < w.heap.size := by
      rcases Nat.lt_or_ge g w.heap.size with hlt | hge
      · exact hlt
      · simp [World.cell?, Array.getElem?_eq_none hge] at hold
    have hold2 : (w.alloc o).cell? ⟨g, j, none⟩ = some (.int .u8 (mk k j)) := by rw [World.cell?_alloc_lt w o ⟨g, j, none⟩ hgw]; exact hold
    rcases a5 with a5 | ⟨a5, a6⟩
    · by_cases he : (Value.slice A (s.2.1 + t) c).ownBlock = some g
      · exact own_mark a1 (a5.trans he) (by omega)
      · exact a2.cell hold2 (fun e => he e.symm)
    · exact a6.cell hold2 (by simp)
end

/-- all rows while they grow: those behind are grown, those ahead wait -/
def Grow (W0 w : World) (base gl : Nat) (R R' : List SlU) (k : Nat) (G : Option Addr) (gc : Nat) : Prop :=
  (Lists w gl R ∧ R'.length = k ∧ w.ownsRow W0.heap.size 22 1 (.slice G k gc) k (R'.map slvU)) ∧
  (∀ (i : Nat) (s' : SlU), R'[i]? = some s' → ∃ s, R[i]? = some s ∧ s'.2.1 = s.2.1 + 10 ∧ w.ownsRow base 5 1 (slvU s') s'.2.1 (marks i s'.2.1) ∧ ((slvU s').ownBlock = (slvU s).ownBlock ∨ ∃ b, (slvU s').ownBlock = some b ∧ W0.heap.size ≤ b)) ∧
  Dist R' ∧
  (∀ (i : Nat) (s : SlU), R[i]? = some s → k ≤ i → w.ownsRow base 5 1 (slvU s) s.2.1 (marks i s.2.1)) ∧
  (∀ (i : Nat) (s : SlU) (g : Nat), R[i]? = some s → (slvU s).ownBlock = some g → ∀ j, j < s.2.1 → w.cell? ⟨g, j, none⟩ = some (.int .u8 (mk i j))) ∧
  Below base W0 w

section
variable {W0 wk w w' : World} {base gl k : Nat} {R R' : List SlU} {s : SlU} {A G G' : Option Addr} {c gc gc' : Nat}
theorem grow_start (hl : Lists W0 gl R) (hr : ∀ (i : Nat) (s : SlU), R[i]? = some s → W0.ownsRow base 5 1 (slvU s) s.2.1 (marks i s.2.1)) (hb : base ≤ W0.heap.size) : Grow W0 (W0.alloc (.cells #[] 22)) base gl R [] 0 (some ⟨W0.heap.size, 0, none⟩) 0 :=
  ⟨⟨hl.alloc _, rfl, ⟨rfl, .inr ⟨W0.heap.size, 0, #[], rfl, Nat.le_refl _, Blk.new W0 _ #[], Nat.le_refl _, by simp [maxLen], rfl, rfl⟩⟩⟩,
    fun i s' h => by simp at h, fun i j s t h => by simp at h, fun i s h _ => (hr i s h).alloc _,
    fun i s g h hg j hj => by
      have hc := own_mark (hr i s h) hg hj
      have hlt : g < W0.heap.size := ((hr i s h).lt g hg).2
      rw [World.cell?_alloc_lt W0 _ ⟨g, j, none⟩ hlt]
      exact hc,
    (Below.refl _ _).alloc hb _⟩
/-- the list of the grown rows, while one more row grows -/
theorem grow_own (h : Grow W0 wk base gl R R' k G gc) (hlt : ∀ g, (slvU s).ownBlock = some g → g < W0.heap.size) (h1 : Grow1 wk w base k s A c 10) : w.ownsRow W0.heap.size 22 1 (.slice G k gc) k (R'.map slvU) := by
  refine h.1.2.2.kept h1.1 ?_
  cases hb : (Value.slice G k gc).ownBlock with
  | none => exact .inl rfl
  | some b =>
    right
    intro he
    have := (h.1.2.2.lt b hb).1
    have := hlt b he.symm
    omega
theorem grow_step (hd : Dist R) (hlt : ∀ (i : Nat) (s : SlU) (g : Nat), R[i]? = some s → (slvU s).ownBlock = some g → g < W0.heap.size) (hgl : gl < W0.heap.size) (hb : base ≤ W0.heap.size)
    (h : Grow W0 wk base gl R R' k G gc) (hs : R[k]? = some s) (h1 : Grow1 wk w base k s A c 10) (o : Obj)
    (ha : Apped (w.alloc o) W0.heap.size 22 1 G k gc (R'.map slvU) 1 [slvU (A, s.2.1 + 10, c)] G' gc' w') : Grow W0 w' base gl R (R' ++ [(A, s.2.1 + 10, c)]) (k + 1) G' gc' := by
  have hG := grow_own h (hlt k s · hs) h1
  obtain ⟨⟨g1, g2, g3⟩, g4, g5, g6, g7, g8⟩ := h
  obtain ⟨q1, q2, q3, q4, q5⟩ := h1
  obtain ⟨a1, a2, a3, a4⟩ := ha
  have hw0 : W0.heap.size ≤ wk.heap.size := g8.size
  have hww : wk.heap.size ≤ w.heap.size := q1.4
  have hGw : ∀ {v : Value} {n : Nat} {xs : List Value}, w.ownsRow base 5 1 v n xs → w'.ownsRow base 5 1 v n xs := fun hv =>
    (hv.alloc o).kept a2 (own_own_neU (hv.alloc o) (hG.alloc o) (by decide))
  have hlow : ∀ {b j : Nat} {u : Value}, b < W0.heap.size → w.cell? ⟨b, j, none⟩ = some u → w'.cell? ⟨b, j, none⟩ = some u := fun {b j u} hb1 hc =>
    a2.cell (a := ⟨b, j, none⟩) (by rw [World.cell?_alloc_lt w o ⟨b, j, none⟩ (by show b < w.heap.size; omega)]; exact hc) (fun e => by
      have := (hG.lt b e.symm).1
      omega)
  have hother : ∀ (i : Nat) (t : SlU), R[i]? = some t → i ≠ k → (slvU t).ownBlock = none ∨ (slvU t).ownBlock ≠ (slvU s).ownBlock := fun i t ht hi => by
    cases hbt : (slvU t).ownBlock with
    | none => exact .inl rfl
    | some b => exact .inr fun e => hd i k t s ht hs hi b hbt e.symm
  have hprev : ∀ (i : Nat) (s' : SlU), R'[i]? = some s' → (slvU s').ownBlock = none ∨ (slvU s').ownBlock ≠ (slvU s).ownBlock := fun i s' hi => by
    obtain ⟨t, ht, _, _, hf⟩ := g4 i s' hi
    have hik : i ≠ k := by have := (List.getElem?_eq_some_iff.1 hi).1; omega
    rcases hf with hf | ⟨b, hf, hbb⟩
    · rw [hf]; exact hother i t ht hik
    · right
      rw [hf]
      intro e
      have := hlt k s b hs e.symm
      omega
  refine ⟨⟨?_, by simp [g2], by simpa using a1⟩, ?_, ?_, ?_, ?_, ?_⟩
  · have l1 : Lists w gl R := g1.grown q1 (fun e => by
      have ho := g6 k s hs (Nat.le_refl _)
      exact own_blk_ne ho g1 (by decide) e)
    exact (l1.alloc o).grown a2 (fun e => by have := (hG.lt gl e.symm).1; omega)
  · intro i s' hi
    by_cases hik : i < R'.length
    · rw [List.getElem?_append_left hik] at hi
      obtain ⟨t, ht, hn, hown, hf⟩ := g4 i s' hi
      exact ⟨t, ht, hn, hGw (hown.kept q1 (hprev i s' hi)), hf⟩
    · have hi2 : i = k := by
        have := (List.getElem?_eq_some_iff.1 hi).1
        simp at this; omega
      subst hi2
      rw [List.getElem?_append_right (by omega), g2, Nat.sub_self] at hi
      simp at hi
      subst hi
      refine ⟨s, hs, rfl, hGw q2, ?_⟩
      rcases q3 with q3 | ⟨b, q3, hb3⟩
      · exact .inl q3
      · exact .inr ⟨b, q3, by omega⟩
  · intro i j u v hu hv hij g hg
    by_cases hik : i < R'.length
    · rw [List.getElem?_append_left hik] at hu
      by_cases hjk : j < R'.length
      · rw [List.getElem?_append_left hjk] at hv
        exact g5 i j u v hu hv hij g hg
      · have hj2 : j = k := by
          have := (List.getElem?_eq_some_iff.1 hv).1
          simp at this; omega
        subst hj2
        rw [List.getElem?_append_right (by omega), g2, Nat.sub_self] at hv
        simp at hv
        subst hv
        obtain ⟨t, ht, _, hown, _⟩ := g4 i u hu
        have hgw := (hown.lt g hg).2
        rcases q3 with q3 | ⟨b, q3, hb3⟩
        · intro e
          rcases hprev i u hu with h0 | h0
          · rw [h0] at hg; cases hg
          · exact h0 (by rw [hg, ← q3]; exact e.symm)
        · intro e
          have : some b = some g := q3.symm.trans e
          injection this with this
          omega
    · have hi2 : i = k := by
        have := (List.getElem?_eq_some_iff.1 hu).1
        simp at this; omega
      subst hi2
      rw [List.getElem?_append_right (by omega), g2, Nat.sub_self] at hu
      simp at hu
      subst hu
      by_cases hjk : j < R'.length
      · rw [List.getElem?_append_left hjk] at hv
        obtain ⟨t, ht, _, hown, _⟩ := g4 j v hv
        intro e
        have hgw := (hown.lt g e).2
        rcases q3 with q3 | ⟨b, q3, hb3⟩
        · rcases hprev j v hv with h0 | h0
          · rw [h0] at e; cases e
          · exact h0 (by rw [e, ← q3]; exact hg.symm)
        · have : some b = some g := q3.symm.trans hg
          injection this with this
          omega
      · exfalso
        have := (List.getElem?_eq_some_iff.1 hv).1
        simp at this; omega
  · intro i t ht hki
    exact hGw ((g6 i t ht (by omega)).kept q1 (hother i t ht (by omega)))
  · intro i t g ht hg j hj
    refine hlow (hlt i t g ht hg) ?_
    by_cases hik : i = k
    · subst hik
      rw [hs] at ht
      injection ht with ht
      subst ht
      exact q4 g hg j hj
    · refine q1.cell (a := ⟨g, j, none⟩) (g7 i t g ht hg j hj) ?_
      rcases hother i t ht hik with h0 | h0
      · rw [h0] at hg; cases hg
      · exact fun e => h0 (by rw [hg]; exact e)
  · exact ((g8.trans q5).alloc (by omega) o).trans (a3.mono hb)
end

end Go.Proofs.YtoppjcmkhhkbmaaGreat
