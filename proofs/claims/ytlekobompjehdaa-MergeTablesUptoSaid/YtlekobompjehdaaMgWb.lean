/-
  merge.Table of counts in form: some stand.
-/
import Derived.Test.YtlekobompjehdaaMgW
import Derived.Test.YtlekobompjehdaaMgX
namespace Go.Proofs.Ytlekobompjehdaa
open Go.RowKit Mg

set_option maxRecDepth 100000 in
set_option maxHeartbeats 8000000 in
theorem mtable_many (A : Option Addr) (c N : Nat) (l : List Int) (W : World) (h : RdI W W.heap.size A l) (hN : l.length = N) (hl : N ≤ 256) (hg : goodc l 256 = true) (h0 : (itemsOf l).length ≠ 0) :
    Calls Try.prog 25 #[.slice A N c] W fun e w' => ∃ A' c' M, e = .returned (.tuple #[.agg (codesC (fun k => (grp (codeL l) (k + 1) N).length) A' M c'), .nilIface]) ∧ M = (syTo (codeL l) N 16).length ∧ Rd w' w'.heap.size 1 A' M (bytesV (ints (syTo (codeL l) N 16))) ∧ Below W.heap.size W w' := by
  obtain ⟨i0, hi0, hz0, hz1, hz2⟩ := info_parts mit_info
  have Hi0 := hid hi0
  have Hz0 := hid hz0
  have Hz1 := hid hz1
  have Hz2 := hid hz2
  obtain ⟨i1, hi1, hy0, hy1, hy2⟩ := info_parts byte_info
  have Hi1 := hid hi1
  have Hy0 := hid hy0
  have Hy1 := hid hy1
  have Hy2 := hid hy2
  have H := hid h
  have HN := hid hN
  have Hgd := hid hg
  have H00 := hid h0
  have tN : IntKind.i64.wrap ((N : Int) + 1) = ((N + 1 : Nat) : Int) := (IntWalk.i64_in _ (by omega)).trans (by omega)
  obtain ⟨N1, hN1⟩ : ∃ N1, N1 = N + 1 := ⟨_, rfl⟩
  rw [← hN1] at tN
  have HN1 := hid hN1
  clear hi0 hz0 hz1 hz2 hi1 hy0 hy1 hy2 h hN hg hN1 h0
  go_enter Try.func25, Try.ntmps25
  go_upto_region 1 with (fail)
  have C0 := hid (Blk.new W 43 zeroC)
  have B0 := hid (show Below W.heap.size W (W.alloc (.cells zeroC 43)) from (Below.refl _ _).alloc (Nat.le_refl _) _)
  obtain ⟨g, hg⟩ : ∃ g, g = W.heap.size := ⟨_, rfl⟩
  have Hg := hid hg
  rw [← hg] at C0 ⊢
  change Code.wp _ _ _ _ (W.alloc (.cells zeroC 43))
  generalize W.alloc (.cells zeroC 43) = w1 at *
  have H1 := hid (H.out.below B0.out (Nat.le_refl _))
  clear hg
  have hsnd := sound_any A c l 256 w1 W.heap.size H1.out (by rw [HN.out]; simp only [maxLen]; omega) true Hgd.out
  rw [HN.out] at hsnd
  have Hsnd := hid hsnd
  clear hsnd
  go_wp2_with fail
  refine (Hsnd.out).mono ?_
  rintro e w2 ⟨rfl, rfl⟩
  -- the row of one item
  have hit := fun w hw => items_any A c l w hw (by rw [HN.out]; omega)
  rw [HN.out] at hit
  have Hit := hid hit
  clear hit
  go_wp2_with fail
  obtain ⟨b1, hb1⟩ : ∃ b1, b1 = w1.heap.size := ⟨_, rfl⟩
  obtain ⟨b2, hb2⟩ : ∃ b2, b2 = w1.heap.size + 1 := ⟨_, rfl⟩
  have hw1 := B0.out.size
  have Q1 := hid (show Blk ((w1.alloc (.cells #[.int .i64 (N : Int)] 3)).alloc (.cells #[.int .i64 0, .slice (some ⟨w1.heap.size, 0, none⟩) 1 1] 92)) b1 3 #[.int .i64 (N : Int)] from by rw [hb1]; exact (Blk.new w1 3 #[.int .i64 (N : Int)]).alloc _)
  have Q2 := hid (show Blk ((w1.alloc (.cells #[.int .i64 (N : Int)] 3)).alloc (.cells #[.int .i64 0, .slice (some ⟨w1.heap.size, 0, none⟩) 1 1] 92)) b2 92 #[.int .i64 0, .slice (some ⟨b1, 0, none⟩) 1 1] from by
    have h := Blk.new (w1.alloc (.cells #[.int .i64 (N : Int)] 3)) 92 #[.int .i64 0, .slice (some ⟨w1.heap.size, 0, none⟩) 1 1]
    rw [World.size_alloc] at h
    rw [hb2, hb1]
    exact h)
  have QB := hid (show Below W.heap.size W ((w1.alloc (.cells #[.int .i64 (N : Int)] 3)).alloc (.cells #[.int .i64 0, .slice (some ⟨w1.heap.size, 0, none⟩) 1 1] 92)) from (B0.out.alloc hw1 _).alloc (by rw [World.size_alloc]; omega) _)
  have QC := hid (show Blk ((w1.alloc (.cells #[.int .i64 (N : Int)] 3)).alloc (.cells #[.int .i64 0, .slice (some ⟨w1.heap.size, 0, none⟩) 1 1] 92)) g 43 zeroC from (C0.out.alloc _).alloc _)
  rw [← hb2, ← hb1]
  rw [← hb1] at Q1 Q2 QB QC
  have hbW1 : W.heap.size ≤ b1 := by omega
  have hbW2 : W.heap.size ≤ b2 := by omega
  generalize (w1.alloc (.cells #[.int .i64 (N : Int)] 3)).alloc (.cells #[.int .i64 0, .slice (some ⟨b1, 0, none⟩) 1 1] 92) = w2 at *
  have H2 := hid ((H.out.below QB.out (Nat.le_refl _)).more QB.out.size)
  have X0 := hid (own_lit N Q1.out hbW1 0)
  have LR := hid (show w2.ownsRow W.heap.size 92 2 (.slice (some ⟨b2, 0, none⟩) 1 1) 1 (encR ⟨⟨0, [N]⟩, some ⟨b1, 0, none⟩, 1⟩) from ⟨rfl, .inr ⟨b2, 1, _, rfl, hbW2, Q2.out, Nat.le_refl _, by simp [maxLen], rfl, rfl⟩⟩)
  clear hb1 hb2 Q1 Q2 hbW1 hbW2 C0 B0 H1
  refine (Hit.out w2 H2.out).mono ?_
  rintro e w3 ⟨A2, c2, X, rfl, hX, hI⟩
  have hXe : X.map (·.it) = itemsOf l := st_isort hX
  have HX := hid hXe
  have I3 := hid (IOwn.base hI QB.out.size QB.out)
  have X3 := hid (X0.out.below hI.old (Nat.le_refl _))
  have L3 := hid (own_below LR.out hI.old (Nat.le_refl _))
  have C3 := hid (QC.out.below hI.old QC.out.lt)
  have hXl : X.length ≤ 256 := by
    have := itemsOf_le l
    rw [← hXe, List.length_map, HN.out] at this
    omega
  have HNl := hid (show A2 = none → X.length = 0 from fun hA => rd_nil (own_ri I3.out) (by omega) hA)
  have HO1 := hid (show ∀ u ∈ fl X, u.oneCell' = true from fun u hu => by
    obtain ⟨z, _, hz⟩ := List.mem_flatMap.1 hu
    rcases List.mem_cons.1 hz with rfl | hz
    · rfl
    · rw [List.mem_singleton.1 hz]; rfl)
  clear hX hI hXe QC QB H2 X0 LR Hit hw1
  generalize hA0 : (some (⟨b2, 0, none⟩ : Addr)) = A0 at *
  clear hA0
  go_wp2_with (at_builtin; refine wpList_app _ rfl _ _ _ rfl W.heap.size 92 i0 (.agg #[.int .i64 0, .slice none 0 0]) 2 32 Try.underlying86 Hi0.out Hz0.out Hz1.out Hz2.out rfl (by omega) A0 1 1 (encR ⟨⟨0, [N]⟩, some ⟨b1, 0, none⟩, 1⟩) rfl L3.out _ A2 X.length c2 (fl X) rfl (own_ri I3.out) HNl.out HO1.out (by simp only [maxLen]; omega) (by omega) I3.out.old.size ?_; intro A4 c4 w4 ha4; have Ha4 := hid ha4; clear ha4)
  have I4 := hid (items_app I3.out X3.out Ha4.out L3.out)
  have C4 := hid (C3.out.grown Ha4.out.2.1 (own_blk_ne L3.out C3.out (by decide)))
  have hmap : (⟨⟨0, [N]⟩, some ⟨b1, 0, none⟩, 1⟩ :: X : List IR).map (·.it) = extra l := by
    show ⟨0, [N]⟩ :: X.map (·.it) = ⟨0, [l.length]⟩ :: itemsOf l
    rw [HX.out, HN.out]
  have hB := best_any A4 c4 (N + 1) 15 _ w4 (RRow.of_own I4.out) (by
    obtain ⟨_, _, hv, hn⟩ := own_form I4.out.row
    injection hv with _ _ hv
    rw [hv]; exact hn) (by rw [hmap, ← HN.out]; exact extra_in Hgd.out (by rw [HN.out]; exact hl))
  rw [hmap, List.length_cons, Nat.add_comm X.length 1, ← HN1.out] at hB
  have HB := hid hB
  have HXl := hid (show X.length = (itemsOf l).length by rw [← HX.out, List.length_map])
  clear hB hmap L3 X3 I3 C3 Ha4 HNl HO1
  refine (HB.out).mono ?_
  rintro e w5 ⟨A5, c5, rfl, ho5, hb5⟩
  have Hle := hid (bestLs_len (extra l) 15 N1)
  have O5 := hid (show w5.ownsRow W.heap.size 3 1 (.slice A5 N1 c5) N1 (intsV (bestLs (extra l) 15 N1)) from by
    rw [Hle.out] at ho5
    exact own_base ho5 I4.out.old.size)
  have C5 := hid (C4.out.below hb5 C4.out.lt)
  have B5 := hid (I4.out.old.trans (hb5.mono I4.out.old.size))
  rw [Hle.out]
  have Hex := hid (show ∀ s, s < N1 → (bestLs (extra l) 15 N1).getD s 0 = (codeL l s : Int) from fun s hs => bestLs_at _ _ _ hs)
  generalize bestLs (extra l) 15 N1 = ls at *
  clear ho5 hb5 C4 I4 HX HB
  generalize X.length = mX at *
  have Hcnt := hid (show (syTo (codeL l) N 16).length = mX from by
    have := code_count Hgd.out (by rw [HN.out]; exact hl)
    rw [HN.out] at this
    rw [this, HXl.out])
  have hm0 : ¬ mX = 0 := fun h => H00.out (HXl.out.symm.trans h)
  have d1 : ((1 + (mX : Int)) == 1) = false := beq_eq_false_iff_ne.2 (by omega)
  clear hm0
  go_upto_region 9 with (fail)
  change Code.wp _ _ _ _ (w5.alloc (.cells zeroC 43))
  obtain ⟨gb, hgb⟩ : ∃ gb, gb = w5.heap.size := ⟨_, rfl⟩
  obtain ⟨L, hL⟩ : ∃ L, L = codeL l := ⟨_, rfl⟩
  rw [← hL] at Hex Hcnt
  have HL := hid hL
  have HgbW := hid (show W.heap.size ≤ gb by have := B5.out.size; omega)
  have M0 := hid (show MT (w5.alloc (.cells zeroC 43)) W L N N1 0 0 g gb A5 c5 ls none 0 0 from by
    refine ⟨?_, rfl, ⟨rfl, .inl ⟨rfl, rfl⟩⟩, C5.out.alloc _, B5.out.alloc B5.out.size _, O5.out.alloc _, by have := C5.out.lt; omega⟩
    rw [← zeroC_eq (cntF L N 0 0) (fun k _ => by unfold cntF; rw [if_neg (by omega)]; split <;> rfl), hgb]
    exact Blk.new _ _ _)
  rw [← hgb]
  generalize w5.alloc (.cells zeroC 43) = w6 at *
  clear hgb hL C5 B5 O5
  go_loopw [7] (fun iv wr => ∃ (n : Nat) (A3 : Option Addr) (M3 c3 : Nat), n ≤ 16 ∧ iv = .int .i64 ((n : Int) + 1) ∧ Hid (MT wr W L N N1 n 0 g gb A5 c5 ls A3 M3 c3)) (fun iv _ => 18 - (intOf iv).toNat)
  case atStart => exact ⟨0, none, 0, 0, by omega, rfl, M0⟩
  case round =>
    obtain ⟨n, A3, M3, c3, hn, rfl, T⟩ := hrel
    by_cases hlt : n < 16
    · have d2 : decide ((n : Int) + 1 ≤ 16) = true := decide_eq_true (by omega)
      go_upto_region 12 with (fail)
      go_loopw [37] (fun jv wr => ∃ (j : Nat) (A3 : Option Addr) (M3 c3 : Nat), j ≤ N ∧ jv = .int .i64 (j : Int) ∧ Hid (MT wr W L N N1 n j g gb A5 c5 ls A3 M3 c3)) (fun jv _ => N - (intOf jv).toNat)
      case atStart => exact ⟨0, A3, M3, c3, by omega, rfl, T⟩
      case round =>
        obtain ⟨j, A3, M3, c3, hj, rfl, T⟩ := hrel
        by_cases hlt2 : j < N
        · have d3 : decide (j < N) = true := decide_eq_true hlt2
          have hjl : j < ls.length := by rw [Hle.out, HN1.out]; omega
          obtain ⟨b, off, hA, hbb, x0⟩ := int_at (own_rdi' T.out.lens Hle.out.symm) hjl
          have hjv := Hex.out j (by rw [HN1.out]; omega)
          rw [List.getD_eq_getElem?_getD, List.getElem?_eq_getElem hjl] at hjv
          simp only [Option.getD_some] at hjv
          rw [hjv] at x0
          subst hA
          have hjN1 : j < N1 := by rw [HN1.out]; omega
          clear hjv hjl
          have hjb : j < 256 := by omega
          by_cases hLj : L j = n + 1
          · have d4 : ((L j : Int) == (n : Int) + 1) = true := by rw [hLj]; simp
            obtain ⟨v, hv⟩ : ∃ v, v = cntF L N n j n := ⟨_, rfl⟩
            have hvb : v ≤ 256 := by rw [hv]; exact Nat.le_trans (cntF_le _ _ _ _ _ hj) hl
            have y0 : wr.cell? ⟨gb, n, none⟩ = some (.int .i64 (v : Int)) := by rw [hv]; exact codes_at T.out.box rfl hlt
            have y16 : wr.cell? ⟨gb, 16, none⟩ = some (.slice A3 M3 c3) := (T.out.box.cell 16).trans rfl
            have z16 : (wr.setCell ⟨gb, n, none⟩ (.int .i64 ((v : Int) + 1))).cell? ⟨gb, 16, none⟩ = some (.slice A3 M3 c3) := (World.cell?_setCell_other _ _ _ _ (by intro e; injection e with _ e; omega)).trans y16
            have fz := fun o => T.out.box.frozen o
            have hgw := T.out.box.lt
            have hbw : b < wr.heap.size := hbb
            have t1 : IntKind.i64.wrap ((n : Int) + 1 - 1) = (n : Int) := (IntWalk.i64_in _ (by omega)).trans (by omega)
            have t2 : IntKind.i64.wrap ((v : Int) + 1) = (v : Int) + 1 := IntWalk.i64_in _ (by omega)
            have t3 : IntKind.u8.wrap (j : Int) = (j : Int) := by rw [IntKind.wrap_u8]; omega
            have hM3 : M3 ≤ 100000 := by
              rw [T.out.num, List.length_append]
              have h1 := grp_len L (n + 1) j
              have h2 : ∀ k, (syTo L N k).length ≤ k * N := by
                intro k
                induction k with
                | zero => simp [syTo]
                | succ k ih =>
                  rw [syTo_len, Nat.succ_mul]
                  have := grp_len L (k + 1) N
                  omega
              have h3 := h2 n
              have h4 : n * N ≤ 16 * 256 := Nat.mul_le_mul (by omega) hl
              omega
            have S1 := hid ((ownsRow_setCell_other (a := ⟨gb, n, none⟩) T.out.syms (fun e => own_blk_ne T.out.syms T.out.box (by decide) e.symm) (.int .i64 ((v : Int) + 1))).alloc (.cells #[.int .u8 (j : Int)] 5))
            have Hw := hid (show W.heap.size ≤ ((wr.setCell ⟨gb, n, none⟩ (.int .i64 ((v : Int) + 1))).alloc (.cells #[.int .u8 (j : Int)] 5)).heap.size from by have := T.out.old.size; rw [World.size_alloc]; simp [World.setCell]; omega)
            have MY := hid (fun (A4 : Option Addr) (c4 : Nat) (w3 : World) (ha : Apped ((wr.setCell ⟨gb, n, none⟩ (.int .i64 ((v : Int) + 1))).alloc (.cells #[.int .u8 (j : Int)] 5)) W.heap.size 5 1 A3 M3 c3 (bytesV (ints (syTo L N n ++ grp L (n + 1) j))) 1 [.int .u8 (j : Int)] A4 c4 w3) => show Blk w3 gb 43 (codesC (cntF L N n (j + 1)) A3 M3 c3) ∧ MT (w3.setCell ⟨gb, 16, none⟩ (.slice A4 (M3 + 1) c4)) W L N N1 n (j + 1) g gb (some ⟨b, off, none⟩) c5 ls A4 (M3 + 1) c4 from ⟨MT.mid T.out hlt hLj (by rw [hv]) ha, MT.yes T.out hlt hLj HgbW.out (by rw [hv]) ha⟩)
            have HLj := hid hLj
            clear hv hLj
            go_upto_region 16 with (fail)
            have hgz : gb < (wr.setCell ⟨gb, n, none⟩ (.int .i64 ((v : Int) + 1))).heap.size := by simpa [World.setCell] using hgw
            generalize wr.setCell ⟨gb, n, none⟩ (.int .i64 ((v : Int) + 1)) = wz at *
            clear y0 y16 fz hgw x0 hbw hbb
            go_wp2_with (at_builtin; refine wpList_app _ rfl _ _ _ rfl W.heap.size 5 i1 (.int .u8 0) 1 1 Try.underlying41 Hi1.out Hy0.out Hy1.out Hy2.out rfl (by omega) A3 M3 c3 _ rfl S1.out _ _ 1 1 [.int .u8 (j : Int)] rfl (rd_one _ _ _ _ (Blk.new _ _ _)) (by simp) (by simp [Value.oneCell']) (by simp only [maxLen]; omega) (by omega) Hw.out ?_; intro A4 c4 w3 ha3; have Y := hid (MY.out A4 c4 w3 ha3); have fz3 := Y.out.1.frozen 16; have hgw3 := Y.out.1.lt; have z3 : w3.cell? ⟨gb, 16, none⟩ = some (.slice A3 M3 c3) := ((Y.out.1.cell 16).trans rfl); clear ha3)
            go_roundw
            case rel => exact ⟨j + 1, A4, M3 + 1, c4, by omega, by go_num, hid Y.out.2⟩
            case measure => simp [intOf]; omega
          · have d4 : ((L j : Int) == (n : Int) + 1) = false := beq_eq_false_iff_ne.2 (by omega)
            have hbw : b < wr.heap.size := hbb
            have T2 := hid (T.out.no hLj)
            clear hLj
            go_wp2
            go_roundw
            case rel => exact ⟨j + 1, A3, M3, c3, by omega, by go_num, T2⟩
            case measure => simp [intOf]; omega
        · have d3 : decide (j < N) = false := decide_eq_false hlt2
          obtain rfl : j = N := by omega
          have T2 := hid (T.out.step)
          go_wp2
          go_roundw
          case rel => exact ⟨n + 1, A3, M3, c3, by omega, by go_num, T2⟩
          case measure => simp [intOf]; omega
    · have d2 : decide ((n : Int) + 1 ≤ 16) = false := decide_eq_false (by omega)
      have hn16 : n = 16 := by omega
      have Hn := hid hn16
      have hbox := T.out.box
      obtain ⟨F, hF⟩ : ∃ F, F = cntF L N n 0 := ⟨_, rfl⟩
      rw [← hF] at hbox
      have HF := hid hF
      have BX := hid hbox
      clear hbox hF hn16
      go_upto_region 18 with (fail)
      clear d2
      have p0 : wr.cell? ⟨gb, 0, none⟩ = some (.int .i64 (F 0 : Int)) := (BX.out.cell 0).trans rfl
      have p1 : wr.cell? ⟨gb, 1, none⟩ = some (.int .i64 (F 1 : Int)) := (BX.out.cell 1).trans rfl
      have p2 : wr.cell? ⟨gb, 2, none⟩ = some (.int .i64 (F 2 : Int)) := (BX.out.cell 2).trans rfl
      have p3 : wr.cell? ⟨gb, 3, none⟩ = some (.int .i64 (F 3 : Int)) := (BX.out.cell 3).trans rfl
      have p4 : wr.cell? ⟨gb, 4, none⟩ = some (.int .i64 (F 4 : Int)) := (BX.out.cell 4).trans rfl
      have p5 : wr.cell? ⟨gb, 5, none⟩ = some (.int .i64 (F 5 : Int)) := (BX.out.cell 5).trans rfl
      have p6 : wr.cell? ⟨gb, 6, none⟩ = some (.int .i64 (F 6 : Int)) := (BX.out.cell 6).trans rfl
      have p7 : wr.cell? ⟨gb, 7, none⟩ = some (.int .i64 (F 7 : Int)) := (BX.out.cell 7).trans rfl
      have p8 : wr.cell? ⟨gb, 8, none⟩ = some (.int .i64 (F 8 : Int)) := (BX.out.cell 8).trans rfl
      have p9 : wr.cell? ⟨gb, 9, none⟩ = some (.int .i64 (F 9 : Int)) := (BX.out.cell 9).trans rfl
      have p10 : wr.cell? ⟨gb, 10, none⟩ = some (.int .i64 (F 10 : Int)) := (BX.out.cell 10).trans rfl
      have p11 : wr.cell? ⟨gb, 11, none⟩ = some (.int .i64 (F 11 : Int)) := (BX.out.cell 11).trans rfl
      have p12 : wr.cell? ⟨gb, 12, none⟩ = some (.int .i64 (F 12 : Int)) := (BX.out.cell 12).trans rfl
      have p13 : wr.cell? ⟨gb, 13, none⟩ = some (.int .i64 (F 13 : Int)) := (BX.out.cell 13).trans rfl
      have p14 : wr.cell? ⟨gb, 14, none⟩ = some (.int .i64 (F 14 : Int)) := (BX.out.cell 14).trans rfl
      have p15 : wr.cell? ⟨gb, 15, none⟩ = some (.int .i64 (F 15 : Int)) := (BX.out.cell 15).trans rfl
      have p16 : wr.cell? ⟨gb, 16, none⟩ = some (.slice A3 M3 c3) := (BX.out.cell 16).trans rfl
      have q0 : wr.cell? ⟨g, 0, none⟩ = some (.int .i64 0) := (T.out.res.cell 0).trans rfl
      have q1 : wr.cell? ⟨g, 1, none⟩ = some (.int .i64 0) := (T.out.res.cell 1).trans rfl
      have q2 : wr.cell? ⟨g, 2, none⟩ = some (.int .i64 0) := (T.out.res.cell 2).trans rfl
      have q3 : wr.cell? ⟨g, 3, none⟩ = some (.int .i64 0) := (T.out.res.cell 3).trans rfl
      have q4 : wr.cell? ⟨g, 4, none⟩ = some (.int .i64 0) := (T.out.res.cell 4).trans rfl
      have q5 : wr.cell? ⟨g, 5, none⟩ = some (.int .i64 0) := (T.out.res.cell 5).trans rfl
      have q6 : wr.cell? ⟨g, 6, none⟩ = some (.int .i64 0) := (T.out.res.cell 6).trans rfl
      have q7 : wr.cell? ⟨g, 7, none⟩ = some (.int .i64 0) := (T.out.res.cell 7).trans rfl
      have q8 : wr.cell? ⟨g, 8, none⟩ = some (.int .i64 0) := (T.out.res.cell 8).trans rfl
      have q9 : wr.cell? ⟨g, 9, none⟩ = some (.int .i64 0) := (T.out.res.cell 9).trans rfl
      have q10 : wr.cell? ⟨g, 10, none⟩ = some (.int .i64 0) := (T.out.res.cell 10).trans rfl
      have q11 : wr.cell? ⟨g, 11, none⟩ = some (.int .i64 0) := (T.out.res.cell 11).trans rfl
      have q12 : wr.cell? ⟨g, 12, none⟩ = some (.int .i64 0) := (T.out.res.cell 12).trans rfl
      have q13 : wr.cell? ⟨g, 13, none⟩ = some (.int .i64 0) := (T.out.res.cell 13).trans rfl
      have q14 : wr.cell? ⟨g, 14, none⟩ = some (.int .i64 0) := (T.out.res.cell 14).trans rfl
      have q15 : wr.cell? ⟨g, 15, none⟩ = some (.int .i64 0) := (T.out.res.cell 15).trans rfl
      have q16 : wr.cell? ⟨g, 16, none⟩ = some (.slice none 0 0) := (T.out.res.cell 16).trans rfl
      have fz := fun o => T.out.res.frozen o
      have hgw := T.out.res.lt
      have hgbw := BX.out.lt
      have PB := hid (putC_blk (w := wr) (g := g) T.out.res F A3 M3 c3)
      have PG := hid (putC_grown wr g F A3 M3 c3)
      go_wp2
      clear p0 p1 p2 p3 p4 p5 p6 p7 p8 p9 p10 p11 p12 p13 p14 p15 p16
      clear q0 q1 q2 q3 q4 q5 q6 q7 q8 q9 q10 q11 q12 q13 q14 q15 q16
      change bodyPost _ _ _ _ _ (putC wr g F A3 M3 c3)
      generalize putC wr g F A3 M3 c3 = w9 at *
      refine bodyPost_ret (v := .tuple #[.agg (codesC F A3 M3 c3), .nilIface]) (table_out _ w9 PB.out rfl rfl) rfl ?_
      rw [← HL.out]
      clear HL
      clear fz hgw hgbw
      have hnum := T.out.num
      have hsy := T.out.syms
      have e0 : syTo L N n ++ grp L (n + 1) 0 = syTo L N n := List.append_nil _
      rw [e0] at hnum hsy
      rw [Hn.out] at hnum hsy
      have hcs : codesC F A3 M3 c3 = codesC (fun k => (grp L (k + 1) N).length) A3 M3 c3 := by
        have q : ∀ k, k < 16 → F k = (grp L (k + 1) N).length := fun k hk => by
          rw [HF.out, Hn.out]
          unfold cntF
          rw [if_pos hk]
        unfold codesC
        simp only [q 0 (by omega), q 1 (by omega), q 2 (by omega), q 3 (by omega), q 4 (by omega), q 5 (by omega), q 6 (by omega), q 7 (by omega), q 8 (by omega), q 9 (by omega), q 10 (by omega), q 11 (by omega), q 12 (by omega), q 13 (by omega), q 14 (by omega), q 15 (by omega)]
      have hW : W.heap.size = g := Hg.out.symm
      refine ⟨A3, c3, M3, by rw [hcs], hnum, ?_, ?_⟩
      · have h1 := hsy.kept PG.out (.inr (fun e => own_blk_ne hsy T.out.res (by decide) e.symm))
        exact own_rd h1
      · exact T.out.old.grown PG.out T.out.old.size (fun k hk => by injection hk with hk; omega)
end Go.Proofs.Ytlekobompjehdaa
