/-
  burnishref08.Nearest.
  burnishref09.Greedy.
  burnishref11.literals: the codes of kind 1.
  burnishref09.Length, Dist: the symbols of a length, of a distance.
  slices.Index, Contains and Equal of ints; sample.depths, deep, step, Narrow, Widen; raster.narrow.
  sample.Unpack: a row's numbers.
  burnishref03: digits, numbers, bits in the high order; burnishref16.Unpack: the same numbers.
  burnishref11.Fixed.
  burnishref03.Bytes in the low order, what is left filled.
-/
import Derived.Test.YtoppjcmkhhkbmaaGreatSqueezePlainx1
import Derived.Test.YtoppjcmkhhkbmaaGreatSqueezePlainx4
import Derived.Test.YtoppjcmkhhkbmaaGreatSqueezePlainx7
import Derived.Test.YtoppjcmkhhkbmaaGreatSqueezePlainx15
import Derived.Test.YtoppjcmkhhkbmaaGreatSqueezePlainx17
import Derived.Test.YtoppjcmkhhkbmaaGreatSqueezePlainx20
import Derived.Test.YtoppjcmkhhkbmaaGreatSqueezePlainx21
import Derived.BigQuiet
import Derived.Deep.Cut
namespace Go.Proofs.YtoppjcmkhhkbmaaGreat
open Go.ChangeShapes Go.WideShapes Go.ChangeAt Go.RowKit Go.Proofs.YtoppjcmkhhkbmaaGreat

theorem fd_stay (f : Nat → Int) (L p n : Nat) {m k : Nat} (hm : m ≤ k) (h : fdM f L p n m ≠ 0) : fdM f L p n k = fdM f L p n m := by
  induction k with
  | zero => rw [show m = 0 by omega]
  | succ k ih =>
    by_cases e : m = k + 1
    · rw [e]
    · have e2 := ih (by omega)
      rw [fdM, if_neg (by rw [e2]; exact fun h2 => h h2.1), e2]
/-- of all lengths the least distances -/
def nrTo (l : List Int) (p j : Nat) : List Int := (List.range j).map fun i => ((fdM (txF l) l.length p (i + 3) p : Nat) : Int)
theorem nrTo_len (l : List Int) (p j : Nat) : (nrTo l p j).length = j := by unfold nrTo; rw [List.length_map, List.length_range]
theorem nrTo_succ (l : List Int) (p j : Nat) : nrTo l p (j + 1) = nrTo l p j ++ [((fdM (txF l) l.length p (j + 3) p : Nat) : Int)] := by
  unfold nrTo
  rw [List.range_succ, List.map_append]
  rfl
def nrN (l : List Int) (p : Nat) : Nat := (lgM (txF l) l.length p p).1 - 2
set_option maxRecDepth 100000 in
set_option maxHeartbeats 8000000 in
theorem near8_any (A : Option Addr) (c : Nat) (l : List Int) (p : Nat) (W : World) (h : Rd W W.heap.size 1 A l.length (bytesV l)) (hm : l.length ≤ 32768) (hp : p < l.length) :
    Calls Tryz.prog 74 #[.slice A l.length c, .int .i64 (p : Int)] W fun e w' => ∃ A' c', e = .returned (.slice A' (nrN l p) c') ∧ w'.ownsRow W.heap.size 3 1 (.slice A' (nrN l p) c') (nrN l p) (intsV (nrTo l p (nrN l p))) ∧ Below W.heap.size W w' := by
  have H := hid h
  have c1 : decide ((p : Int) < 0) = false := decide_eq_false (by omega)
  have c2 : decide ((l.length : Int) ≤ (p : Int)) = false := decide_eq_false (by omega)
  have c2n : decide (l.length ≤ p) = false := decide_eq_false (by omega)
  have HL := hid (lg_spec (txF l) l.length p p)
  have hl2 := HL.out.1
  have hl3 := HL.out.2.1
  clear h
  obtain ⟨i0, hi0, hz0, hz1, hz2⟩ := info_parts int_info
  have Hi0 := hid hi0
  have Hz0 := hid hz0
  have Hz1 := hid hz1
  have Hz2 := hid hz2
  clear hi0 hz0 hz1 hz2
  go_enter Tryz.func74, Tryz.ntmps74
  go_wp2_with fail
  go_loopw [5, 6] (fun o i wr => ∃ (j n : Nat) (A' : Option Addr) (c' : Nat), j ≤ 256 ∧ i = .int .i64 (n : Int) ∧ n = j + 3 ∧ o = .slice A' j c' ∧ Hid (j = 0 ∨ j ≤ nrN l p) ∧ Hid (wr.ownsRow W.heap.size 3 1 (.slice A' j c') j (intsV (nrTo l p j))) ∧ Hid (Below W.heap.size W wr)) (fun _ i _ => 259 - (intOf i).toNat)
  case atStart => exact ⟨0, 3, none, 0, by omega, rfl, rfl, rfl, hid (.inl rfl), hid (World.ownsRow_nil _ _ _ _), hid (Below.refl _ _)⟩
  case round =>
    obtain ⟨j, n, A', c', hj, rfl, hn, rfl, HJ, HO, HB⟩ := hrel
    have Hn := hid hn
    have hn1 : 3 ≤ n ∧ n ≤ 259 := by omega
    have hWs := HB.out.size
    clear hn
    by_cases h1 : n ≤ 258
    · have d1 : decide ((n : Int) ≤ 258) = true := decide_eq_true (by omega)
      generalize wr = wb at *
      have MT := hid (fun (far : Nat) (w : World) (hb : Below wb.heap.size wb w) (h1' : 1 ≤ far) (h2' : far ≤ p) => match8_any A c l p n far w (Rd.more ((H.out.below HB.out (Nat.le_refl _)).below hb HB.out.size) (Nat.le_trans HB.out.size hb.size)) (by omega) (by omega) (by omega) h1 h1' (by omega) h2')
      go_wp2_with fail
      go_loopw [7, 8] (fun o8 i8 wq => ∃ (m far fd : Nat), m ≤ p ∧ far ≤ p + 1 ∧ o8 = .int .i64 (fd : Int) ∧ i8 = .int .i64 (far : Int) ∧ Hid (far = m + 1 ∧ fd = fdM (txF l) l.length p n m) ∧ Hid (Below wb.heap.size wb wq)) (fun _ i _ => p + 1 - (intOf i).toNat)
      case atStart => exact ⟨0, 1, 0, by omega, by omega, rfl, rfl, hid ⟨rfl, rfl⟩, hid (Below.refl _ _)⟩
      case round =>
        obtain ⟨m, far, fd, hmp, hfar, rfl, rfl, HF, HQ⟩ := hrel
        by_cases hgo : far ≤ p ∧ fd = 0
        · obtain ⟨hf1, rfl⟩ := hgo
          have e1 : decide (far ≤ p) = true := decide_eq_true hf1
          have e1i : decide ((far : Int) ≤ (p : Int)) = true := decide_eq_true (by omega)
          have e2 : decide ((far : Int) ≤ 32768) = true := decide_eq_true (by omega)
          have CM := hid (MT.out far wr HQ.out (by have := HF.out.1; omega) hf1)
          have HF2 := hid (show fdM (txF l) l.length p n far = if n ≤ lcpM (txF l) l.length (p - far) p then far else 0 by
            obtain ⟨ea, eb⟩ := HF.out
            rw [ea, fdM, ← eb]
            simp only [true_and])
          clear HF MT
          go_wp2_with fail
          refine CM.out.mono ?_
          rintro e w2 ⟨rfl, hb2⟩
          have HQ2 := hid (HQ.out.trans (hb2.mono HQ.out.size))
          by_cases hc2 : n ≤ lcpM (txF l) l.length (p - far) p
          · have dd : decide (n ≤ lcpM (txF l) l.length (p - far) p) = true := decide_eq_true hc2
            rw [dd]
            have e5 := HF2.out
            rw [if_pos hc2] at e5
            have E5 := hid e5
            clear e5 hc2 dd HF2 CM hb2 HQ
            go_wp2
            go_roundw
            case rel => exact ⟨far, far + 1, far, hf1, by omega, rfl, by go_num, hid ⟨rfl, E5.out.symm⟩, HQ2⟩
            case measure => simp [intOf]; omega
          · have dd : decide (n ≤ lcpM (txF l) l.length (p - far) p) = false := decide_eq_false hc2
            rw [dd]
            have e5 := HF2.out
            rw [if_neg hc2] at e5
            have E5 := hid e5
            clear e5 hc2 dd HF2 CM hb2 HQ
            go_wp2
            go_roundw
            case rel => exact ⟨far, far + 1, 0, hf1, by omega, rfl, by go_num, hid ⟨rfl, E5.out.symm⟩, HQ2⟩
            case measure => simp [intOf]; omega
        · have HFD := hid (show fd = fdM (txF l) l.length p n p by
            obtain ⟨ea, eb⟩ := HF.out
            by_cases e : far ≤ p
            · have h0 : fd ≠ 0 := fun e2 => hgo ⟨e, e2⟩
              rw [eb] at h0 ⊢
              exact (fd_stay _ _ _ _ (by omega) h0).symm
            · rw [eb, show m = p by omega])
          have HFL := hid (fd_lg (txF l) l.length p p n hn1.1)
          have O2 := hid (own_below HO.out HQ.out (Nat.le_refl _))
          have B2 := hid (HB.out.trans (HQ.out.mono HB.out.size))
          clear HF MT HO HB HQ
          by_cases hf0 : fd = 0
          · subst hf0
            have hpf : p < far := by
              rcases Nat.lt_or_ge p far with h | h
              · exact h
              · exact absurd ⟨h, rfl⟩ hgo
            have e1 : decide (far ≤ p) = false := decide_eq_false (by omega)
            have e1i : decide ((far : Int) ≤ (p : Int)) = false := decide_eq_false (by omega)
            have hnl : ¬ n ≤ (lgM (txF l) l.length p p).1 := fun h => (HFL.out.1.2 h) HFD.out.symm
            have ej : j = nrN l p := by
              rcases HJ.out with h | h
              · unfold nrN; have := Hn.out; omega
              · unfold nrN at h ⊢; have := Hn.out; omega
            have EJ := hid ej
            clear hgo hnl ej HFL HFD
            go_wp2
            go_ret
            refine ⟨A', c', by show Ending.returned (.slice A' j c') = _; rw [EJ.out], ?_, B2.out⟩
            rw [← EJ.out]
            exact O2.out
          · have hfe : ((fd : Int) == 0) = false := by rw [beq_eq_false_iff_ne]; omega
            have hnl : n ≤ (lgM (txF l) l.length p p).1 := HFL.out.1.1 (fun h => hf0 (HFD.out.trans h))
            have hn3 := Hn.out
            have hjn : j + 1 ≤ nrN l p := by unfold nrN; omega
            have hjn2 : n + 1 = j + 4 := by omega
            clear hn3 hgo HFL hnl
            by_cases hfp : far ≤ p
            · have e1 : decide (far ≤ p) = true := decide_eq_true hfp
              have e1i : decide ((far : Int) ≤ (p : Int)) = true := decide_eq_true (by omega)
              have e32 : decide ((far : Int) ≤ 32768) = true := decide_eq_true (by omega)
              have hsz2 := B2.out.size
              have hal := (Below.refl wr.heap.size wr).alloc (Nat.le_refl _) (.cells #[.int .i64 (fd : Int)] 3)
              have Hal := hid hal
              clear hal
              go_wp2_with (at_builtin; (refine wpList_app _ rfl _ _ _ rfl (W.heap.size) 3 i0 (.int .i64 0) 1 8 Tryz.underlying65 Hi0.out Hz0.out Hz1.out Hz2.out rfl (by omega) A' j c' (intsV (nrTo l p j)) rfl (O2.out.alloc _) _ _ 1 1 ([.int .i64 (fd : Int)]) rfl (rd_one _ _ _ _ (Blk.new _ _ _)) (by simp) (by simp [Value.oneCell']) (by simp only [maxLen]; omega) (by omega) (by first | omega | (simp; done) | (simp; omega)) ?_; intro A4 c4 w4 ha4; have Ha4 := hid ha4; clear ha4))
              go_roundw
              case rel =>
                refine ⟨j + 1, n + 1, A4, c4, by omega, by go_num, hjn2, rfl, hid (.inr hjn), hid ?_, hid ((B2.out.trans (Hal.out.mono hsz2)).trans Ha4.out.2.2.1)⟩
                have h := Ha4.out.1
                rw [nrTo_succ, ← Hn.out, ← HFD.out]
                unfold intsV at h ⊢
                rw [List.map_append]
                exact h
              case measure => simp [intOf]; omega
            · have e1 : decide (far ≤ p) = false := decide_eq_false hfp
              have e1i : decide ((far : Int) ≤ (p : Int)) = false := decide_eq_false (by omega)
              have hsz2 := B2.out.size
              have hal := (Below.refl wr.heap.size wr).alloc (Nat.le_refl _) (.cells #[.int .i64 (fd : Int)] 3)
              have Hal := hid hal
              clear hal
              go_wp2_with (at_builtin; (refine wpList_app _ rfl _ _ _ rfl (W.heap.size) 3 i0 (.int .i64 0) 1 8 Tryz.underlying65 Hi0.out Hz0.out Hz1.out Hz2.out rfl (by omega) A' j c' (intsV (nrTo l p j)) rfl (O2.out.alloc _) _ _ 1 1 ([.int .i64 (fd : Int)]) rfl (rd_one _ _ _ _ (Blk.new _ _ _)) (by simp) (by simp [Value.oneCell']) (by simp only [maxLen]; omega) (by omega) (by first | omega | (simp; done) | (simp; omega)) ?_; intro A4 c4 w4 ha4; have Ha4 := hid ha4; clear ha4))
              go_roundw
              case rel =>
                refine ⟨j + 1, n + 1, A4, c4, by omega, by go_num, hjn2, rfl, hid (.inr hjn), hid ?_, hid ((B2.out.trans (Hal.out.mono hsz2)).trans Ha4.out.2.2.1)⟩
                have h := Ha4.out.1
                rw [nrTo_succ, ← Hn.out, ← HFD.out]
                unfold intsV at h ⊢
                rw [List.map_append]
                exact h
              case measure => simp [intOf]; omega
    · obtain rfl : n = 259 := by omega
      have EJ := hid (show j = nrN l p by
        rcases HJ.out with h | h
        · have := Hn.out; omega
        · unfold nrN at h ⊢; have := Hn.out; omega)
      have d1 : decide ((259 : Int) ≤ 258) = false := rfl
      clear Hn
      go_wp2
      go_ret
      refine ⟨A', c', by show Ending.returned (.slice A' j c') = _; rw [EJ.out], ?_, HB.out⟩
      rw [← EJ.out]
      exact HO.out
end Go.Proofs.YtoppjcmkhhkbmaaGreat

namespace Go.Proofs.YtoppjcmkhhkbmaaGreat
open Go.ChangeShapes Go.WideShapes Go.ChangeAt Go.RowKit Go.Proofs.YtoppjcmkhhkbmaaGreat

theorem gt_near (l : List Int) {p : Nat} (hm : l.length ≤ 32768) (hp : p < l.length) :
    (0 < nrN l p ∧ gtM (txF l) l.length p = ((2 : Int) + (nrN l p : Int), (nrTo l p (nrN l p)).getD (nrN l p - 1) 0) ∧ nrN l p ≤ 256) ∨ (nrN l p = 0 ∧ gtM (txF l) l.length p = (0, l.getD p 0)) := by
  have e : min p 32768 = p := by omega
  obtain ⟨h1, h2, _, h4, h5⟩ := lg_spec (txF l) l.length p p
  rcases Nat.eq_zero_or_pos (nrN l p) with h | h
  · refine .inr ⟨h, ?_⟩
    unfold nrN at h
    unfold gtM
    rw [e, if_pos]
    refine Classical.byContradiction fun h0 => ?_
    have := (h5 h0).1
    omega
  · refine .inl ⟨h, ?_, by unfold nrN; omega⟩
    have hn : (lgM (txF l) l.length p p).1 = nrN l p + 2 := by unfold nrN at h ⊢; omega
    have h0 : (lgM (txF l) l.length p p).2 ≠ 0 := fun h0 => by have := h4 h0; omega
    have hf := (fd_lg (txF l) l.length p p (lgM (txF l) l.length p p).1 (by omega)).2 rfl
    have hg : (nrTo l p (nrN l p)).getD (nrN l p - 1) 0 = ((lgM (txF l) l.length p p).2 : Int) := by
      unfold nrTo
      rw [List.getD_eq_getElem?_getD, List.getElem?_map, List.getElem?_range (by omega)]
      show ((fdM (txF l) l.length p (nrN l p - 1 + 3) p : Nat) : Int) = _
      rw [show nrN l p - 1 + 3 = (lgM (txF l) l.length p p).1 by omega, hf]
    rw [hg]
    unfold gtM
    rw [e, if_neg h0, hn]
    congr 1
    push_cast
    omega
set_option maxRecDepth 100000 in
set_option maxHeartbeats 8000000 in
theorem rgreedy_any (A : Option Addr) (c : Nat) (l : List Int) (W : World) (h : Rd W W.heap.size 1 A l.length (bytesV l)) (hm : l.length ≤ 32768) (hB : ∀ x ∈ l, isB x) :
    Calls Tryz.prog 37 #[.slice A l.length c] W fun e w' => ∃ A' c', e = .returned (.slice A' (grM l).length c') ∧ w'.ownsRow W.heap.size 54 2 (.slice A' (grM l).length c') (grM l).length ((grM l).flatMap encTok) ∧ Below W.heap.size W w' := by
  obtain ⟨i0, hi0, hz0, hz1, hz2⟩ := info_parts tok_infoB
  have Hi0 := hid hi0
  have Hz0 := hid hz0
  have Hz1 := hid hz1
  have Hz2 := hid hz2
  have H := hid h
  have HB := hid hB
  clear hi0 hz0 hz1 hz2 h hB
  go_enter Tryz.func37, Tryz.ntmps37
  go_wp2_with fail
  go_loopw [3, 4] (fun o i wr => ∃ (p n : Nat) (done : List (Int × Int)) (A' : Option Addr) (c' : Nat), p ≤ l.length ∧ i = .int .i64 (p : Int) ∧ o = .slice A' n c' ∧ n = done.length ∧ n ≤ p ∧ Hid (grM l = done ++ grA l p) ∧ Hid (wr.ownsRow W.heap.size 54 2 (.slice A' n c') n (done.flatMap encTok)) ∧ Hid (Below W.heap.size W wr)) (fun _ i _ => l.length - (intOf i).toNat)
  case atStart => exact ⟨0, 0, [], none, 0, by omega, rfl, rfl, rfl, Nat.le_refl _, hid rfl, hid (World.ownsRow_nil _ _ _ _), hid (Below.refl _ _)⟩
  case round =>
    obtain ⟨p, n, done, A', c', hp, rfl, rfl, hn, hnp, HG, HO, HBl⟩ := hrel
    have Hn := hid hn
    clear hn
    by_cases hlt : p < l.length
    · have d1 : decide ((p : Int) < (l.length : Int)) = true := decide_eq_true (by omega)
      have NR := hid (near8_any A c l p wr (Rd.more (H.out.below HBl.out (Nat.le_refl _)) HBl.out.size) hm hlt)
      have HGT := hid (gt_near l hm hlt)
      have HST := hid (HG.out.trans (by rw [grA_step hlt, List.append_cons]))
      have HLN := hid (prT_gt HB.out hlt).2.1
      clear HG
      go_wp2_with fail
      refine NR.out.mono ?_
      rintro e w2 ⟨A3, c3, rfl, o3, b3⟩
      have R3 := hid (own_rdi (o := nrTo l p (nrN l p)) (by rw [nrTo_len]; exact o3))
      have O2 := hid (own_below HO.out b3 (Nat.le_refl _))
      have B2 := hid (HBl.out.trans (b3.mono HBl.out.size))
      have hW2 := B2.out.size
      have hnl := nrTo_len l p (nrN l p)
      clear o3 b3 HO HBl NR
      rcases HGT.out with ⟨h0, hg1, hk⟩ | ⟨h0, hg1⟩
      · obtain ⟨b, off, hA3, hb, q0⟩ := int_at R3.out (j := nrN l p - 1) (by rw [hnl]; omega)
        subst hA3
        have HG1 := hid hg1
        have HM := hid (fun (k : Nat) (hk : nrN l p = k) => (show tln (gtM (txF l) l.length p) = 2 + k by rw [hg1, hk]; unfold tln tn; simp only; rw [if_pos (by omega)]; omega))
        rw [getD_at] at q0
        clear hg1 HGT hnl
        generalize (nrTo l p (nrN l p)).getD (nrN l p - 1) 0 = x at *
        generalize nrN l p = k at *
        have hki : ((k - 1 : Nat) : Int) = (k : Int) - 1 := by omega
        have dk : decide (0 < k) = true := decide_eq_true h0
        obtain ⟨k1, hk1⟩ : ∃ k1, k1 = k - 1 := ⟨_, rfl⟩
        rw [← hk1] at q0 hki
        have hk2 : k1 < k := by omega
        have hki2 : (k : Int) - 1 = (k1 : Int) := hki.symm
        clear hki hk1
        have hal := (Below.refl w2.heap.size w2).alloc (Nat.le_refl _) (.cells #[.int .i64 (2 + (k : Int)), .int .i64 x] 54)
        have Hal := hid hal
        clear hal
        go_upto_region 8 with (at_builtin; go_loud (refine wpList_app _ rfl _ _ _ rfl W.heap.size 54 i0 (.agg #[.int .i64 0, .int .i64 0]) 2 16 Tryz.underlying40 Hi0.out Hz0.out Hz1.out Hz2.out rfl (by omega) _ n c' _ rfl (O2.out.alloc _) _ _ 1 1 [.int .i64 (2 + (k : Int)), .int .i64 x] rfl (rd_one _ _ _ _ (Blk.new _ _ _)) (by simp) (by intro u hu; simp at hu; rcases hu with rfl | rfl <;> rfl) (by simp only [maxLen]; omega) (by omega) (by simp; omega) ?_); rintro A4 c4 w4 ⟨hown3, hgr3, hb3, _⟩)
        have O4 := hid (show w4.ownsRow W.heap.size 54 2 (.slice A4 (n + 1) c4) (n + 1) ((done ++ [gtM (txF l) l.length p]).flatMap encTok) by rw [HG1.out, List.flatMap_append]; exact hown3)
        have B4 := hid ((B2.out.trans (Hal.out.mono hW2)).trans hb3)
        clear hown3 hgr3 hb3 Hal B2 O2
        go_wp2
        go_roundw
        case rel => exact ⟨p + tln (gtM (txF l) l.length p), n + 1, _, A4, c4, HLN.out, by rw [HM.out k rfl]; go_num, rfl, by rw [List.length_append, ← Hn.out]; rfl, by have := tln_pos (gtM (txF l) l.length p); omega, HST, O4, B4⟩
        case measure => simp [intOf]; omega
      · have HG1 := hid hg1
        obtain ⟨bk, off, rfl, hbk, k0⟩ := byte_at (H.out.below B2.out (Nat.le_refl _)) hlt
        have hxb := getD_isB HB.out p
        unfold isB at hxb
        have hbk2 : bk < w2.heap.size := by omega
        clear hg1 HGT hnl R3
        generalize l.getD p 0 = x at *
        rw [h0]
        have hal := (Below.refl w2.heap.size w2).alloc (Nat.le_refl _) (.cells #[.int .i64 0, .int .i64 x] 54)
        have Hal := hid hal
        clear hal
        go_upto_region 10 with (at_builtin; go_loud (refine wpList_app _ rfl _ _ _ rfl W.heap.size 54 i0 (.agg #[.int .i64 0, .int .i64 0]) 2 16 Tryz.underlying40 Hi0.out Hz0.out Hz1.out Hz2.out rfl (by omega) _ n c' _ rfl (O2.out.alloc _) _ _ 1 1 [.int .i64 0, .int .i64 x] rfl (rd_one _ _ _ _ (Blk.new _ _ _)) (by simp) (by intro u hu; simp at hu; rcases hu with rfl | rfl <;> rfl) (by simp only [maxLen]; omega) (by omega) (by simp; omega) ?_); rintro A4 c4 w4 ⟨hown3, hgr3, hb3, _⟩)
        have O4 := hid (show w4.ownsRow W.heap.size 54 2 (.slice A4 (n + 1) c4) (n + 1) ((done ++ [gtM (txF l) l.length p]).flatMap encTok) by rw [HG1.out, List.flatMap_append]; exact hown3)
        have B4 := hid ((B2.out.trans (Hal.out.mono hW2)).trans hb3)
        clear hown3 hgr3 hb3 Hal B2 O2
        go_wp2
        go_roundw
        case rel => exact ⟨p + tln (gtM (txF l) l.length p), n + 1, _, A4, c4, HLN.out, by rw [HG1.out, tln_lit]; go_num, rfl, by rw [List.length_append, ← Hn.out]; rfl, by have := tln_pos (gtM (txF l) l.length p); omega, HST, O4, B4⟩
        case measure => simp [intOf]; omega
    · obtain rfl : p = l.length := by omega
      have d1 : decide ((l.length : Int) < (l.length : Int)) = false := decide_eq_false (by omega)
      rw [grA_end (Nat.le_refl _), List.append_nil] at HG
      go_wp2
      go_ret
      have e := HG.out
      have e2 := Hn.out
      subst e2
      rw [e]
      exact ⟨A', c', rfl, HO.out, HBl.out⟩
end Go.Proofs.YtoppjcmkhhkbmaaGreat

namespace Go.Proofs.YtoppjcmkhhkbmaaGreat
open Go.ChangeShapes Go.WideShapes Go.ChangeAt Go.RowKit Cd Go.Proofs.YtoppjcmkhhkbmaaGreat

def ltTo (j : Nat) : List Int := (List.range j).map fun k => fixL.getD k 0
theorem ltTo_succ (j : Nat) : ltTo (j + 1) = ltTo j ++ [fixL.getD j 0] := by unfold ltTo; rw [List.range_succ, List.map_append]; rfl
theorem ltTo_all : ltTo 288 = fixL := by decide +kernel
theorem ordL_288 : (ordL fixL).length = 288 := by decide +kernel
set_option maxRecDepth 100000 in
set_option maxHeartbeats 8000000 in
theorem lits11c_any (W : World) : Calls Tryz.prog 34 #[] W fun e w' => ∃ C c X, e = .returned (.slice C X.length c) ∧ X.length = 288 ∧ X.map CX.t = cds 0 0 (slOf fixL) ∧ CRow w' W.heap.size C c X ∧ Below W.heap.size W w' := by
  obtain ⟨i0, hi0, hz0, hz1, hz2⟩ := info_parts int_info
  have Hi0 := hid hi0
  have Hz0 := hid hz0
  have Hz1 := hid hz1
  have Hz2 := hid hz2
  clear hi0 hz0 hz1 hz2
  go_enter Tryz.func34, Tryz.ntmps34
  go_wp2_with fail
  go_loopw [1, 2] (fun o i wr => ∃ (j : Nat) (A' : Option Addr) (c' : Nat), j ≤ 288 ∧ i = .int .i64 (j : Int) ∧ o = .slice A' j c' ∧ Hid (wr.ownsRow W.heap.size 3 1 (.slice A' j c') j (intsV (ltTo j))) ∧ Hid (Below W.heap.size W wr)) (fun _ i _ => 288 - (intOf i).toNat)
  case atStart => exact ⟨0, none, 0, by omega, rfl, rfl, hid (World.ownsRow_nil _ _ _ _), hid (Below.refl _ _)⟩
  case round =>
    obtain ⟨j, A', c', hj, rfl, rfl, HO, HB⟩ := hrel
    have hWs := HB.out.size
    by_cases hlt : j < 288
    · have d1 : decide ((j : Int) < 288) = true := decide_eq_true (by omega)
      have HV := hid (fixL_at ⟨j, hlt⟩)
      rcases (show j < 144 ∨ (144 ≤ j ∧ j < 256) ∨ (256 ≤ j ∧ j < 280) ∨ 280 ≤ j by omega) with h | h | h | h
      · have e1 : decide ((144 : Int) ≤ (j : Int)) = false := decide_eq_false (by omega)
        have e2 : decide ((256 : Int) ≤ (j : Int)) = false := decide_eq_false (by omega)
        have HU := hid (show fixL.getD j 0 = 8 by have := HV.out; simp only at this; rw [this, if_pos h])
        clear HV
        have hal := (Below.refl wr.heap.size wr).alloc (Nat.le_refl _) (.cells #[.int .i64 8] 3)
        have Hal := hid hal
        clear hal
        go_wp2_with (at_builtin; (refine wpList_app _ rfl _ _ _ rfl (W.heap.size) 3 i0 (.int .i64 0) 1 8 Tryz.underlying65 Hi0.out Hz0.out Hz1.out Hz2.out rfl (by omega) A' j c' (intsV (ltTo j)) rfl (HO.out.alloc _) _ _ 1 1 ([.int .i64 8]) rfl (rd_one _ _ _ _ (Blk.new _ _ _)) (by simp) (by simp [Value.oneCell']) (by simp only [maxLen]; omega) (by omega) (by first | omega | (simp; done) | (simp; omega)) ?_; intro A4 c4 w4 ha4; have Ha4 := hid ha4; clear ha4))
        go_roundw
        case rel =>
          refine ⟨j + 1, A4, c4, by omega, by go_num, rfl, hid ?_, hid ((HB.out.trans (Hal.out.mono hWs)).trans Ha4.out.2.2.1)⟩
          have h := Ha4.out.1
          rw [ltTo_succ, HU.out]
          unfold intsV at h ⊢
          rw [List.map_append]
          exact h
        case measure => simp [intOf]; omega
      · have e1 : decide ((144 : Int) ≤ (j : Int)) = true := decide_eq_true (by omega)
        have l1 : decide ((j : Int) < 256) = true := decide_eq_true (by omega)
        have e2 : decide ((256 : Int) ≤ (j : Int)) = false := decide_eq_false (by omega)
        have HU := hid (show fixL.getD j 0 = 9 by have := HV.out; simp only at this; rw [this, if_neg (by omega), if_pos h.2])
        clear HV
        have hal := (Below.refl wr.heap.size wr).alloc (Nat.le_refl _) (.cells #[.int .i64 9] 3)
        have Hal := hid hal
        clear hal
        go_wp2_with (at_builtin; (refine wpList_app _ rfl _ _ _ rfl (W.heap.size) 3 i0 (.int .i64 0) 1 8 Tryz.underlying65 Hi0.out Hz0.out Hz1.out Hz2.out rfl (by omega) A' j c' (intsV (ltTo j)) rfl (HO.out.alloc _) _ _ 1 1 ([.int .i64 9]) rfl (rd_one _ _ _ _ (Blk.new _ _ _)) (by simp) (by simp [Value.oneCell']) (by simp only [maxLen]; omega) (by omega) (by first | omega | (simp; done) | (simp; omega)) ?_; intro A4 c4 w4 ha4; have Ha4 := hid ha4; clear ha4))
        go_roundw
        case rel =>
          refine ⟨j + 1, A4, c4, by omega, by go_num, rfl, hid ?_, hid ((HB.out.trans (Hal.out.mono hWs)).trans Ha4.out.2.2.1)⟩
          have h := Ha4.out.1
          rw [ltTo_succ, HU.out]
          unfold intsV at h ⊢
          rw [List.map_append]
          exact h
        case measure => simp [intOf]; omega
      · have e1 : decide ((144 : Int) ≤ (j : Int)) = true := decide_eq_true (by omega)
        have l1 : decide ((j : Int) < 256) = false := decide_eq_false (by omega)
        have e2 : decide ((256 : Int) ≤ (j : Int)) = true := decide_eq_true (by omega)
        have l2 : decide ((j : Int) < 280) = true := decide_eq_true (by omega)
        have HU := hid (show fixL.getD j 0 = 7 by have := HV.out; simp only at this; rw [this, if_neg (by omega), if_neg (by omega), if_pos h.2])
        clear HV
        have hal := (Below.refl wr.heap.size wr).alloc (Nat.le_refl _) (.cells #[.int .i64 7] 3)
        have Hal := hid hal
        clear hal
        go_wp2_with (at_builtin; (refine wpList_app _ rfl _ _ _ rfl (W.heap.size) 3 i0 (.int .i64 0) 1 8 Tryz.underlying65 Hi0.out Hz0.out Hz1.out Hz2.out rfl (by omega) A' j c' (intsV (ltTo j)) rfl (HO.out.alloc _) _ _ 1 1 ([.int .i64 7]) rfl (rd_one _ _ _ _ (Blk.new _ _ _)) (by simp) (by simp [Value.oneCell']) (by simp only [maxLen]; omega) (by omega) (by first | omega | (simp; done) | (simp; omega)) ?_; intro A4 c4 w4 ha4; have Ha4 := hid ha4; clear ha4))
        go_roundw
        case rel =>
          refine ⟨j + 1, A4, c4, by omega, by go_num, rfl, hid ?_, hid ((HB.out.trans (Hal.out.mono hWs)).trans Ha4.out.2.2.1)⟩
          have h := Ha4.out.1
          rw [ltTo_succ, HU.out]
          unfold intsV at h ⊢
          rw [List.map_append]
          exact h
        case measure => simp [intOf]; omega
      · have e1 : decide ((144 : Int) ≤ (j : Int)) = true := decide_eq_true (by omega)
        have l1 : decide ((j : Int) < 256) = false := decide_eq_false (by omega)
        have e2 : decide ((256 : Int) ≤ (j : Int)) = true := decide_eq_true (by omega)
        have l2 : decide ((j : Int) < 280) = false := decide_eq_false (by omega)
        have HU := hid (show fixL.getD j 0 = 8 by have := HV.out; simp only at this; rw [this, if_neg (by omega), if_neg (by omega), if_neg (by omega)])
        clear HV
        have hal := (Below.refl wr.heap.size wr).alloc (Nat.le_refl _) (.cells #[.int .i64 8] 3)
        have Hal := hid hal
        clear hal
        go_wp2_with (at_builtin; (refine wpList_app _ rfl _ _ _ rfl (W.heap.size) 3 i0 (.int .i64 0) 1 8 Tryz.underlying65 Hi0.out Hz0.out Hz1.out Hz2.out rfl (by omega) A' j c' (intsV (ltTo j)) rfl (HO.out.alloc _) _ _ 1 1 ([.int .i64 8]) rfl (rd_one _ _ _ _ (Blk.new _ _ _)) (by simp) (by simp [Value.oneCell']) (by simp only [maxLen]; omega) (by omega) (by first | omega | (simp; done) | (simp; omega)) ?_; intro A4 c4 w4 ha4; have Ha4 := hid ha4; clear ha4))
        go_roundw
        case rel =>
          refine ⟨j + 1, A4, c4, by omega, by go_num, rfl, hid ?_, hid ((HB.out.trans (Hal.out.mono hWs)).trans Ha4.out.2.2.1)⟩
          have h := Ha4.out.1
          rw [ltTo_succ, HU.out]
          unfold intsV at h ⊢
          rw [List.map_append]
          exact h
        case measure => simp [intOf]; omega
    · obtain rfl : j = 288 := by omega
      have d1 : decide ((288 : Int) < 288) = false := rfl
      have e : ltTo 288 = fixL := ltTo_all
      rw [e] at HO
      have CA := hid (show Calls Tryz.prog 73 #[.slice A' 288 c'] wr (CodesEnd (slOf fixL) wr) by
        have h := codes_any A' c' fixL wr (by unfold RdI; rw [fixL_len, intsV_eq]; exact own_rd HO.out) (by rw [fixL_len]; omega)
        rw [fixL_len] at h
        exact h)
      clear e
      go_wp2_with fail
      refine CA.out.mono ?_
      rintro e w2 ⟨C, c2, X, rfl, hX, hXt, hC, hb⟩
      go_wp2_with fail
      go_ret
      have hlen : (slOf fixL).length = 288 := by unfold slOf; rw [List.length_map]; exact ordL_288
      exact ⟨C, c2, X, by show Ending.returned (.slice C (slOf fixL).length c2) = _; rw [hX], by rw [hX, hlen], hXt, hC.base hWs, HB.out.trans (hb.mono hWs)⟩
end Go.Proofs.YtoppjcmkhhkbmaaGreat

namespace Go.Proofs.YtoppjcmkhhkbmaaGreat
open Go.RowKit

theorem rlen9_of {n : Int} {s : Nat} (hs : s ≤ 28) (h1 : ∀ i, i < s → lbase (257 + ((i + 1 : Nat) : Int)) ≤ n) (h2 : s < 28 → n < lbase (257 + ((s + 1 : Nat) : Int))) : lsN n = 257 + s := by
  unfold lsN
  rw [filter_pre _ s 28 hs fun i hi => ?_]
  rw [decide_eq_true_iff]
  constructor
  · intro h
    rcases Nat.lt_or_ge i s with h3 | h3
    · exact h3
    · exfalso
      have h4 := h2 (by omega)
      have := lbase_mono ⟨s + 1, by omega⟩ ⟨i + 1, by omega⟩ (by simp; omega)
      simp only at this
      omega
  · exact fun h => h1 i h
set_option maxRecDepth 100000 in
set_option maxHeartbeats 4000000 in
theorem rlen9_any (n : Int) (W : World) : Calls Tryz.prog 39 #[.int .i64 n] W fun e w' => e = .returned (.int .i64 (lsN n : Nat)) ∧ Below W.heap.size W w' := by
  have LA := hid (lens_any W)
  go_enter Tryz.func39, Tryz.ntmps39
  go_wp2_with fail
  refine LA.out.mono ?_
  rintro e w1 ⟨rfl, hb, _, hc, _⟩
  have HB := hid hb
  have HC := hid hc
  clear hb hc LA
  go_wp2
  go_loop [5] (fun i => ∃ s : Nat, s ≤ 28 ∧ i = .int .i64 (s : Int) ∧ Hid (∀ i, i < s → lbase (257 + ((i + 1 : Nat) : Int)) ≤ n)) (fun i => 29 - (intOf i).toNat)
  case atStart => exact ⟨0, by omega, rfl, hid (fun i h => absurd h (Nat.not_lt_zero _))⟩
  case round =>
    obtain ⟨s, hs, rfl, H1⟩ := hrel
    by_cases hl : s < 28
    · have c0 := HC.out (s + 1) (by omega)
      have p1 : (s : Int) + 1 < 29 := by omega
      have p2 : s + 1 < 29 := by omega
      obtain ⟨v, hv⟩ : ∃ v, v = lbase (257 + ((s + 1 : Nat) : Int)) := ⟨_, rfl⟩
      have c1 : w1.cell? ⟨W.heap.size, s + 1, none⟩ = some (.int .i64 v) := by rw [hv]; exact c0
      clear c0
      have HV := hid hv
      clear hv
      by_cases hle : v ≤ n
      · have HL := hid hle
        go_wp2
        go_round
        case rel =>
          refine ⟨s + 1, by omega, by go_num, hid fun i hi => ?_⟩
          rcases Nat.lt_or_ge i s with h | h
          · exact H1.out i h
          · obtain rfl : i = s := by omega
            rw [← HV.out]; exact HL.out
        case measure => simp [intOf]; omega
      · have E := hid (rlen9_of (n := n) hs H1.out (fun _ => by rw [← HV.out]; omega))
        go_wp2
        go_ret
        exact ⟨by rw [E.out]; push_cast; rfl, HB.out⟩
    · obtain rfl : s = 28 := by omega
      have E := hid (rlen9_of (n := n) hs H1.out (fun h => absurd h (Nat.lt_irrefl _)))
      go_wp2
      go_ret
      exact ⟨by rw [E.out]; rfl, HB.out⟩
theorem rdist9_of {n : Int} {s : Nat} (hs : s ≤ 29) (h1 : ∀ i, i < s → dbase ((i + 1 : Nat) : Int) ≤ n) (h2 : s < 29 → n < dbase ((s + 1 : Nat) : Int)) : dsN n = 0 + s := by
  unfold dsN
  refine (filter_pre _ s 29 hs fun i hi => ?_).trans (by omega)
  rw [decide_eq_true_iff]
  constructor
  · intro h
    rcases Nat.lt_or_ge i s with h3 | h3
    · exact h3
    · exfalso
      have h4 := h2 (by omega)
      have := dbase_mono ⟨s + 1, by omega⟩ ⟨i + 1, by omega⟩ (by simp; omega)
      simp only at this
      omega
  · exact fun h => h1 i h
set_option maxRecDepth 100000 in
set_option maxHeartbeats 4000000 in
theorem rdist9_any (n : Int) (W : World) : Calls Tryz.prog 41 #[.int .i64 n] W fun e w' => e = .returned (.int .i64 (dsN n : Nat)) ∧ Below W.heap.size W w' := by
  have LA := hid (dists_any W)
  go_enter Tryz.func41, Tryz.ntmps41
  go_wp2_with fail
  refine LA.out.mono ?_
  rintro e w1 ⟨rfl, hb, _, hc, _⟩
  have HB := hid hb
  have HC := hid hc
  clear hb hc LA
  go_wp2
  go_loop [5] (fun i => ∃ s : Nat, s ≤ 29 ∧ i = .int .i64 (s : Int) ∧ Hid (∀ i, i < s → dbase ((i + 1 : Nat) : Int) ≤ n)) (fun i => 30 - (intOf i).toNat)
  case atStart => exact ⟨0, by omega, rfl, hid (fun i h => absurd h (Nat.not_lt_zero _))⟩
  case round =>
    obtain ⟨s, hs, rfl, H1⟩ := hrel
    by_cases hl : s < 29
    · have c0 := HC.out (s + 1) (by omega)
      have p1 : (s : Int) + 1 < 30 := by omega
      have p2 : s + 1 < 30 := by omega
      obtain ⟨v, hv⟩ : ∃ v, v = dbase ((s + 1 : Nat) : Int) := ⟨_, rfl⟩
      have c1 : w1.cell? ⟨W.heap.size, s + 1, none⟩ = some (.int .i64 v) := by rw [hv]; exact c0
      clear c0
      have HV := hid hv
      clear hv
      by_cases hle : v ≤ n
      · have HL := hid hle
        go_wp2
        go_round
        case rel =>
          refine ⟨s + 1, by omega, by go_num, hid fun i hi => ?_⟩
          rcases Nat.lt_or_ge i s with h | h
          · exact H1.out i h
          · obtain rfl : i = s := by omega
            rw [← HV.out]; exact HL.out
        case measure => simp [intOf]; omega
      · have E := hid (rdist9_of (n := n) hs H1.out (fun _ => by rw [← HV.out]; omega))
        go_wp2
        go_ret
        exact ⟨by rw [E.out]; rw [Nat.zero_add]; rfl, HB.out⟩
    · obtain rfl : s = 29 := by omega
      have E := hid (rdist9_of (n := n) hs H1.out (fun h => absurd h (Nat.lt_irrefl _)))
      go_wp2
      go_ret
      exact ⟨by rw [E.out]; rfl, HB.out⟩
end Go.Proofs.YtoppjcmkhhkbmaaGreat

namespace Go.Proofs.YtoppjcmkhhkbmaaGreat
open Go.RowKit
/-- the depths that there are -/
def deepOk (d : Int) : Prop := d = 1 ∨ d = 2 ∨ d = 4 ∨ d = 8 ∨ d = 16
instance (d : Int) : Decidable (deepOk d) := by unfold deepOk; exact inferInstance
/-- the greatest number of a depth, and one -/
def pw (d : Int) : Int := if d = 1 then 2 else if d = 2 then 4 else if d = 4 then 16 else if d = 8 then 256 else 65536

end Go.Proofs.YtoppjcmkhhkbmaaGreat

namespace Go.Proofs.YtoppjcmkhhkbmaaGreat
open Go.RowKit
theorem blk_neS {w : World} {g h : Nat} {t s : TypeId} {cs ds : Array Value} (k : Blk w g t cs) (m : Blk w h s ds) (hts : t ≠ s) : g ≠ h := by
  intro e
  subst e
  unfold Blk at k m
  rw [k] at m
  injection m with m
  injection m with m1 m2
  exact hts m2
theorem BRH.store {w : World} {g gi i : Nat} {A : Option Addr} {c : Nat} {bl : List Int} {k : Nat} {cs : Array Value} {u : Value} (h : BRH w g A c bl k) (hk : Blk w gi 3 cs) : BRH (w.setCell ⟨gi, i, none⟩ u) g A c bl k :=
  ⟨h.blk.far (blk_neS h.blk hk (by decide)) u, h.row.kept (gr_set1 (World.grownBy.refl w (some gi)) i u) (.inr fun e => own_blk_ne h.row hk (by decide) e.symm), h.ok, h.len, h.at_⟩
end Go.Proofs.YtoppjcmkhhkbmaaGreat

namespace Go.Proofs.YtoppjcmkhhkbmaaGreat
open Go.RowKit

/-- digits of a number, the highest first -/
def dgB (n : Int) : Nat → List Int
  | 0 => []
  | k + 1 => (n / 2 ^ k % 2) :: dgB n k
theorem dgB_length (n : Int) : ∀ k, (dgB n k).length = k
  | 0 => rfl
  | k + 1 => by rw [dgB, List.length_cons, dgB_length n k]
theorem intsV_cellsH {l : List Int} : ∀ u ∈ intsV l, u.oneCell' = true := by intro u hu; obtain ⟨x, _, rfl⟩ := List.mem_map.1 hu; rfl
def IntsEndH (l : List Int) (W : World) (e : Ending) (w' : World) : Prop := ∃ A c, e = .returned (.slice A l.length c) ∧ w'.ownsRow W.heap.size 3 1 (.slice A l.length c) l.length (intsV l) ∧ Below W.heap.size W w'
theorem div_stepH (n : Int) (j : Nat) : n / 2 ^ j / 2 = n / 2 ^ (j + 1) := by rw [Int.ediv_ediv_of_nonneg (Int.le_of_lt (Int.pow_pos (by decide)))]; rfl
theorem own_hnilH {w : World} {base t sz n c : Nat} {A : Option Addr} {xs : List Value} (h : w.ownsRow base t sz (.slice A n c) n xs) : A = none → n = 0 := by
  rintro rfl
  rcases h.2 with ⟨_, e⟩ | ⟨g, cap, cur, e, _⟩
  · exact e
  · cases e
theorem own_oneH (w : World) (B : Nat) (hB : B ≤ w.heap.size) (v : Value) : (w.alloc (.cells #[v] 3)).ownsRow B 3 1 (.slice (some ⟨w.heap.size, 0, none⟩) 1 1) 1 [v] :=
  ⟨by simp, .inr ⟨w.heap.size, 1, #[v], rfl, hB, Blk.new w 3 _, Nat.le_refl _, by simp only [maxLen]; omega, by simp, by simp⟩⟩
set_option maxRecDepth 100000 in
set_option maxHeartbeats 4000000 in
theorem digitsH_any (n : Int) (k : Nat) (h0 : 0 ≤ n) (h1 : n < 4294967296) (hk : k ≤ 32) (W : World) : Calls Tryz.prog 40 #[.int .i64 n, .int .i64 (k : Int), .bool true] W (IntsEndH (dgB n k) W) := by
  obtain ⟨i0, hi0, hz0, hz1, hz2⟩ := info_parts int_info
  have Hi0 := hid hi0
  have Hz0 := hid hz0
  have Hz1 := hid hz1
  have Hz2 := hid hz2
  clear hi0 hz0 hz1 hz2
  go_enter Tryz.func40, Tryz.ntmps40
  go_wp2_with fail
  go_loopw [0, 7, 8] (fun v0 v7 v8 wr => ∃ (j : Nat) (A' : Option Addr) (c' : Nat), j ≤ k ∧ v0 = .int .i64 (n / 2 ^ j) ∧ v7 = .slice A' j c' ∧ v8 = .int .i64 (j : Int) ∧ Hid (wr.ownsRow W.heap.size 3 1 (.slice A' j c') j (intsV (dgB n j))) ∧ Hid (Below W.heap.size W wr)) (fun _ _ i _ => k - (intOf i).toNat)
  case atStart => exact ⟨0, none, 0, by omega, by simp, rfl, rfl, hid (World.ownsRow_nil _ _ _ _), hid (Below.refl _ _)⟩
  case round =>
    obtain ⟨j, A', c', hj, rfl, rfl, rfl, O, B⟩ := hrel
    by_cases hlt : j < k
    · have hq0 : 0 ≤ n / 2 ^ j := Int.ediv_nonneg h0 (Int.le_of_lt (Int.pow_pos (by decide)))
      have hq1 : n / 2 ^ j ≤ n := Int.ediv_le_self _ h0
      have HS := hid (div_stepH n j)
      have HD := hid (show dgB n (j + 1) = [n / 2 ^ j % 2] ++ dgB n j from rfl)
      obtain ⟨q, hq⟩ : ∃ q, q = n / 2 ^ j := ⟨_, rfl⟩
      rw [← hq] at hq0 hq1 HS HD ⊢
      have hz := B.out.size
      have tm : q.tmod 2 = q % 2 := Int.tmod_eq_emod_of_nonneg hq0
      have td : q.tdiv 2 = q / 2 := Int.tdiv_eq_ediv_of_nonneg hq0
      have N1 := hid (own_oneH wr W.heap.size hz (.int .i64 (q % 2)))
      have O1 := hid (own_rd (own_below O.out ((Below.refl wr.heap.size wr).alloc (Nat.le_refl _) (.cells #[.int .i64 (q % 2)] 3)) (Nat.le_refl _)))
      have Z1 := hid (own_hnilH O.out)
      clear hq
      go_wp2_with (at_builtin; go_loud (refine wpList_app _ rfl _ _ _ rfl (W.heap.size) 3 i0 (.int .i64 0) 1 8 Tryz.underlying65 Hi0.out Hz0.out Hz1.out Hz2.out rfl (by omega) (some ⟨wr.heap.size, 0, none⟩) 1 1 [.int .i64 (q % 2)] rfl N1.out _ A' j c' (intsV (dgB n j)) rfl O1.out Z1.out intsV_cellsH (by simp only [maxLen]; omega) (by omega) (by first | omega | (simp; omega)) ?_; intro A4 c4 w4 ha4; have Ha4 := hid ha4; clear ha4))
      obtain ⟨hown4, _, hb4, _⟩ := Ha4.out
      have e1 : 1 + j = j + 1 := Nat.add_comm 1 j
      rw [e1] at hown4
      exact ⟨⟨j + 1, A4, c4, by omega, by rw [← HS.out], by first | rfl | (rw [e1]) | (congr 1), by go_num, hid (by rw [HD.out]; unfold intsV at hown4 ⊢; rw [List.map_append]; exact hown4), hid (B.out.trans (((Below.refl _ _).alloc hz _).trans hb4))⟩, by simp [intOf]; omega⟩
    · obtain rfl : j = k := by omega
      go_wp2_with fail
      go_ret
      exact ⟨A', c', by rw [dgB_length]; rfl, by rw [dgB_length]; exact O.out, B.out⟩
end Go.Proofs.YtoppjcmkhhkbmaaGreat

namespace Go.Proofs.YtoppjcmkhhkbmaaGreat
open Go.RowKit Cd
theorem dgB_dgSQ (n : Int) (k : Nat) : dgB n k = dgS true n k := by
  refine List.ext_getElem (by rw [dgB_length, dgS_len]) fun i h1 h2 => ?_
  have e : ∀ (k i : Nat) (h : i < (dgB n k).length), (dgB n k)[i] = n / 2 ^ (k - 1 - i) % 2 := by
    intro k
    induction k with
    | zero => intro i h; simp [dgB] at h
    | succ k ih =>
      intro i h
      cases i with
      | zero => rfl
      | succ i =>
        have h2 : i < (dgB n k).length := by rw [dgB_length] at h ⊢; omega
        have e1 : (dgB n (k + 1))[i + 1] = (dgB n k)[i] := rfl
        rw [e1, ih i h2]
        congr 3
        omega
  rw [e]
  simp [dgS, pkI]
theorem cds_mem : ∀ {sl : SL} {nx la : Nat} {t : Nat × Nat × Nat}, t ∈ cds nx la sl → ∃ y ∈ sl, t.1 = y.1
  | [], _, _, _, h => by cases h
  | x :: l, nx, la, t, h => by
    rw [cds] at h
    rcases List.mem_cons.1 h with e | e
    · exact ⟨x, List.mem_cons_self, by rw [e]⟩
    · obtain ⟨y, h1, h2⟩ := cds_mem e
      exact ⟨y, List.mem_cons_of_mem _ h1, h2⟩
theorem cx_small {X : List CX} (hX : X.map CX.t = cds 0 0 (slOf fixL)) : ∀ x ∈ X, x.s ≤ 1000 := fun x hx => by
  have h1 : x.t ∈ cds 0 0 (slOf fixL) := by rw [← hX]; exact List.mem_map.2 ⟨x, hx, rfl⟩
  obtain ⟨y, h2, h3⟩ := cds_mem h1
  obtain ⟨s, h4, rfl⟩ := List.mem_map.1 h2
  have := (ordL_mem.1 h4).1
  rw [fixL_len] at this
  have h3 : x.s = s := h3
  omega
theorem find_cx {X : List CX} (hX : X.map CX.t = cds 0 0 (slOf fixL)) {s : Nat} (hs : s < 288) : ∃ x, X.find? (fun x => x.s == s) = some x ∧ x ∈ X ∧ dgH x.n x.v = cdB fixL s ∧ x.n = (cdB fixL s).length ∧ x.n ≤ 16 := by
  obtain ⟨v, h1, h2⟩ := code_find (fixL_ord hs)
  rw [← hX, List.find?_map] at h1
  obtain ⟨x, h3, h4⟩ := Option.map_eq_some_iff.1 h1
  have e : ((fun t : Nat × Nat × Nat => t.1 == s) ∘ CX.t) = fun x : CX => x.s == s := rfl
  rw [e] at h3
  have hn : x.n = lenOf fixL s := congrArg (fun t : Nat × Nat × Nat => t.2.1) h4
  have hv : x.v = v := congrArg (fun t : Nat × Nat × Nat => t.2.2) h4
  have hd : dgH x.n x.v = cdB fixL s := by rw [hn, hv]; exact h2
  refine ⟨x, h3, List.mem_of_find?_eq_some h3, hd, by rw [← hd, dgH_length], ?_⟩
  rw [hn]
  unfold lenOf
  have := fixL_at ⟨s, hs⟩
  simp only at this
  rw [this]
  split
  · decide
  · split
    · decide
    · split <;> decide
/-- what Fixed's loop holds: a row of bits, a token's box, and what was made ahead of it -/
structure FxS (W wT w : World) (g0 : Nat) (Z : Option (Nat × Int × Int)) (A : Option Addr) (n c : Nat) (R : List Int) : Prop where
  row : w.ownsRow W.heap.size 3 1 (.slice A n c) n (intsV R)
  hr : ∀ r, Value.ownBlock (.slice A n c) = some r → (r = g0 ∨ wT.heap.size ≤ r) ∧ ∀ k t, Z = some (k, t) → r ≠ k
  keep : ∀ k, g0 + 1 ≤ k → k < wT.heap.size → w.heap[k]? = wT.heap[k]?
  top : wT.heap.size ≤ w.heap.size
  below : Below W.heap.size W w
  box : ∀ k t, Z = some (k, t) → Blk w k 54 #[.int .i64 t.1, .int .i64 t.2]
section
variable {W wT w w2 w3 : World} {g0 : Nat} {Z : Option (Nat × Int × Int)} {A A' : Option Addr} {n c m c' : Nat} {R cs : List Int}
theorem FxS.low (h : FxS W wT w g0 Z A n c R) (hb : Below w.heap.size w w2) : FxS W wT w2 g0 Z A n c R :=
  ⟨own_below h.row hb (Nat.le_refl _), h.hr, fun k h1 h2 => (hb.block k (Nat.lt_of_lt_of_le h2 h.top)).trans (h.keep k h1 h2), Nat.le_trans h.top hb.size, h.below.trans (hb.mono h.below.size), fun k t e => (h.box k t e).below hb (h.box k t e).lt⟩
theorem FxS.app (h : FxS W wT w g0 Z A n c R) (ha : Apped w W.heap.size 3 1 A n c (intsV R) m (intsV cs) A' c' w3) : FxS W wT w3 g0 Z A' (n + m) c' (R ++ cs) := by
  obtain ⟨a1, a2, a3, a4⟩ := ha
  refine ⟨by unfold intsV at a1 ⊢; rw [List.map_append]; exact a1, fun r hr => ?_, fun k h1 h2 => ?_, Nat.le_trans h.top a3.size, h.below.trans a3, fun k t e => (h.box k t e).grown a2 fun e2 => ?_⟩
  · rcases a4 with e | e
    · rw [e] at hr; exact h.hr r hr
    · rw [e] at hr
      injection hr with hr
      refine ⟨.inr (by rw [← hr]; exact h.top), fun k t e2 e3 => ?_⟩
      have := (h.box k t e2).lt
      omega
  · refine (a2.block k (Nat.lt_of_lt_of_le h2 h.top) fun e => ?_).trans (h.keep k h1 h2)
    rcases (h.hr k e.symm).1 with e1 | e1 <;> omega
  · exact (h.hr k e2.symm).2 k t e rfl
theorem FxS.addbox (h : FxS W wT w g0 none A n c R) (t : Int × Int) : FxS W wT (w.alloc (.cells #[.int .i64 t.1, .int .i64 t.2] 54)) g0 (some (w.heap.size, t)) A n c R := by
  have hb := (Below.refl w.heap.size w).alloc (Nat.le_refl _) (.cells #[.int .i64 t.1, .int .i64 t.2] 54)
  have h2 := h.low hb
  refine ⟨h2.row, fun r hr => ⟨(h2.hr r hr).1, fun k t e => ?_⟩, h2.keep, h2.top, h2.below, fun k t e => ?_⟩
  · injection e with e
    injection e with e _
    have := (own_lt2 h.row hr).1
    omega
  · injection e with e
    injection e with e1 e2
    subst e1 e2
    exact Blk.new _ _ _
theorem FxS.nobox (h : FxS W wT w g0 Z A n c R) : FxS W wT w g0 none A n c R := ⟨h.row, fun r hr => ⟨(h.hr r hr).1, fun _ _ e => by cases e⟩, h.keep, h.top, h.below, fun _ _ e => by cases e⟩
/-- what was made ahead of the loop is there still -/
theorem FxS.own (h : FxS W wT w g0 Z A n c R) {b sz k : Nat} {e : TypeId} {v : Value} {xs : List Value} (ho : wT.ownsRow b e sz v k xs) (hb : g0 + 1 ≤ b) : w.ownsRow b e sz v k xs := by
  refine ⟨ho.1, ?_⟩
  rcases ho.2 with e1 | ⟨g, cap, cur, e1, e2, e3, e4⟩
  · exact .inl e1
  · exact .inr ⟨g, cap, cur, e1, e2, (h.keep g (by omega) (Array.getElem?_eq_some_iff.1 e3).1).trans e3, e4⟩
theorem FxS.cell (h : FxS W wT w g0 Z A n c R) {b k : Nat} {u : Value} (hc : wT.cell? ⟨b, k, none⟩ = some u) (hb : g0 + 1 ≤ b) : w.cell? ⟨b, k, none⟩ = some u := by
  obtain ⟨cur, t, m, h1, h2⟩ := cell_cells hc
  have h3 := (h.keep b hb (Array.getElem?_eq_some_iff.1 h1).1).trans h1
  rw [cell_of_row w b k cur t m h3]
  exact h2
theorem FxS.crow (h : FxS W wT w g0 Z A n c R) {b cc : Nat} {C : Option Addr} {X : List CX} (hC : CRow wT b C cc X) (hb : g0 + 1 ≤ b) : CRow w b C cc X := ⟨h.own hC.1 hb, fun x hx => h.own (hC.2 x hx) hb⟩
end
/-- what lies ready when Fixed's loop begins -/
structure FxT (W wT : World) (g0 tl td b1 : Nat) (C A1 : Option Addr) (cc c1 : Nat) (X : List CX) (l : List (Int × Int)) : Prop where
  codes : CRow wT (g0 + 1) C cc X
  ct : X.map CX.t = cds 0 0 (slOf fixL)
  cn : X.length = 288
  l0 : ∀ k, k < 29 → wT.cell? ⟨tl, k, none⟩ = some (.int .i64 (lbase (257 + (k : Int))))
  l1 : ∀ k, k < 29 → wT.cell? ⟨tl + 1, k, none⟩ = some (.int .i64 (lextra (257 + (k : Int))))
  d0 : ∀ k, k < 30 → wT.cell? ⟨td, k, none⟩ = some (.int .i64 (dbase (k : Int)))
  d1 : ∀ k, k < 30 → wT.cell? ⟨td + 1, k, none⟩ = some (.int .i64 (dextra (k : Int)))
  tl0 : g0 + 1 ≤ tl ∧ g0 + 1 ≤ td ∧ g0 + 1 ≤ b1
  tok : wT.ownsRow b1 54 2 (.slice A1 l.length c1) l.length (l.flatMap encTok)
  lt : tl + 1 < wT.heap.size ∧ td + 1 < wT.heap.size
def fxB (l : List (Int × Int)) (j : Nat) : List Int := [1, 1, 0] ++ (l.take j).flatMap (tokB fixL usuD)
theorem fxB_next (l : List (Int × Int)) {j : Nat} (hj : j < l.length) : fxB l (j + 1) = fxB l j ++ tokB fixL usuD l[j] := by
  unfold fxB
  rw [List.take_succ_eq_append_getElem hj, List.flatMap_append, List.flatMap_cons, List.flatMap_nil, List.append_nil, List.append_assoc]
end Go.Proofs.YtoppjcmkhhkbmaaGreat

namespace Go.Proofs.YtoppjcmkhhkbmaaGreat
open Go.ChangeShapes Go.WideShapes Go.ChangeAt Go.RowKit Go.Proofs.YtoppjcmkhhkbmaaGreat

theorem numL_byS (L : List Int) (j : Nat) : ∀ n, numL L (8 * j) n = byS false L j n
  | 0 => rfl
  | n + 1 => by rw [numL, byS, numL_byS L j n]; rfl
def pkL (L : List Int) (j : Nat) : List Int := (List.range j).map fun i => byS false L i 8
theorem pkL_len (L : List Int) (j : Nat) : (pkL L j).length = j := by simp [pkL]
theorem pkL_snoc (L : List Int) (j : Nat) : pkL L (j + 1) = pkL L j ++ [byS false L j 8] := by unfold pkL; rw [List.range_succ, List.map_append]; rfl
theorem fill_get (l : List Int) (m : Nat) (h : m < 8 * ((l.length + 7) / 8)) : (fillS false l).getD m 0 = if m < l.length then l.getD m 0 else 0 := by
  have e : fillS false l = l ++ List.replicate ((8 - l.length % 8) % 8) 0 := fillN_eq l _
  rw [e]
  by_cases hm : m < l.length
  · rw [if_pos hm, List.getD_eq_getElem?_getD, List.getElem?_append_left hm, ← List.getD_eq_getElem?_getD]
  · rw [if_neg hm, List.getD_eq_getElem?_getD, List.getElem?_append_right (by omega), List.getElem?_replicate, if_pos (by omega)]
    rfl
theorem fill_len8 (l : List Int) : (fillS false l).length = 8 * ((l.length + 7) / 8) := by
  have e : fillS false l = l ++ List.replicate ((8 - l.length % 8) % 8) 0 := fillN_eq l _
  rw [e, List.length_append, List.length_replicate]
  omega
theorem fill_bit {l : List Int} (h : ∀ x ∈ l, isBit x) : ∀ x ∈ fillS false l, isBit x := by
  have e : fillS false l = l ++ List.replicate ((8 - l.length % 8) % 8) 0 := fillN_eq l _
  rw [e]
  intro x hx
  rcases List.mem_append.1 hx with h1 | h1
  · exact h x h1
  · rw [(List.mem_replicate.1 h1).2]; exact .inl rfl
set_option maxRecDepth 100000 in
set_option maxHeartbeats 8000000 in
theorem rbytesL_any (A : Option Addr) (c : Nat) (l : List Int) (W : World) (h : RdI W W.heap.size A l) (hb : ∀ x ∈ l, isBit x) (hm : l.length ≤ 2000000) :
    Calls Tryz.prog 42 #[.slice A l.length c, .bool false] W fun e w' => ∃ A' c', e = .returned (.slice A' (pkS false (fillS false l)).length c') ∧ w'.ownsRow W.heap.size 5 1 (.slice A' (pkS false (fillS false l)).length c') (pkS false (fillS false l)).length (bytesV (pkS false (fillS false l))) ∧ Below W.heap.size W w' := by
  obtain ⟨L, hL⟩ : ∃ L, L = fillS false l := ⟨_, rfl⟩
  have HG := hid (fill_get l)
  have HL8 := hid (fill_len8 l)
  have HLb := hid (fill_bit hb)
  rw [← hL] at HG HL8 HLb ⊢
  have hpk : pkS false L = pkL L ((l.length + 7) / 8) := by
    unfold pkS pkL
    rw [HL8.out, show (8 * ((l.length + 7) / 8) + 7) / 8 = (l.length + 7) / 8 by omega]
  rw [hpk, pkL_len]
  have H := hid h
  have HLe := hid hL
  obtain ⟨n, hn⟩ : ∃ n, n = l.length := ⟨_, rfl⟩
  rw [← hn] at HG HL8 hm hpk ⊢
  have Hn := hid hn
  clear h hb hL hpk hn
  obtain ⟨i0, hi0, hz0, hz1, hz2⟩ := info_parts int_info
  have Hi0 := hid hi0
  have Hz0 := hid hz0
  have Hz1 := hid hz1
  have Hz2 := hid hz2
  clear hi0 hz0 hz1 hz2
  obtain ⟨j0, hj0, hw0, hw1, hw2⟩ := info_parts u8_info
  have Hj0 := hid hj0
  have Hw0 := hid hw0
  have Hw1 := hid hw1
  have Hw2 := hid hw2
  clear hj0 hw0 hw1 hw2
  go_enter Tryz.func42, Tryz.ntmps42
  go_wp2_with fail
  go_loopw [5, 6] (fun v i wr => ∃ (j a : Nat) (A' : Option Addr) (c' : Nat), a ≤ n + 7 ∧ j ≤ (n + 7) / 8 ∧ Hid (a = 8 * j) ∧ v = .slice A' j c' ∧ i = .int .i64 (a : Int) ∧ Hid (wr.ownsRow W.heap.size 5 1 (.slice A' j c') j (bytesV (pkL L j))) ∧ Hid (Below W.heap.size W wr)) (fun _ i _ => n + 8 - (intOf i).toNat)
  case atStart => exact ⟨0, 0, none, 0, by omega, by omega, hid rfl, rfl, rfl, hid (World.ownsRow_nil _ _ _ _), hid (Below.refl _ _)⟩
  case round =>
    obtain ⟨j, a, A', c', ha, hjn, Ha, rfl, rfl, O, B⟩ := hrel
    by_cases hlt : a < n
    · have d0 : decide ((a : Int) < (n : Int)) = true := decide_eq_true (by omega)
      have d0n : decide (a < n) = true := decide_eq_true hlt
      have hjlt : j < (n + 7) / 8 := by have := Ha.out; omega
      have haL : a + 8 ≤ L.length := by have := Ha.out; rw [HL8.out]; omega
      have HaL := hid haL
      generalize wr = w0 at *
      have hW0 := B.out.size
      go_wp2_with fail
      go_loopw [7, 8] (fun v i wx => ∃ (k m : Nat) (A1 : Option Addr) (c1 : Nat), k ≤ 8 ∧ m ≤ a + 8 ∧ Hid (m = a + k) ∧ v = .slice A1 k c1 ∧ i = .int .i64 (m : Int) ∧ Hid (wx.ownsRow w0.heap.size 3 1 (.slice A1 k c1) k (intsV ((L.drop a).take k))) ∧ Hid (Below w0.heap.size w0 wx)) (fun _ i _ => a + 8 - (intOf i).toNat)
      case atStart => exact ⟨0, a, none, 0, by omega, by omega, hid rfl, rfl, rfl, hid (World.ownsRow_nil _ _ _ _), hid (Below.refl _ _)⟩
      case round =>
        obtain ⟨k, m, A1, c1, hk, hma, Hm, rfl, rfl, O1, B1⟩ := hrel
        have hz2 := B1.out.size
        by_cases hk8 : m < a + 8
        · have e1 : decide ((m : Int) < (a : Int) + 8) = true := decide_eq_true (by omega)
          have hkk : k < 8 := by have := Hm.out; omega
          have hs : (L.drop a).take (k + 1) = (L.drop a).take k ++ [L.getD m 0] := by
            rw [List.take_succ_eq_append_getElem (by rw [List.length_drop]; have := Hm.out; have := HaL.out; omega), List.getElem_drop]
            congr 2
            rw [List.getD_eq_getElem?_getD, List.getElem?_eq_getElem (by have := HaL.out; omega)]
            exact getElem_congr_idx Hm.out.symm
          have Hs := hid hs
          have hgm := HG.out m (by have := HaL.out; rw [HL8.out] at this; omega)
          clear hs
          by_cases hmn : m < n
          · have e2 : decide ((m : Int) < (n : Int)) = true := decide_eq_true (by omega)
            have e2n : decide (m < n) = true := decide_eq_true hmn
            have hml : m < l.length := by rw [← Hn.out]; exact hmn
            rw [if_pos hmn] at hgm
            rw [hgm] at Hs
            obtain ⟨b, off, hA, hbb, hc⟩ := int_at (H.out.below (B.out.trans (B1.out.mono B.out.size)) (Nat.le_refl _)) hml
            rw [getD_at] at hc
            subst hA
            have hbw : b < wr.heap.size := by omega
            clear hgm
            generalize l.getD m 0 = y at *
            have hal := (Below.refl wr.heap.size wr).alloc (Nat.le_refl _) (.cells #[.int .i64 y] 3)
            have Hal := hid hal
            clear hal
            go_wp2_with (at_builtin; (refine wpList_app _ rfl _ _ _ rfl (w0.heap.size) 3 i0 (.int .i64 0) 1 8 Tryz.underlying65 Hi0.out Hz0.out Hz1.out Hz2.out rfl (by omega) A1 k c1 (intsV ((L.drop a).take k)) rfl (O1.out.alloc _) _ _ 1 1 ([.int .i64 y]) rfl (rd_one _ _ _ _ (Blk.new _ _ _)) (by simp) (by simp [Value.oneCell']) (by simp only [maxLen]; omega) (by omega) (by first | omega | (simp; done) | (simp; omega)) ?_; intro A6 c6 w9 ha4; have Ha4 := hid ha4; clear ha4))
            have O6 := hid (show w9.ownsRow w0.heap.size 3 1 (.slice A6 (k + 1) c6) (k + 1) (intsV ((L.drop a).take (k + 1))) from by
              have o6 := Ha4.out.1
              rw [Hs.out]
              unfold intsV at o6 ⊢
              rw [List.map_append]
              exact o6)
            have B6 := hid ((B1.out.trans (Hal.out.mono hz2)).trans Ha4.out.2.2.1)
            clear Ha4 O1 B1 Hal
            go_roundw
            case rel => exact ⟨k + 1, m + 1, A6, c6, by omega, by omega, hid (by rw [Hm.out]; omega), rfl, by go_num, O6, B6⟩
            case measure => simp [intOf]; omega
          · have e2 : decide ((m : Int) < (n : Int)) = false := decide_eq_false (by omega)
            have e2n : decide (m < n) = false := decide_eq_false hmn
            rw [if_neg hmn] at hgm
            rw [hgm] at Hs
            clear hgm
            have hal := (Below.refl wr.heap.size wr).alloc (Nat.le_refl _) (.cells #[.int .i64 0] 3)
            have Hal := hid hal
            clear hal
            go_wp2_with (at_builtin; (refine wpList_app _ rfl _ _ _ rfl (w0.heap.size) 3 i0 (.int .i64 0) 1 8 Tryz.underlying65 Hi0.out Hz0.out Hz1.out Hz2.out rfl (by omega) A1 k c1 (intsV ((L.drop a).take k)) rfl (O1.out.alloc _) _ _ 1 1 ([.int .i64 0]) rfl (rd_one _ _ _ _ (Blk.new _ _ _)) (by simp) (by simp [Value.oneCell']) (by simp only [maxLen]; omega) (by omega) (by first | omega | (simp; done) | (simp; omega)) ?_; intro A6 c6 w9 ha4; have Ha4 := hid ha4; clear ha4))
            have O6 := hid (show w9.ownsRow w0.heap.size 3 1 (.slice A6 (k + 1) c6) (k + 1) (intsV ((L.drop a).take (k + 1))) from by
              have o6 := Ha4.out.1
              rw [Hs.out]
              unfold intsV at o6 ⊢
              rw [List.map_append]
              exact o6)
            have B6 := hid ((B1.out.trans (Hal.out.mono hz2)).trans Ha4.out.2.2.1)
            clear Ha4 O1 B1 Hal
            go_roundw
            case rel => exact ⟨k + 1, m + 1, A6, c6, by omega, by omega, hid (by rw [Hm.out]; omega), rfl, by go_num, O6, B6⟩
            case measure => simp [intOf]; omega
        · obtain rfl : m = a + 8 := by omega
          have e1 : decide ((a : Int) + 8 < (a : Int) + 8) = false := decide_eq_false (by omega)
          have hk9 : k = 8 := by have := Hm.out; omega
          have hlen : ((L.drop a).take 8).length = 8 := by rw [List.length_take, List.length_drop]; have := HaL.out; omega
          subst hk9
          have NC := hid (show Calls Tryz.prog 75 #[.slice A1 8 c1, .bool false] wr fun e w' => e = .returned (.int .i64 (byS false L j 8)) ∧ w' = wr by
            have h := number_any A1 c1 ((L.drop a).take 8) wr (by unfold RdI; rw [hlen, intsV_eq]; exact own_rd O1.out) (fun y hy => HLb.out y (List.mem_of_mem_drop (List.mem_of_mem_take hy))) (by omega)
            rw [hlen, num_part L a 8 8 (Nat.le_refl _), Ha.out, numL_byS] at h
            exact h)
          have hbd := byS_B false HLb.out j 8 (Nat.le_refl _)
          have Hsn := hid (pkL_snoc L j)
          generalize byS false L j 8 = v at *
          unfold isB at hbd
          have tw : IntKind.u8.wrap v = v := by
            show v % 256 = v
            omega
          have O1b := hid (own_below O.out B1.out (Nat.le_refl _))
          have hz1 := (B.out.trans (B1.out.mono B.out.size)).size
          have hal := (Below.refl wr.heap.size wr).alloc (Nat.le_refl _) (.cells #[.int .u8 v] 5)
          have Hal := hid hal
          have hj5 : j ≤ 2000000 := by omega
          clear hlen hal
          go_wp2_with (first
            | (go_at_call 75; refine (NC.out).mono ?_; rintro e w5 ⟨rfl, rfl⟩)
            | (at_builtin; go_loud (refine wpList_app _ rfl _ _ _ rfl W.heap.size 5 j0 (.int .u8 0) 1 1 Tryz.underlying22 Hj0.out Hw0.out Hw1.out Hw2.out rfl (by omega) A' j c' _ rfl (O1b.out.alloc _) _ _ 1 1 [.int .u8 v] rfl (rd_one _ _ _ _ (Blk.new _ _ _)) (by simp) (by simp [Value.oneCell']) (by simp only [maxLen]; omega) (by omega) (by first | omega | (simp; done) | (simp; omega)) ?_; intro A6 c6 w9 ha6; have Ha6 := hid ha6; clear ha6)))
          have O6 := hid (show w9.ownsRow W.heap.size 5 1 (.slice A6 (j + 1) c6) (j + 1) (bytesV (pkL L (j + 1))) from by
            have o6 := Ha6.out.1
            rw [Hsn.out]
            unfold bytesV at o6 ⊢
            rw [List.map_append]
            exact o6)
          have B6 := hid (((B.out.trans (B1.out.mono B.out.size)).trans (Hal.out.mono hz1)).trans Ha6.out.2.2.1)
          clear Ha6 O1b O1 B1 O B Hal
          go_roundw
          case rel => exact ⟨j + 1, a + 8, A6, c6, by omega, by omega, hid (by rw [Ha.out]; omega), rfl, by go_num, O6, B6⟩
          case measure => simp [intOf]; omega
    · have d0 : decide ((a : Int) < (n : Int)) = false := decide_eq_false (by omega)
      have d0n : decide (a < n) = false := decide_eq_false hlt
      have HJ := hid (show j = (n + 7) / 8 by have := Ha.out; omega)
      go_wp2_with fail
      go_ret
      refine ⟨A', c', by show Ending.returned (.slice A' j c') = _; rw [HJ.out], ?_, B.out⟩
      rw [← HJ.out]
      exact O.out
end Go.Proofs.YtoppjcmkhhkbmaaGreat
