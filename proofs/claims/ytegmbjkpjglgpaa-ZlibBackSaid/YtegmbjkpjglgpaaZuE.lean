/-
  The reference's Unwrap.
-/
import Derived.Test.YtegmbjkpjglgpaaZuD
import Derived.Test.YtegmbjkpjglgpaaRqX
import Derived.Deep.QuietTactic
import Derived.BigQuiet
namespace Go.Proofs.Ytegmbjkpjglgpaa
open Go.RowKit

theorem refHead_same (a b : Int) (a0 : 0 ≤ a) (a1 : a ≤ 255) (b0 : 0 ≤ b) (b1 : b ≤ 255) (W : World) : Calls Try.prog 64 #[.int .u8 a, .int .u8 b] W fun e w' => e = .returned (.tuple #[.int .i64 (headN a b).1, .int .i64 (headN a b).2]) ∧ w' = W :=
  (refHead_any a b a0 a1 b0 b1 W).mono fun _ _ h => ⟨h.1, h.2.symm⟩
/-- what wrapped bytes are unwrapped to, by the reference -/
def RUz (bl : List Int) (most : Int) (W : World) (e : Ending) (w' : World) : Prop :=
  Below W.heap.size W w' ∧ match unzM bl most with
  | .error k => k ≠ 0 ∧ e = .returned (.tuple #[.slice none 0 0, .int .i64 0, .int .i64 k])
  | .ok (out, n) => ∃ A c, e = .returned (.tuple #[.slice A out.length c, .int .i64 (n : Int), .int .i64 0]) ∧ w'.ownsRow W.heap.size 5 1 (.slice A out.length c) out.length (bytesV out)
theorem ruz_err {bl : List Int} {most k : Int} {W w' : World} {e : Ending} (h : unzM bl most = .error k) (h0 : k ≠ 0) (hb : Below W.heap.size W w') (he : e = .returned (.tuple #[.slice none 0 0, .int .i64 0, .int .i64 k])) : RUz bl most W e w' := by
  refine ⟨hb, ?_⟩
  rw [h]
  exact ⟨h0, he⟩
set_option maxRecDepth 100000 in
theorem runwrap_edge (A : Option Addr) (c : Nat) (bl : List Int) (most : Int) (W : World) (h : (most < 0 ∨ 4194304 < most) ∨ bl.length < 2) :
    Calls Try.prog 32 #[.slice A bl.length c, .int .i64 most] W (RUz bl most W) := by
  by_cases hrg : most < 0 ∨ 4194304 < most
  · have HE := hid (unz_range (bl := bl) hrg)
    obtain ⟨n, hn⟩ : ∃ n, n = bl.length := ⟨_, rfl⟩
    rw [← hn]
    clear hn h
    rcases hrg with h | h
    · have d1 : decide (most < 0) = true := decide_eq_true h
      clear h
      go_enter Try.func32, Try.ntmps32
      go_wp2_with fail
      go_ret3
      exact ruz_err HE.out (by decide) (Below.refl _ _) rfl
    · have d1 : decide (most < 0) = false := decide_eq_false (by omega)
      have d2 : decide (4194304 < most) = true := decide_eq_true h
      clear h
      go_enter Try.func32, Try.ntmps32
      go_wp2_with fail
      go_ret3
      exact ruz_err HE.out (by decide) (Below.refl _ _) rfl
  · have h2 : bl.length < 2 := by omega
    have h8 : headB bl = (0, 8) := by unfold headB; rw [if_pos h2]
    have HE := hid (show unzM bl most = .error 8 by rw [unz_head hrg (by rw [h8]; decide), h8])
    have m1 : decide (most < 0) = false := decide_eq_false (by omega)
    have m2 : decide (4194304 < most) = false := decide_eq_false (by omega)
    obtain ⟨n, hn⟩ : ∃ n, n = bl.length := ⟨_, rfl⟩
    rw [← hn] at h2 ⊢
    have d1 : decide (n < 2) = true := decide_eq_true h2
    have d2 : decide ((n : Int) < 2) = true := decide_eq_true (by omega)
    clear hrg h hn h8 h2
    go_enter Try.func32, Try.ntmps32
    go_wp2_with fail
    go_ret3
    exact ruz_err HE.out (by decide) (Below.refl _ _) rfl
set_option maxRecDepth 100000 in
set_option maxHeartbeats 4000000 in
theorem runwrap_in (A : Option Addr) (c : Nat) (bl : List Int) (most : Int) (W : World) (hr : Rd W W.heap.size 1 A bl.length (bytesV bl)) (hb : ∀ x ∈ bl, isB x) (hc : bl.length ≤ c) (hA : A = none → c = 0) (hm : bl.length ≤ 10000) (h0 : 0 ≤ most) (h20 : most ≤ 20000) (h2 : 2 ≤ bl.length) :
    Calls Try.prog 32 #[.slice A bl.length c, .int .i64 most] W (RUz bl most W) := by
  have hrg : ¬ (most < 0 ∨ 4194304 < most) := by omega
  have m1 : decide (most < 0) = false := decide_eq_false (by omega)
  have m2 : decide (4194304 < most) = false := decide_eq_false (by omega)
  obtain ⟨b, off, hA1, hbb, x0⟩ := byte_at hr (j := 0) (by omega)
  obtain ⟨b', off', hA', _, x1⟩ := byte_at hr (j := 1) (by omega)
  obtain ⟨A3, c3, hs, hr3, hmc, _, hA3⟩ := slice_lo (w2 := W) (B := W.heap.size) (c := c) (n := bl.length) (A := A) bl 2 2 (bl.length - 2) rfl rfl (by omega) hc hA hr
  subst hA1
  cases hA'
  rw [Nat.add_zero] at x0
  have HE := hid (show headB bl = headN (bl.getD 0 0) (bl.getD 1 0) from by unfold headB; rw [if_neg (by omega)])
  have b0 : isB (bl.getD 0 0) := by rw [List.getD_eq_getElem?_getD, List.getElem?_eq_getElem (by omega)]; exact hb _ (List.getElem_mem _)
  have b1 : isB (bl.getD 1 0) := by rw [List.getD_eq_getElem?_getD, List.getElem?_eq_getElem (by omega)]; exact hb _ (List.getElem_mem _)
  have hld : (bl.drop 2).length = bl.length - 2 := List.length_drop
  have TA := fun w (hw : Below W.heap.size W w) => rtok_any A3 c3 (bl.drop 2) most w (by rw [hld]; exact (hr3.below hw (Nat.le_refl _)).more hw.size) (isB_drop hb 2) (by omega)
  rw [hld] at TA
  have TA' := hid TA
  have Hr := hid hr
  have Hb := hid hb
  have Hc := hid hc
  have HA := hid hA
  have Hrg := hid hrg
  obtain ⟨n, hn⟩ : ∃ n, n = bl.length := ⟨_, rfl⟩
  rw [← hn] at hs TA' Hc Hr h2 hm ⊢
  have Hn := hid hn
  obtain ⟨m, hmm⟩ : ∃ m, m = n - 2 := ⟨_, rfl⟩
  rw [← hmm] at hs TA'
  clear hmm
  generalize bl.getD 0 0 = x at *
  generalize bl.getD 1 0 = y at *
  unfold isB at b0 b1
  have RH := hid (fun w => refHead_same x y b0.1 b0.2 b1.1 b1.2 w)
  obtain ⟨win, hwin⟩ : ∃ win, win = (headN x y).1 := ⟨_, rfl⟩
  obtain ⟨bad, hbad⟩ : ∃ bad, bad = (headN x y).2 := ⟨_, rfl⟩
  rw [← hwin, ← hbad] at RH
  have Hwin := hid (show (headB bl).1 = win by rw [HE.out, hwin])
  have Hbad := hid (show (headB bl).2 = bad by rw [HE.out, hbad])
  have d1 : decide (n < 2) = false := decide_eq_false (by omega)
  have d2 : decide ((n : Int) < 2) = false := decide_eq_false (by omega)
  have hbw : b < W.heap.size := hbb
  have n0 : 0 < n := by omega
  have n1 : 1 < n := by omega
  clear hr hb hc hA TA hwin hbad hn hld hr3 hmc hA3 HE b0 b1 hrg hbb
  go_enter Try.func32, Try.ntmps32
  go_upto_region 5 with (fail)
  go_quiet ((go_at_call 64; exact Calls.quiet_of_same (RH.out _)))
  have B1 := hid (show Below W.heap.size W (W.drewN nq) from below_drewN (Below.refl _ _) nq)
  generalize W.drewN nq = w1 at *
  clear x0 x1
  by_cases hbad0 : bad = 0
  · subst hbad0
    have H0 := Hbad
    clear Hbad
    go_wp2_with fail
    refine (TA'.out w1 B1.out).mono ?_
    intro e w2 hE
    obtain ⟨hb2, hE⟩ := hE
    have B2 := hid (B1.out.trans (hb2.mono B1.out.size))
    clear hb2
    cases hi : infM (bitsL (bl.drop 2)) most with
    | error k =>
      rw [hi] at hE
      obtain ⟨hk0, rfl⟩ := hE
      have HE := hid (unz_inf Hrg.out H0.out hi)
      have e1 : (k != 0) = true := by rw [bne_iff_ne]; exact hk0
      have HK := hid hk0
      clear hi hk0
      go_wp2_with fail
      go_ret3
      exact ruz_err HE.out HK.out B2.out rfl
    | ok s2 =>
      rw [hi] at hE
      have hsn := infM_sound (bitsL_bit (bl.drop 2)) hi
      have hol := out_len s2.toks 0 [] hsn.2.2.1 (by simp) hsn.1
      have hus := (inf_behind hi).2.1
      have hus2 : (s2.k + 7) / 8 + 2 ≤ n := by rw [List.length_drop, ← Hn.out] at hus; omega
      obtain ⟨os, hos⟩ : ∃ os, os = s2.toks.foldl layTok [] := ⟨_, rfl⟩
      obtain ⟨us, hu⟩ : ∃ us, us = (s2.k + 7) / 8 := ⟨_, rfl⟩
      rw [← hu] at hus2
      rw [← hos] at hol
      obtain ⟨T, tc, heq, ho, htl⟩ := hE
      rw [← hu] at heq
      subst heq
      have hob : ∀ x ∈ os, isB x := by
        intro x hx
        rw [hos] at hx
        exact out_isB s2.toks [] hsn.2.2.2 (by simp) x hx
      have hres : expRes most s2.toks = 0 := by unfold expRes; rw [if_neg Hrg.out]; exact hsn.2.2.1
      have hout : expOut most s2.toks = os := by unfold expOut; rw [if_pos hres, hos]
      have htl2 : s2.toks.length ≤ 20000 := by omega
      have EX := hid (fun (w : World) (hr : Rd w w.heap.size 2 T s2.toks.length (s2.toks.flatMap encTok)) => refExpandB_any T tc s2.toks most w hr htl2)
      obtain ⟨no, hno⟩ : ∃ no, no = os.length := ⟨_, rfl⟩
      rw [← hno] at hol
      have HOB := hid hob
      have Hi := hid hi
      have HU := hid (show usedZ s2 = us from hu.symm)
      have HO := hid (show outZ s2 = os from hos.symm)
      have HNO := hid hno
      have HRES := hid hres
      have HOUT := hid hout
      have O2 := hid ho
      have HTL := hid htl2
      have hno2 : no ≤ 20000 := by omega
      clear hi ho hu hos hno hsn hol hus hob hres hout htl
      generalize htk : s2.toks = tks at *
      obtain ⟨nt, hnt⟩ : ∃ nt, nt = tks.length := ⟨_, rfl⟩
      rw [← hnt] at EX O2 htl2 HTL ⊢
      have HNT := hid hnt
      have HTK := hid htk
      clear hnt htk
      go_wp2_with fail
      go_loop [11] (fun i => ∃ j : Nat, j ≤ nt ∧ i = .int .i64 j ∧ farT win (tks.take j) = false) (fun i => nt - (intOf i).toNat)
      case atStart => exact ⟨0, by omega, rfl, rfl⟩
      case round =>
        obtain ⟨j, hj, rfl, hno⟩ := hrel
        have Hno := hid hno
        clear hno
        by_cases hlt : j < nt
        · have hltk : j < tks.length := by rw [← HNT.out]; exact hlt
          have q2 := own_rd O2.out
          rw [HNT.out] at q2
          obtain ⟨bt, ot, rfl, hbb, t0, t1⟩ := tok_at q2 hltk
          have Ht := hid (farT_take win tks j hltk)
          have Ha := hid (farT_at win tks j hltk)
          clear q2
          generalize tks[j] = t at *
          obtain ⟨tl, td⟩ := t
          by_cases g1 : 0 < tl
          · have f1 : decide (0 < tl) = true := decide_eq_true g1
            have G1 := hid g1
            clear g1
            by_cases g2 : win < td
            · have f2 : decide (win < td) = true := decide_eq_true g2
              have HA := hid (Ha.out (by unfold farB; rw [f1, f2]; rfl))
              have HE := hid (unz_far Hrg.out H0.out Hi.out (by rw [Hwin.out, HTK.out]; exact HA.out))
              clear g2
              go_wp2
              go_ret3
              exact ruz_err HE.out (by decide) B2.out rfl
            · have f2 : decide (win < td) = false := decide_eq_false g2
              have HA := hid (show farT win (tks.take (j + 1)) = false from by rw [Ht.out, Hno.out]; unfold farB; rw [f2]; simp)
              clear g2
              go_wp2
              go_round
              case rel => exact ⟨j + 1, by omega, by go_num, HA.out⟩
              case measure => simp [intOf]; omega
          · have f1 : decide (0 < tl) = false := decide_eq_false g1
            have HA := hid (show farT win (tks.take (j + 1)) = false from by rw [Ht.out, Hno.out]; unfold farB; rw [f1]; rfl)
            clear g1
            go_wp2
            go_round
            case rel => exact ⟨j + 1, by omega, by go_num, HA.out⟩
            case measure => simp [intOf]; omega
        · have hjn : j = nt := by omega
          have Hf := hid (show farT (headB bl).1 s2.toks = false from by rw [Hwin.out, HTK.out]; have := Hno.out; rw [hjn, HNT.out, List.take_length] at this; exact this)
          subst hjn
          clear Hno hj
          have hdl : (bl.drop (2 + us)).length = n - (2 + us) := by rw [List.length_drop, ← Hn.out]
          by_cases h4 : (bl.drop (2 + us)).length < 4
          · have HE := hid (unz_end Hrg.out H0.out Hi.out Hf.out (by rw [HU.out]; exact h4))
            have f4 : decide ((n : Int) - 2 - (us : Int) < 4) = true := decide_eq_true (by omega)
            clear h4 hdl
            go_wp2_with fail
            go_ret3
            exact ruz_err HE.out (by decide) B2.out rfl
          · have f4 : decide ((n : Int) - 2 - (us : Int) < 4) = false := decide_eq_false (by omega)
            have HE4 := hid (show ¬ (bl.drop (2 + usedZ s2)).length < 4 by rw [HU.out]; exact h4)
            obtain ⟨A4, c4, hs4, hr4, hmc4, _, hA4⟩ := slice_lo (w2 := w2) (B := W.heap.size) (c := c) (n := n) (A := some ⟨b, off, none⟩) bl (2 + (us : Int)) (2 + us) (n - (2 + us)) Hn.out.symm (by omega) (by omega) Hc.out HA.out (Hr.out.below B2.out (Nat.le_refl _))
            have TK := hid (fun (w : World) (hw : Below w2.heap.size w2 w) => rtake4_any A4 c4 (bl.drop (2 + us)) w (by rw [hdl]; exact (hr4.below hw B2.out.size).more (Nat.le_trans B2.out.size hw.size)) (isB_drop Hb.out _) (by omega) (by omega))
            rw [hdl] at TK
            have hbn := hid (show beN ((bl.drop (2 + usedZ s2)).take 4) = beN ((bl.drop (2 + us)).take 4) from by rw [HU.out])
            generalize beN ((bl.drop (2 + us)).take 4) = bs at *
            obtain ⟨m4, hm4⟩ : ∃ m4, m4 = n - (2 + us) := ⟨_, rfl⟩
            rw [← hm4] at hs4 TK
            clear hm4 h4 hdl hr4 hA4 hmc4
            go_wp2_with fail
            refine (EX.out w2 (by have := own_rd O2.out; rwa [HNT.out] at this ⊢)).mono ?_
            intro e w3 hE3
            obtain ⟨Ao, co, he3, ho3, hb3⟩ := hE3
            rw [HOUT.out, HRES.out, ← HNO.out] at he3
            rw [HOUT.out, ← HNO.out] at ho3
            subst he3
            have O3 := hid ho3
            have B3 := hid (B2.out.trans (hb3.mono B2.out.size))
            have T3 := hid (TK.out w3 hb3)
            have AD := hid (refAdler_any Ao co os w3 w3.heap.size (by rw [← HNO.out]; exact own_rd ho3) HOB.out (by rw [← HNO.out]; omega))
            rw [← HNO.out] at AD
            clear hb3 ho3 TK
            generalize had : adler os = ad at *
            have Had := hid had
            clear had
            go_wp2_with fail
            refine (T3.out).mono ?_
            rintro e w4 ⟨rfl, rfl⟩
            by_cases hq : bs = ad
            · have d1 : (bs != ad) = false := by rw [bne_eq_false_iff_eq]; exact hq
              have HE := hid (unz_ok Hrg.out H0.out Hi.out Hf.out HE4.out (by rw [hbn.out, HO.out, Had.out]; exact hq))
              clear hq
              go_wp2_with fail
              refine (AD.out).mono ?_
              rintro e w6 ⟨rfl, rfl⟩
              go_wp2_with fail
              go_ret3
              refine ⟨B3.out, ?_⟩
              rw [HE.out, HO.out, HU.out]
              refine ⟨Ao, co, ?_, ?_⟩
              · rw [← HNO.out, show ((6 + us : Nat) : Int) = 6 + (us : Int) from by omega]; rfl
              · rw [← HNO.out]
                exact own_base O3.out B2.out.size
            · have d1 : (bs != ad) = true := by rw [bne_iff_ne]; exact hq
              have HE := hid (unz_sum Hrg.out H0.out Hi.out Hf.out HE4.out (by rw [hbn.out, HO.out, Had.out]; exact hq))
              clear hq
              go_wp2_with fail
              refine (AD.out).mono ?_
              rintro e w6 ⟨rfl, rfl⟩
              go_wp2_with fail
              go_ret3
              exact ruz_err HE.out (by decide) B3.out rfl
  · have HE := hid (show unzM bl most = .error bad by rw [unz_head Hrg.out (by rw [Hbad.out]; exact hbad0), Hbad.out])
    have e1 : (bad != 0) = true := by rw [bne_iff_ne]; exact hbad0
    have HK := hid hbad0
    clear hbad0
    go_wp2_with fail
    go_ret3
    exact ruz_err HE.out HK.out B1.out rfl
theorem runwrap_any (A : Option Addr) (c : Nat) (bl : List Int) (most : Int) (W : World) (hr : Rd W W.heap.size 1 A bl.length (bytesV bl)) (hb : ∀ x ∈ bl, isB x) (hc : bl.length ≤ c) (hA : A = none → c = 0) (hm : bl.length ≤ 10000) (h20 : most ≤ 20000 ∨ 4194304 < most) :
    Calls Try.prog 32 #[.slice A bl.length c, .int .i64 most] W (RUz bl most W) := by
  by_cases h : (most < 0 ∨ 4194304 < most) ∨ bl.length < 2
  · exact runwrap_edge A c bl most W h
  · exact runwrap_in A c bl most W hr hb hc hA hm (by omega) (by omega) (by omega)
end Go.Proofs.Ytegmbjkpjglgpaa
