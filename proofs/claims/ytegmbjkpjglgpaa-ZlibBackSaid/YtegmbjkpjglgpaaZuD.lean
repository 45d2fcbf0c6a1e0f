/-
  Unwrapping as a plain function; zlib.Unwrap.
-/
import Derived.Test.YtegmbjkpjglgpaaZuA
import Derived.Test.YtegmbjkpjglgpaaStb
import Derived.Test.YtegmbjkpjglgpaaRqU
namespace Go.Proofs.Ytegmbjkpjglgpaa
open Go.RowKit

/-- the bytes that wrapped bytes are taken for by what they are packed in -/
def usedZ (s : Sk) : Nat := (s.k + 7) / 8
def outZ (s : Sk) : List Int := s.toks.foldl layTok []
def unzM (bl : List Int) (most : Int) : Except Int (List Int × Nat) :=
  if most < 0 ∨ 4194304 < most then .error 7 else
  if (headB bl).2 ≠ 0 then .error (headB bl).2 else
  match infM (bitsL (bl.drop 2)) most with
  | .error k => .error k
  | .ok s => if farT (headB bl).1 s.toks = true then .error 2 else if (bl.drop (2 + usedZ s)).length < 4 then .error 8 else
    if beN ((bl.drop (2 + usedZ s)).take 4) ≠ adler (outZ s) then .error 2 else .ok (outZ s, 6 + usedZ s)
theorem unz_range {bl : List Int} {most : Int} (h : most < 0 ∨ 4194304 < most) : unzM bl most = .error 7 := by unfold unzM; rw [if_pos h]
theorem unz_head {bl : List Int} {most : Int} (h : ¬ (most < 0 ∨ 4194304 < most)) (h1 : (headB bl).2 ≠ 0) : unzM bl most = .error (headB bl).2 := by unfold unzM; rw [if_neg h, if_pos h1]
theorem unz_inf {bl : List Int} {most k : Int} (h : ¬ (most < 0 ∨ 4194304 < most)) (h1 : (headB bl).2 = 0) (h2 : infM (bitsL (bl.drop 2)) most = .error k) : unzM bl most = .error k := by
  unfold unzM; rw [if_neg h, if_neg (by rw [h1]; decide), h2]
theorem unz_far {bl : List Int} {most : Int} {s : Sk} (h : ¬ (most < 0 ∨ 4194304 < most)) (h1 : (headB bl).2 = 0) (h2 : infM (bitsL (bl.drop 2)) most = .ok s) (h3 : farT (headB bl).1 s.toks = true) : unzM bl most = .error 2 := by
  unfold unzM; rw [if_neg h, if_neg (by rw [h1]; decide), h2]; dsimp only; rw [if_pos h3]
theorem unz_end {bl : List Int} {most : Int} {s : Sk} (h : ¬ (most < 0 ∨ 4194304 < most)) (h1 : (headB bl).2 = 0) (h2 : infM (bitsL (bl.drop 2)) most = .ok s) (h3 : farT (headB bl).1 s.toks = false)
    (h4 : (bl.drop (2 + usedZ s)).length < 4) : unzM bl most = .error 8 := by
  unfold unzM; rw [if_neg h, if_neg (by rw [h1]; decide), h2]; dsimp only; rw [if_neg (by rw [h3]; decide), if_pos h4]
theorem unz_sum {bl : List Int} {most : Int} {s : Sk} (h : ¬ (most < 0 ∨ 4194304 < most)) (h1 : (headB bl).2 = 0) (h2 : infM (bitsL (bl.drop 2)) most = .ok s) (h3 : farT (headB bl).1 s.toks = false)
    (h4 : ¬ (bl.drop (2 + usedZ s)).length < 4) (h5 : beN ((bl.drop (2 + usedZ s)).take 4) ≠ adler (outZ s)) : unzM bl most = .error 2 := by
  unfold unzM; rw [if_neg h, if_neg (by rw [h1]; decide), h2]; dsimp only; rw [if_neg (by rw [h3]; decide), if_neg h4, if_pos h5]
theorem unz_ok {bl : List Int} {most : Int} {s : Sk} (h : ¬ (most < 0 ∨ 4194304 < most)) (h1 : (headB bl).2 = 0) (h2 : infM (bitsL (bl.drop 2)) most = .ok s) (h3 : farT (headB bl).1 s.toks = false)
    (h4 : ¬ (bl.drop (2 + usedZ s)).length < 4) (h5 : beN ((bl.drop (2 + usedZ s)).take 4) = adler (outZ s)) : unzM bl most = .ok (outZ s, 6 + usedZ s) := by
  unfold unzM; rw [if_neg h, if_neg (by rw [h1]; decide), h2]; dsimp only; rw [if_neg (by rw [h3]; decide), if_neg h4, if_neg (by rw [h5]; simp)]
/-- what is unwrapped is not too much -/
theorem unz_bd (bl : List Int) (most : Int) (os : List Int) (n : Nat) (h : unzM bl most = .ok (os, n)) : os.length ≤ 4194304 := by
  unfold unzM at h
  split at h
  · cases h
  · split at h
    · cases h
    · split at h
      · cases h
      · rename_i s hi
        split at h
        · cases h
        · split at h
          · cases h
          · split at h
            · cases h
            · have hsn := infM_sound (bitsL_bit (bl.drop 2)) hi
              have hol := out_len s.toks 0 [] hsn.2.2.1 (by simp) hsn.1
              cases h
              unfold outZ
              omega
theorem headB_len {bl : List Int} (h : (headB bl).2 = 0) : 2 ≤ bl.length := by
  unfold headB at h
  split at h
  · exact absurd h (by decide)
  · omega
/-- what wrapped bytes are unwrapped to -/
def UzEnd (bl : List Int) (most : Int) (W : World) (e : Ending) (w' : World) : Prop :=
  Below W.heap.size W w' ∧ match unzM bl most with
  | .error k => e = .returned (.tuple #[.slice none 0 0, .int .i64 0, .iface 40 (.int .i64 k)])
  | .ok (out, n) => ∃ A c, e = .returned (.tuple #[.slice A out.length c, .int .i64 (n : Int), .nilIface]) ∧ w'.ownsRow W.heap.size 5 1 (.slice A out.length c) out.length (bytesV out)
theorem uz_err {bl : List Int} {most k : Int} {W w' : World} {e : Ending} (h : unzM bl most = .error k) (hb : Below W.heap.size W w') (he : e = .returned (.tuple #[.slice none 0 0, .int .i64 0, .iface 40 (.int .i64 k)])) : UzEnd bl most W e w' := by
  refine ⟨hb, ?_⟩
  rw [h]
  exact he

theorem out_isB : ∀ (l : List (Int × Int)) (out : List Int), (∀ t ∈ l, tgood t = true) → (∀ x ∈ out, isB x) → ∀ x ∈ l.foldl layTok out, isB x
  | [], out, _, h => h
  | t :: r, out, hg, h => by
    rw [List.foldl_cons]
    exact out_isB r _ (fun q hq => hg q (List.mem_cons_of_mem _ hq)) (iterB_isB (hg t (List.mem_cons_self ..)) h _)
theorem scan_len {most : Int} : ∀ (l : List (Int × Int)) (s : Int), scan most l s = 0 → s ≤ most → s + (l.length : Int) ≤ most
  | [], s, _, h2 => by simpa using h2
  | t :: r, s, h, h2 => by
    rw [scan] at h
    by_cases ht : terr most s t = 0
    · rw [if_pos ht] at h
      have h3 : s + tn t ≤ most := by
        unfold terr at ht
        split at ht
        · cases ht
        · split at ht
          · cases ht
          · split at ht
            · cases ht
            · omega
      have h4 : 1 ≤ tn t := by unfold tn; split <;> omega
      have := scan_len r (s + tn t) h h3
      rw [List.length_cons]
      omega
    · rw [if_neg ht] at h
      exact absurd h ht

set_option maxRecDepth 100000 in
set_option maxHeartbeats 4000000 in
theorem unwrap_any (A : Option Addr) (c : Nat) (bl : List Int) (most : Int) (W : World) (hr : Rd W W.heap.size 1 A bl.length (bytesV bl)) (hb : ∀ x ∈ bl, isB x) (hc : bl.length ≤ c) (hA : A = none → c = 0) (hm : bl.length ≤ 10000000) :
    Calls Try.prog 31 #[.slice A bl.length c, .int .i64 most] W (UzEnd bl most W) := by
  by_cases hrg : most < 0 ∨ 4194304 < most
  · have HE := hid (unz_range (bl := bl) hrg)
    obtain ⟨n, hn⟩ : ∃ n, n = bl.length := ⟨_, rfl⟩
    rw [← hn]
    clear hr hb hc hA hm hn
    rcases hrg with h | h
    · have d1 : decide (most < 0) = true := decide_eq_true h
      clear h
      go_enter Try.func31, Try.ntmps31
      go_wp2_with fail
      go_ret3
      exact uz_err HE.out (Below.refl _ _) rfl
    · have d1 : decide (most < 0) = false := decide_eq_false (by omega)
      have d2 : decide (4194304 < most) = true := decide_eq_true h
      clear h
      go_enter Try.func31, Try.ntmps31
      go_wp2_with fail
      go_ret3
      exact uz_err HE.out (Below.refl _ _) rfl
  · have m1 : decide (most < 0) = false := decide_eq_false (by omega)
    have m2 : decide (4194304 < most) = false := decide_eq_false (by omega)
    have Hrg := hid hrg
    clear hrg
    by_cases h0 : (headB bl).2 = 0
    · have zh : Calls Try.prog 60 #[.slice A bl.length c] W fun e w' => e = .returned (.tuple #[.int .i64 (headB bl).1, .nilIface]) ∧ ∃ n, w' = W.drewN n := by
        have := zhead_any A c bl W hr hb
        unfold errv at this
        rw [if_pos h0] at this
        exact this
      have h2 := headB_len h0
      obtain ⟨A3, c3, hs, hr3, hmc, _, hA3⟩ := slice_lo (w2 := W) (B := W.heap.size) (c := c) (n := bl.length) (A := A) bl 2 2 (bl.length - 2) rfl rfl (by omega) (by omega) hA hr
      have hld : (bl.drop 2).length = bl.length - 2 := List.length_drop
      have IA := fun w (hw : Below W.heap.size W w) => inflate_any A3 c3 (bl.drop 2) most w (by rw [hld]; exact (hr3.below hw (Nat.le_refl _)).more hw.size) hA3 (isB_drop hb 2) (by omega)
      have TA := fun w (hw : Below W.heap.size W w) => tokens_any A3 c3 (bl.drop 2) most w (by rw [hld]; exact (hr3.below hw (Nat.le_refl _)).more hw.size) hA3 (isB_drop hb 2) (by omega)
      rw [hld] at IA TA
      have H0 := hid h0
      obtain ⟨win, hwin⟩ : ∃ win, win = (headB bl).1 := ⟨_, rfl⟩
      rw [← hwin] at zh
      have Hwin := hid hwin
      have ZH := hid zh
      have IA' := hid IA
      have TA' := hid TA
      have Hr := hid hr
      have Hb := hid hb
      have Hc := hid hc
      have HA := hid hA
      obtain ⟨n, hn⟩ : ∃ n, n = bl.length := ⟨_, rfl⟩
      rw [← hn] at hs ZH IA' TA' Hc Hr h2 hm ⊢
      have Hn := hid hn
      obtain ⟨m, hmm⟩ : ∃ m, m = n - 2 := ⟨_, rfl⟩
      rw [← hmm] at hs IA' TA'
      clear hmm
      clear hr hb hc hA zh IA TA h0 hwin hn hld hr3 hmc hA3
      go_enter Try.func31, Try.ntmps31
      go_wp2_with fail
      refine (ZH.out).mono ?_
      rintro e w1 ⟨rfl, nd, hw1⟩
      have B1 := hid (show Below W.heap.size W w1 from by rw [hw1]; exact below_drewN (Below.refl _ _) nd)
      clear hw1
      go_wp2_with fail
      refine (IA'.out w1 B1.out).mono ?_
      intro e w2 hE
      obtain ⟨hb2, hE⟩ := hE
      have B2 := hid (B1.out.trans (hb2.mono B1.out.size))
      clear hb2
      cases hi : infM (bitsL (bl.drop 2)) most with
      | error k =>
        rw [hi] at hE
        subst hE
        have HE := hid (unz_inf Hrg.out H0.out hi)
        clear hi
        go_wp2_with fail
        go_ret3
        exact uz_err HE.out B2.out rfl
      | ok s2 =>
        rw [hi] at hE
        have hsn := infM_sound (bitsL_bit (bl.drop 2)) hi
        have hol := out_len s2.toks 0 [] hsn.2.2.1 (by simp) hsn.1
        have htl := scan_len s2.toks 0 hsn.2.2.1 hsn.1
        have htl2 : s2.toks.length ≤ 4194304 := by omega
        have hus := (inf_behind hi).2.1
        have hus2 : (s2.k + 7) / 8 + 2 ≤ n := by rw [List.length_drop, ← Hn.out] at hus; omega
        obtain ⟨os, hos⟩ : ∃ os, os = s2.toks.foldl layTok [] := ⟨_, rfl⟩
        obtain ⟨us, hu⟩ : ∃ us, us = (s2.k + 7) / 8 := ⟨_, rfl⟩
        rw [← hu] at hus2
        rw [← hos] at hol
        obtain ⟨no, hno⟩ : ∃ no, no = os.length := ⟨_, rfl⟩
        rw [← hno] at hol
        obtain ⟨Ao, co, heq, ho⟩ := hE
        rw [← hos, ← hu, ← hno] at heq
        rw [← hos, ← hno] at ho
        subst heq
        have hob : ∀ x ∈ os, isB x := by
          intro x hx
          rw [hos] at hx
          exact out_isB s2.toks [] hsn.2.2.2 (by simp) x hx
        have HOB := hid hob
        have Hi := hid hi
        have O2 := hid ho
        have HU := hid (show usedZ s2 = us from hu.symm)
        have HO := hid (show outZ s2 = os from hos.symm)
        have HNO := hid hno
        have hno2 : no ≤ 4194304 := by omega
        have HTL := hid htl2
        clear hi ho hu hos hno hsn hol htl hus htl2 hob
        obtain ⟨nt, hnt⟩ : ∃ nt, nt = s2.toks.length := ⟨_, rfl⟩
        have FAR := hid (fun (T : Option Addr) (tc : Nat) (w : World) (hr : Rd w w.heap.size 2 T s2.toks.length (s2.toks.flatMap encTok)) => far_any T tc s2.toks win w hr HTL.out)
        rw [← hnt] at FAR
        have HNT := hid hnt
        clear hnt
        go_wp2_with fail
        refine (TA'.out w2 B2.out).mono ?_
        intro e w3 hE3
        obtain ⟨hb3, hE3⟩ := hE3
        rw [Hi.out] at hE3
        obtain ⟨T, tc, rfl, ho3⟩ := hE3
        rw [← HNT.out] at ho3 ⊢
        have FR := hid (FAR.out T tc w3 (own_rd ho3))
        have B3 := hid (B2.out.trans (hb3.mono B2.out.size))
        have O3 := hid (own_below O2.out hb3 (Nat.le_refl _))
        clear hb3 ho3 FAR
        cases hf : farT win s2.toks with
        | true =>
          rw [hf] at FR
          have HE := hid (unz_far Hrg.out H0.out Hi.out (by rw [← Hwin.out]; exact hf))
          clear hf
          go_wp2_with fail
          refine (FR.out).mono ?_
          rintro e w4 ⟨rfl, hb4⟩
          have B4 := hid (B3.out.trans (hb4.mono B3.out.size))
          clear hb4
          go_wp2_with fail
          go_ret3
          exact uz_err HE.out B4.out rfl
        | false =>
          rw [hf] at FR
          have Hf := hid (show farT (headB bl).1 s2.toks = false by rw [← Hwin.out]; exact hf)
          clear hf
          go_wp2_with fail
          refine (FR.out).mono ?_
          rintro e w4 ⟨rfl, hb4⟩
          have B4 := hid (B3.out.trans (hb4.mono B3.out.size))
          have O4 := hid (own_below O3.out hb4 (Nat.le_refl _))
          clear hb4
          obtain ⟨A4, c4, hs4, hr4, hmc4, _, hA4⟩ := slice_lo (w2 := w4) (B := w4.heap.size) (c := c) (n := n) (A := A) bl (2 + (us : Int)) (2 + us) (n - (2 + us)) Hn.out.symm (by omega) (by omega) Hc.out HA.out ((Hr.out.below B4.out (Nat.le_refl _)).more B4.out.size)
          have hl4 : (bl.drop (2 + us)).length = n - (2 + us) := by rw [List.length_drop, ← Hn.out]
          have TK := take4_any A4 c4 (bl.drop (2 + us)) w4 (by rw [hl4]; exact hr4) (isB_drop Hb.out _) (by rw [hl4]; exact hmc4) hA4 (by rw [hl4]; omega)
          rw [hl4] at TK
          have HTK := hid TK
          have Hl4 := hid hl4
          clear TK hl4 hr4 hA4 hmc4
          obtain ⟨m4, hm4⟩ : ∃ m4, m4 = n - (2 + us) := ⟨_, rfl⟩
          rw [← hm4] at hs4 HTK Hl4
          clear hm4
          go_wp2_with fail
          refine (HTK.out).mono ?_
          intro e w5 hE5
          obtain ⟨hb5, hE5⟩ := hE5
          have B5 := hid (B4.out.trans (hb5.mono B4.out.size))
          have O5 := hid (own_below O4.out hb5 (Nat.le_refl _))
          clear hb5
          by_cases h4 : (bl.drop (2 + us)).length < 4
          · rw [if_pos h4] at hE5
            subst hE5
            have HE := hid (unz_end Hrg.out H0.out Hi.out Hf.out (by rw [HU.out]; exact h4))
            clear h4
            go_wp2_with fail
            go_ret3
            exact uz_err HE.out B5.out rfl
          · rw [if_neg h4] at hE5
            obtain ⟨A5, c5, rfl⟩ := hE5
            have H4 := hid h4
            clear h4
            have hpa : Parts (w5.alloc (.cells #[.slice Ao no co] 42)) (w5.heap.size + 1) w5.heap.size [(Ao, no, co)] [os] := by
              refine ⟨Blk.new w5 _ _, rfl, ?_⟩
              intro i s l hs hl
              match i with
              | 0 =>
                simp at hs hl
                subst hs hl
                exact ⟨HNO.out, HNO.out ▸ ((own_rd O5.out).alloc (Nat.le_refl _) _).more (by omega)⟩
              | i + 1 => simp at hs
            have AD := hid (adler_any w5.heap.size 1 [(Ao, no, co)] [os] _ _ hpa (by intro l hl; simp at hl; subst hl; exact HOB.out) (by simp) (by intro l hl; simp at hl; subst hl; have := HNO.out; omega))
            rw [show [os].flatten = os from by simp] at AD
            clear hpa
            have hbn := hid (show beN ((bl.drop (2 + usedZ s2)).take 4) = beN ((bl.drop (2 + us)).take 4) from by rw [HU.out])
            generalize beN ((bl.drop (2 + us)).take 4) = bs at *
            generalize had : adler os = ad at *
            have Had := hid had
            clear had
            by_cases hq : bs = ad
            · have d1 : (bs != ad) = false := by rw [bne_eq_false_iff_eq]; exact hq
              have Hq := hid hq
              clear hq
              go_wp2_with fail
              refine (AD.out).mono ?_
              rintro e w6 ⟨rfl, rfl⟩
              go_wp2_with fail
              go_ret3
              have HE := unz_ok Hrg.out H0.out Hi.out Hf.out (by rw [HU.out]; exact H4.out) (by rw [hbn.out, HO.out, Had.out]; exact Hq.out)
              refine ⟨B5.out.alloc B5.out.size _, ?_⟩
              rw [HE, HO.out, HU.out]
              refine ⟨Ao, co, ?_, ?_⟩
              · rw [← HNO.out, show ((6 + us : Nat) : Int) = 2 + (us : Int) + 4 from by omega]; rfl
              · rw [← HNO.out]
                exact own_base (own_below O5.out ((Below.refl _ _).alloc (Nat.le_refl _) _) (Nat.le_refl _)) B1.out.size
            · have d1 : (bs != ad) = true := by rw [bne_iff_ne]; exact hq
              have HE := hid (unz_sum Hrg.out H0.out Hi.out Hf.out (by rw [HU.out]; exact H4.out) (by rw [hbn.out, HO.out, Had.out]; exact hq))
              clear hq
              go_wp2_with fail
              refine (AD.out).mono ?_
              rintro e w6 ⟨rfl, rfl⟩
              go_wp2_with fail
              go_ret3
              exact uz_err HE.out (B5.out.alloc B5.out.size _) rfl
    · have zh : Calls Try.prog 60 #[.slice A bl.length c] W fun e w' => e = .returned (.tuple #[.int .i64 (headB bl).1, .iface 40 (.int .i64 (headB bl).2)]) ∧ ∃ n, w' = W.drewN n := by
        have := zhead_any A c bl W hr hb
        unfold errv at this
        rw [if_neg h0] at this
        exact this
      have HE := hid (unz_head Hrg.out h0)
      have ZH := hid zh
      generalize (headB bl).2 = k at *
      obtain ⟨n, hn⟩ : ∃ n, n = bl.length := ⟨_, rfl⟩
      rw [← hn] at ZH ⊢
      clear hr hb hc hA hm zh h0 hn
      go_enter Try.func31, Try.ntmps31
      go_wp2_with fail
      refine (ZH.out).mono ?_
      rintro e w1 ⟨rfl, nd, hw1⟩
      have B1 := hid (show Below W.heap.size W w1 from by rw [hw1]; exact below_drewN (Below.refl _ _) nd)
      clear hw1
      go_wp2_with fail
      go_ret3
      exact uz_err HE.out B1.out rfl
end Go.Proofs.Ytegmbjkpjglgpaa
