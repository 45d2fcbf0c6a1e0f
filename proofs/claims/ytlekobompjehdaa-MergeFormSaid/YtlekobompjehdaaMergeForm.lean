/-
  MergeForm: for every counts and longest length the law returns true: the best lengths are in form, whole, none above the longest, and 0 just where the count is 0; other arguments are refused. No condition.
-/
import Derived.Test.YtlekobompjehdaaMgL
import Derived.Test.YtlekobompjehdaaOpens
namespace Go.Proofs.Ytlekobompjehdaa.MergeForm
open Go.ChangeShapes Go.WideShapes Go.ChangeAt Go.RowKit Go.Proofs.Ytlekobompjehdaa Mg

set_option maxRecDepth 100000 in
set_option maxHeartbeats 2000000 in
theorem law_form (A : Option Addr) (c : Nat) (l : List Int) (high : Int) (W : World) (h : RdI W W.heap.size A l) (hm : l.length ≤ maxLen) (hg : goodc l 300 = false) :
    Calls Try.prog 4 #[.slice A l.length c, .int .i64 high] W fun e w' => e = .returned (.bool true) ∧ Below W.heap.size W w' := by
  have H := hid h
  have Hg := hid hg
  clear h hg
  go_enter Try.func4, Try.ntmps4
  go_wp2_with fail
  refine (alive_any _).mono ?_
  rintro e w1 ⟨rfl, hb1⟩
  have H1 := hid ((H.out.below hb1 (Nat.le_refl _)).more hb1.size)
  have B1 := hid hb1
  clear hb1
  go_wp2_with fail
  refine (lengths_form A c l high _ H1.out hm Hg.out).mono ?_
  rintro e w2 ⟨rfl, rfl⟩
  go_wp2_with fail
  refine (good_any A c l 300 _ w1.heap.size H1.out hm _ Hg.out).mono ?_
  rintro e w2 ⟨rfl, rfl⟩
  go_wp2_with fail
  refine (is_no 6 6 (by omega) _).mono ?_
  rintro e w2 ⟨rfl, rfl⟩
  go_wp2
  go_ret
  exact ⟨rfl, B1.out⟩
set_option maxRecDepth 100000 in
set_option maxHeartbeats 2000000 in
theorem law_range (A : Option Addr) (c : Nat) (l : List Int) (high : Int) (W : World) (h : RdI W W.heap.size A l) (hg : goodc l 300 = true) (hb : high < 1 ∨ 16 < high ∨ ∃ d : Nat, high = (d : Int) ∧ 1 ≤ d ∧ d ≤ 16 ∧ 2 ^ d < (itemsOf l).length) :
    Calls Try.prog 4 #[.slice A l.length c, .int .i64 high] W fun e w' => e = .returned (.bool true) ∧ Below W.heap.size W w' := by
  have H := hid h
  have Hg := hid hg
  have Hb := hid hb
  have hm := (goodc_true.1 hg).1
  clear h hg hb
  go_enter Try.func4, Try.ntmps4
  go_wp2_with fail
  refine (alive_any _).mono ?_
  rintro e w1 ⟨rfl, hb1⟩
  have H1 := hid ((H.out.below hb1 (Nat.le_refl _)).more hb1.size)
  have B1 := hid hb1
  clear hb1
  go_wp2_with fail
  refine (lengths_range A c l high _ H1.out Hg.out Hb.out).mono ?_
  rintro e w2 ⟨rfl, hb2⟩
  have H2 := hid (H1.out.below hb2 (Nat.le_refl _))
  have B2 := hid (B1.out.trans (hb2.mono B1.out.size))
  clear hb2
  go_wp2_with fail
  refine (good_any A c l 300 _ w1.heap.size H2.out (by simp only [maxLen]; omega) _ Hg.out).mono ?_
  rintro e w2 ⟨rfl, rfl⟩
  rcases Hb.out with hb | hb | ⟨d, rfl, hd1, hd2, hd3⟩
  · skip
    go_wp2_with fail
    refine (is_no 7 7 (by omega) _).mono ?_
    rintro e w3 ⟨rfl, rfl⟩
    go_wp2
    go_ret
    exact ⟨rfl, B2.out⟩
  · skip
    go_wp2_with fail
    refine (is_no 7 7 (by omega) _).mono ?_
    rintro e w3 ⟨rfl, rfl⟩
    go_wp2
    go_ret
    exact ⟨rfl, B2.out⟩
  · have hsl := shl_w hd2
    have hp := pow_le16 hd2
    generalize 2 ^ d = p at *
    go_wp2_with fail
    refine (used_any A c l _ w1.heap.size H2.out (by omega)).mono ?_
    rintro e w3 ⟨rfl, rfl⟩
    go_wp2_with fail
    refine (is_no 7 7 (by omega) _).mono ?_
    rintro e w3 ⟨rfl, rfl⟩
    go_wp2
    go_ret
    exact ⟨rfl, B2.out⟩
set_option maxRecDepth 100000 in
set_option maxHeartbeats 4000000 in
theorem law_good (A : Option Addr) (c K : Nat) (l : List Int) (W : World) (h : RdI W W.heap.size A l) (hg : goodc l 300 = true) (hk : K ≤ 15) (hK : (itemsOf l).length ≤ 2 ^ (K + 1)) :
    Calls Try.prog 4 #[.slice A l.length c, .int .i64 ((K + 1 : Nat) : Int)] W fun e w' => e = .returned (.bool true) ∧ Below W.heap.size W w' := by
  have hm := (goodc_true.1 hg).1
  have hml := itemsOf_le l
  obtain ⟨K1, hK1⟩ : ∃ K1, K1 = K + 1 := ⟨_, rfl⟩
  have hfo : ∀ s, s < l.length → bestAt (itemsOf l) K s ≤ K1 ∧ (bestAt (itemsOf l) K s = 0 ↔ ¬ 0 < l.getD s 0) ∧ ((itemsOf l).length = 1 → bestAt (itemsOf l) K s ≤ 1) := fun s hs => by
    rw [hK1]
    exact form_at hK hs
  have hfs := form_sum hK hk
  have hex : ∀ s, s < l.length → (bestLs (itemsOf l) K l.length).getD s 0 = (bestAt (itemsOf l) K s : Int) := fun s hs => bestLs_at _ _ _ hs
  have hln := bestLs_len (itemsOf l) K l.length
  have HL : Hid (∀ w, RdI w w.heap.size A l → Calls Try.prog 18 #[.slice A l.length c, .int .i64 (K1 : Int)] w fun e w' => ∃ A' c', e = .returned (.tuple #[.slice A' l.length c', .nilIface]) ∧ w'.ownsRow w.heap.size 3 1 (.slice A' l.length c') l.length (intsV (bestLs (itemsOf l) K l.length)) ∧ Below w.heap.size w w') := hid (fun w hw => by
    rw [hK1]
    exact lengths_best A c l w K hw hg hk hK)
  have H := hid h
  have Hg := hid hg
  have hsl := shl_w (d := K1) (by omega)
  have hp := pow_le16 (d := K1) (by omega)
  have hK' : (itemsOf l).length ≤ 2 ^ K1 := by rw [hK1]; exact hK
  have hk1 : 1 ≤ K1 := by omega
  have hk2 : K1 ≤ 16 := by omega
  have Hs : Hid (SN l.length (tk (bestLs (itemsOf l) K l.length)) = if 2 ≤ (itemsOf l).length then 65536 else if (itemsOf l).length = 1 then 32768 else 0) := hid (by
    rw [← hfs]
    refine SN_congr fun s hs => ?_
    unfold tk
    rw [hex s hs]
    by_cases h0 : 0 < bestAt (itemsOf l) K s
    · rw [if_pos h0, if_pos (by omega), Int.toNat_natCast]
    · rw [if_neg h0, if_neg (by omega)])
  rw [← hK1]
  have Hfo := hid hfo
  have Hex := hid hex
  have Hln := hid hln
  obtain ⟨m, hme⟩ : ∃ m, m = (itemsOf l).length := ⟨_, rfl⟩
  rw [← hme] at Hs Hfo hK' hml
  have HU : Hid (∀ w, RdI w w.heap.size A l → Calls Try.prog 16 #[.slice A l.length c] w fun e w' => e = .returned (.int .i64 (m : Nat)) ∧ w = w') := hid (fun w hw => by
    rw [hme]
    exact used_any A c l w _ hw (by omega))
  generalize bestLs (itemsOf l) K l.length = M at *
  generalize bestAt (itemsOf l) K = f at *
  clear h hg hk hK hfs hex hln hK1 hfo hme
  generalize 2 ^ K1 = p at *
  have g1 : decide ((K1 : Int) < 1) = false := decide_eq_false (by omega)
  have g2 : decide ((16 : Int) < K1) = false := decide_eq_false (by omega)
  have g3 : decide (p < m) = false := decide_eq_false (by omega)
  go_enter Try.func4, Try.ntmps4
  go_wp2_with fail
  refine (alive_any _).mono ?_
  rintro e w1 ⟨rfl, hb1⟩
  have H1 := hid ((H.out.below hb1 (Nat.le_refl _)).more hb1.size)
  have B1 := hid hb1
  clear hb1
  go_wp2_with fail
  refine (HL.out _ H1.out).mono ?_
  rintro e w2 ⟨A2, c2, rfl, ho2, hb2⟩
  have H2 := hid ((H1.out.below hb2 (Nat.le_refl _)).more hb2.size)
  have B2 := hid (B1.out.trans (hb2.mono B1.out.size))
  have O2 := hid (own_rdi' ho2 Hln.out.symm)
  clear hb2 ho2
  go_wp2_with fail
  refine (good_any A c l 300 _ w2.heap.size H2.out (by simp only [maxLen]; omega) _ Hg.out).mono ?_
  rintro e w3 ⟨rfl, rfl⟩
  go_wp2_with fail
  refine (HU.out _ H2.out).mono ?_
  rintro e w3 ⟨rfl, rfl⟩
  go_upto_region 11 with (fail)
  rw [hsl]
  go_loop [63] (fun i => ∃ j : Nat, j ≤ l.length ∧ i = .int .i64 j) (fun i => l.length - (intOf i).toNat)
  case atStart => exact ⟨0, by omega, rfl⟩
  case round =>
    obtain ⟨j, hj, rfl⟩ := hrel
    by_cases hlt : j < l.length
    · have d1 : decide (j < l.length) = true := decide_eq_true hlt
      obtain ⟨b, off, rfl, hb, x0⟩ := int_at H2.out hlt
      have hltM : j < M.length := by rw [Hln.out]; exact hlt
      obtain ⟨b2, off2, rfl, hb2, y0⟩ := int_at O2.out hltM
      have hv := Hfo.out j hlt
      have ev := Hex.out j hlt
      rw [List.getD_eq_getElem?_getD, List.getElem?_eq_getElem hltM] at ev
      simp only [Option.getD_some] at ev
      rw [ev] at y0
      rw [List.getD_eq_getElem?_getD, List.getElem?_eq_getElem hlt] at hv
      simp only [Option.getD_some] at hv
      have hx0 : 0 ≤ l[j] := by
        have := (good_at Hg.out hlt).1
        rw [List.getD_eq_getElem?_getD, List.getElem?_eq_getElem hlt] at this
        exact this
      generalize f j = v at *
      generalize l[j] = x at *
      clear ev
      have f1 : decide ((v : Int) < 0) = false := decide_eq_false (by omega)
      have f2 : decide (K1 < v) = false := decide_eq_false (by omega)
      have Hv3 := hid hv.2.2
      obtain ⟨f3, f4⟩ : ((v : Int) == 0) = (x == 0) ∧ v ≤ K1 := by
        refine ⟨?_, hv.1⟩
        by_cases h0 : v = 0
        · have h1 : x = 0 := by omega
          rw [h0, h1]
          rfl
        · rw [beq_eq_false_iff_ne.2 (by omega), beq_eq_false_iff_ne.2 (show x ≠ 0 by omega)]
      clear hv hx0
      go_wp2_with fail
      refine (HU.out _ H2.out).mono ?_
      rintro e w3 ⟨rfl, rfl⟩
      by_cases h1 : m = 1
      · have hv1 := Hv3.out h1
        have f5 : decide (1 < v) = false := decide_eq_false (by omega)
        have f6 : ((m : Int) == 1) = true := by rw [h1]; rfl
        clear h1
        go_wp2
        go_round
        case rel => exact ⟨j + 1, by omega, by go_num⟩
        case measure => simp [intOf]; omega
      · have f6 : ((m : Int) == 1) = false := beq_eq_false_iff_ne.2 (by omega)
        clear h1
        go_wp2
        go_round
        case rel => exact ⟨j + 1, by omega, by go_num⟩
        case measure => simp [intOf]; omega
    · have d1 : decide (j < l.length) = false := decide_eq_false hlt
      obtain rfl : j = l.length := by omega
      have F := free_any A2 c2 M _ w2.heap.size O2.out (by rw [Hln.out]; omega) (fun s hs => by
        rw [Hln.out] at hs
        rw [Hex.out s hs]
        have := (Hfo.out s hs).1
        omega)
      have hM := Hln.out
      rw [hM, Hs.out] at F
      have F := hid F
      clear hM
      by_cases h2 : 2 ≤ m
      · rw [if_pos h2] at F
        go_wp2_with fail
        refine (F.out).mono ?_
        rintro e w3 ⟨rfl, rfl⟩
        go_wp2_with fail
        refine (HU.out _ H2.out).mono ?_
        rintro e w3 ⟨rfl, rfl⟩
        go_wp2
        go_ret
        exact ⟨ret_bool (decide_eq_true (by omega)), B2.out⟩
      · rw [if_neg h2] at F
        by_cases h1 : m = 1
        · rw [if_pos h1] at F
          go_wp2_with fail
          refine (F.out).mono ?_
          rintro e w3 ⟨rfl, rfl⟩
          go_wp2_with fail
          refine (HU.out _ H2.out).mono ?_
          rintro e w3 ⟨rfl, rfl⟩
          go_wp2
          go_ret
          exact ⟨rfl, B2.out⟩
        · rw [if_neg h1] at F
          go_wp2_with fail
          refine (F.out).mono ?_
          rintro e w3 ⟨rfl, rfl⟩
          go_wp2_with fail
          refine (HU.out _ H2.out).mono ?_
          rintro e w3 ⟨rfl, rfl⟩
          go_wp2
          go_ret
          exact ⟨ret_bool (by simp; omega), B2.out⟩
theorem law_any (A : Option Addr) (c : Nat) (l : List Int) (high : Int) (W : World) (h : RdI W W.heap.size A l) (hm : l.length ≤ maxLen) :
    Calls Try.prog 4 #[.slice A l.length c, .int .i64 high] W fun e w' => e = .returned (.bool true) ∧ Below W.heap.size W w' := by
  cases hg : goodc l 300
  · exact law_form A c l high W h hm hg
  · by_cases hb : high < 1 ∨ 16 < high ∨ ∃ d : Nat, high = (d : Int) ∧ 1 ≤ d ∧ d ≤ 16 ∧ 2 ^ d < (itemsOf l).length
    · exact law_range A c l high W h hg hb
    · obtain ⟨K, hK⟩ : ∃ K : Nat, high = ((K + 1 : Nat) : Int) := ⟨(high - 1).toNat, by omega⟩
      have hk : K ≤ 15 := by omega
      have hp : (itemsOf l).length ≤ 2 ^ (K + 1) := by
        apply Decidable.byContradiction
        intro hn
        exact hb (.inr (.inr ⟨K + 1, hK, by omega, by omega, by omega⟩))
      rw [hK]
      exact law_good A c K l W h hg hk hp
set_option maxRecDepth 100000 in
theorem lifted (os : Os) (started : os.Started) (H : Type) (enc : TypeId × Value → H) :
    ReturnsInHanded {} Try.checked os 4 .any (Rows.mergeFormSpec.pre6 enc Try.prog Try.f4 Rows.mergeFormRow.domain false) (Rows.mergeFormSpec.post enc Try.prog Try.f4 false true false false) :=
  law_lifted own laidOut started (by kernel_rfl) Try.func4 rfl rfl Try.underlying4
    (by rw [Try.params4]; intro t ht; simp at ht; rcases ht with rfl | rfl <;> exact ⟨by kernel_rfl, of_decide_eq_true (by kernel_rfl)⟩)
    (by
      intro ds h
      match ds, h with
      | [_, _], _ => exact ⟨rfl, rfl, rfl⟩)
    (ChangeSpec.witness6 (enc := enc) (C := Try.checked) false ⟨#[], #[.slice none 0 0, .int .i64 0], []⟩ 8 (by kernel_rfl) (by kernel_rfl) (by kernel_rfl) (by kernel_rfl))
    (by
      intro W base args ds ps hval0 hA0
      have hval : ∀ (j : Nat) t v, Try.f4.params[j]? = some t → args[j]? = some v → Value.okWide Try.prog W .any base t v := hval0
      have hA : DataW.TrodAll enc Try.prog W 0 (fun _ => true) true Try.f4.params.toList args.toList ds ps := hA0
      clear hval0 hA0
      rw [Try.params4] at hA hval
      obtain ⟨v0, vs0, d0, ds0, p0, q0, hargs, rfl, rfl, h0, r0⟩ := trodAll_cons hA
      obtain ⟨v1, vs1, d1, ds1, p1, q1, rfl, rfl, rfl, h1, r1⟩ := trodAll_cons r0
      obtain ⟨rfl, rfl, rfl⟩ := trodAll_nil r1
      obtain rfl : args = #[v0, v1] := by cases args; simp_all
      obtain ⟨A0, c0, l0, rfl, hc0, hm0, hok0, hr0⟩ := open_ints' (hval 0 22 v0 rfl rfl) h0
      obtain ⟨a1, rfl, rfl, rfl, w1⟩ := open_int Try.underlying3 (hval 1 3 v1 rfl rfl) h1
      exact law_any A0 c0 l0 a1 _ hr0 (Nat.le_trans hc0 hm0))

theorem over : Rows.mergeFormRow.holds Try.pinned (OpenSpec.ofChange Rows.mergeFormSpec) :=
  OpenClaim.holds_of_wide 4 Try.f4 rfl rfl rfl rfl rfl rfl rfl ⟨rfl, rfl, rfl, rfl, rfl⟩ rfl rfl rfl rfl rfl (by kernel_rfl) Try.func4 (by kernel_rfl)
    (of_decide_eq_true (by kernel_rfl)) (by unfold Func.isWrapper; first | (rw [if_pos (by decide +kernel)]; kernel_rfl) | (rw [if_neg (by decide +kernel)]; exact ⟨rfl, rfl⟩))
    (fun os started H enc _ => lifted os started H enc)

theorem proved : Rows.MergeFormSaid := over
#print axioms proved
end Go.Proofs.Ytlekobompjehdaa.MergeForm
