/-
  MergeBest: for every counts and longest length the law returns true: no lengths in form cost less than the best ones, and the arguments are left alone. No condition.
-/
import Derived.Test.YtlekobompjehdaaCost5
import Derived.Test.YtlekobompjehdaaKeptI
import Derived.Test.YtlekobompjehdaaOpens
namespace Go.Proofs.Ytlekobompjehdaa.MergeBest
open Go.ChangeShapes Go.WideShapes Go.ChangeAt Go.RowKit Go.Proofs.Ytlekobompjehdaa Mg

set_option maxRecDepth 100000 in
set_option maxHeartbeats 2000000 in
theorem law_idle (A : Option Addr) (c : Nat) (l : List Int) (high : Int) (W : World) (h : RdI W W.heap.size A l) (hm : l.length ≤ maxLen) (hg : goodc l 300 = false ∨ (goodc l 300 = true ∧ (40 < (itemsOf l).length ∨ high < 1 ∨ 16 < high))) :
    Calls Try.prog 3 #[.slice A l.length c, .int .i64 high] W fun e w' => e = .returned (.bool true) ∧ Below W.heap.size W w' := by
  have H := hid h
  clear h
  rcases hg with hg | ⟨hg, hh⟩
  · have Hg := hid hg
    clear hg
    go_enter Try.func3, Try.ntmps3
    go_wp2_with fail
    refine (alive_any _).mono ?_
    rintro e w1 ⟨rfl, hb1⟩
    have H1 := hid ((H.out.below hb1 (Nat.le_refl _)).more hb1.size)
    have B1 := hid hb1
    clear hb1
    go_wp2_with fail
    refine (good_any A c l 300 _ w1.heap.size H1.out hm _ Hg.out).mono ?_
    rintro e w2 ⟨rfl, rfl⟩
    go_wp2
    go_ret
    exact ⟨rfl, B1.out⟩
  · have Hg := hid hg
    have hm3 := (goodc_true.1 hg).1
    clear hg hm
    generalize hn : (itemsOf l).length = n at *
    have Hn := hid hn
    clear hn
    go_enter Try.func3, Try.ntmps3
    go_wp2_with fail
    refine (alive_any _).mono ?_
    rintro e w1 ⟨rfl, hb1⟩
    have H1 := hid ((H.out.below hb1 (Nat.le_refl _)).more hb1.size)
    have B1 := hid hb1
    clear hb1
    go_wp2_with fail
    refine (good_any A c l 300 _ w1.heap.size H1.out (by simp only [maxLen]; omega) _ Hg.out).mono ?_
    rintro e w2 ⟨rfl, rfl⟩
    go_wp2_with fail
    refine (used_any A c l _ w1.heap.size H1.out (by omega)).mono ?_
    rintro e w2 ⟨rfl, rfl⟩
    rw [Hn.out]
    by_cases h1 : 40 < n
    · have d1 : decide (40 < n) = true := decide_eq_true h1
      have d2 : decide ((40 : Int) < (n : Int)) = true := decide_eq_true (by omega)
      clear hh h1
      go_wp2
      go_ret
      exact ⟨rfl, B1.out⟩
    · have d1 : decide (40 < n) = false := decide_eq_false h1
      have d2 : decide ((40 : Int) < (n : Int)) = false := decide_eq_false (by omega)
      by_cases h2 : high < 1
      · have d3 : decide (high < 1) = true := decide_eq_true h2
        clear hh h1 h2
        go_wp2
        go_ret
        exact ⟨rfl, B1.out⟩
      · have d3 : decide (high < 1) = false := decide_eq_false h2
        have d4 : decide (16 < high) = true := decide_eq_true (by omega)
        clear hh h1 h2
        go_wp2
        go_ret
        exact ⟨rfl, B1.out⟩
set_option maxRecDepth 100000 in
set_option maxHeartbeats 4000000 in
theorem law_works (A : Option Addr) (c K : Nat) (l : List Int) (W : World) (h : RdI W W.heap.size A l) (hg : goodc l 300 = true) (hn : (itemsOf l).length ≤ 40) (hk : K ≤ 15) :
    Calls Try.prog 3 #[.slice A l.length c, .int .i64 ((K + 1 : Nat) : Int)] W fun e w' => e = .returned (.bool true) ∧ Below W.heap.size W w' := by
  have H := hid h
  have Hg := hid hg
  have hm := (goodc_true.1 hg).1
  obtain ⟨n, hne⟩ : ∃ n, n = (itemsOf l).length := ⟨_, rfl⟩
  rw [← hne] at hn
  have Hn := hid hne
  obtain ⟨K1, hK1⟩ : ∃ K1, K1 = K + 1 := ⟨_, rfl⟩
  rw [← hK1]
  have HK := hid hK1
  have hk1 : 1 ≤ K1 := by omega
  have hk2 : K1 ≤ 16 := by omega
  have hsl := shl_w (d := K1) hk2
  have hp := pow_le16 (d := K1) hk2
  obtain ⟨p, hpe⟩ : ∃ p, p = 2 ^ K1 := ⟨_, rfl⟩
  rw [← hpe] at hsl hp
  have Hp := hid hpe
  have g1 : decide ((K1 : Int) < 1) = false := decide_eq_false (by omega)
  have g2 : decide ((16 : Int) < K1) = false := decide_eq_false (by omega)
  have g3 : decide (40 < n) = false := decide_eq_false (by omega)
  have hnil : A = none → l.length = 0 := fun hA => by
    rcases Nat.eq_zero_or_pos l.length with h0 | h0
    · exact h0
    · obtain ⟨b, off, e, _⟩ := int_at h h0
      rw [hA] at e
      cases e
  clear h hg hk hne hK1 hpe
  go_enter Try.func3, Try.ntmps3
  go_wp2_with fail
  refine (alive_any _).mono ?_
  rintro e w1 ⟨rfl, hb1⟩
  have H1 := hid ((H.out.below hb1 (Nat.le_refl _)).more hb1.size)
  have B1 := hid hb1
  clear hb1 H
  go_wp2_with fail
  refine (good_any A c l 300 _ w1.heap.size H1.out (by simp only [maxLen]; omega) _ Hg.out).mono ?_
  rintro e w2 ⟨rfl, rfl⟩
  go_wp2_with fail
  refine (used_any A c l _ w1.heap.size H1.out (by omega)).mono ?_
  rintro e w2 ⟨rfl, rfl⟩
  rw [← Hn.out]
  go_wp2_with fail
  refine (copyInts_any A c l _ H1.out hnil (by omega)).mono ?_
  rintro e w2 ⟨rfl, hC, hb2⟩
  obtain ⟨gc, hgc⟩ : ∃ gc, gc = w1.heap.size := ⟨_, rfl⟩
  rw [← hgc] at hC ⊢
  have C2 := hid hC
  have R2 := hid ((copied_rdi hC).more (B' := w2.heap.size) (by have := hC.lt; omega))
  have H2 := hid ((H1.out.below hb2 (Nat.le_refl _)).more hb2.size)
  have B2 := hid (B1.out.trans (hb2.mono B1.out.size))
  clear hC hb2 B1 H1 hgc
  by_cases hpn : p < n
  · have g4 : decide (p < n) = true := decide_eq_true hpn
    have hcl : Calls Try.prog 18 #[.slice (some ⟨gc, 0, none⟩) l.length (l.length + 1), .int .i64 (K1 : Int)] w2 _ := lengths_range (some ⟨gc, 0, none⟩) (l.length + 1) l K1 w2 R2.out Hg.out (.inr (.inr ⟨K1, rfl, hk1, hk2, by rw [← Hp.out, ← Hn.out]; exact hpn⟩))
    have Hcl := hid hcl
    clear hcl hpn
    go_wp2_with fail
    refine (Hcl.out).mono ?_
    rintro e w3 ⟨rfl, hb3⟩
    have C3 := hid (C2.out.below hb3 C2.out.lt)
    have H3 := hid ((H2.out.below hb3 (Nat.le_refl _)).more hb3.size)
    have B3 := hid (B2.out.trans (hb3.mono B2.out.size))
    clear hb3 C2 H2 B2 R2
    go_wp2_with fail
    refine (keptInts_any A c gc l _ _ C3.out H3.out (by omega)).mono ?_
    rintro e w4 ⟨rfl, nq, rfl⟩
    have H4 := hid (H3.out.drewN nq)
    have B4 := hid (below_drewN B3.out nq)
    generalize w3.drewN nq = w4 at *
    go_wp2_with fail
    refine (used_any A c l _ _ H4.out (by omega)).mono ?_
    rintro e w5 ⟨rfl, rfl⟩
    rw [← Hn.out]
    go_wp2_with fail
    refine (is_no 7 7 (by omega) _).mono ?_
    rintro e w5 ⟨rfl, rfl⟩
    go_wp2
    go_ret
    exact ⟨rfl, B4.out⟩
  · have g4 : decide (p < n) = false := decide_eq_false hpn
    have Hnp := hid (show (itemsOf l).length ≤ 2 ^ (K + 1) by rw [← Hn.out, ← HK.out, ← Hp.out]; omega)
    have hcl := lengths_best (some ⟨gc, 0, none⟩) (l.length + 1) l w2 K R2.out Hg.out (by have := HK.out; omega) Hnp.out
    rw [← HK.out] at hcl
    have Hcl := hid hcl
    have Hcost := hid (best_cost Hg.out Hnp.out)
    have Hln := hid (bestLs_len (itemsOf l) K l.length)
    have Hbl := hid (show (bestLs (itemsOf l) K l.length).any badl = false from List.any_eq_false.2 (fun x hx => by
      unfold bestLs at hx
      obtain ⟨s, hs, rfl⟩ := List.mem_map.1 hx
      have := (form_at Hnp.out (List.mem_range.1 hs)).1
      have hK9 := HK.out
      have := (badl_false (n := (bestAt (itemsOf l) K s : Int))).2 ⟨by omega, by omega⟩
      simp [this]))
    generalize bestLs (itemsOf l) K l.length = M at *
    clear hcl hpn
    go_wp2_with fail
    refine (Hcl.out).mono ?_
    rintro e w3 ⟨A3, c3, rfl, ho3, hb3⟩
    have C3 := hid (C2.out.below hb3 C2.out.lt)
    have H3 := hid ((H2.out.below hb3 (Nat.le_refl _)).more hb3.size)
    have B3 := hid (B2.out.trans (hb3.mono B2.out.size))
    have M3 := hid (own_rdi' ho3 Hln.out.symm)
    clear hb3 C2 H2 B2 R2 ho3
    go_wp2_with fail
    refine (keptInts_any A c gc l _ _ C3.out H3.out (by omega)).mono ?_
    rintro e w4 ⟨rfl, nq, rfl⟩
    have H4 := hid (H3.out.drewN nq)
    have M4 := hid (M3.out.drewN nq)
    have B4 := hid (below_drewN B3.out nq)
    have hs4 : (w3.drewN nq).heap.size = w3.heap.size := rfl
    rw [← hs4] at H4 M4
    generalize w3.drewN nq = w4 at *
    clear hs4 H3 M3 B3 C3
    go_wp2_with fail
    refine (used_any A c l _ _ H4.out (by omega)).mono ?_
    rintro e w5 ⟨rfl, rfl⟩
    rw [← Hn.out]
    have hcc := fun w' hw1 hw2 => lawcost_any A A3 c c3 l M w' w4.heap.size hw1 hw2 Hln.out.symm (by omega) (goodc_true.1 Hg.out).2 Hbl.out
    rw [Hln.out] at hcc
    have Hcc := hid hcc
    clear hcc
    go_wp2_with fail
    refine (Hcc.out w4 H4.out M4.out).mono ?_
    rintro e w5 ⟨rfl, nr, rfl⟩
    have H5 := hid (H4.out.drewN nr)
    have B5 := hid (below_drewN B4.out nr)
    have hs5 : (w4.drewN nr).heap.size = w4.heap.size := rfl
    rw [← hs5] at H5
    generalize w4.drewN nr = w5 at *
    clear hs5 H4 M4 B4
    go_wp2_with fail
    refine (usedref_any A c l _ H5.out (by omega)).mono ?_
    rintro e w6 ⟨A6, c6, rfl, ho6, hb6⟩
    have D6 := hid (own_rdi' ho6 rfl)
    have B6 := hid (B5.out.trans (hb6.mono B5.out.size))
    have hdl : (dsc (itemsOf l)).length ≤ 60 := by rw [dsc_len, ← Hn.out]; omega
    have Hdb := hid (show ∀ x ∈ dsc (itemsOf l), 0 ≤ x ∧ x ≤ 1099511627776 from fun x hx => by
      unfold dsc at hx
      obtain ⟨y, hy, rfl⟩ := List.mem_map.1 (List.mem_reverse.1 hx)
      obtain ⟨s, h1, _, rfl⟩ := items_mem l _ y ((isort_perm (itemsTo l l.length)).mem_iff.1 hy)
      exact good_at Hg.out h1)
    rw [Hcost.out]
    clear ho6 hb6 B5 H5
    rw [← HK.out]
    generalize dsc (itemsOf l) = dd at *
    go_wp2_with fail
    refine (bestref_all A6 c6 K1 dd _ D6.out hdl hk2 Hdb.out).mono ?_
    rintro e w7 ⟨rfl, hb7⟩
    have B7 := hid (B6.out.trans (hb7.mono B6.out.size))
    clear hb7
    generalize bestFn dd K1 = z at *
    go_wp2
    go_ret
    exact ⟨ret_bool (by simp), B7.out⟩
theorem law_any (A : Option Addr) (c : Nat) (l : List Int) (high : Int) (W : World) (h : RdI W W.heap.size A l) (hm : l.length ≤ maxLen) :
    Calls Try.prog 3 #[.slice A l.length c, .int .i64 high] W fun e w' => e = .returned (.bool true) ∧ Below W.heap.size W w' := by
  cases hg : goodc l 300
  · exact law_idle A c l high W h hm (.inl hg)
  · by_cases hb : 40 < (itemsOf l).length ∨ high < 1 ∨ 16 < high
    · exact law_idle A c l high W h hm (.inr ⟨hg, hb⟩)
    · obtain ⟨K, hK⟩ : ∃ K : Nat, high = ((K + 1 : Nat) : Int) := ⟨(high - 1).toNat, by omega⟩
      rw [hK]
      exact law_works A c K l W h hg (by omega) (by omega)
set_option maxRecDepth 100000 in
theorem lifted (os : Os) (started : os.Started) (H : Type) (enc : TypeId × Value → H) :
    ReturnsInHanded {} Try.checked os 3 .any (Rows.mergeBestSpec.pre6 enc Try.prog Try.f3 Rows.mergeBestRow.domain false) (Rows.mergeBestSpec.post enc Try.prog Try.f3 false true false false) :=
  law_lifted own laidOut started (by kernel_rfl) Try.func3 rfl rfl Try.underlying4
    (by rw [Try.params3]; intro t ht; simp at ht; rcases ht with rfl | rfl <;> exact ⟨by kernel_rfl, of_decide_eq_true (by kernel_rfl)⟩)
    (by
      intro ds h
      match ds, h with
      | [_, _], _ => exact ⟨rfl, rfl, rfl⟩)
    (ChangeSpec.witness6 (enc := enc) (C := Try.checked) false ⟨#[], #[.slice none 0 0, .int .i64 0], []⟩ 8 (by kernel_rfl) (by kernel_rfl) (by kernel_rfl) (by kernel_rfl))
    (by
      intro W base args ds ps hval0 hA0
      have hval : ∀ (j : Nat) t v, Try.f3.params[j]? = some t → args[j]? = some v → Value.okWide Try.prog W .any base t v := hval0
      have hA : DataW.TrodAll enc Try.prog W 0 (fun _ => true) true Try.f3.params.toList args.toList ds ps := hA0
      clear hval0 hA0
      rw [Try.params3] at hA hval
      obtain ⟨v0, vs0, d0, ds0, p0, q0, hargs, rfl, rfl, h0, r0⟩ := trodAll_cons hA
      obtain ⟨v1, vs1, d1, ds1, p1, q1, rfl, rfl, rfl, h1, r1⟩ := trodAll_cons r0
      obtain ⟨rfl, rfl, rfl⟩ := trodAll_nil r1
      obtain rfl : args = #[v0, v1] := by cases args; simp_all
      obtain ⟨A0, c0, l0, rfl, hc0, hm0, hok0, hr0⟩ := open_ints' (hval 0 22 v0 rfl rfl) h0
      obtain ⟨a1, rfl, rfl, rfl, w1⟩ := open_int Try.underlying3 (hval 1 3 v1 rfl rfl) h1
      exact law_any A0 c0 l0 a1 _ hr0 (Nat.le_trans hc0 hm0))

theorem over : Rows.mergeBestRow.holds Try.pinned (OpenSpec.ofChange Rows.mergeBestSpec) :=
  OpenClaim.holds_of_wide 3 Try.f3 rfl rfl rfl rfl rfl rfl rfl ⟨rfl, rfl, rfl, rfl, rfl⟩ rfl rfl rfl rfl rfl (by kernel_rfl) Try.func3 (by kernel_rfl)
    (of_decide_eq_true (by kernel_rfl)) (by unfold Func.isWrapper; first | (rw [if_pos (by decide +kernel)]; kernel_rfl) | (rw [if_neg (by decide +kernel)]; exact ⟨rfl, rfl⟩))
    (fun os started H enc _ => lifted os started H enc)

theorem proved : Rows.MergeBestSaid := over
#print axioms proved
end Go.Proofs.Ytlekobompjehdaa.MergeBest
