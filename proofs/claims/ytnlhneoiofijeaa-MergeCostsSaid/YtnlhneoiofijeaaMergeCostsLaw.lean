/-
  MergeCosts: for every counts and lengths the law returns true: the cost is the sum of the products, and arguments out of form are refused. No condition.
-/
import Derived.Test.YtnlhneoiofijeaaMergeCosts
namespace Go.Proofs.Ytnlhneoiofijeaa.MergeCosts
open Go.ChangeShapes Go.WideShapes Go.ChangeAt Go.RowKit Go.Proofs.Ytnlhneoiofijeaa

theorem cost_ten (W : World) (K : Nat) (A B : Option Addr) (hr1 : RdI W K A [3, 4]) (hr2 : RdI W K B [2, 1]) :
    Calls Try.prog 26 #[.slice A 2 2, .slice B 2 2] W fun e w' => e = .returned (.tuple #[.int .i64 10, .nilIface]) ∧ W = w' :=
  (cost_all A B 2 2 [3, 4] [2, 1] W K hr1 hr2 (by simp [maxLen]) (by decide) rfl).mono fun _ _ h => h

theorem two_new (W : World) (t : TypeId) : RdI ((W.alloc (.cells #[.int .i64 3, .int .i64 4] t)).alloc (.cells #[.int .i64 2, .int .i64 1] t)) (W.heap.size + 2) (some ⟨W.heap.size, 0, none⟩) [3, 4] ∧
    RdI ((W.alloc (.cells #[.int .i64 3, .int .i64 4] t)).alloc (.cells #[.int .i64 2, .int .i64 1] t)) (W.heap.size + 2) (some ⟨W.heap.size + 1, 0, none⟩) [2, 1] :=
  ⟨((RdI.new (w := W) (t := t) (l := [3, 4]) rfl).alloc (by simp) _).more (by omega), by
    have := RdI.new (w := W.alloc (.cells #[.int .i64 3, .int .i64 4] t)) (t := t) (l := [2, 1]) (cs := #[.int .i64 2, .int .i64 1]) rfl
    rw [World.size_alloc] at this
    exact this.more (by omega)⟩

/-- the round's state of 'good' -/
def gAt (ls : List Int) (j : Nat) : Bool := !(ls.take j).any badl
theorem gAt_step (ls : List Int) (j : Nat) (hj : j < ls.length) : gAt ls (j + 1) = (gAt ls j && !badl ls[j]) := by
  unfold gAt; rw [any_take badl ls j hj]; simp

set_option maxHeartbeats 2000000 in
theorem law_refused (A B : Option Addr) (c d : Nat) (cs ls : List Int) (W : World) (hr1 : RdI W W.heap.size A cs) (hr2 : RdI W W.heap.size B ls) (hm1 : cs.length ≤ maxLen) (hm2 : ls.length ≤ maxLen)
    (h : goodc cs 300 = false ∨ (goodc cs 300 = true ∧ cs.length ≠ ls.length)) :
    Calls Try.prog 7 #[.slice A cs.length c, .slice B ls.length d] W fun e w' => e = .returned (.bool true) ∧ Below W.heap.size W w' := by
  have hC : ∀ W', Below W.heap.size W W' → Calls Try.prog 26 #[.slice A cs.length c, .slice B ls.length d] W' (ErrForm W') := by
    intro W' hb
    by_cases hlen : cs.length = ls.length
    · rcases h with h | ⟨_, h⟩
      · exact cost_sound A B c d cs ls W' W.heap.size (hr1.below hb (Nat.le_refl _)) hm1 h hlen
      · exact absurd hlen h
    · exact cost_len A B c d cs ls W' hlen
  have HC := hid hC
  have Hr1 := hid hr1
  have Hr2 := hid hr2
  have Hm1 := hid hm1
  unfold maxLen at hm1 hm2
  clear hC hr1 hr2
  rcases h with h | ⟨h, hne⟩
  case' inr =>
    have hne' : ((cs.length : Int) == ls.length) = false := by rw [beq_eq_false_iff_ne]; omega
  all_goals
    have Hg := hid h
    clear h
    go_enter Try.func7, Try.ntmps7
    go_wp2_with fail
    refine (cost_ten _ (W.heap.size + 2) _ _ (two_new W _).1 (two_new W _).2).mono ?_
    rintro e w1 ⟨rfl, rfl⟩
    have Hb := hid (((Below.refl W.heap.size W).alloc (Nat.le_refl _) (.cells #[.int .i64 3, .int .i64 4] 3)).alloc (by simp) (.cells #[.int .i64 2, .int .i64 1] 3))
    go_wp2_with fail
    refine (HC.out _ Hb.out).mono ?_
    rintro e w2 ⟨rfl, rfl⟩
    go_wp2_with fail
    refine (good_any A c cs 300 _ W.heap.size (Hr1.out.below Hb.out (Nat.le_refl _)) Hm1.out _ Hg.out).mono ?_
    rintro e w3 ⟨rfl, rfl⟩
    obtain ⟨w0, hw0⟩ : ∃ w0, w0 = (W.alloc (.cells #[.int .i64 3, .int .i64 4] 3)).alloc (.cells #[.int .i64 2, .int .i64 1] 3) := ⟨_, rfl⟩
    rw [← hw0] at Hb ⊢
    clear hw0
    go_wp2_with fail
    go_loop [9, 41] (fun g i => ∃ j : Nat, j ≤ ls.length ∧ i = .int .i64 j ∧ g = .bool false) (fun _ i => ls.length - (intOf i).toNat)
    case atStart => exact ⟨0, by omega, rfl, rfl⟩
    case round =>
      obtain ⟨j, hj, rfl, rfl⟩ := hrel
      by_cases hlt : j < ls.length
      · obtain ⟨b, off, rfl, hbb, h0⟩ := int_at (Hr2.out.below Hb.out (Nat.le_refl _)) hlt
        go_wp2_with fail
        go_round
        case rel => exact ⟨j + 1, by omega, by go_num, rfl⟩
        case measure => simp [intOf]; omega
      · go_wp2_with fail
        refine (is_no 6 6 (by omega) _).mono ?_
        rintro e w5 ⟨rfl, rfl⟩
        go_wp2_with fail
        go_ret
        exact ⟨rfl, Hb.out⟩

set_option maxHeartbeats 2000000 in
theorem law_fine (A B : Option Addr) (c d : Nat) (cs ls : List Int) (W : World) (hr1 : RdI W W.heap.size A cs) (hr2 : RdI W W.heap.size B ls) (hm1 : cs.length ≤ maxLen) (hm2 : ls.length ≤ maxLen)
    (h : goodc cs 300 = true) (hlen : cs.length = ls.length) :
    Calls Try.prog 7 #[.slice A cs.length c, .slice B ls.length d] W fun e w' => e = .returned (.bool true) ∧ Below W.heap.size W w' := by
  have hC : ∀ W', Below W.heap.size W W' → Calls Try.prog 26 #[.slice A cs.length c, .slice B ls.length d] W' (CostEnd cs ls W' (ls.any badl)) :=
    fun W' hb => cost_all A B c d cs ls W' W.heap.size (hr1.below hb (Nat.le_refl _)) (hr2.below hb (Nat.le_refl _)) hm1 h hlen
  have hgc := goodc_true.1 h
  have hL : ∀ W', Below W.heap.size W W' → ls.any badl = false → Calls Try.prog 28 #[.slice A cs.length c, .slice B ls.length d] W' fun e w' => e = .returned (.int .i64 (costTo cs ls cs.length)) ∧ ∃ n, w' = W'.drewN n :=
    fun W' hb hl => lawcost_any A B c d cs ls W' W.heap.size (hr1.below hb (Nat.le_refl _)) (hr2.below hb (Nat.le_refl _)) hlen (by omega) hgc.2 hl
  have HC := hid hC
  have HL := hid hL
  have Hr1 := hid hr1
  have Hr2 := hid hr2
  have Hm1 := hid hm1
  have hne' : ((cs.length : Int) == ls.length) = true := by rw [beq_iff_eq]; omega
  unfold maxLen at hm1 hm2
  have Hg := hid h
  clear hC hr1 hr2 h hgc hL hlen
  cases hbad : ls.any badl
  all_goals
    have Hbad := hid hbad
    rw [hbad] at HC
    clear hbad
    go_enter Try.func7, Try.ntmps7
    go_wp2_with fail
    refine (cost_ten _ (W.heap.size + 2) _ _ (two_new W _).1 (two_new W _).2).mono ?_
    rintro e w1 ⟨rfl, rfl⟩
    have Hb := hid (((Below.refl W.heap.size W).alloc (Nat.le_refl _) (.cells #[.int .i64 3, .int .i64 4] 3)).alloc (by simp) (.cells #[.int .i64 2, .int .i64 1] 3))
    go_wp2_with fail
    refine (HC.out _ Hb.out).mono ?_
    rintro e w2 ⟨rfl, rfl⟩
    go_wp2_with fail
    refine (good_any A c cs 300 _ W.heap.size (Hr1.out.below Hb.out (Nat.le_refl _)) Hm1.out _ Hg.out).mono ?_
    rintro e w3 ⟨rfl, rfl⟩
    obtain ⟨w0, hw0⟩ : ∃ w0, w0 = (W.alloc (.cells #[.int .i64 3, .int .i64 4] 3)).alloc (.cells #[.int .i64 2, .int .i64 1] 3) := ⟨_, rfl⟩
    rw [← hw0] at Hb ⊢
    clear hw0
    go_wp2_with fail
    go_loop [9, 41] (fun g i => ∃ j : Nat, j ≤ ls.length ∧ i = .int .i64 j ∧ g = .bool (gAt ls j)) (fun _ i => ls.length - (intOf i).toNat)
    case atStart => exact ⟨0, by omega, rfl, rfl⟩
    case round =>
      obtain ⟨j, hj, rfl, rfl⟩ := hrel
      by_cases hlt : j < ls.length
      · obtain ⟨b, off, rfl, hbb, h0⟩ := int_at (Hr2.out.below Hb.out (Nat.le_refl _)) hlt
        have Hs := hid (gAt_step ls j hlt)
        cases hb : badl ls[j]
        · have b2 := badl_false.1 hb
          obtain ⟨b21, b22⟩ := b2
          have Hb2 := hid hb
          clear hb
          generalize ls[j] = y at *
          cases hgj : gAt ls j
          all_goals
            have Hgj := hid hgj
            clear hgj
            go_wp2_with fail
            go_round
            case rel => exact ⟨j + 1, by omega, by go_num, by rw [Hs.out, Hgj.out, Hb2.out]; first | rfl | (congr 1; simp; omega)⟩
            case measure => simp [intOf]; omega
        · have b2 := badl_true.1 hb
          have Hb2 := hid hb
          clear hb
          generalize ls[j] = y at *
          cases hgj : gAt ls j
          all_goals
            have Hgj := hid hgj
            clear hgj
            rcases b2 with b2 | b2
            all_goals
              go_wp2_with fail
              go_round
              case rel => exact ⟨j + 1, by omega, by go_num, by rw [Hs.out, Hgj.out, Hb2.out]; first | rfl | (congr 1; simp; omega)⟩
              case measure => simp [intOf]; omega
      · have e : j = ls.length := by omega
        subst e
        have hgl : gAt ls ls.length = !ls.any badl := by unfold gAt; rw [List.take_length]
        rw [Hbad.out] at hgl
        rw [hgl]
        clear hgl
        go_wp2_with fail
        first
          | (refine (is_no 6 6 (by omega) _).mono ?_
             rintro e w5 ⟨rfl, rfl⟩
             go_wp2_with fail
             go_ret
             exact ⟨rfl, Hb.out⟩)
          | (refine (HL.out _ Hb.out Hbad.out).mono ?_
             rintro e w5 ⟨rfl, nd, rfl⟩
             go_wp2_with fail
             go_ret
             exact ⟨rfl, below_drewN Hb.out nd⟩)

theorem walk (A B : Option Addr) (c d : Nat) (cs ls : List Int) (W : World) (hr1 : RdI W W.heap.size A cs) (hr2 : RdI W W.heap.size B ls) (hm1 : cs.length ≤ maxLen) (hm2 : ls.length ≤ maxLen) :
    Calls Try.prog 7 #[.slice A cs.length c, .slice B ls.length d] W fun e w' => e = .returned (.bool true) ∧ Below W.heap.size W w' := by
  cases h : goodc cs 300
  · exact law_refused A B c d cs ls W hr1 hr2 hm1 hm2 (.inl h)
  · by_cases hlen : cs.length = ls.length
    · exact law_fine A B c d cs ls W hr1 hr2 hm1 hm2 h hlen
    · exact law_refused A B c d cs ls W hr1 hr2 hm1 hm2 (.inr ⟨h, hlen⟩)

set_option maxRecDepth 100000 in
theorem lifted (os : Os) (started : os.Started) (H : Type) (enc : TypeId × Value → H) :
    ReturnsInHanded {} Try.checked os 7 .any (Rows.mergeCostsSpec.pre6 enc Try.prog Try.f7 Rows.mergeCostsRow.domain false) (Rows.mergeCostsSpec.post enc Try.prog Try.f7 false true false false) :=
  law_lifted own laidOut started (by kernel_rfl) Try.func7 rfl rfl Try.underlying4
    (by rw [Try.params7]; intro t ht; simp at ht; rcases ht with rfl | rfl <;> exact ⟨by kernel_rfl, of_decide_eq_true (by kernel_rfl)⟩)
    (by
      intro ds h
      match ds, h with
      | [_, _], _ => exact ⟨rfl, rfl, rfl⟩)
    (ChangeSpec.witness6 (enc := enc) (C := Try.checked) false ⟨#[], #[.slice none 0 0, .slice none 0 0], []⟩ 8 (by kernel_rfl) (by kernel_rfl) (by kernel_rfl) (by kernel_rfl))
    (by
      intro W base args ds ps hval0 hA0
      have hval : ∀ (j : Nat) t v, Try.f7.params[j]? = some t → args[j]? = some v → Value.okWide Try.prog W .any base t v := hval0
      have hA : DataW.TrodAll enc Try.prog W 0 (fun _ => true) true Try.f7.params.toList args.toList ds ps := hA0
      clear hval0 hA0
      rw [Try.params7] at hA hval
      obtain ⟨v0, vs0, d0, ds0, p0, q0, hargs, rfl, rfl, h0, r0⟩ := trodAll_cons hA
      obtain ⟨v1, vs1, d1, ds1, p1, q1, rfl, rfl, rfl, h1, r1⟩ := trodAll_cons r0
      obtain ⟨rfl, rfl, rfl⟩ := trodAll_nil r1
      obtain rfl : args = #[v0, v1] := by cases args; simp_all
      obtain ⟨fuel0, hf0⟩ := h0
      obtain ⟨A0, n0, m0, rfl⟩ := okWide_slice Try.underlying56 (hval 0 56 v0 rfl rfl)
      obtain ⟨A0, c0, l0, e0, hlc0, hcm0, hok0, hr0⟩ := open_slice_of encI okI 1 (by omega) Try.underlying56 (by kernel_rfl) int_of (fun _ => rfl) (by simpa [Value.cells] using hf0)
      rw [e0]
      obtain ⟨fuel1, hf1⟩ := h1
      obtain ⟨A1, n1, m1, rfl⟩ := okWide_slice Try.underlying56 (hval 1 56 v1 rfl rfl)
      obtain ⟨A1, c1, l1, e1, hlc1, hcm1, hok1, hr1⟩ := open_slice_of encI okI 1 (by omega) Try.underlying56 (by kernel_rfl) int_of (fun _ => rfl) (by simpa [Value.cells] using hf1)
      rw [e1]
      exact walk A0 A1 c0 c1 l0 l1 W hr0 hr1 (by omega) (by omega))

theorem over : Rows.mergeCostsRow.holds Try.pinned (OpenSpec.ofChange Rows.mergeCostsSpec) :=
  OpenClaim.holds_of_wide 7 Try.f7 rfl rfl rfl rfl rfl rfl rfl ⟨rfl, rfl, rfl, rfl, rfl⟩ rfl rfl rfl rfl rfl (by kernel_rfl) Try.func7 (by kernel_rfl)
    (of_decide_eq_true (by kernel_rfl)) (by unfold Func.isWrapper; first | (rw [if_pos (by decide +kernel)]; kernel_rfl) | (rw [if_neg (by decide +kernel)]; exact ⟨rfl, rfl⟩))
    (fun os started H enc _ => lifted os started H enc)

theorem proved : Rows.MergeCostsSaid := over
#print axioms proved
end Go.Proofs.Ytnlhneoiofijeaa.MergeCosts
