/-
  burnishref02.Good.
-/
import Derived.Test.YtfcppchjikmioaaGreatWtC
namespace Go.Proofs.YtfcppchjikmioaaGreat
open Go.RowKit Go.Lib

/-- what Good asks of a wish behind others -/
def GA (P : List Wi) (x : Wi) : Prop := ((1 ≤ (ruL x.nm).length ∧ (ruL x.nm).length ≤ 16) ∧ knownI (runesBytes (ruL x.nm)) P = false ∧ (-999999999 ≤ x.n ∧ x.n ≤ 999999999)) ∧ (∀ c ∈ ruL x.nm, isSm c = true) ∧ (rnWhole x.s = true ∧ 1 ≤ x.kind ∧ x.kind ≤ 3)
def GoodF : List Wi → List Wi → Prop
  | _, [] => True
  | P, x :: t => GA P x ∧ GoodF (P ++ [x]) t
def GoodP (l : List Wi) : Prop := l.length ≤ 16 ∧ GoodF [] l
set_option maxRecDepth 100000 in
theorem slice_hW (A : Option Addr) (N lc k : Nat) (h : k ≤ lc) (w : World) : (Instr.slice 22 (.slice A N lc) none (some (.int .i64 (k : Int))) none).run Tryz.prog w = .ok (.slice A k lc) w := by
  have base : (Instr.slice 22 (.slice A N lc) none (some (.int .i64 (k : Int))) none).run Tryz.prog w = .ok (sliced A 0 k lc 5) w := by
    rw [run_slice_h (P := Tryz.prog) (w := w) 22 A N lc Tryz.underlying22 .i64 (k : Int) (by omega) (by omega)]
    rfl
  rw [base]
  unfold sliced
  cases A with
  | none => simp
  | some a => simp [Addr.add]
theorem rd_takeWi {w : World} {B n : Nat} {A : Option Addr} {l : List Wi} (h : Rd w B 5 A l.length (l.flatMap encWi)) (hn : n ≤ l.length) : Rd w B 5 A (l.take n).length ((l.take n).flatMap encWi) := by
  have e : ∀ (l : List Wi), (l.flatMap encWi).length = l.length * 5 := fun l => by
    induction l with
    | nil => rfl
    | cons x l ih => rw [List.flatMap_cons, List.length_append, ih, List.length_cons]; show 5 + _ = _; omega
  refine ⟨e _, fun hp => ?_⟩
  obtain ⟨b, off, hA, hb, hc⟩ := h.2 (by rw [e, List.length_take] at hp; rw [e]; omega)
  refine ⟨b, off, hA, hb, fun j u hu => hc j u ?_⟩
  rw [← List.take_append_drop n l, List.flatMap_append, List.getElem?_append_left (List.getElem?_eq_some_iff.1 hu).1]
  exact hu
set_option maxRecDepth 100000 in
set_option maxHeartbeats 8000000 in
theorem rgood_any (A : Option Addr) (c n B0 : Nat) (l : List Wi) (W : World) (hn : n = l.length) (hc : n ≤ c) (h : Rd W B0 5 A l.length (l.flatMap encWi)) (hB0 : B0 ≤ W.heap.size) (hs : ∀ x ∈ l, x.nm.size ≤ 1000000 ∧ x.s.size ≤ 1000000) :
    Calls Tryz.prog 27 #[.slice A n c] W fun e w' => (∃ b, e = .returned (.bool b) ∧ (b = true ↔ GoodP l)) ∧ Below W.heap.size W w' := by
  have H := hid h
  have HN := hid hn
  have HS := hid hs
  clear h hs
  by_cases h16 : 16 < n
  · have d0 : decide (16 < n) = true := decide_eq_true h16
    have d0' : decide ((16 : Int) < (n : Int)) = true := decide_eq_true (by omega)
    have HF := hid (show ¬ GoodP l from fun h => by have := h.1; omega)
    clear hn
    go_enter Tryz.func27, Tryz.ntmps27
    go_wp2_with fail
    go_ret
    exact ⟨⟨false, rfl, by simp [HF.out]⟩, Below.refl _ _⟩
  have d0 : decide (16 < n) = false := decide_eq_false h16
  have d0' : decide ((16 : Int) < (n : Int)) = false := decide_eq_false (by omega)
  have HL16 := hid (show l.length ≤ 16 by omega)
  clear hn
  go_enter Tryz.func27, Tryz.ntmps27
  go_upto_region 4 with (fail)
  go_loopw [3] (fun i wr => ∃ (k : Nat), k ≤ n ∧ i = .int .i64 (k : Int) ∧ Hid (GoodF [] l ↔ GoodF (l.take k) (l.drop k)) ∧ Hid (Below W.heap.size W wr)) (fun i _ => n - (intOf i).toNat)
  case atStart => exact ⟨0, by omega, rfl, hid Iff.rfl, hid (Below.refl _ _)⟩
  case round =>
    obtain ⟨k, hk, rfl, HI, Hw⟩ := hrel
    by_cases hlt : k < n
    · have d1 : decide (k < n) = true := decide_eq_true hlt
      have d2 : decide ((k : Int) < (n : Int)) = true := decide_eq_true (by omega)
      have hkl : k < l.length := by have := HN.out; omega
      have RT := hid (rd_takeWi (H.out.below Hw.out hB0) (Nat.le_of_lt hkl))
      obtain ⟨b, off, rfl, hb, q0, q1, q2, q3, q4⟩ := wi_at (H.out.below Hw.out hB0) hkl
      obtain ⟨hs1, hs2⟩ := HS.out _ (List.getElem_mem hkl)
      have HI2 := hid (show GoodF [] l ↔ (GA (l.take k) l[k] ∧ GoodF (l.take (k + 1)) (l.drop (k + 1))) from by
        refine HI.out.trans ?_
        rw [List.drop_eq_getElem_cons hkl, GoodF, List.take_succ_eq_append_getElem hkl])
      have hlk : (l.take k).length = k := by rw [List.length_take]; omega
      rw [hlk] at RT
      have HLK := hid hlk
      clear hlk
      generalize l[k] = x at *
      obtain ⟨xn, xk, xz, xs, xb⟩ := x
      dsimp only at hs1 hs2 q0 q1 q2 q3 q4
      have K1 := hid (Blk.new wr 25 #[.string xn, .int .i64 xk, .int .i64 xz, .string xs, .bool xb])
      have B1 := hid (Hw.out.alloc Hw.out.size (.cells #[.string xn, .int .i64 xk, .int .i64 xz, .string xs, .bool xb] 25))
      have RT1 := hid (RT.out.alloc (Nat.le_trans hB0 Hw.out.size) (.cells #[.string xn, .int .i64 xk, .int .i64 xz, .string xs, .bool xb] 25))
      go_upto_region 7 with (fail)
      have hg1 : wr.heap.size < (wr.alloc (.cells #[.string xn, .int .i64 xk, .int .i64 xz, .string xs, .bool xb] 25)).heap.size := by simp
      generalize wr.alloc (.cells #[.string xn, .int .i64 xk, .int .i64 xz, .string xs, .bool xb] 25) = w1 at *
      have p0 := K1.out.cell 0
      have p1 := K1.out.cell 1
      have p2 := K1.out.cell 2
      have p3 := K1.out.cell 3
      have p4 := K1.out.cell 4
      simp only [List.getElem?_toArray, List.getElem?_cons_zero, List.getElem?_cons_succ] at p0 p1 p2 p3 p4
      generalize wr.heap.size = g1 at *
      clear q0 q1 q2 q3 q4
      obtain ⟨g5, c5, w2, hcv, hrn, hg5, hg5', hb2⟩ := conv_ru xn hs1 w1
      obtain ⟨r, hr⟩ : ∃ r, r = ruL xn := ⟨_, rfl⟩
      have hrl : r.length ≤ 1000000 := by rw [hr]; have := ruL_len xn; omega
      rw [← hr] at hcv hrn
      have HR := hid hr
      obtain ⟨nr, hnr⟩ : ∃ nr, nr = r.length := ⟨_, rfl⟩
      rw [← hnr] at hcv
      have HNR := hid hnr
      have hnrl : nr ≤ 1000000 := by omega
      have HRN := hid hrn
      have RT2 := hid (RT1.out.below hb2 (Nat.le_trans hB0 B1.out.size))
      have B2 := hid (B1.out.trans (hb2.mono B1.out.size))
      have hg2 : g1 < w2.heap.size := Nat.lt_of_lt_of_le hg1 hb2.size
      have q0 := (hb2.cell (p := ⟨g1, 0, none⟩) hg1).trans p0
      have q1 := (hb2.cell (p := ⟨g1, 1, none⟩) hg1).trans p1
      have q2 := (hb2.cell (p := ⟨g1, 2, none⟩) hg1).trans p2
      have q3 := (hb2.cell (p := ⟨g1, 3, none⟩) hg1).trans p3
      clear hr hnr hrl
      go_upto_region 8 with (fail)
      clear hcv hrn hb2 p0 p1 p2 p3 p4
      have hsl := slice_hW (some ⟨b, off, none⟩) n c k (by omega)
      have KN := hid (knownI_any (some ⟨b, off, none⟩) c c5 g5 B0 k nr (l.take k) r w2 HLK.out.symm HNR.out (by rw [HLK.out]; exact RT2.out) (Nat.le_trans hB0 B2.out.size) (by rw [HLK.out]; omega) HRN.out hg5)
      obtain ⟨kn, hkn⟩ : ∃ kn, kn = knownI (runesBytes r) (l.take k) := ⟨_, rfl⟩
      rw [← hkn] at KN
      have HKN := hid hkn
      clear hkn
      go_cut [49] from 25 to 49 (fun v wq => ∃ bb, v = .bool bb ∧ (bb = false ↔ ((1 ≤ nr ∧ nr ≤ 16) ∧ kn = false ∧ (-999999999 ≤ xz ∧ xz ≤ 999999999))) ∧ Hid (Below w2.heap.size w2 wq))
      · by_cases c1 : nr < 1
        · have e1 : decide (nr < 1) = true := decide_eq_true c1
          have e1' : decide ((nr : Int) < 1) = true := decide_eq_true (by omega)
          go_wp2_with fail
          go_meet
          exact ⟨true, rfl, by simp; omega, hid (Below.refl _ _)⟩
        have e1 : decide (nr < 1) = false := decide_eq_false c1
        have e1' : decide ((nr : Int) < 1) = false := decide_eq_false (by omega)
        by_cases c2 : 16 < nr
        · have e2 : decide (16 < nr) = true := decide_eq_true c2
          have e2' : decide ((16 : Int) < (nr : Int)) = true := decide_eq_true (by omega)
          go_wp2_with fail
          go_meet
          exact ⟨true, rfl, by simp; omega, hid (Below.refl _ _)⟩
        have e2 : decide (16 < nr) = false := decide_eq_false c2
        have e2' : decide ((16 : Int) < (nr : Int)) = false := decide_eq_false (by omega)
        cases kn
        case true =>
          go_wp2_with (go_at_call 54; refine KN.out.mono ?_; rintro e w3 ⟨rfl, hB3⟩)
          go_meet
          exact ⟨true, rfl, by simp, hid hB3⟩
        by_cases c4 : xz < -999999999
        · have e4 : decide (xz < -999999999) = true := decide_eq_true c4
          go_wp2_with (go_at_call 54; refine KN.out.mono ?_; rintro e w3 ⟨rfl, hB3⟩; have q2' := hB3.cell (p := ⟨g1, 2, none⟩) hg2; rw [q2] at q2'; have hg3 : g1 < w3.heap.size := Nat.lt_of_lt_of_le hg2 hB3.size; have HB3 := hid hB3; clear hB3)
          go_meet
          exact ⟨true, rfl, by simp; omega, HB3⟩
        have e4 : decide (xz < -999999999) = false := decide_eq_false c4
        by_cases c5 : 999999999 < xz
        · have e5 : decide (999999999 < xz) = true := decide_eq_true c5
          go_wp2_with (go_at_call 54; refine KN.out.mono ?_; rintro e w3 ⟨rfl, hB3⟩; have q2' := hB3.cell (p := ⟨g1, 2, none⟩) hg2; rw [q2] at q2'; have hg3 : g1 < w3.heap.size := Nat.lt_of_lt_of_le hg2 hB3.size; have HB3 := hid hB3; clear hB3)
          go_meet
          exact ⟨true, rfl, by simp; omega, HB3⟩
        · have e5 : decide (999999999 < xz) = false := decide_eq_false c5
          go_wp2_with (go_at_call 54; refine KN.out.mono ?_; rintro e w3 ⟨rfl, hB3⟩; have q2' := hB3.cell (p := ⟨g1, 2, none⟩) hg2; rw [q2] at q2'; have hg3 : g1 < w3.heap.size := Nat.lt_of_lt_of_le hg2 hB3.size; have HB3 := hid hB3; clear hB3)
          go_meet
          exact ⟨false, rfl, by simp; omega, HB3⟩
      · obtain ⟨bb, rfl, hbb, hB3⟩ := hcut
        have HBB := hid (show bb = false ↔ ((1 ≤ (ruL xn).length ∧ (ruL xn).length ≤ 16) ∧ knownI (runesBytes (ruL xn)) (l.take k) = false ∧ (-999999999 ≤ xz ∧ xz ≤ 999999999)) from by
          rw [← HR.out, ← HNR.out, ← HKN.out]; exact hbb)
        clear hbb
        have B3 := hid (B2.out.trans (hB3.out.mono B2.out.size))
        cases bb
        case true =>
          have HF := hid (show ¬ GoodP l from fun h => by
            have h1 := (HI2.out.1 h.2).1.1
            have h2 := HBB.out.2 h1
            cases h2)
          go_wp2_with fail
          go_ret
          exact ⟨⟨false, rfl, by simp [HF.out]⟩, B3.out⟩
        have q1' := (hB3.out.cell (p := ⟨g1, 1, none⟩) hg2).trans q1
        have q3' := (hB3.out.cell (p := ⟨g1, 3, none⟩) hg2).trans q3
        have hg3 : g1 < wc.heap.size := Nat.lt_of_lt_of_le hg2 hB3.out.size
        have HRN3 := hid (show ∀ j v, (runesV r)[j]? = some v → wc.cell? ⟨g5, j, none⟩ = some v from fun j v hv => (hB3.out.cell (p := ⟨g5, j, none⟩) hg5).trans (HRN.out j v hv))
        have hg53 : g5 < wc.heap.size := Nat.lt_of_lt_of_le hg5 hB3.out.size
        clear q0 q1 q2 q3 hB3 hg5 hg2 hg5'
        go_upto_region 11 with (fail)
        go_loopw [6] (fun i wr => ∃ j : Nat, j ≤ nr ∧ i = .int .i64 (j : Int) ∧ Hid (∀ c ∈ r.take j, isSm c = true) ∧ wc = wr) (fun i _ => nr - (intOf i).toNat)
        case atStart => exact ⟨0, by omega, rfl, hid (by simp), rfl⟩
        case round =>
          obtain ⟨j, hj, rfl, HJ, rfl⟩ := hrel
          by_cases hjl : j < nr
          · have f1 : decide (j < nr) = true := decide_eq_true hjl
            have f2 : decide ((j : Int) < (nr : Int)) = true := decide_eq_true (by omega)
            have hjr : j < r.length := by have := HNR.out; omega
            have cj := HRN3.out j (.int .i32 r[j]) (by unfold runesV; rw [List.getElem?_map, List.getElem?_eq_getElem hjr]; rfl)
            have HJ1 := hid (show r.take (j + 1) = r.take j ++ [r[j]] from List.take_succ_eq_append_getElem hjr)
            have HMm := hid (show r[j] ∈ ruL xn from by rw [← HR.out]; exact List.getElem_mem hjr)
            generalize r[j] = cc at *
            have hsm := rsm_any cc
            cases hs : isSm cc
            · rw [hs] at hsm
              have HF := hid (show ¬ GoodP l from fun h => by
                have h1 := (HI2.out.1 h.2).1.2.1 cc HMm.out
                rw [hs] at h1
                cases h1)
              clear hs
              go_wp2_with (go_at_call 55; refine (hsm _).mono ?_; rintro e w' ⟨rfl, rfl⟩)
              go_ret
              exact ⟨⟨false, rfl, by simp [HF.out]⟩, B3.out⟩
            · rw [hs] at hsm
              have HJ2 := hid (show ∀ c ∈ r.take (j + 1), isSm c = true from by
                rw [HJ1.out]
                intro c hc
                rcases List.mem_append.1 hc with hc | hc
                · exact HJ.out c hc
                · rcases List.mem_singleton.1 hc with rfl
                  exact hs)
              clear hs
              go_wp2_with (go_at_call 55; refine (hsm _).mono ?_; rintro e w' ⟨rfl, rfl⟩)
              exact ⟨⟨j + 1, by omega, by push_cast; rfl, HJ2, by first | rfl | trivial⟩, by simp [intOf]; omega⟩
          · have f1 : decide (j < nr) = false := decide_eq_false hjl
            have f2 : decide ((j : Int) < (nr : Int)) = false := decide_eq_false (by omega)
            have HA := hid (show ∀ c ∈ ruL xn, isSm c = true from by
              rw [← HR.out]
              have h1 := HJ.out
              rwa [List.take_of_length_le (by have := HNR.out; omega)] at h1)
            have RU := hid (refRunes_any xs hs2 wc)
            obtain ⟨wh, hwh⟩ : ∃ wh, wh = rnWhole xs := ⟨_, rfl⟩
            unfold RunesEnd at RU
            rw [← hwh] at RU
            have HWh := hid hwh
            clear hwh
            cases wh
            case false =>
              have HF := hid (show ¬ GoodP l from fun h => by
                have h1 := (HI2.out.1 h.2).1.2.2.1
                rw [← HWh.out] at h1
                cases h1)
              go_wp2_with (go_at_call 56; refine RU.out.mono ?_; rintro e w4 ⟨A7, c7, rfl, _, hB4⟩; have q4 := hB4.cell (p := ⟨g1, 1, none⟩) hg3; rw [q1'] at q4; have hg4 : g1 < w4.heap.size := Nat.lt_of_lt_of_le hg3 hB4.size; have B4 := hid (B3.out.trans (hB4.mono B3.out.size)); clear hB4)
              go_ret
              exact ⟨⟨false, rfl, by simp [HF.out]⟩, B4.out⟩
            by_cases k1 : xk < 1
            · have e1 : decide (xk < 1) = true := decide_eq_true k1
              have HF := hid (show ¬ GoodP l from fun h => by
                have h1 : 1 ≤ xk := (HI2.out.1 h.2).1.2.2.2.1
                omega)
              go_wp2_with (go_at_call 56; refine RU.out.mono ?_; rintro e w4 ⟨A7, c7, rfl, _, hB4⟩; have q4 := hB4.cell (p := ⟨g1, 1, none⟩) hg3; rw [q1'] at q4; have hg4 : g1 < w4.heap.size := Nat.lt_of_lt_of_le hg3 hB4.size; have B4 := hid (B3.out.trans (hB4.mono B3.out.size)); clear hB4)
              go_ret
              exact ⟨⟨false, rfl, by simp [HF.out]⟩, B4.out⟩
            have e1 : decide (xk < 1) = false := decide_eq_false k1
            by_cases k2 : 3 < xk
            · have e2 : decide (3 < xk) = true := decide_eq_true k2
              have HF := hid (show ¬ GoodP l from fun h => by
                have h1 : xk ≤ 3 := (HI2.out.1 h.2).1.2.2.2.2
                omega)
              go_wp2_with (go_at_call 56; refine RU.out.mono ?_; rintro e w4 ⟨A7, c7, rfl, _, hB4⟩; have q4 := hB4.cell (p := ⟨g1, 1, none⟩) hg3; rw [q1'] at q4; have hg4 : g1 < w4.heap.size := Nat.lt_of_lt_of_le hg3 hB4.size; have B4 := hid (B3.out.trans (hB4.mono B3.out.size)); clear hB4)
              go_ret
              exact ⟨⟨false, rfl, by simp [HF.out]⟩, B4.out⟩
            · have e2 : decide (3 < xk) = false := decide_eq_false k2
              have HF := hid (show GoodF [] l ↔ GoodF (l.take (k + 1)) (l.drop (k + 1)) from by
                refine HI2.out.trans ⟨fun h => h.2, fun h => ⟨⟨HBB.out.1 (by first | rfl | trivial), HA.out, HWh.out.symm, ?_, ?_⟩, h⟩⟩
                · show 1 ≤ xk
                  omega
                · show xk ≤ 3
                  omega)
              go_wp2_with (go_at_call 56; refine RU.out.mono ?_; rintro e w4 ⟨A7, c7, rfl, _, hB4⟩; have q4 := hB4.cell (p := ⟨g1, 1, none⟩) hg3; rw [q1'] at q4; have hg4 : g1 < w4.heap.size := Nat.lt_of_lt_of_le hg3 hB4.size; have B4 := hid (B3.out.trans (hB4.mono B3.out.size)); clear hB4)
              exact ⟨⟨k + 1, by omega, by push_cast; rfl, HF, B4⟩, by simp [intOf]; omega⟩
    · have d1 : decide (k < n) = false := decide_eq_false hlt
      have d2 : decide ((k : Int) < (n : Int)) = false := decide_eq_false (by omega)
      have HF := hid (show GoodP l from ⟨HL16.out, HI.out.2 (by rw [List.drop_eq_nil_of_le (by have := HN.out; omega)]; exact trivial)⟩)
      go_wp2_with fail
      go_ret
      exact ⟨⟨true, rfl, by simp [HF.out]⟩, Hw.out⟩
end Go.Proofs.YtfcppchjikmioaaGreat
