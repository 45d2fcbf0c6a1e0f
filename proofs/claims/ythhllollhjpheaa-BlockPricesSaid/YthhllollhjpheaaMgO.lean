/-
  burnishref05.Best, walked.
-/
import Derived.Test.YthhllollhjpheaaMgN
import Derived.BigRegion
import Derived.Deep.RegionLaw
import Derived.Deep.RegionHeld3
namespace Go.Proofs.Ythhllollhjpheaa
open Go.RowKit Mg

theorem rs_le {d : List Int} {b : Int} (h : ∀ x ∈ d, x ≤ b) (hb : 0 ≤ b) (i : Nat) : rs d i ≤ d.length * b := by
  unfold rs
  have key : ∀ l : List Int, (∀ x ∈ l, x ≤ b) → l.sum ≤ l.length * b := by
    intro l
    induction l with
    | nil => intro _; simp
    | cons a t ih =>
      intro hl
      rw [List.sum_cons, List.length_cons, Int.natCast_add, Int.add_mul]
      have := hl a (by simp)
      have := ih (fun x hx => hl x (by simp [hx]))
      omega
  have h1 := key (d.drop i) (fun x hx => h x (List.mem_of_mem_drop hx))
  have h2 : ((d.drop i).length : Int) * b ≤ d.length * b := Int.mul_le_mul_of_nonneg_right (by rw [List.length_drop]; omega) hb
  omega
theorem reach_le {d : List Int} {B : Int} (hB : ∀ i, rs d i ≤ B) {t i n : Nat} {c : Int} (h : Reach d t i n c) : c ≤ t * B := by
  induction h with
  | start =>
    have := hB 0
    simp
    exact this
  | @step t i n k c h hk hi ho ih =>
    have := hB (i + k)
    rw [Int.natCast_add, Int.add_mul]
    omega
theorem lv_le {d : List Int} {B : Int} (hd : ∀ x ∈ d, 0 ≤ x) (hB : ∀ i, rs d i ≤ B) (h0 : 0 ≤ B) (t i n : Nat) : (lv d t).2 i n ≤ ((t + 1 : Nat) : Int) * B := by
  rcases (lv_min hd t).1 i n with ⟨e, _⟩ | ⟨_, hv, _⟩
  · have : 0 ≤ ((t + 1 : Nat) : Int) * B := Int.mul_nonneg (by omega) h0
    omega
  · exact reach_le hB hv
theorem stp_eq (d : List Int) (i n k : Nat) (v : Int) (S : Int × Tab) : stp d i n k v S = if i + k = d.length then (if S.1 < 0 ∨ v < S.1 then v else S.1, S.2) else if min (2 * (n - k)) (d.length - i - k) = 0 then S else if S.2 (i + k) (min (2 * (n - k)) (d.length - i - k)) < 0 ∨ v + rs d (i + k) < S.2 (i + k) (min (2 * (n - k)) (d.length - i - k)) then (S.1, set2 S.2 (i + k) (min (2 * (n - k)) (d.length - i - k)) (v + rs d (i + k))) else S := rfl
/-- the memory while levels are looked through -/
structure BB (w W : World) (g gl gn m N1 : Nat) (d : List Int) (T T' : Tab) : Prop where
  tl : TabW w gl m T
  tn : TabW w gn m T'
  r : Blk w g 3 (intRow N1 (rs d))
  old : Below g W w
  o1 : g < gl
  o2 : gl + 1 + m < gn
theorem BB.put {w W : World} {g gl gn m N1 : Nat} {d : List Int} {T T' : Tab} (h : BB w W g gl gn m N1 d T T') {i n : Nat} (hi : i ≤ m) (c : Int) : BB (w.setCell ⟨gn + 1 + i, n, none⟩ (.int .i64 c)) W g gl gn m N1 d T (set2 T' i n c) := by
  have h1 := h.o1
  have h2 := h.o2
  exact ⟨h.tl.far (.inr (by show gl + 1 + m < gn + 1 + i; omega)) _, h.tn.put hi c, h.r.far (by show g ≠ gn + 1 + i; omega) _, h.old.setCell (by show g ≤ gn + 1 + i; omega) _, h1, h2⟩
set_option maxRecDepth 100000 in
set_option maxHeartbeats 4000000 in
theorem bestref_any (A : Option Addr) (c L : Nat) (d : List Int) (W : World) (h : RdI W W.heap.size A d) (h0 : 0 < d.length) (hm : d.length ≤ 300) (hL : L ≤ 16) (hd : ∀ x ∈ d, 0 ≤ x ∧ x ≤ 1099511627776) :
    Calls Try.prog 23 #[.slice A d.length c, .int .i64 (L : Int)] W fun e w' => e = .returned (.int .i64 (lv d L).1) ∧ Below W.heap.size W w' := by
  have H := hid h
  have Hd := hid hd
  obtain ⟨m, hme⟩ : ∃ m, m = d.length := ⟨_, rfl⟩
  obtain ⟨N1, hN1⟩ : ∃ N1, N1 = m + 1 := ⟨_, rfl⟩
  obtain ⟨N2, hN2⟩ : ∃ N2, N2 = m + 2 := ⟨_, rfl⟩
  have Hm := hid hme
  have H1 := hid hN1
  have H2 := hid hN2
  rw [← hme] at h0 hm ⊢
  have t1 : IntKind.i64.wrap ((m : Int) + 1) = (N1 : Int) := (IntWalk.i64_in _ (by omega)).trans (by omega)
  have mk1 := make_ints N1 (by omega)
  have Mk1 := hid mk1
  have hb1 : N1 ≤ 400 := by omega
  have d0 : ((m : Int) == 0) = false := beq_eq_false_iff_ne.2 (by omega)
  obtain ⟨g, hg⟩ : ∃ g, g = W.heap.size := ⟨_, rfl⟩
  have Hg := hid hg
  have Hrs := hid (show ∀ i, rs d i ≤ 300 * 1099511627776 from fun i => by
    have := rs_le (fun x hx => (hd x hx).2) (by omega) i
    have h2 : (d.length : Int) * 1099511627776 ≤ 300 * 1099511627776 := Int.mul_le_mul_of_nonneg_right (by omega) (by omega)
    omega)
  clear h hd hme hN1 hN2
  go_enter Try.func23, Try.ntmps23
  go_upto_region 6 with (fail)
  clear mk1
  rw [← hg]
  have G0 := hid (show Blk (W.alloc (.cells (intRow N1 fun _ => 0) 3)) g 3 (intRow N1 fun x => if m ≤ x then rs d x else 0) from by
    have e : intRow N1 (fun x => if m ≤ x then rs d x else 0) = intRow N1 (fun _ => 0) := intRow_congr N1 _ _ (fun x hx => by
      by_cases e : m ≤ x
      · rw [if_pos e, rs_end d (by have := Hm.out; omega)]
      · rw [if_neg e])
    rw [e, hg]
    exact Blk.new _ _ _)
  have B0 := hid (show Below g W (W.alloc (.cells (intRow N1 fun _ => 0) 3)) from (Below.refl _ _).alloc (by omega) _)
  generalize W.alloc (.cells (intRow N1 fun _ => 0) 3) = w1 at *
  clear hg
  go_loopw [7] (fun i wr => ∃ j : Nat, j ≤ m ∧ i = .int .i64 ((j : Int) - 1) ∧ Blk wr g 3 (intRow N1 fun x => if j ≤ x then rs d x else 0) ∧ Below g W wr) (fun i _ => (intOf i + 1).toNat)
  case atStart => exact ⟨m, by omega, rfl, G0.out, B0.out⟩
  case round =>
    obtain ⟨j, hj, rfl, hT, hB⟩ := hrel
    have T := hid hT
    have B := hid hB
    clear hT hB
    by_cases hlt : 0 < j
    · obtain ⟨i, rfl⟩ : ∃ i, j = i + 1 := ⟨j - 1, by omega⟩
      rw [show ((i + 1 : Nat) : Int) - 1 = (i : Int) by omega]
      obtain ⟨i1, hi1⟩ : ∃ i1, i1 = i + 1 := ⟨_, rfl⟩
      have t2 : IntKind.i64.wrap ((i : Int) + 1) = (i1 : Int) := (IntWalk.i64_in _ (by omega)).trans (by omega)
      obtain ⟨b, off, rfl, hb, x0⟩ := int_at (H.out.below B.out (by rw [Hg.out]; exact Nat.le_refl _)) (j := i) (by have := Hm.out; omega)
      have x1 : wr.cell? ⟨g, i1, none⟩ = some (.int .i64 (rs d i1)) := by
        rw [T.out.cell, intRow_at _ _ _ (by have := H1.out; omega), if_pos (by omega)]
      have hgw := T.out.lt
      have fz := T.out.frozen i
      have st := rs_step d (i := i) (by have := Hm.out; omega)
      have bd : 0 ≤ rs d i1 ∧ rs d i1 ≤ 400 * 1099511627776 := ⟨rs_nn (fun x hx => (Hd.out x hx).1) _, by have := Hrs.out i1; omega⟩
      obtain ⟨v, hv⟩ : ∃ v, d[i]'(by have := Hm.out; omega) = v := ⟨_, rfl⟩
      have bv : 0 ≤ v ∧ v ≤ 1099511627776 := by rw [← hv]; exact Hd.out _ (List.getElem_mem _)
      rw [hv] at x0
      rw [List.getD_eq_getElem?_getD, List.getElem?_eq_getElem (by have := Hm.out; omega)] at st
      have st2 : rs d i1 + v = rs d i := by rw [hi1, ← hv, st]; simp; omega
      generalize rs d i1 = r at *
      have St := hid st2
      have t3 : IntKind.i64.wrap (r + v) = r + v := IntWalk.i64_in _ (by omega)
      have P := hid (T.out.set_ i (.int .i64 (r + v)))
      have Hi1 := hid hi1
      have hbw : b < wr.heap.size := by have := B.out.size; have := Hg.out; omega
      have hine : i < N1 := by have := H1.out; omega
      have hi1n : i1 < N1 := by have := H1.out; omega
      have him : i < m := by omega
      clear st st2 hv hi1
      have fz2 : wr.drew.frozen? ⟨g, i, none⟩ = false := fz
      have hgw2 : g < wr.drew.heap.size := hgw
      have x2 : wr.drew.cell? ⟨g, i, none⟩ = some (.int .i64 0) := by
        show wr.cell? _ = _
        rw [T.out.cell, intRow_at _ _ _ hine, if_neg (by have := Hi1.out; omega)]
      have y1 : (wr.setCell ⟨g, i, none⟩ (.int .i64 (r + v))).cell? ⟨g, i1, none⟩ = some (.int .i64 r) := (World.cell?_setCell_other _ _ _ _ (by intro e; injection e with _ e; have := Hi1.out; omega)).trans x1
      have y0 : (wr.setCell ⟨g, i, none⟩ (.int .i64 (r + v))).cell? ⟨b, off + i, none⟩ = some (.int .i64 v) := (World.cell?_setCell_other _ _ _ _ (by intro e; injection e with e _; have := Hg.out; omega)).trans x0
      go_upto_region 8 with (fail)
      go_region_held3 (fun w' => w'.cell? ⟨g, i1, none⟩ = some (.int .i64 r) ∧ w'.cell? ⟨b, off + i, none⟩ = some (.int .i64 v)) (first | go_keep | exact ⟨x1, x0⟩ | exact ⟨y1, y0⟩) (fail)
      have R := hid (show Blk (wr.setCell ⟨g, i, none⟩ (.int .i64 (r + v))) g 3 (intRow N1 fun x => if i ≤ x then rs d x else 0) from by
        have h := P.out
        rw [intRow_set N1 _ (fun x => if i ≤ x then rs d x else 0) i _ (by rw [if_pos (Nat.le_refl _), St.out]) (fun k hk => by
          by_cases h1 : i + 1 ≤ k
          · rw [if_pos h1, if_pos (by omega)]
          · rw [if_neg h1, if_neg (by omega)])] at h
        exact h)
      have RB := hid (B.out.setCell (p := ⟨g, i, none⟩) (by show g ≤ g; omega) (.int .i64 (r + v)))
      go_wp2
      go_roundw
      case rel => exact ⟨i, by omega, by first | rfl | go_num, R.out, Below.drew RB.out⟩
      case measure => simp [intOf] <;> omega
    · obtain rfl : j = 0 := by omega
      rw [show ((0 : Nat) : Int) - 1 = -1 by omega]
      have T2 := hid (show Blk wr g 3 (intRow N1 (rs d)) from by
        have h := T.out
        rw [intRow_congr N1 _ (rs d) (fun x _ => by rw [if_pos (Nat.zero_le _)])] at h
        exact h)
      clear T
      go_wp2_with fail
      refine (table_any m (by omega) _).mono ?_
      rintro e w2 ⟨rfl, hT2, hb2⟩
      obtain ⟨gl, hgl⟩ : ∃ gl, gl = wr.heap.size := ⟨_, rfl⟩
      have hg1 : g < gl := by have := T2.out.lt; omega
      rw [← hgl] at hT2 hb2 ⊢
      have TT := hid hT2
      have R2 := hid (T2.out.below hb2 (by omega))
      have B2 := hid (B.out.trans (hb2.mono (by omega)))
      clear hT2 hb2 T2 B hgl
      rw [← H1.out]
      go_upto_region 10 with (fail)
      go_cut [54] from 46 to 54 (fun _ wq => TabW wq gl m (lv d 0).2 ∧ Blk wq g 3 (intRow N1 (rs d)) ∧ Below g W wq)
      case first =>
        obtain ⟨mi, hmi⟩ : ∃ mi, mi = min 2 m := ⟨_, rfl⟩
        obtain ⟨q, hq⟩ : ∃ q, q = gl + 1 + 0 := ⟨_, rfl⟩
        have tm1 : (if (m : Int) < 2 then (m : Int) else 2) = (mi : Int) := by split <;> omega
        have tm2 : (if 2 < (m : Int) then (2 : Int) else (m : Int)) = (mi : Int) := by split <;> omega
        obtain ⟨c0, c1⟩ := TT.out.at_ (i := 0) (n := mi) (by omega) (by omega)
        rw [← hq, ← H2.out] at c0
        rw [← hq] at c1
        have c2 : w2.cell? ⟨g, 0, none⟩ = some (.int .i64 (rs d 0)) := by rw [R2.out.cell, intRow_at _ _ _ (by have := H1.out; omega)]
        have fz : w2.drew.frozen? ⟨q, mi, none⟩ = false := by rw [hq]; exact (TT.out.row 0 (by omega)).frozen mi
        have hqw : q < w2.drew.heap.size := by rw [hq]; exact (TT.out.row 0 (by omega)).lt
        have hglw : gl < w2.heap.size := TT.out.top.lt
        have hgw : g < w2.heap.size := by omega
        have c3 : w2.drew.cell? ⟨q, mi, none⟩ = some (.int .i64 (none2M 0 mi)) := c1
        have hmm : (mi : Int) < (N2 : Int) := by have := H2.out; omega
        have hmm3 : mi < N2 := by omega
        have hmm0 : (0 : Int) ≤ (mi : Int) := by omega
        have hN0 : (0 : Int) < (N1 : Int) := by have := H1.out; omega
        have hN00 : 0 < N1 := by omega
        have P1 := hid (TT.out.put (i := 0) (n := mi) (by omega) (rs d 0))
        have P2 := hid (R2.out.far (p := ⟨gl + 1 + 0, mi, none⟩) (by show g ≠ gl + 1 + 0; omega) (.int .i64 (rs d 0)))
        have P3 := hid (B2.out.setCell (p := ⟨gl + 1 + 0, mi, none⟩) (by show g ≤ gl + 1 + 0; omega) (.int .i64 (rs d 0)))
        rw [← hq] at P1 P2 P3
        have Hmi := hid (show set2 none2M 0 mi (rs d 0) = (lv d 0).2 by rw [hmi, Hm.out]; rfl)
        have y0 : (w2.setCell ⟨q, mi, none⟩ (.int .i64 (rs d 0))).cell? ⟨gl, 0, none⟩ = some (.slice (some ⟨q, 0, none⟩) N2 N2) := (World.cell?_setCell_other _ _ _ _ (by intro e; injection e with e _; omega)).trans c0
        have y2 : (w2.setCell ⟨q, mi, none⟩ (.int .i64 (rs d 0))).cell? ⟨g, 0, none⟩ = some (.int .i64 (rs d 0)) := (World.cell?_setCell_other _ _ _ _ (by intro e; injection e with e _; omega)).trans c2
        clear hmi hq c1
        generalize rs d 0 = r0 at *
        go_region_held3 (fun w' => w'.cell? ⟨gl, 0, none⟩ = some (.slice (some ⟨q, 0, none⟩) N2 N2) ∧ w'.cell? ⟨g, 0, none⟩ = some (.int .i64 r0)) (first | go_keep | exact ⟨c0, c2⟩ | exact ⟨y0, y2⟩) (fail)
        go_wp2
        go_meet
        refine ⟨?_, P2.out, Below.drew P3.out⟩
        rw [← Hmi.out]
        exact ⟨P1.out.top, P1.out.row⟩
      case rest =>
        obtain ⟨hT, hR, hB⟩ := hcut
        have T0 := hid hT
        have R0 := hid hR
        have B0' := hid hB
        clear hT hR hB TT R2 B2 G0 B0
        go_upto_region 13 with (fail)
        go_loopw [8, 9, 10] (fun tv bv lv' wr => ∃ t gl : Nat, t ≤ L ∧ lv' = .int .i64 ((t : Int) + 1) ∧ bv = .int .i64 (lv d t).1 ∧ tv = .slice (some ⟨gl, 0, none⟩) N1 N1 ∧ TabW wr gl m (lv d t).2 ∧ Blk wr g 3 (intRow N1 (rs d)) ∧ Below g W wr ∧ g < gl) (fun _ _ i _ => L + 1 - (intOf i).toNat)
        case atStart => exact ⟨0, gl, by omega, rfl, rfl, rfl, T0.out, R0.out, B0'.out, hg1⟩
        case round =>
          obtain ⟨t, gl, ht, rfl, rfl, rfl, hT, hR, hB, hgg⟩ := hrel
          have T := hid hT
          have R := hid hR
          have B := hid hB
          clear hT hR hB T0 R0 B0'
          by_cases hlt2 : t < L
          · have d1 : decide ((t : Int) + 1 ≤ (L : Int)) = true := decide_eq_true (by omega)
            have Hv := hid (fun i n => lv_le (fun x hx => (Hd.out x hx).1) Hrs.out (by omega) t i n)
            have Hlv := hid (show lv d (t + 1) = fi d (lv d t).2 ((lv d t).1, none2M) (m + 1) by rw [Hm.out]; rfl)
            generalize lv d t = LV at *
            obtain ⟨b0, T0⟩ := LV
            simp only at T Hv Hlv
            go_wp2_with fail
            refine (table_any m (by omega) _).mono ?_
            rintro e w3 ⟨rfl, hT3, hb3⟩
            obtain ⟨gn, hgn⟩ : ∃ gn, gn = wr.heap.size := ⟨_, rfl⟩
            have hg2 : gl + 1 + m < gn := by have := (T.out.row m (Nat.le_refl _)).lt; omega
            rw [← hgn] at hT3 hb3 ⊢
            have BB0 := hid (show BB w3 W g gl gn m N1 d T0 none2M from ⟨T.out.below hb3 (by omega), hT3, R.out.below hb3 (by omega), B.out.trans (hb3.mono (by omega)), hgg, hg2⟩)
            clear T R B hT3 hb3 hgn
            rw [← H1.out]
            have Hb := hid (show ((t + 1 : Nat) : Int) * (300 * 1099511627776) ≤ 17 * (300 * 1099511627776) from Int.mul_le_mul_of_nonneg_right (by omega) (by omega))
            go_upto_region 17 with (fail)
            go_loopw [9, 12] (fun bv iv wr => ∃ i : Nat, i ≤ N1 ∧ iv = .int .i64 (i : Int) ∧ bv = .int .i64 (fi d T0 (b0, none2M) i).1 ∧ BB wr W g gl gn m N1 d T0 (fi d T0 (b0, none2M) i).2) (fun _ i _ => N1 + 1 - (intOf i).toNat)
            case atStart => exact ⟨0, by omega, rfl, rfl, BB0.out⟩
            case round =>
              obtain ⟨i, hi, rfl, rfl, hB⟩ := hrel
              have B := hid hB
              clear hB BB0
              by_cases hlt3 : i < N1
              · have him : i ≤ m := by have := H1.out; omega
                have d2 : decide ((i : Int) ≤ (m : Int)) = true := decide_eq_true (by omega)
                have d2n : decide (i ≤ m) = true := decide_eq_true (by first | omega | (have := H1.out; omega))
                have Hfi := hid (show fi d T0 (b0, none2M) (i + 1) = nf d T0 i (fi d T0 (b0, none2M) i) N1 by rw [H1.out, Hm.out]; rfl)
                generalize fi d T0 (b0, none2M) i = F at *
                go_upto_region 20 with (fail)
                go_loopw [9, 13] (fun bv nv wr => ∃ n : Nat, n ≤ N1 ∧ nv = .int .i64 (n : Int) ∧ bv = .int .i64 (nf d T0 i F n).1 ∧ BB wr W g gl gn m N1 d T0 (nf d T0 i F n).2) (fun _ n _ => N1 + 1 - (intOf n).toNat)
                case atStart => exact ⟨0, by omega, rfl, rfl, B.out⟩
                case round =>
                  obtain ⟨n, hn, rfl, rfl, hB⟩ := hrel
                  have B2 := hid hB
                  clear hB B
                  by_cases hlt4 : n < N1
                  · have hnm : n ≤ m := by have := H1.out; omega
                    have d3 : decide ((n : Int) ≤ (m : Int)) = true := decide_eq_true (by omega)
                    have d3n : decide (n ≤ m) = true := decide_eq_true (by first | omega | (have := H1.out; omega))
                    have Hnf := hid (show nf d T0 i F (n + 1) = if T0 i n < 0 then nf d T0 i F n else kf d i n (T0 i n) (nf d T0 i F n) (min n (m - i) + 1) by rw [Hm.out]; rfl)
                    generalize nf d T0 i F n = S0 at *
                    obtain ⟨q, hq⟩ : ∃ q, q = gl + 1 + i := ⟨_, rfl⟩
                    obtain ⟨c0, c1⟩ := B2.out.tl.at_ him (show n < m + 2 by omega)
                    rw [← hq, ← H2.out] at c0
                    rw [← hq] at c1
                    have hv2 := Hv.out i n
                    have hbb := Hb.out
                    generalize T0 i n = v at *
                    have hqw : q < wr.heap.size := by rw [hq]; exact (B2.out.tl.row i him).lt
                    have hglw : gl < wr.heap.size := B2.out.tl.top.lt
                    have hnN : n < N2 := by have := H2.out; omega
                    by_cases hv0 : v < 0
                    · have d4 : decide (v < 0) = true := decide_eq_true hv0
                      have Hn2 := hid (Hnf.out.trans (if_pos hv0))
                      clear hv0 hq hv2 hbb Hv
                      go_wp2
                      go_roundw
                      case rel => exact ⟨n + 1, by omega, by go_num, by rw [Hn2.out], by rw [Hn2.out]; exact B2.out⟩
                      case measure => simp [intOf]; omega
                    · have d4 : decide (v < 0) = false := decide_eq_false hv0
                      have Hn2 := hid (Hnf.out.trans (if_neg hv0))
                      have hvb : 0 ≤ v ∧ v ≤ 17 * (300 * 1099511627776) := by omega
                      clear hv0 hq hv2 hbb Hv Hnf
                      go_upto_region 25 with (fail)
                      clear c0 c1 hqw hglw
                      obtain ⟨K, hK⟩ : ∃ K, K = min n (m - i) + 1 := ⟨_, rfl⟩
                      rw [← hK] at Hn2
                      have HK := hid hK
                      have hKb : K ≤ 400 := by omega
                      clear hK
                      go_loopw [9, 15] (fun bv kv wr => ∃ k : Nat, k ≤ K ∧ kv = .int .i64 (k : Int) ∧ bv = .int .i64 (kf d i n v S0 k).1 ∧ BB wr W g gl gn m N1 d T0 (kf d i n v S0 k).2) (fun _ k _ => K + 1 - (intOf k).toNat)
                      case atStart => exact ⟨0, by omega, rfl, rfl, B2.out⟩
                      case round =>
                        obtain ⟨k, hk, rfl, rfl, hB⟩ := hrel
                        have B3 := hid hB
                        clear hB B2
                        obtain ⟨ik, hik⟩ : ∃ ik, ik = i + k := ⟨_, rfl⟩
                        have hKm := HK.out
                        have t3 : IntKind.i64.wrap ((i : Int) + (k : Int)) = (ik : Int) := (IntWalk.i64_in _ (by omega)).trans (by omega)
                        by_cases hlt5 : k < K
                        · have f1 : decide ((k : Int) ≤ (n : Int)) = true := decide_eq_true (by omega)
                          have f1n : decide (k ≤ n) = true := decide_eq_true (by first | omega | (have := H1.out; omega))
                          have f2 : decide ((ik : Int) ≤ (m : Int)) = true := decide_eq_true (by omega)
                          have f2n : decide (ik ≤ m) = true := decide_eq_true (by first | omega | (have := H1.out; omega))
                          have Hst := hid (show kf d i n v S0 (k + 1) = stp d i n k v (kf d i n v S0 k) from rfl)
                          have e0 := stp_eq d i n k v (kf d i n v S0 k)
                          rw [← Hm.out, ← hik] at e0
                          generalize kf d i n v S0 k = S at *
                          by_cases c1 : ik = m
                          · have f3 : ((ik : Int) == (m : Int)) = true := by rw [c1]; exact beq_self_eq_true _
                            rw [if_pos c1] at e0
                            by_cases c2 : S.1 < 0
                            · have f4 : decide (S.1 < 0) = true := decide_eq_true c2
                              rw [if_pos (.inl c2)] at e0
                              have E0 := hid (Hst.out.trans e0)
                              clear e0 Hst c2 hKm hik c1
                              go_wp2
                              go_roundw
                              case rel => exact ⟨k + 1, by omega, by go_num, by rw [E0.out], by rw [E0.out]; exact B3.out⟩
                              case measure => simp [intOf]; omega
                            · have f4 : decide (S.1 < 0) = false := decide_eq_false c2
                              by_cases c3 : v < S.1
                              · have f5 : decide (v < S.1) = true := decide_eq_true c3
                                rw [if_pos (.inr c3)] at e0
                                have E0 := hid (Hst.out.trans e0)
                                clear e0 Hst c2 c3 hKm hik c1
                                go_wp2
                                go_roundw
                                case rel => exact ⟨k + 1, by omega, by go_num, by rw [E0.out], by rw [E0.out]; exact B3.out⟩
                                case measure => simp [intOf]; omega
                              · have f5 : decide (v < S.1) = false := decide_eq_false c3
                                rw [if_neg (by omega)] at e0
                                have E0 := hid (Hst.out.trans e0)
                                clear e0 Hst c2 c3 hKm hik c1
                                go_wp2
                                go_roundw
                                case rel => exact ⟨k + 1, by omega, by go_num, by rw [E0.out], by rw [E0.out]; exact B3.out⟩
                                case measure => simp [intOf]; omega
                          · have f3 : ((ik : Int) == (m : Int)) = false := beq_eq_false_iff_ne.2 (by omega)
                            rw [if_neg c1] at e0
                            obtain ⟨o, ho⟩ : ∃ o, o = min (2 * (n - k)) (m - i - k) := ⟨_, rfl⟩
                            rw [← ho] at e0
                            obtain ⟨nk, hnk⟩ : ∃ nk, nk = n - k := ⟨_, rfl⟩
                            obtain ⟨mi, hmi⟩ : ∃ mi, mi = m - i := ⟨_, rfl⟩
                            obtain ⟨r, hr⟩ : ∃ r, r = m - i - k := ⟨_, rfl⟩
                            obtain ⟨nk2, hnk2⟩ : ∃ nk2, nk2 = 2 * nk := ⟨_, rfl⟩
                            have s1 : IntKind.i64.wrap ((n : Int) - (k : Int)) = (nk : Int) := (IntWalk.i64_in _ (by omega)).trans (by omega)
                            have s2 : IntKind.i64.wrap (2 * (nk : Int)) = (nk2 : Int) := (IntWalk.i64_in _ (by omega)).trans (by omega)
                            have s3 : IntKind.i64.wrap ((m : Int) - (i : Int)) = (mi : Int) := (IntWalk.i64_in _ (by omega)).trans (by omega)
                            have s4 : IntKind.i64.wrap ((mi : Int) - (k : Int)) = (r : Int) := (IntWalk.i64_in _ (by omega)).trans (by omega)
                            have hor : o = min nk2 r := by rw [ho, hnk2, hnk, hr]
                            have hoN : o < m + 2 := by omega
                            have hiN : ik < N1 := by have := H1.out; omega
                            have hikm : ik ≤ m := by omega
                            have Hik := hid hik
                            have EE := hid e0
                            have Hor := hid hor
                            clear ho hnk hmi hr hnk2 hKm hik c1 e0 hor
                            go_upto_if 116 with (fail)
                            go_cut [16] from 106 to 121 (fun ov wq => ov = .int .i64 (o : Int) ∧ wr = wq)
                            case first =>
                              by_cases c1 : r < nk2
                              · have g1 : decide ((r : Int) < (nk2 : Int)) = true := decide_eq_true (by omega)
                                have g2 : decide (r < nk2) = true := decide_eq_true c1
                                have Ho := hid (show o = r by have := Hor.out; omega)
                                clear c1 g1
                                rw [g2]
                                clear g2
                                go_wp2
                                go_meet
                                exact ⟨by rw [Ho.out], rfl⟩
                              · have g1 : decide ((r : Int) < (nk2 : Int)) = false := decide_eq_false (by omega)
                                have g2 : decide (r < nk2) = false := decide_eq_false c1
                                have Ho := hid (show o = nk2 by have := Hor.out; omega)
                                clear c1 g1
                                rw [g2]
                                clear g2
                                go_wp2
                                go_meet
                                exact ⟨by rw [Ho.out], rfl⟩
                            case rest =>
                              obtain ⟨rfl, rfl⟩ := hcut
                              have e0 := EE.out
                              clear s1 s2 s3 s4 EE
                              by_cases c2 : o = 0
                              · have g1 : ((o : Int) == 0) = true := by rw [c2]; rfl
                                rw [if_pos c2] at e0
                                have E0 := hid (Hst.out.trans e0)
                                clear e0 Hst c2
                                go_wp2
                                go_roundw
                                case rel => exact ⟨k + 1, by omega, by go_num, by rw [E0.out], by rw [E0.out]; exact B3.out⟩
                                case measure => simp [intOf]; omega
                              · have g1 : ((o : Int) == 0) = false := beq_eq_false_iff_ne.2 (by omega)
                                rw [if_neg c2] at e0
                                have hrb := Hrs.out ik
                                have hrn := rs_nn (fun x hx => (Hd.out x hx).1) ik
                                have x0 : wr.cell? ⟨g, ik, none⟩ = some (.int .i64 (rs d ik)) := by rw [B3.out.r.cell, intRow_at _ _ _ hiN]
                                obtain ⟨q2, hq2⟩ : ∃ q2, q2 = gn + 1 + ik := ⟨_, rfl⟩
                                obtain ⟨y0, y1⟩ := B3.out.tn.at_ hikm hoN
                                have Pt := hid (fun c => B3.out.put (i := ik) (n := o) hikm c)
                                have fz : wr.frozen? ⟨gn + 1 + ik, o, none⟩ = false := (B3.out.tn.row ik hikm).frozen o
                                have hq2w : gn + 1 + ik < wr.heap.size := (B3.out.tn.row ik hikm).lt
                                rw [← hq2] at y0 y1 Pt fz hq2w
                                rw [← H2.out] at y0 hoN
                                have hgw : g < wr.heap.size := B3.out.r.lt
                                have hgnw : gn < wr.heap.size := B3.out.tn.top.lt
                                generalize rs d ik = rr at *
                                obtain ⟨cc, hcc⟩ : ∃ cc, cc = v + rr := ⟨_, rfl⟩
                                have s5 : IntKind.i64.wrap (v + rr) = cc := (IntWalk.i64_in _ (by omega)).trans hcc.symm
                                rw [← hcc] at e0
                                generalize S.2 ik o = en at *
                                clear hq2 hcc hrb hrn c2 hvb
                                by_cases c3 : en < 0
                                · have g2 : decide (en < 0) = true := decide_eq_true c3
                                  rw [if_pos (.inl c3)] at e0
                                  have E0 := hid (Hst.out.trans e0)
                                  clear e0 Hst c3
                                  go_wp2
                                  go_roundw
                                  case rel => exact ⟨k + 1, by omega, by go_num, by rw [E0.out], by rw [E0.out]; exact Pt.out cc⟩
                                  case measure => simp [intOf]; omega
                                · have g2 : decide (en < 0) = false := decide_eq_false c3
                                  by_cases c4 : cc < en
                                  · have g3 : decide (cc < en) = true := decide_eq_true c4
                                    rw [if_pos (.inr c4)] at e0
                                    have E0 := hid (Hst.out.trans e0)
                                    clear e0 Hst c3 c4
                                    go_wp2
                                    go_roundw
                                    case rel => exact ⟨k + 1, by omega, by go_num, by rw [E0.out], by rw [E0.out]; exact Pt.out cc⟩
                                    case measure => simp [intOf]; omega
                                  · have g3 : decide (cc < en) = false := decide_eq_false c4
                                    rw [if_neg (by omega)] at e0
                                    have E0 := hid (Hst.out.trans e0)
                                    clear e0 Hst c3 c4
                                    go_wp2
                                    go_roundw
                                    case rel => exact ⟨k + 1, by omega, by go_num, by rw [E0.out], by rw [E0.out]; exact B3.out⟩
                                    case measure => simp [intOf]; omega
                        · obtain rfl : k = K := by omega
                          by_cases c1 : k ≤ n
                          · have f1 : decide ((k : Int) ≤ (n : Int)) = true := decide_eq_true (by omega)
                            have f1n : decide (k ≤ n) = true := decide_eq_true (by first | omega | (have := H1.out; omega))
                            have f2 : decide ((ik : Int) ≤ (m : Int)) = false := decide_eq_false (by omega)
                            have f2n : decide (ik ≤ m) = false := decide_eq_false (by first | omega | (have := H1.out; omega))
                            clear c1 hKm hik
                            go_wp2
                            go_roundw
                            case rel => exact ⟨n + 1, by omega, by go_num, by rw [Hn2.out], by rw [Hn2.out]; exact B3.out⟩
                            case measure => simp [intOf]; omega
                          · have f1 : decide ((k : Int) ≤ (n : Int)) = false := decide_eq_false (by omega)
                            have f1n : decide (k ≤ n) = false := decide_eq_false (by first | omega | (have := H1.out; omega))
                            clear c1 hKm hik
                            go_wp2
                            go_roundw
                            case rel => exact ⟨n + 1, by omega, by go_num, by rw [Hn2.out], by rw [Hn2.out]; exact B3.out⟩
                            case measure => simp [intOf]; omega
                  · obtain rfl : n = N1 := by omega
                    have d3 : decide ((n : Int) ≤ (m : Int)) = false := decide_eq_false (by have := H1.out; omega)
                    have d3n : decide (n ≤ m) = false := decide_eq_false (by first | omega | (have := H1.out; omega))
                    go_wp2
                    go_roundw
                    case rel => exact ⟨i + 1, by omega, by go_num, by rw [Hfi.out], by rw [Hfi.out]; exact B2.out⟩
                    case measure => simp [intOf]; omega
              · obtain rfl : i = N1 := by omega
                have d2 : decide ((i : Int) ≤ (m : Int)) = false := decide_eq_false (by have := H1.out; omega)
                have d2n : decide (i ≤ m) = false := decide_eq_false (by first | omega | (have := H1.out; omega))
                have Hl2 := hid (show lv d (t + 1) = fi d T0 (b0, none2M) i by rw [Hlv.out, H1.out])
                go_wp2
                go_roundw
                case rel => exact ⟨t + 1, gn, by omega, by go_num, by rw [Hl2.out], rfl, by rw [Hl2.out]; exact B.out.tn, B.out.r, B.out.old, by have := B.out.o1; have := B.out.o2; omega⟩
                case measure => simp [intOf]; omega
          · obtain rfl : t = L := by omega
            have d1 : decide ((t : Int) + 1 ≤ (t : Int)) = false := decide_eq_false (by omega)
            go_wp2
            go_ret
            exact ⟨rfl, B.out.mono (by have := Hg.out; omega)⟩
end Go.Proofs.Ythhllollhjpheaa
