/-
  burnishref26.Wishes of an order that wishes say.
  recomp.Wishes and burnishref26.Wishes of an order that no wishes say.
  RecompWishes' law.
-/
import Derived.Test.YtfcppchjikmioaaGreatWrC
import Derived.Test.YtfcppchjikmioaaGreatWrB
import Derived.Test.YtfcppchjikmioaaGreatOrdAl
namespace Go.Proofs.YtfcppchjikmioaaGreat
open Go.RowKit Go.Lib Go.Proofs.YtfcppchjikmioaaGreat.PngChecks

def wK (o : Od) (k : Nat) : List Wsh := pick ((wCand o).take k)
theorem pick_appD : ∀ (C D : List (Bool × Wsh)), pick (C ++ D) = pick C ++ pick D
  | [], D => rfl
  | (b, x) :: C, D => by rw [List.cons_append, pick_cons, pick_cons, pick_appD C D, List.append_assoc]
theorem wL_stepD (o : Od) (k : Nat) (b : Bool) (x : Wsh) (h : (wCand o)[k]? = some (b, x)) : wK o k ++ pick [(b, x)] = wK o (k + 1) := by
  unfold wK
  rw [List.take_add_one, h, pick_appD]
  rfl
/-- the crop's own tests, in the order of the reference's statements -/
def cC (o : Od) : List (Bool × Wsh) := [(decide (0 < o.x), (nmB 3, .n o.x)), (decide (0 < o.y), (nmB 4, .n o.y)), (decide (o.w < 65535), (nmB 5, .n o.w)), (decide (o.h < 65535), (nmB 6, .n o.h))]
def wC (o : Od) (k : Nat) : List Wsh := wK o 3 ++ pick ((cC o).take k)
theorem wC_step (o : Od) (k : Nat) (b : Bool) (x : Wsh) (h : (cC o)[k]? = some (b, x)) : wC o k ++ pick [(b, x)] = wC o (k + 1) := by
  unfold wC
  rw [List.take_add_one, h, pick_appD, List.append_assoc]
  rfl
theorem wK_seven (o : Od) : wK o 7 = wK o 3 ++ pick [(xTold o, (nmB 3, .n o.x)), (decide (o.y ≠ 0), (nmB 4, .n o.y)), (o.cr && decide (o.w ≠ 65535), (nmB 5, .n o.w)), (o.cr && decide (o.h ≠ 65535), (nmB 6, .n o.h))] := by
  unfold wK
  rw [← pick_appD]
  rfl
theorem wC_end (o : Od) (hc : o.cr = true) (x0 : 0 ≤ o.x) (y0 : 0 ≤ o.y) (w1 : o.w ≤ 65535) (h1 : o.h ≤ 65535) : (if pick (cC o) = [] then wC o 4 ++ [(nmB 3, .n 0)] else wC o 4) = wK o 7 := by
  rw [wK_seven]
  unfold wC cC xTold
  rw [hc]
  by_cases a : o.x = 0 <;> by_cases b : o.y = 0 <;> by_cases c : o.w = 65535 <;> by_cases d : o.h = 65535
  all_goals
    have ea : decide (0 < o.x) = !decide (o.x = 0) := by rw [← decide_not]; exact decide_eq_decide.2 (by omega)
    have eb : decide (0 < o.y) = !decide (o.y = 0) := by rw [← decide_not]; exact decide_eq_decide.2 (by omega)
    have ec : decide (o.w < 65535) = !decide (o.w = 65535) := by rw [← decide_not]; exact decide_eq_decide.2 (by omega)
    have ed : decide (o.h < 65535) = !decide (o.h = 65535) := by rw [← decide_not]; exact decide_eq_decide.2 (by omega)
    rw [ea, eb, ec, ed]
    simp [pick, a, b, c, d]
set_option maxRecDepth 100000 in
set_option maxHeartbeats 16000000 in
theorem refW_any (o : Od) (W : World) (hf : FineO o) : Calls Tryz.prog 19 #[odV o] W fun e w' => e = .returned (.tuple #[.string (runesBytes (txF true (pick (wCand o)))), .bool true]) ∧ Below W.heap.size W w' := by
  have CK := hid (good_yes o.t o.p o.cr o.x o.y o.w o.h o.ba o.fo o.re o.la hf.fine)
  have HF := hid hf
  have K0 := hid (show Blk (W.alloc (.cells (odC o) 50)) W.heap.size 50 (odC o) from Blk.new W _ _)
  have hplc := hf.plc
  have HPlc := hid hplc
  clear hf hplc
  obtain ⟨i0, hi0, hz0, hz1, hz2⟩ := info_parts wi_info
  have Hi0 := hid hi0
  have Hz0 := hid hz0
  have Hz1 := hid hz1
  have Hz2 := hid hz2
  clear hi0 hz0 hz1 hz2
  go_enter Tryz.func19, Tryz.ntmps19
  unfold odV
  go_upto_region 1 with (fail)
  unfold odC at K0
  obtain ⟨w0, hw0⟩ : ∃ w0, w0 = W.alloc (.cells #[.int .i64 o.t, .bool o.p, .bool o.cr, .int .i64 o.x, .int .i64 o.y, .int .i64 o.w, .int .i64 o.h, .bool o.ba, .int .i64 o.fo, .int .i64 o.re, .int .i64 o.la] 50) := ⟨_, rfl⟩
  have B0 := hid (show Below W.heap.size W w0 from by rw [hw0]; exact (Below.refl _ _).alloc (Nat.le_refl _) _)
  rw [← hw0] at K0 ⊢
  clear hw0
  obtain ⟨g1, hg1⟩ : ∃ g1, g1 = W.heap.size := ⟨_, rfl⟩
  rw [← hg1] at K0 ⊢
  clear hg1
  generalize (Value.agg #[.int .i64 o.t, .bool o.p, .bool o.cr, .int .i64 o.x, .int .i64 o.y, .int .i64 o.w, .int .i64 o.h, .bool o.ba, .int .i64 o.fo, .int .i64 o.re, .int .i64 o.la]) = ag
  go_cut [33] from 6 to 33 (fun v wq => v = .bool false ∧ Hid (Below w0.heap.size w0 wq))
  · skip
    have q0 := K0.out.cell 0
    have q1 := K0.out.cell 1
    have q2 := K0.out.cell 2
    have q3 := K0.out.cell 3
    have q4 := K0.out.cell 4
    have q5 := K0.out.cell 5
    have q6 := K0.out.cell 6
    have q7 := K0.out.cell 7
    have q8 := K0.out.cell 8
    have q9 := K0.out.cell 9
    have q10 := K0.out.cell 10
    simp only [List.getElem?_toArray, List.getElem?_cons_zero, List.getElem?_cons_succ] at q0 q1 q2 q3 q4 q5 q6 q7 q8 q9 q10
    have l1 := K0.out.lt
    rcases Bool.eq_false_or_eq_true o.cr with hcr | hcr
    · have HC := hid hcr
      clear hcr
      go_wp2_with (go_at_call 21; refine (CK.out _).mono ?_; rintro e w1 ⟨rfl, hb1⟩; have K1 := K0.out.below hb1 K0.out.lt; have r2 := K1.cell 2; have r3 := K1.cell 3; have r4 := K1.cell 4; have r5 := K1.cell 5; have r6 := K1.cell 6; simp only [List.getElem?_toArray, List.getElem?_cons_zero, List.getElem?_cons_succ] at r2 r3 r4 r5 r6; rw [HC.out] at r2; have l2 := K1.lt; have HB1 := hid hb1; clear hb1 K1)
      go_meet
      exact ⟨rfl, HB1⟩
    · have HC := hid hcr
      have HP := hid (HPlc.out hcr)
      clear hcr
      go_wp2_with (go_at_call 21; refine (CK.out _).mono ?_; rintro e w1 ⟨rfl, hb1⟩; have K1 := K0.out.below hb1 K0.out.lt; have r2 := K1.cell 2; have r3 := K1.cell 3; have r4 := K1.cell 4; have r5 := K1.cell 5; have r6 := K1.cell 6; simp only [List.getElem?_toArray, List.getElem?_cons_zero, List.getElem?_cons_succ] at r2 r3 r4 r5 r6; rw [HC.out] at r2; rw [HP.out.1] at r3; rw [HP.out.2.1] at r4; rw [HP.out.2.2.1] at r5; rw [HP.out.2.2.2] at r6; have l2 := K1.lt; have HB1 := hid hb1; clear hb1 K1)
      go_meet
      exact ⟨rfl, HB1⟩
  obtain ⟨rfl, hB1⟩ := hcut
  have HA := hid (show RB W g1 o none 0 0 (wK o 0) wc from ⟨⟨rfl, .inl ⟨rfl, rfl⟩⟩, rfl, B0.out.trans (hB1.out.mono B0.out.size), K0.out.below hB1.out K0.out.lt⟩)
  clear K0 B0 hB1
  go_upto_region 4 with (fail)
  have q0 := HA.out.ord.cell 0
  simp only [odC, List.getElem?_toArray, List.getElem?_cons_zero] at q0
  have l1 := HA.out.ord.lt
  go_upto_if 36 with (fail)
  obtain ⟨A0, n0, c0, hs, HA0, hn0⟩ : ∃ (A : Option Addr) (n c : Nat), Value.slice none 0 0 = Value.slice A n c ∧ Hid (RB W g1 o A n c (wK o 0) wc) ∧ n ≤ 0 := ⟨none, 0, 0, rfl, HA, by omega⟩
  clear HA
  have HA := HA0
  clear HA0
  rw [hs]
  clear hs
  go_cut [4] from 34 to 45 (fun v wq => ∃ (A : Option Addr) (n c : Nat), v = .slice A n c ∧ Hid (RB W g1 o A n c (wK o 1) wq) ∧ n ≤ 1)
  · by_cases h0 : 0 < o.t
    · have e0 : decide (0 < o.t) = true := decide_eq_true h0
      obtain ⟨j, hj, hjl⟩ : ∃ j : Nat, o.t = (j : Int) ∧ j < turnsW.length := ⟨o.t.toNat, by omega, by show _ < 8; have := HF.out.fine.t7; omega⟩
      have hget : (strV turnsW)[j]? = some (.string (turnsW.getD o.t.toNat ⟨#[]⟩)) := by
        rw [hj, Int.toNat_natCast, List.getD_eq_getElem?_getD, List.getElem?_eq_getElem hjl]
        unfold strV
        rw [List.getElem?_map, List.getElem?_eq_getElem hjl]
        rfl
      generalize hvv : turnsW.getD o.t.toNat ⟨#[]⟩ = vv at *
      have HS := hid (show wK o 0 ++ [(nmB 0, WV.s vv)] = wK o 1 from by
        rw [← wL_stepD o 0 true (nmB 0, .s vv) (by rw [show (wCand o)[0]? = some (decide (o.t ≠ 0), (nmB 0, .s (turnsW.getD o.t.toNat ⟨#[]⟩))) from rfl, hvv, decide_eq_true (show o.t ≠ 0 by omega)])]
        rfl)
      have RA := hid (((HA.out.below' (Below.refl _ wc).drew).below' ((Below.refl _ wc.drew).alloc (Nat.le_refl _) (.cells (strV turnsW).toArray 9))).below' ((Below.refl _ (wc.drew.alloc (.cells (strV turnsW).toArray 9))).alloc (Nat.le_refl _) (.cells #[.string ⟨#[116, 117, 114, 110]⟩, .int .i64 2, .int .i64 0, .string vv, .bool false] 25)))
      have hsz := RA.out.below.size
      try rw [e0]
      clear hvv h0 e0
      go_wp2_with fail
      go_region_law (first
        | (go_simp; go_at_call 43; refine (ref_Turns_any _).mono ?_; rintro e w4 ⟨rfl, rfl⟩)
        | (refine step_app _ (by rfl) _ _ _ (by rfl) W.heap.size 25 i0 (.agg #[.string ByteArray.empty, .int .i64 0, .int .i64 0, .string ByteArray.empty, .bool false]) 5 56 Tryz.underlying22 Hi0.out Hz0.out Hz1.out Hz2.out rfl (by omega) A0 n0 c0 _ (by rfl) RA.out.row _ _ 1 1 [.string ⟨#[116, 117, 114, 110]⟩, .int .i64 2, .int .i64 0, .string vv, .bool false] (by rfl) (rd_one _ _ _ _ (blk_new2 wc.drew _ _ _)) (by simp) (by simp [Value.oneCell']) (by simp only [maxLen]; omega) (by omega) hsz ?_; intro A4 c4 w4 ha4; have R4 := hid (RA.out.app (x := (nmB 0, .s vv)) ha4); clear ha4))
      all_goals
        go_wp2
        go_meet
        exact ⟨A4, n0 + 1, c4, rfl, hid (by rw [← HS.out]; exact R4.out), by omega⟩
    · have e0 : decide (0 < o.t) = false := decide_eq_false h0
      have HS := hid (show wK o 0 = wK o 1 from by
        rw [← wL_stepD o 0 false (nmB 0, .s (turnsW.getD o.t.toNat ⟨#[]⟩)) (by rw [show (wCand o)[0]? = some (decide (o.t ≠ 0), (nmB 0, .s (turnsW.getD o.t.toNat ⟨#[]⟩))) from rfl, decide_eq_false (show ¬ o.t ≠ 0 by have := HF.out.fine.t0; omega)])]
        exact (List.append_nil _).symm)
      try rw [e0]
      go_wp2_with fail
      go_meet
      exact ⟨A0, n0, c0, rfl, hid (by rw [← HS.out]; exact HA.out), by omega⟩
  obtain ⟨A1, n1, c1, rfl, hA1, hn1⟩ := hcut
  clear HA q0 l1
  have q1 := hA1.out.ord.cell 1
  simp only [odC, List.getElem?_toArray, List.getElem?_cons_zero, List.getElem?_cons_succ] at q1
  have l1 := hA1.out.ord.lt
  go_upto_if 47 with (fail)
  go_cut [4] from 46 to 51 (fun v wq => ∃ (A : Option Addr) (n c : Nat), v = .slice A n c ∧ Hid (RB W g1 o A n c (wK o 2) wq) ∧ n ≤ 2)
  · rcases Bool.eq_false_or_eq_true o.p with hc | hc
    · have HC := hid hc
      rw [hc]; clear hc
      have HS := hid (show wK o 1 ++ [(nmB 1, .t true)] = wK o 2 from by rw [← wL_stepD o 1 true (nmB 1, .t true) (by rw [show (wCand o)[1]? = some (o.p, (nmB 1, .t true)) from rfl, HC.out])]; rfl)
      have RA := hid (hA1.out.below' ((Below.refl _ wc).alloc (Nat.le_refl _) (.cells #[.string ⟨#[112, 101, 114, 102, 101, 99, 116]⟩, .int .i64 3, .int .i64 0, .string ⟨#[]⟩, .bool true] 25)))
      clear hA1
      go_wp2_with (at_builtin; (refine wpList_app _ rfl _ _ _ rfl W.heap.size 25 i0 (.agg #[.string ByteArray.empty, .int .i64 0, .int .i64 0, .string ByteArray.empty, .bool false]) 5 56 Tryz.underlying22 Hi0.out Hz0.out Hz1.out Hz2.out rfl (by omega) A1 n1 c1 _ rfl RA.out.row _ _ 1 1 [.string ⟨#[112, 101, 114, 102, 101, 99, 116]⟩, .int .i64 3, .int .i64 0, .string ⟨#[]⟩, .bool true] rfl (rd_one _ _ _ _ (Blk.new _ _ _)) (by simp) (by simp [Value.oneCell']) (by simp [maxLen] <;> omega) (by omega) (by have := RA.out.below.size; exact this) ?_; intro A4 c4 w4 ha4; have R4 := hid (RA.out.app (x := (nmB 1, .t true)) ha4); clear ha4))
      go_meet
      exact ⟨A4, n1 + 1, c4, rfl, hid (by rw [← HS.out]; exact R4.out), by omega⟩
    · have HC := hid hc
      rw [hc]; clear hc
      have HS := hid (show wK o 1 = wK o 2 from by rw [← wL_stepD o 1 false (nmB 1, .t true) (by rw [show (wCand o)[1]? = some (o.p, (nmB 1, .t true)) from rfl, HC.out])]; exact (List.append_nil _).symm)
      go_wp2_with fail
      go_meet
      exact ⟨A1, n1, c1, rfl, hid (by rw [← HS.out]; exact hA1.out), by omega⟩
  obtain ⟨A2, n2, c2, rfl, hA2, hn2⟩ := hcut
  clear hA1 hn1 q1 l1
  have q7 := hA2.out.ord.cell 7
  simp only [odC, List.getElem?_toArray, List.getElem?_cons_zero, List.getElem?_cons_succ] at q7
  have l1 := hA2.out.ord.lt
  go_upto_if 53 with (fail)
  go_cut [4] from 52 to 57 (fun v wq => ∃ (A : Option Addr) (n c : Nat), v = .slice A n c ∧ Hid (RB W g1 o A n c (wK o 3) wq) ∧ n ≤ 3)
  · rcases Bool.eq_false_or_eq_true o.ba with hc | hc
    · have HC := hid hc
      rw [hc]; clear hc
      have HS := hid (show wK o 2 ++ [(nmB 2, .t true)] = wK o 3 from by rw [← wL_stepD o 2 true (nmB 2, .t true) (by rw [show (wCand o)[2]? = some (o.ba, (nmB 2, .t true)) from rfl, HC.out])]; rfl)
      have RA := hid (hA2.out.below' ((Below.refl _ wc).alloc (Nat.le_refl _) (.cells #[.string ⟨#[98, 97, 114, 101]⟩, .int .i64 3, .int .i64 0, .string ⟨#[]⟩, .bool true] 25)))
      clear hA2
      go_wp2_with (at_builtin; (refine wpList_app _ rfl _ _ _ rfl W.heap.size 25 i0 (.agg #[.string ByteArray.empty, .int .i64 0, .int .i64 0, .string ByteArray.empty, .bool false]) 5 56 Tryz.underlying22 Hi0.out Hz0.out Hz1.out Hz2.out rfl (by omega) A2 n2 c2 _ rfl RA.out.row _ _ 1 1 [.string ⟨#[98, 97, 114, 101]⟩, .int .i64 3, .int .i64 0, .string ⟨#[]⟩, .bool true] rfl (rd_one _ _ _ _ (Blk.new _ _ _)) (by simp) (by simp [Value.oneCell']) (by simp [maxLen] <;> omega) (by omega) (by have := RA.out.below.size; exact this) ?_; intro A4 c4 w4 ha4; have R4 := hid (RA.out.app (x := (nmB 2, .t true)) ha4); clear ha4))
      go_meet
      exact ⟨A4, n2 + 1, c4, rfl, hid (by rw [← HS.out]; exact R4.out), by omega⟩
    · have HC := hid hc
      rw [hc]; clear hc
      have HS := hid (show wK o 2 = wK o 3 from by rw [← wL_stepD o 2 false (nmB 2, .t true) (by rw [show (wCand o)[2]? = some (o.ba, (nmB 2, .t true)) from rfl, HC.out])]; exact (List.append_nil _).symm)
      go_wp2_with fail
      go_meet
      exact ⟨A2, n2, c2, rfl, hid (by rw [← HS.out]; exact hA2.out), by omega⟩
  obtain ⟨A3, n3, c3, rfl, hA3, hn3⟩ := hcut
  clear hA2 hn2 q7 l1
  have q2 := hA3.out.ord.cell 2
  simp only [odC, List.getElem?_toArray, List.getElem?_cons_zero, List.getElem?_cons_succ] at q2
  have l1 := hA3.out.ord.lt
  go_upto_if 59 with (fail)
  go_cut [4, 5] from 58 to 105 (fun v v5 wq => ∃ (A : Option Addr) (n c : Nat), v = .slice A n c ∧ Hid (RB W g1 o A n c (wK o 7) wq) ∧ n ≤ 7)
  · rcases Bool.eq_false_or_eq_true o.cr with hc | hc
    rotate_left
    · have HC := hid hc
      have HS := hid (show wK o 3 = wK o 7 from by rw [wK_seven]; obtain ⟨a, b, _, _⟩ := HPlc.out hc; unfold xTold; rw [hc, a, b]; exact (List.append_nil _).symm)
      rw [hc]
      clear hc
      go_wp2_with fail
      go_meet
      exact ⟨A3, n3, c3, rfl, hid (by rw [← HS.out]; exact hA3.out), by omega⟩
    have HC := hid hc
    rw [hc]
    clear hc q2 l1
    obtain ⟨A0, n0, c0, hs, hA0, hn0⟩ : ∃ (A : Option Addr) (n c : Nat), Value.slice A3 n3 c3 = Value.slice A n c ∧ Hid (RB W g1 o A n c (wC o 0) wc) ∧ n ≤ 3 := ⟨A3, n3, c3, rfl, hid (by rw [show wC o 0 = wK o 3 from List.append_nil _]; exact hA3.out), hn3⟩
    rw [hs]
    clear hs hA3 hn3
    have hl0 := hid (show n0 = (wK o 3).length from by have := hA0.out.len; rwa [show wC o 0 = wK o 3 from List.append_nil _] at this)
    have q3 := hA0.out.ord.cell 3
    simp only [odC, List.getElem?_toArray, List.getElem?_cons_zero, List.getElem?_cons_succ] at q3
    have l1 := hA0.out.ord.lt
    go_upto_if 64 with (fail)
    go_cut [4] from 62 to 70 (fun v wq => ∃ (A : Option Addr) (n c : Nat), v = .slice A n c ∧ Hid (RB W g1 o A n c (wC o 1) wq) ∧ n ≤ 4)
    · by_cases h0 : 0 < o.x
      · have e0 : decide (0 < o.x) = true := decide_eq_true h0
        have HS := hid (show wC o 0 ++ [(nmB 3, .n o.x)] = wC o 1 from by rw [← wC_step o 0 true (nmB 3, .n o.x) (by rw [show (cC o)[0]? = some (decide (0 < o.x), (nmB 3, .n o.x)) from rfl, e0])]; rfl)
        have RA := hid (hA0.out.below' ((Below.refl _ wc).alloc (Nat.le_refl _) (.cells #[.string ⟨#[120]⟩, .int .i64 1, .int .i64 o.x, .string ⟨#[]⟩, .bool false] 25)))
        try rw [e0]
        clear h0 e0 hA0
        go_wp2_with (at_builtin; (refine wpList_app _ rfl _ _ _ rfl W.heap.size 25 i0 (.agg #[.string ByteArray.empty, .int .i64 0, .int .i64 0, .string ByteArray.empty, .bool false]) 5 56 Tryz.underlying22 Hi0.out Hz0.out Hz1.out Hz2.out rfl (by omega) A0 n0 c0 _ rfl RA.out.row _ _ 1 1 [.string ⟨#[120]⟩, .int .i64 1, .int .i64 o.x, .string ⟨#[]⟩, .bool false] rfl (rd_one _ _ _ _ (Blk.new _ _ _)) (by simp) (by simp [Value.oneCell']) (by simp [maxLen] <;> omega) (by omega) (by have := RA.out.below.size; exact this) ?_; intro A4 c4 w4 ha4; have R4 := hid (RA.out.app (x := (nmB 3, .n o.x)) ha4); clear ha4))
        go_meet
        exact ⟨A4, n0 + 1, c4, rfl, hid (by rw [← HS.out]; exact R4.out), by omega⟩
      · have e0 : decide (0 < o.x) = false := decide_eq_false h0
        have HS := hid (show wC o 0 = wC o 1 from by rw [← wC_step o 0 false (nmB 3, .n o.x) (by rw [show (cC o)[0]? = some (decide (0 < o.x), (nmB 3, .n o.x)) from rfl, e0])]; exact (List.append_nil _).symm)
        try rw [e0]
        clear h0 e0
        go_wp2_with fail
        go_meet
        exact ⟨A0, n0, c0, rfl, hid (by rw [← HS.out]; exact hA0.out), by omega⟩
    obtain ⟨A1, n1, c1, rfl, hA1, hn1⟩ := hcut
    clear hA0 q3 l1
    have q4 := hA1.out.ord.cell 4
    simp only [odC, List.getElem?_toArray, List.getElem?_cons_zero, List.getElem?_cons_succ] at q4
    have l1 := hA1.out.ord.lt
    go_upto_if 73 with (fail)
    go_cut [4] from 71 to 79 (fun v wq => ∃ (A : Option Addr) (n c : Nat), v = .slice A n c ∧ Hid (RB W g1 o A n c (wC o 2) wq) ∧ n ≤ 5)
    · by_cases h0 : 0 < o.y
      · have e0 : decide (0 < o.y) = true := decide_eq_true h0
        have HS := hid (show wC o 1 ++ [(nmB 4, .n o.y)] = wC o 2 from by rw [← wC_step o 1 true (nmB 4, .n o.y) (by rw [show (cC o)[1]? = some (decide (0 < o.y), (nmB 4, .n o.y)) from rfl, e0])]; rfl)
        have RA := hid (hA1.out.below' ((Below.refl _ wc).alloc (Nat.le_refl _) (.cells #[.string ⟨#[121]⟩, .int .i64 1, .int .i64 o.y, .string ⟨#[]⟩, .bool false] 25)))
        try rw [e0]
        clear h0 e0 hA1
        go_wp2_with (at_builtin; (refine wpList_app _ rfl _ _ _ rfl W.heap.size 25 i0 (.agg #[.string ByteArray.empty, .int .i64 0, .int .i64 0, .string ByteArray.empty, .bool false]) 5 56 Tryz.underlying22 Hi0.out Hz0.out Hz1.out Hz2.out rfl (by omega) A1 n1 c1 _ rfl RA.out.row _ _ 1 1 [.string ⟨#[121]⟩, .int .i64 1, .int .i64 o.y, .string ⟨#[]⟩, .bool false] rfl (rd_one _ _ _ _ (Blk.new _ _ _)) (by simp) (by simp [Value.oneCell']) (by simp [maxLen] <;> omega) (by omega) (by have := RA.out.below.size; exact this) ?_; intro A4 c4 w4 ha4; have R4 := hid (RA.out.app (x := (nmB 4, .n o.y)) ha4); clear ha4))
        go_meet
        exact ⟨A4, n1 + 1, c4, rfl, hid (by rw [← HS.out]; exact R4.out), by omega⟩
      · have e0 : decide (0 < o.y) = false := decide_eq_false h0
        have HS := hid (show wC o 1 = wC o 2 from by rw [← wC_step o 1 false (nmB 4, .n o.y) (by rw [show (cC o)[1]? = some (decide (0 < o.y), (nmB 4, .n o.y)) from rfl, e0])]; exact (List.append_nil _).symm)
        try rw [e0]
        clear h0 e0
        go_wp2_with fail
        go_meet
        exact ⟨A1, n1, c1, rfl, hid (by rw [← HS.out]; exact hA1.out), by omega⟩
    obtain ⟨A2, n2, c2, rfl, hA2, hn2⟩ := hcut
    clear hA1 q4 l1
    have q5 := hA2.out.ord.cell 5
    simp only [odC, List.getElem?_toArray, List.getElem?_cons_zero, List.getElem?_cons_succ] at q5
    have l1 := hA2.out.ord.lt
    go_upto_if 82 with (fail)
    go_cut [4] from 80 to 88 (fun v wq => ∃ (A : Option Addr) (n c : Nat), v = .slice A n c ∧ Hid (RB W g1 o A n c (wC o 3) wq) ∧ n ≤ 6)
    · by_cases h0 : o.w < 65535
      · have e0 : decide (o.w < 65535) = true := decide_eq_true h0
        have HS := hid (show wC o 2 ++ [(nmB 5, .n o.w)] = wC o 3 from by rw [← wC_step o 2 true (nmB 5, .n o.w) (by rw [show (cC o)[2]? = some (decide (o.w < 65535), (nmB 5, .n o.w)) from rfl, e0])]; rfl)
        have RA := hid (hA2.out.below' ((Below.refl _ wc).alloc (Nat.le_refl _) (.cells #[.string ⟨#[119]⟩, .int .i64 1, .int .i64 o.w, .string ⟨#[]⟩, .bool false] 25)))
        try rw [e0]
        clear h0 e0 hA2
        go_wp2_with (at_builtin; (refine wpList_app _ rfl _ _ _ rfl W.heap.size 25 i0 (.agg #[.string ByteArray.empty, .int .i64 0, .int .i64 0, .string ByteArray.empty, .bool false]) 5 56 Tryz.underlying22 Hi0.out Hz0.out Hz1.out Hz2.out rfl (by omega) A2 n2 c2 _ rfl RA.out.row _ _ 1 1 [.string ⟨#[119]⟩, .int .i64 1, .int .i64 o.w, .string ⟨#[]⟩, .bool false] rfl (rd_one _ _ _ _ (Blk.new _ _ _)) (by simp) (by simp [Value.oneCell']) (by simp [maxLen] <;> omega) (by omega) (by have := RA.out.below.size; exact this) ?_; intro A4 c4 w4 ha4; have R4 := hid (RA.out.app (x := (nmB 5, .n o.w)) ha4); clear ha4))
        go_meet
        exact ⟨A4, n2 + 1, c4, rfl, hid (by rw [← HS.out]; exact R4.out), by omega⟩
      · have e0 : decide (o.w < 65535) = false := decide_eq_false h0
        have HS := hid (show wC o 2 = wC o 3 from by rw [← wC_step o 2 false (nmB 5, .n o.w) (by rw [show (cC o)[2]? = some (decide (o.w < 65535), (nmB 5, .n o.w)) from rfl, e0])]; exact (List.append_nil _).symm)
        try rw [e0]
        clear h0 e0
        go_wp2_with fail
        go_meet
        exact ⟨A2, n2, c2, rfl, hid (by rw [← HS.out]; exact hA2.out), by omega⟩
    obtain ⟨A3, n3, c3, rfl, hA3, hn3⟩ := hcut
    clear hA2 q5 l1
    have q6 := hA3.out.ord.cell 6
    simp only [odC, List.getElem?_toArray, List.getElem?_cons_zero, List.getElem?_cons_succ] at q6
    have l1 := hA3.out.ord.lt
    go_upto_if 91 with (fail)
    go_cut [4] from 89 to 97 (fun v wq => ∃ (A : Option Addr) (n c : Nat), v = .slice A n c ∧ Hid (RB W g1 o A n c (wC o 4) wq) ∧ n ≤ 7)
    · by_cases h0 : o.h < 65535
      · have e0 : decide (o.h < 65535) = true := decide_eq_true h0
        have HS := hid (show wC o 3 ++ [(nmB 6, .n o.h)] = wC o 4 from by rw [← wC_step o 3 true (nmB 6, .n o.h) (by rw [show (cC o)[3]? = some (decide (o.h < 65535), (nmB 6, .n o.h)) from rfl, e0])]; rfl)
        have RA := hid (hA3.out.below' ((Below.refl _ wc).alloc (Nat.le_refl _) (.cells #[.string ⟨#[104]⟩, .int .i64 1, .int .i64 o.h, .string ⟨#[]⟩, .bool false] 25)))
        try rw [e0]
        clear h0 e0 hA3
        go_wp2_with (at_builtin; (refine wpList_app _ rfl _ _ _ rfl W.heap.size 25 i0 (.agg #[.string ByteArray.empty, .int .i64 0, .int .i64 0, .string ByteArray.empty, .bool false]) 5 56 Tryz.underlying22 Hi0.out Hz0.out Hz1.out Hz2.out rfl (by omega) A3 n3 c3 _ rfl RA.out.row _ _ 1 1 [.string ⟨#[104]⟩, .int .i64 1, .int .i64 o.h, .string ⟨#[]⟩, .bool false] rfl (rd_one _ _ _ _ (Blk.new _ _ _)) (by simp) (by simp [Value.oneCell']) (by simp [maxLen] <;> omega) (by omega) (by have := RA.out.below.size; exact this) ?_; intro A4 c4 w4 ha4; have R4 := hid (RA.out.app (x := (nmB 6, .n o.h)) ha4); clear ha4))
        go_meet
        exact ⟨A4, n3 + 1, c4, rfl, hid (by rw [← HS.out]; exact R4.out), by omega⟩
      · have e0 : decide (o.h < 65535) = false := decide_eq_false h0
        have HS := hid (show wC o 3 = wC o 4 from by rw [← wC_step o 3 false (nmB 6, .n o.h) (by rw [show (cC o)[3]? = some (decide (o.h < 65535), (nmB 6, .n o.h)) from rfl, e0])]; exact (List.append_nil _).symm)
        try rw [e0]
        clear h0 e0
        go_wp2_with fail
        go_meet
        exact ⟨A3, n3, c3, rfl, hid (by rw [← HS.out]; exact hA3.out), by omega⟩
    obtain ⟨A4, n4, c4, rfl, hA4, hn4⟩ := hcut
    clear hA3 q6 l1
    have hl4 := hid (show n4 = (wK o 3).length + (pick (cC o)).length from by rw [hA4.out.len]; unfold wC; rw [List.length_append]; rfl)
    go_upto_if 101 with (fail)
    by_cases hp : pick (cC o) = []
    · have hn : n4 = n0 := by rw [hl4.out, hl0.out, hp]; rfl
      have HE := hid (show wC o 4 ++ [(nmB 3, .n 0)] = wK o 7 from by have := wC_end o HC.out HF.out.fine.x0 HF.out.fine.y0 HF.out.fine.w1 HF.out.fine.h1; rwa [if_pos hp] at this)
      have RA := hid (hA4.out.below' ((Below.refl _ wc).alloc (Nat.le_refl _) (.cells #[.string ⟨#[120]⟩, .int .i64 1, .int .i64 0, .string ⟨#[]⟩, .bool false] 25)))
      clear hl0 hl4 hp hA4
      subst hn
      go_wp2_with (at_builtin; (refine wpList_app _ rfl _ _ _ rfl W.heap.size 25 i0 (.agg #[.string ByteArray.empty, .int .i64 0, .int .i64 0, .string ByteArray.empty, .bool false]) 5 56 Tryz.underlying22 Hi0.out Hz0.out Hz1.out Hz2.out rfl (by omega) A4 n4 c4 _ rfl RA.out.row _ _ 1 1 [.string ⟨#[120]⟩, .int .i64 1, .int .i64 0, .string ⟨#[]⟩, .bool false] rfl (rd_one _ _ _ _ (Blk.new _ _ _)) (by simp) (by simp [Value.oneCell']) (by simp [maxLen] <;> omega) (by omega) (by have := RA.out.below.size; exact this) ?_; intro A5 c5 w5 ha5; have R5 := hid (RA.out.app (x := (nmB 3, .n 0)) ha5); clear ha5))
      go_meet
      exact ⟨A5, n4 + 1, c5, rfl, hid (by rw [← HE.out]; exact R5.out), by omega⟩
    · have hn : n4 ≠ n0 := by have := List.length_pos_iff.2 hp; have a := hl4.out; have b := hl0.out; omega
      have HE := hid (show wC o 4 = wK o 7 from by have := wC_end o HC.out HF.out.fine.x0 HF.out.fine.y0 HF.out.fine.w1 HF.out.fine.h1; rwa [if_neg hp] at this)
      clear hl0 hl4 hp
      have hn' := hid hn
      have e0 : decide ((n4 : Int) = (n0 : Int)) = false := decide_eq_false (by omega)
      go_wp2_with fail
      go_meet
      exact ⟨A4, n4, c4, rfl, hid (by rw [← HE.out]; exact hA4.out), by omega⟩
  obtain ⟨A7, n7, c7, rfl, hA7, hn7⟩ := hcut
  clear hA3 hn3 q2 l1
  have q8 := hA7.out.ord.cell 8
  simp only [odC, List.getElem?_toArray, List.getElem?_cons_zero, List.getElem?_cons_succ] at q8
  have l1 := hA7.out.ord.lt
  have z0 := HF.out.fine.f0
  have z1 := HF.out.fine.f2
  go_upto_if 108 with (fail)
  go_cut [4] from 106 to 117 (fun v wq => ∃ (A : Option Addr) (n c : Nat), v = .slice A n c ∧ Hid (RB W g1 o A n c (wK o 8) wq) ∧ n ≤ 8)
  · by_cases h0 : 0 < o.fo
    · have e0 : decide (0 < o.fo) = true := decide_eq_true h0
      obtain ⟨j, hj, hjl⟩ : ∃ j : Nat, o.fo = (j : Int) ∧ j < formsW.length := ⟨(o.fo).toNat, by omega, by show _ < 3; omega⟩
      have hget : (strV formsW)[j]? = some (.string (formsW.getD (o.fo).toNat ⟨#[]⟩)) := by
        rw [hj, Int.toNat_natCast, List.getD_eq_getElem?_getD, List.getElem?_eq_getElem hjl]
        unfold strV
        rw [List.getElem?_map, List.getElem?_eq_getElem hjl]
        rfl
      generalize hvv : formsW.getD (o.fo).toNat ⟨#[]⟩ = vv at *
      have HS := hid (show wK o 7 ++ [(nmB 7, WV.s vv)] = wK o 8 from by
        rw [← wL_stepD o 7 true (nmB 7, .s vv) (by rw [show (wCand o)[7]? = some (decide (o.fo ≠ 0), (nmB 7, .s (formsW.getD (o.fo).toNat ⟨#[]⟩))) from rfl, hvv, decide_eq_true (show o.fo ≠ 0 by omega)])]
        rfl)
      have RA := hid (((hA7.out.below' (Below.refl _ wc).drew).below' ((Below.refl _ wc.drew).alloc (Nat.le_refl _) (.cells (strV formsW).toArray 9))).below' ((Below.refl _ (wc.drew.alloc (.cells (strV formsW).toArray 9))).alloc (Nat.le_refl _) (.cells #[.string ⟨#[102, 111, 114, 109]⟩, .int .i64 2, .int .i64 0, .string vv, .bool false] 25)))
      have hsz := RA.out.below.size
      try rw [e0]
      clear hvv h0 e0
      go_wp2_with fail
      go_region_law (first
        | (go_simp; go_at_call 44; refine (ref_Forms_any _).mono ?_; rintro e w4 ⟨rfl, rfl⟩)
        | (refine step_app _ (by rfl) _ _ _ (by rfl) W.heap.size 25 i0 (.agg #[.string ByteArray.empty, .int .i64 0, .int .i64 0, .string ByteArray.empty, .bool false]) 5 56 Tryz.underlying22 Hi0.out Hz0.out Hz1.out Hz2.out rfl (by omega) A7 n7 c7 _ (by rfl) RA.out.row _ _ 1 1 [.string ⟨#[102, 111, 114, 109]⟩, .int .i64 2, .int .i64 0, .string vv, .bool false] (by rfl) (rd_one _ _ _ _ (blk_new2 wc.drew _ _ _)) (by simp) (by simp [Value.oneCell']) (by simp only [maxLen]; omega) (by omega) hsz ?_; intro A4 c4 w4 ha4; have R4 := hid (RA.out.app (x := (nmB 7, .s vv)) ha4); clear ha4))
      all_goals
        go_wp2
        go_meet
        exact ⟨A4, n7 + 1, c4, rfl, hid (by rw [← HS.out]; exact R4.out), by omega⟩
    · have e0 : decide (0 < o.fo) = false := decide_eq_false h0
      have HS := hid (show wK o 7 = wK o 8 from by
        rw [← wL_stepD o 7 false (nmB 7, .s (formsW.getD (o.fo).toNat ⟨#[]⟩)) (by rw [show (wCand o)[7]? = some (decide (o.fo ≠ 0), (nmB 7, .s (formsW.getD (o.fo).toNat ⟨#[]⟩))) from rfl, decide_eq_false (show ¬ o.fo ≠ 0 by omega)])]
        exact (List.append_nil _).symm)
      try rw [e0]
      go_wp2_with fail
      go_meet
      exact ⟨A7, n7, c7, rfl, hid (by rw [← HS.out]; exact hA7.out), by omega⟩
  obtain ⟨A8, n8, c8, rfl, hA8, hn8⟩ := hcut
  clear hA7 hn7 q8 l1 z0 z1
  have q9 := hA8.out.ord.cell 9
  simp only [odC, List.getElem?_toArray, List.getElem?_cons_zero, List.getElem?_cons_succ] at q9
  have l1 := hA8.out.ord.lt
  have z0 := HF.out.fine.r0
  go_upto_if 120 with (fail)
  go_cut [4] from 118 to 126 (fun v wq => ∃ (A : Option Addr) (n c : Nat), v = .slice A n c ∧ Hid (RB W g1 o A n c (wK o 9) wq) ∧ n ≤ 9)
  · by_cases h0 : 0 < o.re
    · have e0 : decide (0 < o.re) = true := decide_eq_true h0
      have HS := hid (show wK o 8 ++ [(nmB 8, .n o.re)] = wK o 9 from by rw [← wL_stepD o 8 true (nmB 8, .n o.re) (by rw [show (wCand o)[8]? = some (decide (o.re ≠ 0), (nmB 8, .n o.re)) from rfl, decide_eq_true (show o.re ≠ 0 by omega)])]; rfl)
      have RA := hid (hA8.out.below' ((Below.refl _ wc).alloc (Nat.le_refl _) (.cells #[.string ⟨#[114, 101, 115, 116, 97, 114, 116]⟩, .int .i64 1, .int .i64 o.re, .string ⟨#[]⟩, .bool false] 25)))
      try rw [e0]
      clear h0 e0 hA8
      go_wp2_with (at_builtin; (refine wpList_app _ rfl _ _ _ rfl W.heap.size 25 i0 (.agg #[.string ByteArray.empty, .int .i64 0, .int .i64 0, .string ByteArray.empty, .bool false]) 5 56 Tryz.underlying22 Hi0.out Hz0.out Hz1.out Hz2.out rfl (by omega) A8 n8 c8 _ rfl RA.out.row _ _ 1 1 [.string ⟨#[114, 101, 115, 116, 97, 114, 116]⟩, .int .i64 1, .int .i64 o.re, .string ⟨#[]⟩, .bool false] rfl (rd_one _ _ _ _ (Blk.new _ _ _)) (by simp) (by simp [Value.oneCell']) (by simp [maxLen] <;> omega) (by omega) (by have := RA.out.below.size; exact this) ?_; intro A4 c4 w4 ha4; have R4 := hid (RA.out.app (x := (nmB 8, .n o.re)) ha4); clear ha4))
      go_meet
      exact ⟨A4, n8 + 1, c4, rfl, hid (by rw [← HS.out]; exact R4.out), by omega⟩
    · have e0 : decide (0 < o.re) = false := decide_eq_false h0
      have HS := hid (show wK o 8 = wK o 9 from by rw [← wL_stepD o 8 false (nmB 8, .n o.re) (by rw [show (wCand o)[8]? = some (decide (o.re ≠ 0), (nmB 8, .n o.re)) from rfl, decide_eq_false (show ¬ o.re ≠ 0 by omega)])]; exact (List.append_nil _).symm)
      try rw [e0]
      clear h0 e0
      go_wp2_with fail
      go_meet
      exact ⟨A8, n8, c8, rfl, hid (by rw [← HS.out]; exact hA8.out), by omega⟩
  obtain ⟨A9, n9, c9, rfl, hA9, hn9⟩ := hcut
  clear hA8 hn8 q9 l1 z0
  have q10 := hA9.out.ord.cell 10
  simp only [odC, List.getElem?_toArray, List.getElem?_cons_zero, List.getElem?_cons_succ] at q10
  have l1 := hA9.out.ord.lt
  have z0 := HF.out.fine.l0
  have z1 := HF.out.fine.l1
  go_upto_if 129 with (fail)
  go_cut [4] from 127 to 139 (fun v wq => ∃ (A : Option Addr) (n c : Nat), v = .slice A n c ∧ Hid (RB W g1 o A n c (wK o 10) wq) ∧ n ≤ 10)
  · by_cases h0 : 0 ≤ o.la
    · have e0 : decide (0 ≤ o.la) = true := decide_eq_true h0
      obtain ⟨j, hj, hjl⟩ : ∃ j : Nat, (o.la + 1) = (j : Int) ∧ j < lacesW.length := ⟨((o.la + 1)).toNat, by omega, by show _ < 3; omega⟩
      have hget : (strV lacesW)[j]? = some (.string (lacesW.getD ((o.la + 1)).toNat ⟨#[]⟩)) := by
        rw [hj, Int.toNat_natCast, List.getD_eq_getElem?_getD, List.getElem?_eq_getElem hjl]
        unfold strV
        rw [List.getElem?_map, List.getElem?_eq_getElem hjl]
        rfl
      generalize hvv : lacesW.getD ((o.la + 1)).toNat ⟨#[]⟩ = vv at *
      have HS := hid (show wK o 9 ++ [(nmB 9, WV.s vv)] = wK o 10 from by
        rw [← wL_stepD o 9 true (nmB 9, .s vv) (by rw [show (wCand o)[9]? = some (decide (o.la ≠ -1), (nmB 9, .s (lacesW.getD ((o.la + 1)).toNat ⟨#[]⟩))) from rfl, hvv, decide_eq_true (show o.la ≠ -1 by omega)])]
        rfl)
      have hja : IntKind.i64.wrap (o.la + 1) = (j : Int) := by rw [← hj]; exact IntWalk.i64_in _ (by omega)
      have HJ := hid hj
      clear hj
      have RA := hid (((hA9.out.below' (Below.refl _ wc).drew).below' ((Below.refl _ wc.drew).alloc (Nat.le_refl _) (.cells (strV lacesW).toArray 9))).below' ((Below.refl _ (wc.drew.alloc (.cells (strV lacesW).toArray 9))).alloc (Nat.le_refl _) (.cells #[.string ⟨#[108, 97, 99, 101]⟩, .int .i64 2, .int .i64 0, .string vv, .bool false] 25)))
      have hsz := RA.out.below.size
      try rw [e0]
      clear hvv h0 e0
      go_wp2_with fail
      go_region_law (first
        | (go_simp; go_at_call 45; refine (ref_Laces_any _).mono ?_; rintro e w4 ⟨rfl, rfl⟩)
        | (refine step_app _ (by rfl) _ _ _ (by rfl) W.heap.size 25 i0 (.agg #[.string ByteArray.empty, .int .i64 0, .int .i64 0, .string ByteArray.empty, .bool false]) 5 56 Tryz.underlying22 Hi0.out Hz0.out Hz1.out Hz2.out rfl (by omega) A9 n9 c9 _ (by rfl) RA.out.row _ _ 1 1 [.string ⟨#[108, 97, 99, 101]⟩, .int .i64 2, .int .i64 0, .string vv, .bool false] (by rfl) (rd_one _ _ _ _ (blk_new2 wc.drew _ _ _)) (by simp) (by simp [Value.oneCell']) (by simp only [maxLen]; omega) (by omega) hsz ?_; intro A4 c4 w4 ha4; have R4 := hid (RA.out.app (x := (nmB 9, .s vv)) ha4); clear ha4))
      all_goals
        go_wp2
        go_meet
        exact ⟨A4, n9 + 1, c4, rfl, hid (by rw [← HS.out]; exact R4.out), by omega⟩
    · have e0 : decide (0 ≤ o.la) = false := decide_eq_false h0
      have HS := hid (show wK o 9 = wK o 10 from by
        rw [← wL_stepD o 9 false (nmB 9, .s (lacesW.getD ((o.la + 1)).toNat ⟨#[]⟩)) (by rw [show (wCand o)[9]? = some (decide (o.la ≠ -1), (nmB 9, .s (lacesW.getD ((o.la + 1)).toNat ⟨#[]⟩))) from rfl, decide_eq_false (show ¬ o.la ≠ -1 by omega)])]
        exact (List.append_nil _).symm)
      try rw [e0]
      go_wp2_with fail
      go_meet
      exact ⟨A9, n9, c9, rfl, hid (by rw [← HS.out]; exact hA9.out), by omega⟩
  obtain ⟨A10, n10, c10, rfl, hA10, hn10⟩ := hcut
  clear hA9 hn9 q10 l1 z0 z1
  have hK := hid (show wK o 10 = pick (wCand o) from rfl)
  have HG := hid (wishes_good o HF.out)
  have HT := hid (wish_short o HF.out)
  have hb := hid (hA10.out.below)
  go_wp2_with fail
  refine (rtext_any A10 c10 n10 wc.heap.size ((wK o 10).map wiW) (wK o 10) wc (by rw [List.length_map]; exact hA10.out.len) (by rw [List.length_map]) (fun k x y hx hy => by rw [List.getElem?_map, hy] at hx; injection hx with hx; rw [← hx]; exact wiW_M y) (by rw [hK.out]; exact HG.out) (by rw [hK.out]; exact HT.out) (by rw [List.length_map, ← hA10.out.len]; exact own_rd hA10.out.row) (Nat.le_refl _)).mono ?_
  rintro e w9 ⟨rfl, hb9⟩
  rw [hK.out]
  have HB9 := hid (hb.out.trans (hb9.mono hb.out.size))
  clear hb9
  go_wp2
  go_ret2
  exact ⟨rfl, HB9.out⟩
end Go.Proofs.YtfcppchjikmioaaGreat

namespace Go.Proofs.YtfcppchjikmioaaGreat
open Go.RowKit Go.Lib Go.Proofs.YtfcppchjikmioaaGreat.PngChecks

theorem check_no (o : Od) (hf : ¬ Fine o.t o.cr o.x o.y o.w o.h o.fo o.re o.la) (W : World) : Calls Tryz.prog 38 #[odV o] W fun e w' => e = .returned (.iface 34 (.int .i64 1)) ∧ Below W.heap.size W w' := by
  rcases not_fine hf with h1 | ⟨t0, t7, f0, f2, r0, r1, l0, l1, hb⟩
  · exact check_near o.t o.p o.cr o.x o.y o.w o.h o.ba o.fo o.re o.la h1 W
  · exact check_far o.t o.p o.cr o.x o.y o.w o.h o.ba o.fo o.re o.la t0 t7 f0 f2 r0 r1 l0 l1 hb W
/-- how an order is none that wishes say -/
theorem not_fineO {o : Od} (h : ¬ FineO o) : ¬ Fine o.t o.cr o.x o.y o.w o.h o.fo o.re o.la ∨ (Fine o.t o.cr o.x o.y o.w o.h o.fo o.re o.la ∧ o.cr = false ∧ (o.x ≠ 0 ∨ (o.x = 0 ∧ o.y ≠ 0) ∨ (o.x = 0 ∧ o.y = 0 ∧ o.w ≠ 0) ∨ (o.x = 0 ∧ o.y = 0 ∧ o.w = 0 ∧ o.h ≠ 0))) := by
  by_cases hf : Fine o.t o.cr o.x o.y o.w o.h o.fo o.re o.la
  · refine .inr ⟨hf, ?_⟩
    cases hc : o.cr with
    | true => exact absurd ⟨hf, fun h => by rw [hc] at h; cases h⟩ h
    | false =>
      refine ⟨rfl, ?_⟩
      by_cases a : o.x = 0
      · by_cases b : o.y = 0
        · by_cases c : o.w = 0
          · by_cases d : o.h = 0
            · exact absurd ⟨hf, fun _ => ⟨a, b, c, d⟩⟩ h
            · exact .inr (.inr (.inr ⟨a, b, c, d⟩))
          · exact .inr (.inr (.inl ⟨a, b, c⟩))
        · exact .inr (.inl ⟨a, b⟩)
      · exact .inl a
  · exact .inl hf
theorem goodR_no (o : Od) (hf : ¬ Fine o.t o.cr o.x o.y o.w o.h o.fo o.re o.la) (W : World) : Calls Tryz.prog 21 #[odV o] W fun e w' => e = .returned (.bool false) ∧ Below W.heap.size W w' := good_no o.t o.p o.cr o.x o.y o.w o.h o.ba o.fo o.re o.la hf W
set_option maxRecDepth 100000 in
set_option maxHeartbeats 4000000 in
theorem recompW_none_plc (t : Int) (p : Bool) (x y w h : Int) (ba : Bool) (fo re la : Int) (W : World) (hy : Fine t false x y w h fo re la) (hp : x ≠ 0 ∨ (x = 0 ∧ y ≠ 0) ∨ (x = 0 ∧ y = 0 ∧ w ≠ 0) ∨ (x = 0 ∧ y = 0 ∧ w = 0 ∧ h ≠ 0)) : Calls Tryz.prog 18 #[ordv t p false x y w h ba fo re la] W fun e w' => e = .returned (.tuple #[.string ⟨#[]⟩, .iface 34 (.int .i64 1)]) ∧ Below W.heap.size W w' := by
  have K0 := hid (show Blk (W.alloc (.cells #[.int .i64 t, .bool p, .bool false, .int .i64 x, .int .i64 y, .int .i64 w, .int .i64 h, .bool ba, .int .i64 fo, .int .i64 re, .int .i64 la] 50)) W.heap.size 50 #[.int .i64 t, .bool p, .bool false, .int .i64 x, .int .i64 y, .int .i64 w, .int .i64 h, .bool ba, .int .i64 fo, .int .i64 re, .int .i64 la] from Blk.new W _ _)
  have B0 := hid (show Below W.heap.size W (W.alloc (.cells #[.int .i64 t, .bool p, .bool false, .int .i64 x, .int .i64 y, .int .i64 w, .int .i64 h, .bool ba, .int .i64 fo, .int .i64 re, .int .i64 la] 50)) from (Below.refl _ _).alloc (Nat.le_refl _) _)
  have CK := hid (check_yes t p false x y w h ba fo re la hy)
  clear hy
  unfold ordv at CK ⊢
  rcases hp with hx | ⟨rfl, hx⟩ | ⟨rfl, rfl, hx⟩ | ⟨rfl, rfl, rfl, hx⟩
  all_goals
    go_enter Tryz.func18, Tryz.ntmps18
    go_wp2_with (go_at_call 38; refine (CK.out _).mono ?_; rintro e w1 ⟨rfl, hb1⟩; have B1 := hid (B0.out.trans (hb1.mono (by simp))); have K1 := K0.out.below hb1 K0.out.lt; have r2 := K1.cell 2; have r3 := K1.cell 3; have r4 := K1.cell 4; have r5 := K1.cell 5; have r6 := K1.cell 6; simp only [List.getElem?_toArray, List.getElem?_cons_zero, List.getElem?_cons_succ] at r2 r3 r4 r5 r6; have l2 := K1.lt; clear hb1 K1)
    go_ret2
    exact ⟨rfl, B1.out⟩
set_option maxRecDepth 100000 in
set_option maxHeartbeats 4000000 in
theorem recompW_none (o : Od) (W : World) (hf : ¬ FineO o) : Calls Tryz.prog 18 #[odV o] W fun e w' => e = .returned (.tuple #[.string ⟨#[]⟩, .iface 34 (.int .i64 1)]) ∧ Below W.heap.size W w' := by
  rcases not_fineO hf with hn | ⟨hy, hc, hp⟩
  · have B0 := hid (show Below W.heap.size W (W.alloc (.cells (odC o) 50)) from (Below.refl _ _).alloc (Nat.le_refl _) _)
    have CK := hid (check_no o hn)
    unfold odV at CK
    unfold odC at B0
    clear hf hn
    go_enter Tryz.func18, Tryz.ntmps18
    unfold odV
    go_wp2_with (go_at_call 38; refine (CK.out _).mono ?_; rintro e w1 ⟨rfl, hb1⟩; have B1 := hid (B0.out.trans (hb1.mono (by simp))); clear hb1)
    go_ret2
    exact ⟨rfl, B1.out⟩
  · rw [hc] at hy
    have := recompW_none_plc o.t o.p o.x o.y o.w o.h o.ba o.fo o.re o.la W hy hp
    unfold odV
    rw [hc]
    exact this
set_option maxRecDepth 100000 in
set_option maxHeartbeats 4000000 in
theorem refW_none_plc (t : Int) (p : Bool) (x y w h : Int) (ba : Bool) (fo re la : Int) (W : World) (hy : Fine t false x y w h fo re la) (hp : x ≠ 0 ∨ (x = 0 ∧ y ≠ 0) ∨ (x = 0 ∧ y = 0 ∧ w ≠ 0) ∨ (x = 0 ∧ y = 0 ∧ w = 0 ∧ h ≠ 0)) : Calls Tryz.prog 19 #[ordv t p false x y w h ba fo re la] W fun e w' => e = .returned (.tuple #[.string ⟨#[]⟩, .bool false]) ∧ Below W.heap.size W w' := by
  have K0 := hid (show Blk (W.alloc (.cells #[.int .i64 t, .bool p, .bool false, .int .i64 x, .int .i64 y, .int .i64 w, .int .i64 h, .bool ba, .int .i64 fo, .int .i64 re, .int .i64 la] 50)) W.heap.size 50 #[.int .i64 t, .bool p, .bool false, .int .i64 x, .int .i64 y, .int .i64 w, .int .i64 h, .bool ba, .int .i64 fo, .int .i64 re, .int .i64 la] from Blk.new W _ _)
  have B0 := hid (show Below W.heap.size W (W.alloc (.cells #[.int .i64 t, .bool p, .bool false, .int .i64 x, .int .i64 y, .int .i64 w, .int .i64 h, .bool ba, .int .i64 fo, .int .i64 re, .int .i64 la] 50)) from (Below.refl _ _).alloc (Nat.le_refl _) _)
  have CK := hid (good_yes t p false x y w h ba fo re la hy)
  clear hy
  unfold ordv at CK ⊢
  rcases hp with hx | ⟨rfl, hx⟩ | ⟨rfl, rfl, hx⟩ | ⟨rfl, rfl, rfl, hx⟩
  all_goals
    go_enter Tryz.func19, Tryz.ntmps19
    go_wp2_with (go_at_call 21; refine (CK.out _).mono ?_; rintro e w1 ⟨rfl, hb1⟩; have B1 := hid (B0.out.trans (hb1.mono (by simp))); have K1 := K0.out.below hb1 K0.out.lt; have r2 := K1.cell 2; have r3 := K1.cell 3; have r4 := K1.cell 4; have r5 := K1.cell 5; have r6 := K1.cell 6; simp only [List.getElem?_toArray, List.getElem?_cons_zero, List.getElem?_cons_succ] at r2 r3 r4 r5 r6; have l2 := K1.lt; clear hb1 K1)
    go_ret2
    exact ⟨rfl, B1.out⟩
set_option maxRecDepth 100000 in
set_option maxHeartbeats 4000000 in
theorem refW_none (o : Od) (W : World) (hf : ¬ FineO o) : Calls Tryz.prog 19 #[odV o] W fun e w' => e = .returned (.tuple #[.string ⟨#[]⟩, .bool false]) ∧ Below W.heap.size W w' := by
  rcases not_fineO hf with hn | ⟨hy, hc, hp⟩
  · have B0 := hid (show Below W.heap.size W (W.alloc (.cells (odC o) 50)) from (Below.refl _ _).alloc (Nat.le_refl _) _)
    have CK := hid (goodR_no o hn)
    unfold odV at CK
    unfold odC at B0
    clear hf hn
    go_enter Tryz.func19, Tryz.ntmps19
    unfold odV
    go_wp2_with (go_at_call 21; refine (CK.out _).mono ?_; rintro e w1 ⟨rfl, hb1⟩; have B1 := hid (B0.out.trans (hb1.mono (by simp))); clear hb1)
    go_ret2
    exact ⟨rfl, B1.out⟩
  · rw [hc] at hy
    have := refW_none_plc o.t o.p o.x o.y o.w o.h o.ba o.fo o.re o.la W hy hp
    unfold odV
    rw [hc]
    exact this
end Go.Proofs.YtfcppchjikmioaaGreat

namespace Go.Proofs.YtfcppchjikmioaaGreat
open Go.RowKit Go.Lib Go.Proofs.YtfcppchjikmioaaGreat.PngChecks

theorem txt_sizeW (L : List Wsh) : (runesBytes (txF true L)).size = bl (txF true L) := by
  show (runesBytes (txF true L)).data.toList.length = _
  rw [rb_list]
  rfl
/-- the order comes back from its wishes -/
theorem ord_back (o : Od) (h : FineO o) : ordP (runesBytes (txF true (pick (wCand o)))) = some o := by
  obtain ⟨p, hp, hf⟩ := order_back o h
  unfold ordP
  rw [text_back _ (wishes_good o h)]
  dsimp only
  rw [hp]
  dsimp only
  rw [hf]
set_option maxRecDepth 100000 in
set_option maxHeartbeats 8000000 in
theorem wishes_law (o : Od) (W : World) : Calls Tryz.prog 5 #[odV o] W fun e w' => e = .returned (.bool true) ∧ Below W.heap.size W w' := by
  have K0 := hid (show Blk (W.alloc (.cells (odC o) 50)) W.heap.size 50 (odC o) from Blk.new W _ _)
  have B0 := hid (show Below W.heap.size W (W.alloc (.cells (odC o) 50)) from (Below.refl _ _).alloc (Nat.le_refl _) _)
  by_cases hf : FineO o
  · have WA := hid (fun w => recompW_any o w hf)
    have RA := hid (fun w => refW_any o w hf)
    have OA := hid (fun w => order_any (runesBytes (txF true (pick (wCand o)))) (by rw [txt_sizeW]; exact wish_short o hf) w)
    have GA := hid (good_yes o.t o.p o.cr o.x o.y o.w o.h o.ba o.fo o.re o.la hf.fine)
    have OB := hid (ord_back o hf)
    have EQ := fun w => od_eql o w
    generalize runesBytes (txF true (pick (wCand o))) = tx at *
    unfold odV ordv at *
    unfold odC at K0 B0
    clear hf
    go_enter Tryz.func5, Tryz.ntmps5
    go_wp2_with fail
    refine (alive26_any _).mono ?_
    rintro e w1 ⟨rfl, hb1⟩
    have K1 := hid (K0.out.below hb1 K0.out.lt)
    have B1 := hid (B0.out.trans (hb1.mono (by simp)))
    clear hb1
    have q0 := K1.out.cell 0
    have q1 := K1.out.cell 1
    have q2 := K1.out.cell 2
    have q3 := K1.out.cell 3
    have q4 := K1.out.cell 4
    have q5 := K1.out.cell 5
    have q6 := K1.out.cell 6
    have q7 := K1.out.cell 7
    have q8 := K1.out.cell 8
    have q9 := K1.out.cell 9
    have q10 := K1.out.cell 10
    simp only [List.getElem?_toArray, List.getElem?_cons_zero, List.getElem?_cons_succ] at q0 q1 q2 q3 q4 q5 q6 q7 q8 q9 q10
    have l1 := K1.out.lt
    go_wp2_with fail
    refine (WA.out w1).mono ?_
    rintro e w2 ⟨rfl, hb2⟩
    have K2 := hid (K1.out.below hb2 K1.out.lt)
    have B2 := hid (B1.out.trans (hb2.mono B1.out.size))
    clear hb2 q0 q1 q2 q3 q4 q5 q6 q7 q8 q9 q10 l1
    have q0 := K2.out.cell 0
    have q1 := K2.out.cell 1
    have q2 := K2.out.cell 2
    have q3 := K2.out.cell 3
    have q4 := K2.out.cell 4
    have q5 := K2.out.cell 5
    have q6 := K2.out.cell 6
    have q7 := K2.out.cell 7
    have q8 := K2.out.cell 8
    have q9 := K2.out.cell 9
    have q10 := K2.out.cell 10
    simp only [List.getElem?_toArray, List.getElem?_cons_zero, List.getElem?_cons_succ] at q0 q1 q2 q3 q4 q5 q6 q7 q8 q9 q10
    have l1 := K2.out.lt
    go_wp2_with fail
    refine (RA.out w2).mono ?_
    rintro e w3 ⟨rfl, hb3⟩
    have K3 := hid (K2.out.below hb3 K2.out.lt)
    have B3 := hid (B2.out.trans (hb3.mono B2.out.size))
    clear hb3 q0 q1 q2 q3 q4 q5 q6 q7 q8 q9 q10 l1
    go_wp2_with fail
    refine (OA.out w3).mono ?_
    rintro e w4 ⟨hb4, hE⟩
    rw [OB.out] at hE
    have hE : e = .returned (.tuple #[.agg #[.int .i64 o.t, .bool o.p, .bool o.cr, .int .i64 o.x, .int .i64 o.y, .int .i64 o.w, .int .i64 o.h, .bool o.ba, .int .i64 o.fo, .int .i64 o.re, .int .i64 o.la], .nilIface]) := hE
    subst hE
    have K4 := hid ((K3.out.below hb4 K3.out.lt).alloc (.cells #[.int .i64 o.t, .bool o.p, .bool o.cr, .int .i64 o.x, .int .i64 o.y, .int .i64 o.w, .int .i64 o.h, .bool o.ba, .int .i64 o.fo, .int .i64 o.re, .int .i64 o.la] 50))
    have B4 := hid ((B3.out.trans (hb4.mono B3.out.size)).alloc (by have := B3.out.size; have := hb4.size; omega) (.cells #[.int .i64 o.t, .bool o.p, .bool o.cr, .int .i64 o.x, .int .i64 o.y, .int .i64 o.w, .int .i64 o.h, .bool o.ba, .int .i64 o.fo, .int .i64 o.re, .int .i64 o.la] 50))
    clear hb4
    have q0 := K4.out.cell 0
    have q1 := K4.out.cell 1
    have q2 := K4.out.cell 2
    have q3 := K4.out.cell 3
    have q4 := K4.out.cell 4
    have q5 := K4.out.cell 5
    have q6 := K4.out.cell 6
    have q7 := K4.out.cell 7
    have q8 := K4.out.cell 8
    have q9 := K4.out.cell 9
    have q10 := K4.out.cell 10
    simp only [List.getElem?_toArray, List.getElem?_cons_zero, List.getElem?_cons_succ] at q0 q1 q2 q3 q4 q5 q6 q7 q8 q9 q10
    have l1 := K4.out.lt
    go_wp2_with fail
    refine (GA.out _).mono ?_
    rintro e w5 ⟨rfl, hb5⟩
    have B5 := hid (B4.out.trans (hb5.mono B4.out.size))
    clear hb5 q0 q1 q2 q3 q4 q5 q6 q7 q8 q9 q10 l1
    go_wp2_with fail
    go_ret
    exact ⟨rfl, B5.out⟩
  · have WA := hid (fun w => recompW_none o w hf)
    have RA := hid (fun w => refW_none o w hf)
    unfold odV at *
    unfold odC at K0 B0
    clear hf
    go_enter Tryz.func5, Tryz.ntmps5
    go_wp2_with fail
    refine (alive26_any _).mono ?_
    rintro e w1 ⟨rfl, hb1⟩
    have K1 := hid (K0.out.below hb1 K0.out.lt)
    have B1 := hid (B0.out.trans (hb1.mono (by simp)))
    clear hb1
    have q0 := K1.out.cell 0
    have q1 := K1.out.cell 1
    have q2 := K1.out.cell 2
    have q3 := K1.out.cell 3
    have q4 := K1.out.cell 4
    have q5 := K1.out.cell 5
    have q6 := K1.out.cell 6
    have q7 := K1.out.cell 7
    have q8 := K1.out.cell 8
    have q9 := K1.out.cell 9
    have q10 := K1.out.cell 10
    simp only [List.getElem?_toArray, List.getElem?_cons_zero, List.getElem?_cons_succ] at q0 q1 q2 q3 q4 q5 q6 q7 q8 q9 q10
    have l1 := K1.out.lt
    go_wp2_with fail
    refine (WA.out w1).mono ?_
    rintro e w2 ⟨rfl, hb2⟩
    have K2 := hid (K1.out.below hb2 K1.out.lt)
    have B2 := hid (B1.out.trans (hb2.mono B1.out.size))
    clear hb2 q0 q1 q2 q3 q4 q5 q6 q7 q8 q9 q10 l1
    have q0 := K2.out.cell 0
    have q1 := K2.out.cell 1
    have q2 := K2.out.cell 2
    have q3 := K2.out.cell 3
    have q4 := K2.out.cell 4
    have q5 := K2.out.cell 5
    have q6 := K2.out.cell 6
    have q7 := K2.out.cell 7
    have q8 := K2.out.cell 8
    have q9 := K2.out.cell 9
    have q10 := K2.out.cell 10
    simp only [List.getElem?_toArray, List.getElem?_cons_zero, List.getElem?_cons_succ] at q0 q1 q2 q3 q4 q5 q6 q7 q8 q9 q10
    have l1 := K2.out.lt
    go_wp2_with fail
    refine (RA.out w2).mono ?_
    rintro e w3 ⟨rfl, hb3⟩
    have B3 := hid (B2.out.trans (hb3.mono B2.out.size))
    clear hb3 q0 q1 q2 q3 q4 q5 q6 q7 q8 q9 q10 l1
    go_wp2_with fail
    refine (is_no 1 1 (by omega) _).mono ?_
    rintro e w5 ⟨rfl, rfl⟩
    go_wp2_with fail
    go_ret
    exact ⟨rfl, B3.out⟩
end Go.Proofs.YtfcppchjikmioaaGreat
