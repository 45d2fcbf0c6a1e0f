/-
  wish's reader: a wish.
-/
import Derived.Test.YtfcppchjikmioaaGreatWpF
namespace Go.Proofs.YtfcppchjikmioaaGreat
open Go.RowKit

def ws1 (r : RS) (L : List Wsh) : RS := if (L.length == 16) && isSm r.peek then r.fail r.k else r
def ws3b (q : RS) : Bool := !q.bad && ((q.peek != 61) && ((q.peek != 44) && ((q.peek != -1) || q.cut)))
def ws3 (q : RS) : RS := if ws3b q then q.fail q.k else q
def ws4 (q : RS) (nm : ByteArray) (k : Nat) (L : List Wsh) : RS := if knownP nm L then q.fail k else q
def ws5 (q : RS) (nm : ByteArray) : Wsh × RS := if q.peek = 61 then ((nm, (valP q.next).1), (valP q.next).2) else ((nm, .t true), q)
def wishN (r : RS) (L : List Wsh) : ByteArray := runesBytes (wordP (ws1 r L)).1
def wishP (r : RS) (L : List Wsh) : Wsh × RS := ws5 (ws4 (ws3 (wordP (ws1 r L)).2) (wishN r L) r.k L) (wishN r L)
theorem wordGo_l : ∀ (f : Nat) (o : List Int) (r : RS), (wordGo f o r).2.1.l = r.l
  | 0, o, r => rfl
  | f + 1, o, r => by
    cases hs : isSm r.peek
    · rw [wordGo_stop hs]
    · by_cases h6 : o.length = 16
      · rw [wordGo_full hs h6]
        exact rs_fail_l _ _
      · rw [wordGo_more hs h6, wordGo_l f, rs_next_l]
theorem wordP_l (r : RS) : (wordP r).2.l = r.l := by
  unfold wordP wordE
  have h := wordGo_l 17 [] r
  split
  · split
    · exact (rs_fail_l _ _).trans h
    · exact h
  · exact h
theorem ws1_l (r : RS) (L : List Wsh) : (ws1 r L).l = r.l := by
  unfold ws1
  split
  · exact rs_fail_l _ _
  · rfl
set_option maxRecDepth 100000 in
set_option maxHeartbeats 4000000 in
theorem wish_any (g : Nat) (A B : Option Addr) (c d : Nat) (r : RS) (L : List Wsh) (W : World) (h : RM W g A c r) (hLg : ∀ w', W.grownBy w' (some g) → Rd w' W.heap.size 2 B L.length (fw L)) (hm : L.length ≤ 1000000) : Calls Tryz.prog 33 #[.pointer (some ⟨g, 0, none⟩), .slice B L.length d] W fun e w' => e = .returned (.agg #[.string (wishP r L).1.1, wvV (wishP r L).1.2]) ∧ RM w' g A c (wishP r L).2 ∧ W.grownBy w' (some g) := by
  have H := hid h
  have HL := hid hLg
  have hgW := h.blk.lt
  clear h hLg
  go_enter Tryz.func33, Tryz.ntmps33
  go_upto_region 1 with (fail)
  have Z4 := hid (Blk.new W 41 #[.string ⟨#[]⟩, .nilIface])
  have M0 := hid (H.out.below ((Below.refl _ _).alloc (Nat.le_refl _) (.cells #[.string ⟨#[]⟩, .nilIface] 41)))
  have G0 := hid (grown_below1 (World.grownBy.refl W (some g)) ((Below.refl _ _).alloc (Nat.le_refl _) (.cells #[.string ⟨#[]⟩, .nilIface] 41)))
  obtain ⟨g4, hg4⟩ : ∃ g4, g4 = W.heap.size := ⟨_, rfl⟩
  have hne4 : some g4 ≠ some g := by intro e; injection e with e; omega
  have Hg4 := hid hg4
  rw [← hg4] at Z4 ⊢
  generalize W.alloc (.cells #[.string ⟨#[]⟩, .nilIface] 41) = w0 at *
  have Hne4 := hid hne4
  clear hg4 hne4
  have q0 := M0.out.blk.cell 0
  have q1 := M0.out.blk.cell 1
  have q2 := M0.out.blk.cell 2
  have q3 := M0.out.blk.cell 3
  simp only [List.getElem?_toArray, List.getElem?_cons_zero, List.getElem?_cons_succ] at q0 q1 q2 q3
  have hgw := M0.out.blk.lt
  obtain ⟨n, hn⟩ : ∃ n, n = L.length := ⟨_, rfl⟩
  rw [← hn]
  have Hn := hid hn
  rw [← hn] at hm
  clear hn
  go_upto_region 2 with (fail)
  clear q0 q1 q2 q3 hgw
  go_cut [19] from 12 to 19 (fun v wq => v = .bool ((n == 16) && isSm r.peek) ∧ Hid (RM wq g A c r) ∧ Hid (Blk wq g4 41 #[.string ⟨#[]⟩, .nilIface]) ∧ Hid (W.grownBy wq (some g)))
  case first =>
    by_cases e1 : n = 16
    · have d1 : ((n : Int) == 16) = true := by rw [e1]; rfl
      have d2 : (n == 16) = true := beq_iff_eq.2 e1
      clear e1
      go_wp2_with fail
      refine (peek_any g A c r _ M0.out).mono ?_
      rintro e w1 ⟨rfl, hM1, hb1⟩
      have M1 := hid hM1
      have Z1 := hid (Z4.out.below hb1 Z4.out.lt)
      have G1 := hid (grown_below1 G0.out hb1)
      clear hM1 hb1
      go_wp2_with fail
      refine (small_any _ _).mono ?_
      rintro e w2 ⟨rfl, rfl⟩
      go_wp2
      go_meet
      exact ⟨by rw [d2]; rfl, M1, Z1, G1⟩
    · have d1 : ((n : Int) == 16) = false := beq_eq_false_iff_ne.2 (by omega)
      have d2 : (n == 16) = false := beq_eq_false_iff_ne.2 e1
      clear e1
      go_wp2
      go_meet
      exact ⟨by rw [d2]; rfl, M0, Z4, G0⟩
  case rest =>
  obtain ⟨rfl, M1, Z1, G1⟩ := hcut
  clear M0 Z4 G0
  go_upto_if 19 with (fail)
  go_cut [5] from 19 to 22 (fun v wq => v = .int .i64 (r.k : Int) ∧ Hid (RM wq g A c (ws1 r L)) ∧ Hid (Blk wq g4 41 #[.string ⟨#[]⟩, .nilIface]) ∧ Hid (W.grownBy wq (some g)))
  case first =>
    cases hb : ((n == 16) && isSm r.peek)
    · have Hw := hid (show ws1 r L = r by unfold ws1; rw [← Hn.out, hb]; rfl)
      clear hb
      go_wp2
      go_meet
      exact ⟨rfl, by rw [Hw.out]; exact M1, Z1, G1⟩
    · have Hw := hid (show ws1 r L = r.fail r.k by unfold ws1; rw [← Hn.out, hb]; rfl)
      clear hb
      go_upto_region 3 with (fail)
      go_wp2_with fail
      refine (fail_any g r.k A c r _ M1.out M1.out.at_).mono ?_
      rintro e w3 ⟨rfl, hM3, hg3⟩
      have M3 := hid hM3
      have Z3 := hid (Z1.out.grown hg3 Hne4.out)
      have G3 := hid (grown_trans1 G1.out hg3)
      clear hM3 hg3
      go_wp2
      go_meet
      exact ⟨rfl, by rw [Hw.out]; exact M3, Z3, G3⟩
  case rest =>
  obtain ⟨rfl, M2, Z2, G2⟩ := hcut
  clear M1 Z1 G1
  go_upto_region 4 with (fail)
  go_wp2_with fail
  refine (word_any g A c (ws1 r L) _ M2.out).mono ?_
  rintro e w3 ⟨rfl, hM3, hg3⟩
  have M3 := hid hM3
  have Z3 := hid (Z2.out.grown hg3 Hne4.out)
  have G3 := hid (grown_trans1 G2.out hg3)
  clear hM3 hg3 M2 Z2 G2
  obtain ⟨nm, hnm⟩ : ∃ nm, nm = wishN r L := ⟨_, rfl⟩
  have Hnm := hid hnm
  have hnm2 : runesBytes (wordP (ws1 r L)).1 = nm := by rw [hnm]; rfl
  rw [hnm2]
  clear hnm hnm2
  obtain ⟨q, hq⟩ : ∃ q, q = (wordP (ws1 r L)).2 := ⟨_, rfl⟩
  have Hq := hid hq
  rw [← hq] at M3
  have HP := hid (show wishP r L = ws5 (ws4 (ws3 q) nm r.k L) nm by unfold wishP; rw [← hq, ← Hnm.out])
  have Hql := hid (show q.l = r.l by
    rw [hq, wordP_l, ws1_l])
  clear hq
  go_upto_region 5 with (fail)
  have Z6 := hid (Blk.new w3 41 #[.string nm, .iface 4 (.bool true)])
  have hbA := (Below.refl w3.heap.size w3).alloc (Nat.le_refl _) (.cells #[.string nm, .iface 4 (.bool true)] 41)
  have M4 := hid (M3.out.below hbA)
  have Z4 := hid (Z3.out.below hbA Z3.out.lt)
  have G4 := hid (grown_below1 G3.out hbA)
  obtain ⟨g6, hg6⟩ : ∃ g6, g6 = w3.heap.size := ⟨_, rfl⟩
  have Hne6 := hid (show some g6 ≠ some g from by intro e; injection e with e; have := G3.out.size; omega)
  have Hlt46 := hid (show g4 < g6 from by rw [hg6]; exact Z3.out.lt)
  rw [← hg6] at Z6 ⊢
  clear hbA M3 Z3 G3 hg6
  generalize w3.alloc (.cells #[.string nm, .iface 4 (.bool true)] 41) = w4 at *
  go_wp2_with fail
  refine (peek_any g A c q _ M4.out).mono ?_
  rintro e w5 ⟨rfl, hM5, hb5⟩
  have M5 := hid hM5
  have Z5 := hid (Z4.out.below hb5 Z4.out.lt)
  have Y5 := hid (Z6.out.below hb5 Z6.out.lt)
  have G5 := hid (grown_below1 G4.out hb5)
  clear hM5 hb5 M4 Z4 Z6 G4
  go_upto_region 6 with (fail)
  go_cut [51] from 29 to 51 (fun v wq => v = .bool (ws3b q) ∧ w5 = wq)
  case first =>
    have q0 := M5.out.blk.cell 0
    have q1 := M5.out.blk.cell 1
    have q2 := M5.out.blk.cell 2
    have q3 := M5.out.blk.cell 3
    simp only [List.getElem?_toArray, List.getElem?_cons_zero, List.getElem?_cons_succ] at q0 q1 q2 q3
    have hgw := M5.out.blk.lt
    cases hb : q.bad
    · rw [hb] at q3
      by_cases e1 : q.peek = 61
      · have d1 : (q.peek != 61) = false := by simp [e1]
        have HB := hid (show ws3b q = false by unfold ws3b; rw [hb, d1]; rfl)
        clear e1 hb
        go_wp2
        go_meet
        exact ⟨by rw [HB.out], rfl⟩
      · have d1 : (q.peek != 61) = true := by simp [e1]
        by_cases e2 : q.peek = 44
        · have d2 : (q.peek != 44) = false := by simp [e2]
          have HB := hid (show ws3b q = false by unfold ws3b; rw [hb, d1, d2]; rfl)
          clear e1 e2 hb
          go_wp2
          go_meet
          exact ⟨by rw [HB.out], rfl⟩
        · have d2 : (q.peek != 44) = true := by simp [e2]
          by_cases e3 : q.peek = -1
          · have d3 : (q.peek != -1) = false := by simp [e3]
            have HB := hid (show ws3b q = q.cut by unfold ws3b; rw [hb, d1, d2, d3]; rfl)
            clear e1 e2 e3 hb
            cases hc : q.cut
            · rw [hc] at q1
              have HB2 := hid (HB.out.trans hc)
              clear hc
              go_wp2
              go_meet
              exact ⟨by rw [HB2.out], rfl⟩
            · rw [hc] at q1
              have HB2 := hid (HB.out.trans hc)
              clear hc
              go_wp2
              go_meet
              exact ⟨by rw [HB2.out], rfl⟩
          · have d3 : (q.peek != -1) = true := by simp [e3]
            have HB := hid (show ws3b q = true by unfold ws3b; rw [hb, d1, d2, d3]; rfl)
            clear e1 e2 e3 hb
            go_wp2
            go_meet
            exact ⟨by rw [HB.out], rfl⟩
    · rw [hb] at q3
      have HB := hid (show ws3b q = false by unfold ws3b; rw [hb]; rfl)
      clear hb
      go_wp2
      go_meet
      exact ⟨by rw [HB.out], rfl⟩
  case rest =>
  obtain ⟨rfl, rfl⟩ := hcut
  go_upto_if 51 with (fail)
  go_cut [5] from 51 to 57 (fun v wq => v = .int .i64 (r.k : Int) ∧ Hid (RM wq g A c (ws3 q)) ∧ Hid (Blk wq g4 41 #[.string ⟨#[]⟩, .nilIface]) ∧ Hid (Blk wq g6 41 #[.string nm, .iface 4 (.bool true)]) ∧ Hid (W.grownBy wq (some g)))
  case first =>
    have q0 := M5.out.blk.cell 0
    have q1 := M5.out.blk.cell 1
    have q2 := M5.out.blk.cell 2
    have q3 := M5.out.blk.cell 3
    simp only [List.getElem?_toArray, List.getElem?_cons_zero, List.getElem?_cons_succ] at q0 q1 q2 q3
    have hgw := M5.out.blk.lt
    cases hb : ws3b q
    · have Hw := hid (show ws3 q = q by unfold ws3; rw [hb]; rfl)
      clear hb
      go_wp2
      go_meet
      exact ⟨rfl, by rw [Hw.out]; exact M5, Z5, Y5, G5⟩
    · have Hw := hid (show ws3 q = q.fail q.k by unfold ws3; rw [hb]; rfl)
      clear hb
      go_upto_region 7 with (fail)
      go_wp2_with fail
      refine (fail_any g q.k A c q _ M5.out M5.out.at_).mono ?_
      rintro e w6 ⟨rfl, hM6, hg6⟩
      have M6 := hid hM6
      have Z6 := hid (Z5.out.grown hg6 Hne4.out)
      have Y6 := hid (Y5.out.grown hg6 Hne6.out)
      have G6 := hid (grown_trans1 G5.out hg6)
      clear hM6 hg6 q0 q1 q2 q3
      go_wp2
      go_meet
      exact ⟨rfl, by rw [Hw.out]; exact M6, Z6, Y6, G6⟩
  case rest =>
  obtain ⟨rfl, M6, Z6, Y6, G6⟩ := hcut
  clear M5 Z5 Y5 G5
  have hR := HL.out _ G6.out
  have HR := hid (hR.more G6.out.size)
  clear hR
  go_upto_region 8 with (fail)
  have y0 : wc.cell? ⟨g6, 0, none⟩ = some (.string nm) := (Y6.out.cell 0).trans rfl
  have hgy := Y6.out.lt
  have cl := containsW_any B d L nm g6 wc HR.out (by rw [← Hn.out]; exact hm) y0 hgy
  rw [← Hn.out] at cl
  have CL := hid cl
  clear cl y0 hgy
  go_wp2_with fail
  refine (CL.out).mono ?_
  rintro e w7 ⟨rfl, hb7⟩
  have M7 := hid (M6.out.below hb7)
  have Z7 := hid (Z6.out.below hb7 Z6.out.lt)
  have Y7 := hid (Y6.out.below hb7 Y6.out.lt)
  have G7 := hid (grown_below1 G6.out hb7)
  clear hb7 M6 Z6 Y6 G6 CL HR
  go_upto_if 60 with (fail)
  go_cut [5] from 60 to 63 (fun v wq => v = .int .i64 (r.k : Int) ∧ Hid (RM wq g A c (ws4 (ws3 q) nm r.k L)) ∧ Hid (Blk wq g4 41 #[.string ⟨#[]⟩, .nilIface]) ∧ Hid (Blk wq g6 41 #[.string nm, .iface 4 (.bool true)]) ∧ Hid (W.grownBy wq (some g)))
  case first =>
    cases hb : knownP nm L
    · have Hw := hid (show ws4 (ws3 q) nm r.k L = ws3 q by unfold ws4; rw [hb]; rfl)
      clear hb
      go_wp2
      go_meet
      exact ⟨rfl, by rw [Hw.out]; exact M7, Z7, Y7, G7⟩
    · have Hw := hid (show ws4 (ws3 q) nm r.k L = (ws3 q).fail r.k by unfold ws4; rw [hb]; rfl)
      have hpl : r.k ≤ (ws3 q).l.length := by
        have : (ws3 q).l = q.l := by
          unfold ws3
          split
          · exact rs_fail_l _ _
          · rfl
        rw [this, Hql.out]
        exact H.out.at_
      have Hpl := hid hpl
      clear hb hpl
      go_upto_region 9 with (fail)
      go_wp2_with fail
      refine (fail_any g r.k A c (ws3 q) _ M7.out Hpl.out).mono ?_
      rintro e w8 ⟨rfl, hM8, hg8⟩
      have M8 := hid hM8
      have Z8 := hid (Z7.out.grown hg8 Hne4.out)
      have Y8 := hid (Y7.out.grown hg8 Hne6.out)
      have G8 := hid (grown_trans1 G7.out hg8)
      clear hM8 hg8
      go_wp2
      go_meet
      exact ⟨rfl, by rw [Hw.out]; exact M8, Z8, Y8, G8⟩
  case rest =>
  obtain ⟨rfl, M8, Z8, Y8, G8⟩ := hcut
  clear M7 Z7 Y7 G7
  obtain ⟨p, hp⟩ : ∃ p, p = ws4 (ws3 q) nm r.k L := ⟨_, rfl⟩
  rw [← hp] at M8 HP
  clear hp Hql Hq
  go_upto_region 10 with (fail)
  go_wp2_with fail
  refine (peek_any g A c p _ M8.out).mono ?_
  rintro e w9 ⟨rfl, hM9, hb9⟩
  have M9 := hid hM9
  have Z9 := hid (Z8.out.below hb9 Z8.out.lt)
  have Y9 := hid (Y8.out.below hb9 Y8.out.lt)
  have G9 := hid (grown_below1 G8.out hb9)
  clear hM9 hb9 M8 Z8 Y8 G8
  have hne46 : g4 < g6 := Hlt46.out
  by_cases e1 : p.peek = 61
  · have d1 : (p.peek == 61) = true := beq_iff_eq.2 e1
    have hk1 : 1 ≤ p.next.k := by
      have := (next_k (r := p) M9.out.ok (by omega)).1
      rw [this]
      show 1 ≤ p.k + 1
      omega
    have HP2 := hid (show wishP r L = ((nm, (valP p.next).1), (valP p.next).2) by rw [HP.out]; unfold ws5; rw [if_pos e1])
    clear e1 HP
    go_upto_region 11 with (fail)
    go_wp2_with fail
    refine (next_any g A c p _ M9.out).mono ?_
    rintro e w10 ⟨rfl, hM10, hg10⟩
    have M10 := hid hM10
    have Z10 := hid (Z9.out.grown hg10 Hne4.out)
    have Y10 := hid (Y9.out.grown hg10 Hne6.out)
    have G10 := hid (grown_trans1 G9.out hg10)
    clear hM10 hg10 M9 Z9 Y9 G9
    go_wp2_with fail
    refine (rvalue_any g A c p.next _ M10.out hk1).mono ?_
    rintro e w11 ⟨rfl, hM11, hg11⟩
    have M11 := hid hM11
    have Z11 := hid (Z10.out.grown hg11 Hne4.out)
    have Y11 := hid (Y10.out.grown hg11 Hne6.out)
    have G11 := hid (grown_trans1 G10.out hg11)
    clear hM11 hg11 M10 Z10 Y10 G10
    obtain ⟨T, u, hT⟩ : ∃ T u, wvV (valP p.next).1 = .iface T u := by
      cases (valP p.next).1 <;> exact ⟨_, _, rfl⟩
    have HT := hid hT
    rw [hT]
    clear hT
    have y0 : w11.cell? ⟨g6, 0, none⟩ = some (.string nm) := (Y11.out.cell 0).trans rfl
    have y1 : w11.cell? ⟨g6, 1, none⟩ = some (.iface 4 (.bool true)) := (Y11.out.cell 1).trans rfl
    have fy := fun o => Y11.out.frozen o
    have hgy := Y11.out.lt
    go_upto_region 13 with (fail)
    have Y12 := hid (Y11.out.set_ 1 (.iface T u))
    have hb12 := (Below.refl W.heap.size w11).setCell (p := ⟨g6, 1, none⟩) (by have := Hg4.out; show W.heap.size ≤ g6; omega) (.iface T u)
    have M12 := hid (H.out.low M11.out hb12)
    have G12 := hid (grown_low G11.out hb12)
    have Z12 := hid (Z11.out.grown (grown_set1 (World.grownBy.refl w11 (some g6)) 1 (.iface T u)) (by intro e; injection e with e; omega))
    generalize w11.setCell ⟨g6, 1, none⟩ (.iface T u) = w12 at *
    clear y0 y1 fy hgy hb12 M11 G11 Z11 Y11
    have y0 : w12.cell? ⟨g6, 0, none⟩ = some (.string nm) := (Y12.out.cell 0).trans rfl
    have y1 : w12.cell? ⟨g6, 1, none⟩ = some (.iface T u) := (Y12.out.cell 1).trans rfl
    have z0 : w12.cell? ⟨g4, 0, none⟩ = some (.string ⟨#[]⟩) := (Z12.out.cell 0).trans rfl
    have z1 : w12.cell? ⟨g4, 1, none⟩ = some .nilIface := (Z12.out.cell 1).trans rfl
    have fz := fun o => Z12.out.frozen o
    have hgz := Z12.out.lt
    have hgy := Y12.out.lt
    go_wp2
    have hZ := (Z12.out.set_ 0 (.string nm)).set_ 1 (.iface T u)
    have hbz := ((Below.refl W.heap.size w12).setCell (p := ⟨g4, 0, none⟩) (by rw [Hg4.out]; exact Nat.le_refl _) (.string nm)).setCell (p := ⟨g4, 1, none⟩) (by rw [Hg4.out]; exact Nat.le_refl _) (.iface T u)
    have M13 := hid (H.out.low M12.out hbz)
    have G13 := hid (grown_low G12.out hbz)
    generalize (w12.setCell ⟨g4, 0, none⟩ (.string nm)).setCell ⟨g4, 1, none⟩ (.iface T u) = w13 at *
    have r0 : w13.cell? ⟨g4, 0, none⟩ = some (.string nm) := (hZ.cell 0).trans rfl
    have r1 : w13.cell? ⟨g4, 1, none⟩ = some (.iface T u) := (hZ.cell 1).trans rfl
    refine bodyPost_ret (v := .agg #[.string nm, .iface T u]) (by simp [results, Tryz.results33, go_sem, r0, r1]) rfl ?_
    rw [HP2.out]
    exact ⟨by rw [HT.out], M13.out, G13.out⟩
  · have d1 : (p.peek == 61) = false := beq_eq_false_iff_ne.2 e1
    have HP2 := hid (show wishP r L = ((nm, .t true), p) by rw [HP.out]; unfold ws5; rw [if_neg e1])
    clear e1 HP
    go_upto_region 13 with (fail)
    have y0 : w9.cell? ⟨g6, 0, none⟩ = some (.string nm) := (Y9.out.cell 0).trans rfl
    have y1 : w9.cell? ⟨g6, 1, none⟩ = some (.iface 4 (.bool true)) := (Y9.out.cell 1).trans rfl
    have z0 : w9.cell? ⟨g4, 0, none⟩ = some (.string ⟨#[]⟩) := (Z9.out.cell 0).trans rfl
    have z1 : w9.cell? ⟨g4, 1, none⟩ = some .nilIface := (Z9.out.cell 1).trans rfl
    have fz := fun o => Z9.out.frozen o
    have hgz := Z9.out.lt
    have hgy := Y9.out.lt
    go_wp2
    have hZ := (Z9.out.set_ 0 (.string nm)).set_ 1 (.iface 4 (.bool true))
    have hbz := ((Below.refl W.heap.size w9).setCell (p := ⟨g4, 0, none⟩) (by rw [Hg4.out]; exact Nat.le_refl _) (.string nm)).setCell (p := ⟨g4, 1, none⟩) (by rw [Hg4.out]; exact Nat.le_refl _) (.iface 4 (.bool true))
    have M13 := hid (H.out.low M9.out hbz)
    have G13 := hid (grown_low G9.out hbz)
    generalize (w9.setCell ⟨g4, 0, none⟩ (.string nm)).setCell ⟨g4, 1, none⟩ (.iface 4 (.bool true)) = w13 at *
    have r0 : w13.cell? ⟨g4, 0, none⟩ = some (.string nm) := (hZ.cell 0).trans rfl
    have r1 : w13.cell? ⟨g4, 1, none⟩ = some (.iface 4 (.bool true)) := (hZ.cell 1).trans rfl
    refine bodyPost_ret (v := .agg #[.string nm, .iface 4 (.bool true)]) (by simp [results, Tryz.results33, go_sem, r0, r1]) rfl ?_
    rw [HP2.out]
    exact ⟨rfl, M13.out, G13.out⟩
end Go.Proofs.YtfcppchjikmioaaGreat
