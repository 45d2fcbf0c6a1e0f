/-
  wish's reader: a number.
-/
import Derived.Test.YtfcppchjikmioaaGreatWpB
namespace Go.Proofs.YtfcppchjikmioaaGreat
open Go.RowKit

def zb (n d : Int) (q : RS) : Bool := (n == 0) && ((q.l.getD (q.k - 1) 0 == 48) && (d == 48))
def numGo : Nat → Int → Int → RS → Int × RS × Bool
  | 0, _, n, r => (n, r, true)
  | f + 1, d, n, r => if isDg r.peek then (if zb n d r then (0, r.fail r.k, false) else if 999999999 < 10 * n + (r.peek - 48) then (0, r.fail r.k, false) else numGo f d (10 * n + (r.peek - 48)) r.next) else (n, r, true)
theorem numGo_stop {f : Nat} {d n : Int} {q : RS} (h : isDg q.peek = false) : numGo (f + 1) d n q = (n, q, true) := by
  show (if isDg q.peek = true then _ else (n, q, true)) = _
  rw [h, if_neg Bool.false_ne_true]
theorem numGo_zero {f : Nat} {d n : Int} {q : RS} (h : isDg q.peek = true) (hz : zb n d q = true) : numGo (f + 1) d n q = (0, q.fail q.k, false) := by
  show (if isDg q.peek = true then (if zb n d q = true then (0, q.fail q.k, false) else _) else (n, q, true)) = _
  rw [h, if_pos rfl, if_pos hz]
theorem numGo_great {f : Nat} {d n : Int} {q : RS} (h : isDg q.peek = true) (hz : zb n d q = false) (hg : 999999999 < 10 * n + (q.peek - 48)) : numGo (f + 1) d n q = (0, q.fail q.k, false) := by
  show (if isDg q.peek = true then (if zb n d q = true then (0, q.fail q.k, false) else if 999999999 < 10 * n + (q.peek - 48) then (0, q.fail q.k, false) else _) else (n, q, true)) = _
  rw [h, if_pos rfl, hz, if_neg Bool.false_ne_true, if_pos hg]
theorem numGo_more {f : Nat} {d n : Int} {q : RS} (h : isDg q.peek = true) (hz : zb n d q = false) (hg : ¬ 999999999 < 10 * n + (q.peek - 48)) : numGo (f + 1) d n q = numGo f d (10 * n + (q.peek - 48)) q.next := by
  show (if isDg q.peek = true then (if zb n d q = true then (0, q.fail q.k, false) else if 999999999 < 10 * n + (q.peek - 48) then (0, q.fail q.k, false) else numGo f d (10 * n + (q.peek - 48)) q.next) else (n, q, true)) = _
  rw [h, if_pos rfl, hz, if_neg Bool.false_ne_true, if_neg hg]
def numE (s : Int) (x : Int × RS × Bool) : Int × RS := if x.2.2 then (s * x.1, x.2.1) else (0, x.2.1)
def numH (s : Int) (r : RS) : Int × RS := if !isDg r.peek || ((r.peek == 48) && decide (s < 0)) then (0, r.fail r.k) else numE s (numGo (r.l.length + 1) r.peek 0 r)
def numP (r : RS) : Int × RS := if r.peek = 45 then numH (-1) r.next else numH 1 r
def atW (w : World) (g : Nat) : Nat := match w.cell? ⟨g, 2, none⟩ with
  | some (.int _ k) => k.toNat
  | _ => 0
theorem RM.atW {w : World} {g : Nat} {A : Option Addr} {c : Nat} {r : RS} (h : RM w g A c r) : Go.Proofs.YtfcppchjikmioaaGreat.atW w g = r.k := by
  have : w.cell? ⟨g, 2, none⟩ = some (.int .i64 (r.k : Int)) := (h.blk.cell 2).trans rfl
  unfold Go.Proofs.YtfcppchjikmioaaGreat.atW
  rw [this]
  rfl
theorem isDg_in {c : Int} (h : isDg c = true) : 48 ≤ c ∧ c ≤ 57 := by
  unfold isDg at h
  simp at h
  exact h
theorem next_dg {r : RS} (hok : ∀ x ∈ r.l, 0 ≤ x ∧ x ≤ 1114111) (h : isDg r.peek = true) : r.next = ⟨r.l, r.cut, r.k + 1, r.bad⟩ ∧ r.k < r.l.length := by
  have h1 := isDg_in h
  rcases RS.peek_ok hok with ⟨h2, _⟩ | ⟨_, _, _, hk, _, h3⟩
  · omega
  · exact ⟨h3, hk⟩
set_option maxRecDepth 100000 in
set_option maxHeartbeats 4000000 in
theorem number_any (g : Nat) (A : Option Addr) (c : Nat) (r : RS) (W : World) (h : RM W g A c r) (h1 : 1 ≤ r.k) : Calls Tryz.prog 79 #[.pointer (some ⟨g, 0, none⟩)] W fun e w' => e = .returned (.int .i64 (numP r).1) ∧ RM w' g A c (numP r).2 ∧ W.grownBy w' (some g) := by
  have H := hid h
  clear h
  go_enter Tryz.func79, Tryz.ntmps79
  go_wp2_with fail
  refine (peek_any g A c r _ H.out).mono ?_
  rintro e w1 ⟨rfl, hM1, hb1⟩
  have M1 := hid hM1
  have G1 := hid (grown_below1 (World.grownBy.refl W (some g)) hb1)
  clear hM1 hb1
  go_upto_if 8 with (fail)
  go_cut [3] from 8 to 10 (fun v wq => ∃ (s : Int) (q : RS), v = .int .i64 s ∧ (s = 1 ∨ s = -1) ∧ 1 ≤ q.k ∧ q.l = r.l ∧ Hid (numP r = numH s q) ∧ Hid (RM wq g A c q) ∧ Hid (W.grownBy wq (some g)))
  case first =>
    by_cases hm : r.peek = 45
    · have d1 : (r.peek == 45) = true := beq_iff_eq.2 hm
      have HP := hid (show numP r = numH (-1) r.next by unfold numP; rw [if_pos hm])
      have Hk := hid (show 1 ≤ r.next.k by
        unfold RS.next
        split
        · exact h1
        · show 1 ≤ r.k + 1
          omega)
      clear hm
      go_wp2_with fail
      refine (next_any g A c r _ M1.out).mono ?_
      rintro e w2 ⟨rfl, hM2, hg2⟩
      have M2 := hid hM2
      have G2 := hid (grown_trans1 G1.out hg2)
      clear hM2 hg2
      go_wp2
      go_meet
      exact ⟨-1, r.next, rfl, .inr rfl, Hk.out, rs_next_l r, HP, M2, G2⟩
    · have d1 : (r.peek == 45) = false := beq_eq_false_iff_ne.2 hm
      have HP := hid (show numP r = numH 1 r by unfold numP; rw [if_neg hm])
      clear hm
      go_wp2
      go_meet
      exact ⟨1, r, rfl, .inl rfl, h1, rfl, HP, M1, G1⟩
  case rest =>
  obtain ⟨s, q, rfl, hs, hq1, hql, HP, M, G⟩ := hcut
  have Hs := hid hs
  have Hql := hid hql
  clear hs hql M1 G1
  generalize wc = wc at *
  go_wp2_with fail
  refine (peek_any g A c q _ M.out).mono ?_
  rintro e w2 ⟨rfl, hM2, hb2⟩
  have M2 := hid hM2
  have G2 := hid (grown_below1 G.out hb2)
  clear hM2 hb2 M G
  have hend : ∀ (b : Bool), (!isDg q.peek || ((q.peek == 48) && decide (s < 0))) = b → (b = true → numP r = (0, q.fail q.k)) ∧ (b = false → numP r = numE s (numGo (q.l.length + 1) q.peek 0 q)) := fun b hb => by
    rw [HP.out]
    unfold numH
    rw [hb]
    exact ⟨fun h => by rw [h, if_pos rfl], fun h => by rw [h, if_neg Bool.false_ne_true]⟩
  have Hend := hid hend
  clear hend
  generalize hpk : q.peek = d at *
  have Hpk := hid hpk
  clear hpk
  go_upto_region 6 with (fail)
  go_cut [23] from 13 to 23 (fun v wq => v = .bool (!isDg d || ((d == 48) && decide (s < 0))) ∧ w2 = wq)
  case first =>
    go_wp2_with fail
    refine (digit_any d _).mono ?_
    rintro e w3 ⟨rfl, rfl⟩
    cases hd : isDg d
    · have Hd := hid hd
      clear hd
      go_wp2
      go_meet
      exact ⟨by rw [Hd.out]; rfl, rfl⟩
    · have Hd := hid hd
      clear hd
      by_cases h8 : d = 48
      · have d1 : (d == 48) = true := beq_iff_eq.2 h8
        clear h8
        by_cases h9 : s < 0
        · have d2 : decide (s < 0) = true := decide_eq_true h9
          clear h9
          go_wp2
          go_meet
          exact ⟨by rw [Hd.out, d1, d2]; rfl, rfl⟩
        · have d2 : decide (s < 0) = false := decide_eq_false h9
          clear h9
          go_wp2
          go_meet
          exact ⟨by rw [Hd.out, d1, d2]; rfl, rfl⟩
      · have d1 : (d == 48) = false := beq_eq_false_iff_ne.2 h8
        clear h8
        go_wp2
        go_meet
        exact ⟨by rw [Hd.out, d1]; rfl, rfl⟩
  case rest =>
  obtain ⟨rfl, rfl⟩ := hcut
  have q0 := M2.out.blk.cell 0
  have q1 := M2.out.blk.cell 1
  have q2 := M2.out.blk.cell 2
  have q3 := M2.out.blk.cell 3
  simp only [List.getElem?_toArray, List.getElem?_cons_zero, List.getElem?_cons_succ] at q0 q1 q2 q3
  have hgw := M2.out.blk.lt
  cases hb : (!isDg d || ((d == 48) && decide (s < 0)))
  rotate_left
  · have HE := hid ((Hend.out _ hb).1 rfl)
    clear hb Hend
    go_upto_region 7 with (fail)
    go_wp2_with fail
    refine (fail_any g q.k A c q _ M2.out M2.out.at_).mono ?_
    rintro e w3 ⟨rfl, hM3, hg3⟩
    have M3 := hid hM3
    have G3 := hid (grown_trans1 G2.out hg3)
    clear hM3 hg3 q0 q1 q2 q3
    go_wp2
    go_ret
    rw [HE.out]
    exact ⟨rfl, M3.out, G3.out⟩
  have HE := hid ((Hend.out _ hb).2 rfl)
  have hdd : isDg d = true := by
    cases e : isDg d
    · rw [e] at hb; cases hb
    · rfl
  clear hb Hend q0 q1 q2 q3 hgw
  obtain ⟨L, hL⟩ : ∃ L, L = q.l.length := ⟨_, rfl⟩
  rw [← hL] at HE
  have HL := hid hL
  have hLm := M2.out.len
  rw [← hL] at hLm
  clear hL
  go_upto_region 10 with (fail)
  go_loopw [5] (fun v wr => ∃ (n : Int) (f : Nat) (p : RS), v = .int .i64 n ∧ 0 ≤ n ∧ n ≤ 999999999 ∧ L - p.k < f ∧ 1 ≤ p.k ∧ Hid (p.l.length = L) ∧ Hid (numGo (L + 1) d 0 q = numGo f d n p) ∧ Hid (RM wr g A c p) ∧ Hid (W.grownBy wr (some g))) (fun _ wr => L - atW wr g)
  case atStart => exact ⟨0, L + 1, q, rfl, by omega, by omega, by omega, hq1, hid HL.out.symm, hid rfl, M2, G2⟩
  case round =>
    obtain ⟨n, f, p, rfl, hn0, hn9, hf, hp1, HpL, HG, M, G⟩ := hrel
    have Hf := hid hf
    have Hmz := hid (show atW wr g = p.k from M.out.atW)
    go_wp2_with fail
    refine (peek_any g A c p _ M.out).mono ?_
    rintro e w3 ⟨rfl, hM3, hb3⟩
    have M3 := hid hM3
    have G3 := hid (grown_below1 G.out hb3)
    clear hM3 hb3 M G hf
    go_wp2_with fail
    refine (digit_any _ _).mono ?_
    rintro e w4 ⟨rfl, rfl⟩
    obtain ⟨f1, hf1⟩ : ∃ f1, f = f1 + 1 := ⟨f - 1, by have := Hf.out; omega⟩
    have Hf1 := hid hf1
    clear hf1
    cases hs : isDg p.peek
    · have HN := hid (show numP r = (s * n, p) by
        rw [HE.out, HG.out, Hf1.out, numGo_stop hs]
        rfl)
      have ts : IntKind.i64.wrap (s * n) = s * n := IntWalk.i64_in _ (by rcases Hs.out with h | h <;> rw [h] <;> omega)
      clear hs
      go_wp2
      go_ret
      rw [HN.out]
      exact ⟨rfl, M3.out, G3.out⟩
    · have hdg := next_dg M3.out.ok hs
      have hin := isDg_in hs
      have Hsd := hid hs
      have Hdg := hid hdg
      have hpl := HpL.out
      obtain ⟨z, hz⟩ : ∃ z, z = zb n d p := ⟨_, rfl⟩
      have Hz := hid hz
      clear hs hdg hz
      go_upto_region 11 with (fail)
      go_cut [52] from 33 to 52 (fun v wq => ∃ nq : Nat, v = .bool z ∧ wq = w3.drewN nq)
      case first =>
        have q0 := M3.out.blk.cell 0
        have q1 := M3.out.blk.cell 1
        have q2 := M3.out.blk.cell 2
        have q3 := M3.out.blk.cell 3
        simp only [List.getElem?_toArray, List.getElem?_cons_zero, List.getElem?_cons_succ] at q0 q1 q2 q3
        have hgw := M3.out.blk.lt
        by_cases h0 : n = 0
        · have e1 : (n == 0) = true := beq_iff_eq.2 h0
          obtain ⟨k1, hk1⟩ : ∃ k1, k1 = p.k - 1 := ⟨_, rfl⟩
          have hkl : k1 < p.l.length := by have := Hdg.out.2; omega
          have tk : IntKind.i64.wrap ((p.k : Int) - 1) = (k1 : Int) := (IntWalk.i64_in _ (by omega)).trans (by omega)
          obtain ⟨b, off, hA, hb, hcl⟩ := (own_rd M3.out.row).at_ (k := k1) hkl (by omega)
          obtain ⟨rv, hrv⟩ : ∃ rv, rv = p.l[k1] := ⟨_, rfl⟩
          have x0 : w3.cell? ⟨b, off + k1, none⟩ = some (.int .i32 rv) := hcl k1 _ (by rw [hrv]; simp [runesV, hkl])
          have hrz : p.l.getD (p.k - 1) 0 = rv := by
            rw [← hk1, List.getD_eq_getElem?_getD, List.getElem?_eq_getElem hkl, hrv]
            rfl
          have Hrz := hid hrz
          clear hrz hrv hcl hk1
          subst hA
          by_cases e2 : rv = 48
          · have e3 : (rv == 48) = true := beq_iff_eq.2 e2
            by_cases e4 : d = 48
            · have e5 : (d == 48) = true := beq_iff_eq.2 e4
              go_quiet (fail)
              go_wp2
              go_meet
              exact ⟨_, by rw [Hz.out]; unfold zb; rw [Hrz.out, e1, e3, e5]; rfl, rfl⟩
            · have e5 : (d == 48) = false := beq_eq_false_iff_ne.2 e4
              go_quiet (fail)
              go_wp2
              go_meet
              exact ⟨_, by rw [Hz.out]; unfold zb; rw [Hrz.out, e1, e3, e5]; rfl, rfl⟩
          · have e3 : (rv == 48) = false := beq_eq_false_iff_ne.2 e2
            go_quiet (fail)
            go_wp2
            go_meet
            exact ⟨_, by rw [Hz.out]; unfold zb; rw [Hrz.out, e1, e3]; rfl, rfl⟩
        · have e1 : (n == 0) = false := beq_eq_false_iff_ne.2 h0
          go_quiet (fail)
          go_wp2
          go_meet
          exact ⟨_, by rw [Hz.out]; unfold zb; rw [e1]; rfl, rfl⟩
      case rest =>
      obtain ⟨nq, rfl, rfl⟩ := hcut
      have M4 := hid (M3.out.below (below_drewN (Below.refl _ _) nq))
      have G4 := hid (grown_below1 G3.out (below_drewN (Below.refl _ _) nq))
      generalize w3.drewN nq = w5 at *
      clear M3 G3
      cases z
      rotate_left
      · have HN := hid (show numP r = (0, p.fail p.k) by
          rw [HE.out, HG.out, Hf1.out, numGo_zero Hsd.out Hz.out.symm]
          rfl)
        have q0 := M4.out.blk.cell 0
        have q1 := M4.out.blk.cell 1
        have q2 := M4.out.blk.cell 2
        have q3 := M4.out.blk.cell 3
        simp only [List.getElem?_toArray, List.getElem?_cons_zero, List.getElem?_cons_succ] at q0 q1 q2 q3
        have hgw := M4.out.blk.lt
        go_upto_region 12 with (fail)
        go_wp2_with fail
        refine (fail_any g p.k A c p _ M4.out M4.out.at_).mono ?_
        rintro e w6 ⟨rfl, hM6, hg6⟩
        have M6 := hid hM6
        have G6 := hid (grown_trans1 G4.out hg6)
        clear hM6 hg6 q0 q1 q2 q3
        go_wp2
        go_ret
        rw [HN.out]
        exact ⟨rfl, M6.out, G6.out⟩
      go_upto_region 14 with (fail)
      go_wp2_with fail
      refine (peek_any g A c p _ M4.out).mono ?_
      rintro e w6 ⟨rfl, hM6, hb6⟩
      have M6 := hid hM6
      have G6 := hid (grown_below1 G4.out hb6)
      clear hM6 hb6 M4 G4
      have tm : IntKind.i64.wrap (10 * n) = 10 * n := IntWalk.i64_in _ (by omega)
      have tc : IntKind.i32.wrap (p.peek - 48) = p.peek - 48 := by
        simp only [IntKind.wrap, IntKind.signed, IntKind.bits]
        simp
        omega
      have td : IntKind.i64.wrap (p.peek - 48) = p.peek - 48 := IntWalk.i64_in _ (by omega)
      obtain ⟨m, hm⟩ : ∃ m, m = 10 * n + (p.peek - 48) := ⟨_, rfl⟩
      have tt : IntKind.i64.wrap (10 * n + (p.peek - 48)) = m := by rw [hm]; exact IntWalk.i64_in _ (by omega)
      have Hm := hid hm
      have hm0 : 0 ≤ m := by omega
      clear hm
      by_cases h9 : 999999999 < m
      · have d1 : decide (999999999 < m) = true := decide_eq_true h9
        have HN := hid (show numP r = (0, p.fail p.k) by
          rw [HE.out, HG.out, Hf1.out, numGo_great Hsd.out Hz.out.symm (by rw [← Hm.out]; exact h9)]
          rfl)
        have q0 := M6.out.blk.cell 0
        have q1 := M6.out.blk.cell 1
        have q2 := M6.out.blk.cell 2
        have q3 := M6.out.blk.cell 3
        simp only [List.getElem?_toArray, List.getElem?_cons_zero, List.getElem?_cons_succ] at q0 q1 q2 q3
        have hgw := M6.out.blk.lt
        clear h9
        go_upto_region 16 with (fail)
        go_wp2_with fail
        refine (fail_any g p.k A c p _ M6.out M6.out.at_).mono ?_
        rintro e w7 ⟨rfl, hM7, hg7⟩
        have M7 := hid hM7
        have G7 := hid (grown_trans1 G6.out hg7)
        clear hM7 hg7 q0 q1 q2 q3
        go_wp2
        go_ret
        rw [HN.out]
        exact ⟨rfl, M7.out, G7.out⟩
      · have d1 : decide (999999999 < m) = false := decide_eq_false h9
        have HN := hid (show numGo (L + 1) d 0 q = numGo f1 d m p.next by
          rw [HG.out, Hf1.out, numGo_more Hsd.out Hz.out.symm (by rw [← Hm.out]; exact h9), Hm.out])
        have h10 : m ≤ 999999999 := by omega
        clear h9
        go_upto_region 18 with (fail)
        go_wp2_with fail
        refine (next_any g A c p _ M6.out).mono ?_
        rintro e w7 ⟨rfl, hM7, hg7⟩
        have M7 := hid hM7
        have G7 := hid (grown_trans1 G6.out hg7)
        clear hM7 hg7
        have hnk : p.next.k = p.k + 1 := by rw [Hdg.out.1]
        have hnl : p.next.l.length = L := by rw [Hdg.out.1]; exact HpL.out
        have Hnk := hid hnk
        have Hnl := hid hnl
        clear hnk hnl
        go_wp2
        go_roundw
        case rel =>
          have := Hnk.out
          have := Hf.out
          have := Hf1.out
          have := Hdg.out.2
          exact ⟨m, f1, p.next, rfl, hm0, h10, by omega, by omega, Hnl, HN, M7, G7⟩
        case measure =>
          rw [M7.out.atW, Hmz.out, Hnk.out]
          have := Hdg.out.2
          omega
end Go.Proofs.YtfcppchjikmioaaGreat
