/-
  BkRf and BkPl in one text (a claim's folder holds 56 texts at most).
-/
import Derived.Test.YthhllollhjpheaaBkP
import Derived.Test.YthhllollhjpheaaBkPr
import Derived.Test.YthhllollhjpheaaCost5
namespace Go.Proofs.Ythhllollhjpheaa
open Go.RowKit

theorem rlen9_of {n : Int} {s : Nat} (hs : s ≤ 28) (h1 : ∀ i, i < s → lbase (257 + ((i + 1 : Nat) : Int)) ≤ n) (h2 : s < 28 → n < lbase (257 + ((s + 1 : Nat) : Int))) : lsN n = 257 + s := by
  unfold lsN
  rw [filter_pre _ s 28 hs fun i hi => ?_]
  rw [decide_eq_true_iff]
  constructor
  · intro h
    rcases Nat.lt_or_ge i s with h3 | h3
    · exact h3
    · exfalso
      have h4 := h2 (by omega)
      have := lbase_mono ⟨s + 1, by omega⟩ ⟨i + 1, by omega⟩ (by simp; omega)
      simp only at this
      omega
  · exact fun h => h1 i h
set_option maxRecDepth 100000 in
set_option maxHeartbeats 4000000 in
theorem rlen9_any (n : Int) (W : World) : Calls Try.prog 19 #[.int .i64 n] W fun e w' => e = .returned (.int .i64 (lsN n : Nat)) ∧ Below W.heap.size W w' := by
  have LA := hid (lens_any W)
  go_enter Try.func19, Try.ntmps19
  go_wp2_with fail
  refine LA.out.mono ?_
  rintro e w1 ⟨rfl, hb, _, hc, _⟩
  have HB := hid hb
  have HC := hid hc
  clear hb hc LA
  go_wp2
  go_loop [5] (fun i => ∃ s : Nat, s ≤ 28 ∧ i = .int .i64 (s : Int) ∧ Hid (∀ i, i < s → lbase (257 + ((i + 1 : Nat) : Int)) ≤ n)) (fun i => 29 - (intOf i).toNat)
  case atStart => exact ⟨0, by omega, rfl, hid (fun i h => absurd h (Nat.not_lt_zero _))⟩
  case round =>
    obtain ⟨s, hs, rfl, H1⟩ := hrel
    by_cases hl : s < 28
    · have c0 := HC.out (s + 1) (by omega)
      have p1 : (s : Int) + 1 < 29 := by omega
      have p2 : s + 1 < 29 := by omega
      obtain ⟨v, hv⟩ : ∃ v, v = lbase (257 + ((s + 1 : Nat) : Int)) := ⟨_, rfl⟩
      have c1 : w1.cell? ⟨W.heap.size, s + 1, none⟩ = some (.int .i64 v) := by rw [hv]; exact c0
      clear c0
      have HV := hid hv
      clear hv
      by_cases hle : v ≤ n
      · have HL := hid hle
        go_wp2
        go_round
        case rel =>
          refine ⟨s + 1, by omega, by go_num, hid fun i hi => ?_⟩
          rcases Nat.lt_or_ge i s with h | h
          · exact H1.out i h
          · obtain rfl : i = s := by omega
            rw [← HV.out]; exact HL.out
        case measure => simp [intOf]; omega
      · have E := hid (rlen9_of (n := n) hs H1.out (fun _ => by rw [← HV.out]; omega))
        go_wp2
        go_ret
        exact ⟨by rw [E.out]; push_cast; rfl, HB.out⟩
    · obtain rfl : s = 28 := by omega
      have E := hid (rlen9_of (n := n) hs H1.out (fun h => absurd h (Nat.lt_irrefl _)))
      go_wp2
      go_ret
      exact ⟨by rw [E.out]; rfl, HB.out⟩
theorem rdist9_of {n : Int} {s : Nat} (hs : s ≤ 29) (h1 : ∀ i, i < s → dbase ((i + 1 : Nat) : Int) ≤ n) (h2 : s < 29 → n < dbase ((s + 1 : Nat) : Int)) : dsN n = 0 + s := by
  unfold dsN
  refine (filter_pre _ s 29 hs fun i hi => ?_).trans (by omega)
  rw [decide_eq_true_iff]
  constructor
  · intro h
    rcases Nat.lt_or_ge i s with h3 | h3
    · exact h3
    · exfalso
      have h4 := h2 (by omega)
      have := dbase_mono ⟨s + 1, by omega⟩ ⟨i + 1, by omega⟩ (by simp; omega)
      simp only at this
      omega
  · exact fun h => h1 i h
set_option maxRecDepth 100000 in
set_option maxHeartbeats 4000000 in
theorem rdist9_any (n : Int) (W : World) : Calls Try.prog 20 #[.int .i64 n] W fun e w' => e = .returned (.int .i64 (dsN n : Nat)) ∧ Below W.heap.size W w' := by
  have LA := hid (dists_any W)
  go_enter Try.func20, Try.ntmps20
  go_wp2_with fail
  refine LA.out.mono ?_
  rintro e w1 ⟨rfl, hb, _, hc, _⟩
  have HB := hid hb
  have HC := hid hc
  clear hb hc LA
  go_wp2
  go_loop [5] (fun i => ∃ s : Nat, s ≤ 29 ∧ i = .int .i64 (s : Int) ∧ Hid (∀ i, i < s → dbase ((i + 1 : Nat) : Int) ≤ n)) (fun i => 30 - (intOf i).toNat)
  case atStart => exact ⟨0, by omega, rfl, hid (fun i h => absurd h (Nat.not_lt_zero _))⟩
  case round =>
    obtain ⟨s, hs, rfl, H1⟩ := hrel
    by_cases hl : s < 29
    · have c0 := HC.out (s + 1) (by omega)
      have p1 : (s : Int) + 1 < 30 := by omega
      have p2 : s + 1 < 30 := by omega
      obtain ⟨v, hv⟩ : ∃ v, v = dbase ((s + 1 : Nat) : Int) := ⟨_, rfl⟩
      have c1 : w1.cell? ⟨W.heap.size, s + 1, none⟩ = some (.int .i64 v) := by rw [hv]; exact c0
      clear c0
      have HV := hid hv
      clear hv
      by_cases hle : v ≤ n
      · have HL := hid hle
        go_wp2
        go_round
        case rel =>
          refine ⟨s + 1, by omega, by go_num, hid fun i hi => ?_⟩
          rcases Nat.lt_or_ge i s with h | h
          · exact H1.out i h
          · obtain rfl : i = s := by omega
            rw [← HV.out]; exact HL.out
        case measure => simp [intOf]; omega
      · have E := hid (rdist9_of (n := n) hs H1.out (fun _ => by rw [← HV.out]; omega))
        go_wp2
        go_ret
        exact ⟨by rw [E.out]; rw [Nat.zero_add]; rfl, HB.out⟩
    · obtain rfl : s = 29 := by omega
      have E := hid (rdist9_of (n := n) hs H1.out (fun h => absurd h (Nat.lt_irrefl _)))
      go_wp2
      go_ret
      exact ⟨by rw [E.out]; rfl, HB.out⟩
end Go.Proofs.Ythhllollhjpheaa
namespace Go.Proofs.Ythhllollhjpheaa
open Go.RowKit

theorem incL_at (c : List Int) (s i : Nat) : (incL c s).getD i 0 = if s = i ∧ s < c.length then c.getD i 0 + 1 else c.getD i 0 := by
  unfold incL
  rw [List.getD_eq_getElem?_getD, List.getElem?_set]
  by_cases h : s = i
  · subst h
    by_cases h2 : s < c.length
    · rw [if_pos rfl, if_pos h2, if_pos ⟨rfl, h2⟩]; rfl
    · rw [if_pos rfl, if_neg h2, if_neg (fun h => h2 h.2), List.getD_eq_getElem?_getD, List.getElem?_eq_none (by omega)]
  · rw [if_neg h, if_neg (fun h2 => h h2.1), ← List.getD_eq_getElem?_getD]
theorem cnt_256 {l : List (Int × Int)} (hg : ∀ t ∈ l, tgood t = true) : (cntM l).1.getD 256 0 = 1 := by
  have h : ∀ (l : List (Int × Int)) (c : List Int × List Int), (∀ t ∈ l, tgood t = true) → (l.foldl cntStep c).1.getD 256 0 = c.1.getD 256 0 := by
    intro l
    induction l with
    | nil => exact fun c _ => rfl
    | cons t l ih =>
      intro c hg
      rw [List.foldl_cons, ih _ fun x hx => hg x (List.mem_cons_of_mem _ hx)]
      have ht := tgood_true.1 (hg t List.mem_cons_self)
      have hb := lsN_bd t.1
      unfold cntStep
      split
      · show (incL c.1 t.2.toNat).getD 256 0 = _
        rw [incL_at, if_neg (by omega)]
      · show (incL c.1 (lsN t.1)).getD 256 0 = _
        rw [incL_at, if_neg (by omega)]
  unfold cntM
  rw [h l cnt0 hg, cnt0_256]
def usedTo (c : List Int) (j : Nat) : Nat := usedN (c.take j)
theorem usedTo_next (c : List Int) {j : Nat} (hj : j < c.length) : usedTo c (j + 1) = usedTo c j + (if 0 < c.getD j 0 then 1 else 0) := by
  unfold usedTo usedN
  rw [List.take_succ_eq_append_getElem hj, List.filter_append, List.length_append, getD_at hj]
  by_cases h : 0 < c.getD j 0
  · rw [if_pos h, List.filter_cons_of_pos (by simpa using h)]; rfl
  · rw [if_neg h, List.filter_cons_of_neg (by simpa using h)]; rfl
theorem costTo_congr (c L M : List Int) (h : ∀ s, L.getD s 0 = M.getD s 0) : ∀ j, costTo c L j = costTo c M j
  | 0 => rfl
  | j + 1 => by rw [costTo, costTo, costTo_congr c L M h j, h j]
theorem two_same {c : List Int} (h : 2 ≤ usedN c) : twoM c = c := by
  unfold twoM
  rw [show 2 - usedN c = 0 by omega, twoN_zero]
theorem costTo_zero {c L : List Int} (hc : ∀ x ∈ c, 0 ≤ x) : ∀ j, j ≤ c.length → usedTo c j = 0 → costTo c L j = 0
  | 0, _, _ => rfl
  | j + 1, hj, h => by
    rw [usedTo_next c (by omega)] at h
    have h1 : usedTo c j = 0 := by omega
    have h2 : ¬ 0 < c.getD j 0 := by intro h3; rw [if_pos h3] at h; omega
    have h3 : 0 ≤ c.getD j 0 := by rw [← getD_at (show j < c.length by omega)]; exact hc _ (List.getElem_mem _)
    rw [costTo, costTo_zero hc j (by omega) h1, show c.getD j 0 = 0 by omega]
    omega
/-- what the end costs -/
theorem bestL_getD (l : List (Int × Int)) (s : Nat) : (ownM l).L.getD s 0 = (bestLs (itemsOf (twoM (cntM l).1)) 14 286).getD s 0 := by
  show (litM l).getD s 0 = _
  unfold litM
  rw [trim_at]
theorem bestD_getD (l : List (Int × Int)) (s : Nat) : (ownM l).D.getD s 0 = (bestLs (itemsOf (cntM l).2) 14 30).getD s 0 := by
  show (dstM l).getD s 0 = _
  unfold dstM
  rw [trim_at]
theorem cnt_good {l : List (Int × Int)} (hm : l.length ≤ 300) : goodc (cntM l).1 300 = true ∧ goodc (cntM l).2 300 = true := by
  have h := cntM_B l
  have hl := cnt_len l
  exact ⟨good_of (by omega) (b := 301) (by omega) (fun x hx => by have := h.1 x hx; omega), good_of (by omega) (b := 301) (by omega) (fun x hx => by have := h.2 x hx; omega)⟩
theorem far_cost {l : List (Int × Int)} (hm : l.length ≤ 300) : costTo (cntM l).2 (ownM l).D 30 = bestFn (dsc (itemsOf (cntM l).2)) 15 := by
  have hl := (cnt_len l).2
  have hK : (itemsOf (cntM l).2).length ≤ 2 ^ (14 + 1) := Nat.le_trans (itemsOf_le _) (by rw [hl]; decide)
  have h := best_cost (cnt_good hm).2 hK
  rw [hl] at h
  rw [costTo_congr _ _ _ (bestD_getD l), h]
theorem used_all {l : List (Int × Int)} (hg : ∀ t ∈ l, tgood t = true) : usedTo (cntM l).1 286 = usedN (cntM l).1 ∧ usedTo (cntM l).1 257 = usedTo (cntM l).1 256 + 1 := by
  have hl := (cnt_len l).1
  refine ⟨by unfold usedTo; rw [List.take_of_length_le (by omega)], ?_⟩
  rw [usedTo_next _ (by omega), cnt_256 hg, if_pos (by omega)]
theorem usedTo_mono (c : List Int) : ∀ k j, usedTo c j ≤ usedTo c (j + k)
  | 0, _ => Nat.le_refl _
  | k + 1, j => by
    refine Nat.le_trans (usedTo_mono c k j) ?_
    unfold usedTo usedN
    exact ((List.take_prefix_take_left (by omega)).sublist.filter _).length_le
theorem end_cost {l : List (Int × Int)} (hg : ∀ t ∈ l, tgood t = true) (hm : l.length ≤ 300) {sum least : Int} (hs : sum = costTo (cntM l).1 (ownM l).L 256 + (costTo (cntM l).1 (ownM l).L 286 - costTo (cntM l).1 (ownM l).L 257))
    (hl : least = if usedTo (cntM l).1 286 = 1 then 1 else bestFn (dsc (itemsOf (cntM l).1)) 15) : 1 ≤ least - sum ∧ least - sum ≤ 15 := by
  have hlen := (cnt_len l).1
  have nn := (cntM_nn (l := l)).1
  obtain ⟨u1, u2⟩ := used_all hg
  have h256 := cnt_256 hg
  have e257 : costTo (cntM l).1 (ownM l).L 257 = costTo (cntM l).1 (ownM l).L 256 + 1 * (ownM l).L.getD 256 0 := by
    rw [← h256]; rfl
  have hG := own_good hg
  have hp := hG.p
  by_cases h1 : usedTo (cntM l).1 286 = 1
  · rw [if_pos h1] at hl
    have hm2 := usedTo_mono (cntM l).1 29 257
    rw [show 257 + 29 = 286 from rfl] at hm2
    have z256 : usedTo (cntM l).1 256 = 0 := by omega
    have c256 := costTo_zero (L := (ownM l).L) nn 256 (by omega) z256
    have hz : costTo (cntM l).1 (ownM l).L 286 = costTo (cntM l).1 (ownM l).L 257 := by
      have key : ∀ k, k ≤ 29 → costTo (cntM l).1 (ownM l).L (257 + k) = costTo (cntM l).1 (ownM l).L 257 := by
        intro k
        induction k with
        | zero => exact fun _ => rfl
        | succ k ih =>
          intro hk
          have a1 := usedTo_mono (cntM l).1 (29 - (k + 1)) (257 + (k + 1))
          have a2 := usedTo_mono (cntM l).1 k 257
          rw [show 257 + (k + 1) + (29 - (k + 1)) = 286 by omega] at a1
          have a3 := usedTo_next (cntM l).1 (show 257 + k < (cntM l).1.length by omega)
          rw [show 257 + (k + 1) = 257 + k + 1 by omega] at a1
          have a4 : ¬ 0 < (cntM l).1.getD (257 + k) 0 := by
            intro h
            rw [if_pos h] at a3
            omega
          have a5 : 0 ≤ (cntM l).1.getD (257 + k) 0 := by rw [← getD_at (show 257 + k < (cntM l).1.length by omega)]; exact nn _ (List.getElem_mem _)
          rw [show 257 + (k + 1) = 257 + k + 1 by omega, costTo, ih (by omega), show (cntM l).1.getD (257 + k) 0 = 0 by omega]
          omega
      exact key 29 (by omega)
    rw [hs, hl, c256, hz]
    omega
  · rw [if_neg h1] at hl
    have h2 : 2 ≤ usedN (cntM l).1 := by
      have hm2 := usedTo_mono (cntM l).1 29 257
      rw [show 257 + 29 = 286 from rfl] at hm2
      omega
    have hK : (itemsOf (cntM l).1).length ≤ 2 ^ (14 + 1) := Nat.le_trans (itemsOf_le _) (by rw [hlen]; decide)
    have hb := best_cost (cnt_good hm).1 hK
    rw [hlen] at hb
    have e : costTo (cntM l).1 (ownM l).L 286 = bestFn (dsc (itemsOf (cntM l).1)) 15 := by
      rw [costTo_congr _ _ (bestLs (itemsOf (cntM l).1) 14 286) (fun s => by rw [bestL_getD, two_same h2]), hb]
    have hx : (ownM l).L.getD 256 0 ≤ 15 := by
      have t1 : (twoM (cntM l).1).length = 286 := by rw [twoM_len, hlen]
      have k1 : (itemsOf (twoM (cntM l).1)).length ≤ 2 ^ (14 + 1) := Nat.le_trans (itemsOf_le _) (by rw [t1]; decide)
      have hbd := best_bd k1
      rw [t1] at hbd
      rw [bestL_getD, ← getD_at (show 256 < (bestLs (itemsOf (twoM (cntM l).1)) 14 286).length by rw [bestLs_len]; decide)]
      exact (hbd _ (List.getElem_mem _)).2
    rw [hs, hl, e, e257]
    omega
end Go.Proofs.Ythhllollhjpheaa
