/-
  Plans, plainly: every symbol that is written has a code.
-/
import Derived.Test.YthhllollhjpheaaBkG
import Derived.Test.YthhllollhjpheaaBkR
import Derived.Test.YthhllollhjpheaaBkD
namespace Go.Proofs.Ythhllollhjpheaa
open Go.RowKit Cd

theorem inc_mono (c : List Int) (s i : Nat) : c.getD i 0 ≤ (incL c s).getD i 0 := by
  unfold incL
  rw [List.getD_eq_getElem?_getD, List.getD_eq_getElem?_getD]
  by_cases hi : i = s
  · subst hi
    rcases Nat.lt_or_ge i c.length with h1 | h1
    · rw [List.getElem?_set_self h1, List.getD_eq_getElem?_getD, List.getElem?_eq_getElem h1]
      simp
      omega
    · rw [List.getElem?_eq_none h1, List.getElem?_eq_none (by rw [List.length_set]; exact h1)]
      exact Int.le_refl _
  · rw [List.getElem?_set_ne (fun h => hi h.symm)]
    exact Int.le_refl _
theorem inc_pos (c : List Int) (s : Nat) (hs : s < c.length) (h : ∀ x ∈ c, 0 ≤ x) : 0 < (incL c s).getD s 0 := by
  unfold incL
  rw [List.getD_eq_getElem?_getD, List.getElem?_set_self hs, List.getD_eq_getElem?_getD, List.getElem?_eq_getElem hs]
  have := h _ (List.getElem_mem hs)
  simp
  omega
theorem inc_nn (c : List Int) (s : Nat) (h : ∀ x ∈ c, 0 ≤ x) : ∀ x ∈ incL c s, 0 ≤ x := by
  intro x hx
  rcases List.mem_or_eq_of_mem_set hx with h1 | h1
  · exact h x h1
  · have : 0 ≤ c.getD s 0 := by
      rw [List.getD_eq_getElem?_getD]
      rcases Nat.lt_or_ge s c.length with h2 | h2
      · rw [List.getElem?_eq_getElem h2]; exact h _ (List.getElem_mem h2)
      · rw [List.getElem?_eq_none h2]; exact Int.le_refl _
    omega
/-- what is counted is not 0 -/
theorem cnt_pos : ∀ (l : List (Int × Int)) (c : List Int × List Int), c.1.length = 286 → c.2.length = 30 → (∀ x ∈ c.1, 0 ≤ x) → (∀ x ∈ c.2, 0 ≤ x) → (∀ t ∈ l, tgood t = true) →
    (∀ i, c.1.getD i 0 ≤ (l.foldl cntStep c).1.getD i 0) ∧ (∀ i, c.2.getD i 0 ≤ (l.foldl cntStep c).2.getD i 0) ∧ (∀ t ∈ l, hasT (l.foldl cntStep c).1 (l.foldl cntStep c).2 t)
  | [], c, _, _, _, _, _ => ⟨fun _ => Int.le_refl _, fun _ => Int.le_refl _, fun t ht => by cases ht⟩
  | t :: l, c, h1, h2, h3, h4, hg => by
    have e1 : (cntStep c t).1.length = 286 := by unfold cntStep; split <;> simp [incL_len, h1]
    have e2 : (cntStep c t).2.length = 30 := by unfold cntStep; split <;> simp [incL_len, h2]
    have e3 : ∀ x ∈ (cntStep c t).1, 0 ≤ x := by unfold cntStep; split <;> exact inc_nn _ _ h3
    have e4 : ∀ x ∈ (cntStep c t).2, 0 ≤ x := by
      unfold cntStep
      split
      · exact h4
      · exact inc_nn _ _ h4
    have m1 : ∀ i, c.1.getD i 0 ≤ (cntStep c t).1.getD i 0 := by intro i; unfold cntStep; split <;> exact inc_mono _ _ _
    have m2 : ∀ i, c.2.getD i 0 ≤ (cntStep c t).2.getD i 0 := by
      intro i
      unfold cntStep
      split
      · exact Int.le_refl _
      · exact inc_mono _ _ _
    obtain ⟨i1, i2, i3⟩ := cnt_pos l (cntStep c t) e1 e2 e3 e4 fun x hx => hg x (List.mem_cons_of_mem _ hx)
    rw [List.foldl_cons]
    refine ⟨fun i => Int.le_trans (m1 i) (i1 i), fun i => Int.le_trans (m2 i) (i2 i), fun x hx => ?_⟩
    rcases List.mem_cons.1 hx with rfl | hx
    · have gt := tgood_true.1 (hg x List.mem_cons_self)
      unfold hasT
      by_cases ha : x.1 = 0
      · rw [if_pos ha]
        have hp := inc_pos c.1 x.2.toNat (by omega) h3
        have e : (cntStep c x).1 = incL c.1 x.2.toNat := by unfold cntStep; rw [if_pos ha]
        rw [← e] at hp
        exact Int.lt_of_lt_of_le hp (i1 _)
      · rw [if_neg ha]
        have hb1 := lsN_bd x.1
        have hb2 := dsN_bd x.2
        have hp := inc_pos c.1 (lsN x.1) (by omega) h3
        have hq := inc_pos c.2 (dsN x.2) (by omega) h4
        have e : cntStep c x = (incL c.1 (lsN x.1), incL c.2 (dsN x.2)) := by unfold cntStep; rw [if_neg ha]
        have e5 : (cntStep c x).1 = incL c.1 (lsN x.1) := by rw [e]
        have e6 : (cntStep c x).2 = incL c.2 (dsN x.2) := by rw [e]
        rw [← e5] at hp
        rw [← e6] at hq
        exact ⟨Int.lt_of_lt_of_le hp (i1 _), Int.lt_of_lt_of_le hq (i2 _)⟩
    · exact i3 x hx
theorem cnt0_nn : (∀ x ∈ cnt0.1, 0 ≤ x) ∧ (∀ x ∈ cnt0.2, 0 ≤ x) := by
  constructor
  · intro x hx
    rcases List.mem_or_eq_of_mem_set hx with h1 | h1
    · have := List.eq_of_mem_replicate h1; omega
    · omega
  · intro x hx
    have := List.eq_of_mem_replicate hx
    omega
theorem cnt0_256 : cnt0.1.getD 256 0 = 1 := by
  unfold cnt0
  rw [List.getD_eq_getElem?_getD, List.getElem?_set_self (by rw [List.length_replicate]; omega)]
  rfl
theorem cntM_pos {l : List (Int × Int)} (hg : ∀ t ∈ l, tgood t = true) : 0 < (cntM l).1.getD 256 0 ∧ ∀ t ∈ l, hasT (cntM l).1 (cntM l).2 t := by
  obtain ⟨h1, _, h3⟩ := cnt_pos l cnt0 (by unfold cnt0; rw [List.length_set, List.length_replicate]) (by unfold cnt0; rw [List.length_replicate]) cnt0_nn.1 cnt0_nn.2 hg
  refine ⟨?_, h3⟩
  have := h1 256
  rw [cnt0_256] at this
  exact Int.lt_of_lt_of_le (by decide) this
theorem cntM_nn {l : List (Int × Int)} : (∀ x ∈ (cntM l).1, 0 ≤ x) ∧ (∀ x ∈ (cntM l).2, 0 ≤ x) := by
  unfold cntM
  suffices h : ∀ (l : List (Int × Int)) (c : List Int × List Int), (∀ x ∈ c.1, 0 ≤ x) → (∀ x ∈ c.2, 0 ≤ x) → (∀ x ∈ (l.foldl cntStep c).1, 0 ≤ x) ∧ (∀ x ∈ (l.foldl cntStep c).2, 0 ≤ x) from h l cnt0 cnt0_nn.1 cnt0_nn.2
  intro l
  induction l with
  | nil => exact fun c h1 h2 => ⟨h1, h2⟩
  | cons t l ih =>
    intro c h1 h2
    refine ih _ ?_ ?_ <;> (unfold cntStep; split) <;> first | exact inc_nn _ _ h1 | exact inc_nn _ _ h2 | exact h2
/-- a plan that tokens can be written by -/
structure PlG (L D : List Int) (l : List (Int × Int)) : Prop where
  lL : lensB L = true
  lD : lensB D = true
  n0 : 256 < L.length
  n1 : L.length ≤ 288
  n2 : D.length ≤ 30
  n3 : 0 < D.length
  p : 0 < L.getD 256 0
  has : ∀ t ∈ l, hasT L D t
theorem PlG.bL {L D : List Int} {l : List (Int × Int)} (h : PlG L D l) : ∀ x ∈ L, 0 ≤ x ∧ x ≤ 16 := (lensB_iff.1 h.lL).2.1
theorem PlG.bD {L D : List Int} {l : List (Int × Int)} (h : PlG L D l) : ∀ x ∈ D, 0 ≤ x ∧ x ≤ 16 := (lensB_iff.1 h.lD).2.1
theorem fix_pos : ∀ s : Fin 288, 0 < fixL.getD s.val 0 := by decide +kernel
theorem usu_pos : ∀ s : Fin 30, 0 < usuD.getD s.val 0 := by decide +kernel
theorem fix_lens : lensB fixL = true ∧ lensB usuD = true ∧ fixL.length = 288 ∧ usuD.length = 30 := by decide +kernel
theorem usual_good {l : List (Int × Int)} (hg : ∀ t ∈ l, tgood t = true) : PlG fixL usuD l := by
  obtain ⟨h1, h2, h3, h4⟩ := fix_lens
  refine ⟨h1, h2, by omega, by omega, by omega, by omega, fix_pos ⟨256, by omega⟩, fun t ht => ?_⟩
  have gt := tgood_true.1 (hg t ht)
  have hb1 := lsN_bd t.1
  have hb2 := dsN_bd t.2
  unfold hasT
  split
  · exact fix_pos ⟨t.2.toNat, by omega⟩
  · exact ⟨fix_pos ⟨lsN t.1, by omega⟩, usu_pos ⟨dsN t.2, by omega⟩⟩
/-- how much codes take: of a row of counts -/
theorem kraft_app (a b : List Int) : Go.Proofs.Ythhllollhjpheaa.kraft (a ++ b) = Go.Proofs.Ythhllollhjpheaa.kraft a + Go.Proofs.Ythhllollhjpheaa.kraft b := by unfold Go.Proofs.Ythhllollhjpheaa.kraft; rw [List.map_append, List.sum_append]
theorem kraft_zero : ∀ {l : List Int}, (∀ x ∈ l, x = 0) → Go.Proofs.Ythhllollhjpheaa.kraft l = 0
  | [], _ => rfl
  | x :: l, h => by
    have h1 := kraft_zero (l := l) fun y hy => h y (List.mem_cons_of_mem _ hy)
    have h2 := h x List.mem_cons_self
    unfold Go.Proofs.Ythhllollhjpheaa.kraft at *
    rw [List.map_cons, List.sum_cons, h1, if_neg (by omega)]
    rfl
theorem kraft_trim (k : Nat) (l : List Int) : Go.Proofs.Ythhllollhjpheaa.kraft (trimM k l) = Go.Proofs.Ythhllollhjpheaa.kraft l := by
  conv => rhs; rw [← List.take_append_drop (trimN k l l.length) l]
  rw [kraft_app, kraft_zero (l := l.drop (trimN k l l.length)) fun x hx => ?_]
  · unfold trimM; omega
  · obtain ⟨i, hi, rfl⟩ := List.mem_iff_getElem.1 hx
    rw [List.length_drop] at hi
    rw [List.getElem_drop]
    have := trimN_zero k l l.length (trimN k l l.length + i) (by omega) (by omega)
    rw [← getD_at (by omega)] at this
    exact this
theorem sum_SN (f : Nat → Nat) (g : Nat → Int) (h : ∀ s, g s = ((f s : Nat) : Int)) : ∀ n, ((List.range n).map g).sum = ((Mg.SN n f : Nat) : Int)
  | 0 => rfl
  | n + 1 => by
    rw [List.range_succ, List.map_append, List.sum_append, sum_SN f g h n, Mg.SN]
    simp [h]
theorem kraft_best {c : List Int} {K : Nat} (hK : (itemsOf c).length ≤ 2 ^ (K + 1)) (hk : K ≤ 15) : Go.Proofs.Ythhllollhjpheaa.kraft (bestLs (itemsOf c) K c.length) = ((if 2 ≤ (itemsOf c).length then 65536 else if (itemsOf c).length = 1 then 32768 else 0 : Nat) : Int) := by
  rw [← form_sum hK hk]
  unfold Go.Proofs.Ythhllollhjpheaa.kraft bestLs
  rw [List.map_map]
  refine sum_SN _ _ (fun s => ?_) c.length
  show (if (0 : Int) < ((bestAt (itemsOf c) K s : Nat) : Int) then (2 : Int) ^ (16 - ((bestAt (itemsOf c) K s : Nat) : Int).toNat) else 0) = _
  rw [Int.toNat_natCast]
  by_cases h : 0 < bestAt (itemsOf c) K s
  · rw [if_pos (by omega), if_pos h]
    push_cast
    rfl
  · rw [if_neg (by omega), if_neg h]
    rfl
theorem best_lens {c : List Int} {K : Nat} (hK : (itemsOf c).length ≤ 2 ^ (K + 1)) (hk : K ≤ 15) (hc : c.length ≤ 300) (k : Nat) : lensB (trimM k (bestLs (itemsOf c) K c.length)) = true := by
  refine lensB_iff.2 ⟨?_, ?_, ?_⟩
  · rw [trim_len, bestLs_len]
    have := trimN_le k (bestLs (itemsOf c) K c.length) c.length
    omega
  · intro x hx
    have := best_bd hK x (trim_mem hx)
    omega
  · rw [kraft_trim, kraft_best hK hk]
    split
    · decide
    · split <;> decide
theorem items_le {c : List Int} {n : Nat} (h : c.length ≤ n) : (itemsOf c).length ≤ n := Nat.le_trans (itemsOf_le c) h
theorem own_good {l : List (Int × Int)} (hg : ∀ t ∈ l, tgood t = true) : PlG (ownM l).L (ownM l).D l := by
  obtain ⟨e1, e2⟩ := cnt_len l
  obtain ⟨p256, hh⟩ := cntM_pos hg
  have t1 : (twoM (cntM l).1).length = 286 := by rw [twoM_len, e1]
  have k1 : (itemsOf (twoM (cntM l).1)).length ≤ 2 ^ (14 + 1) := Nat.le_trans (itemsOf_le _) (by rw [t1]; decide)
  have k2 : (itemsOf (cntM l).2).length ≤ 2 ^ (14 + 1) := Nat.le_trans (itemsOf_le _) (by rw [e2]; decide)
  have f1 := best_lens k1 (by omega) (by omega) 257
  have f2 := best_lens k2 (by omega) (by omega) 1
  rw [t1] at f1
  rw [e2] at f2
  have g1 : ∀ s, s < 286 → 0 < (cntM l).1.getD s 0 → 0 < (litM l).getD s 0 := by
    intro s hs hp
    unfold litM
    rw [trim_at]
    have := best_pos (c := twoM (cntM l).1) (s := s) k1 (by rw [t1]; exact hs)
    rw [t1] at this
    refine this.2 ?_
    unfold twoM
    rw [two_keep _ _ _ hp]
    exact hp
  have g2 : ∀ s, s < 30 → 0 < (cntM l).2.getD s 0 → 0 < (dstM l).getD s 0 := by
    intro s hs hp
    unfold dstM
    rw [trim_at]
    have := best_pos (c := (cntM l).2) (s := s) k2 (by rw [e2]; exact hs)
    rw [e2] at this
    exact this.2 hp
  have n1 : (litM l).length = trimN 257 (bestLs (itemsOf (twoM (cntM l).1)) 14 286) 286 := by unfold litM; rw [trim_len, bestLs_len]
  have n2 : (dstM l).length = trimN 1 (bestLs (itemsOf (cntM l).2) 14 30) 30 := by unfold dstM; rw [trim_len, bestLs_len]
  have a1 := trimN_ge 257 (bestLs (itemsOf (twoM (cntM l).1)) 14 286) 286 (by omega)
  have a2 := trimN_le 257 (bestLs (itemsOf (twoM (cntM l).1)) 14 286) 286
  have a3 := trimN_ge 1 (bestLs (itemsOf (cntM l).2) 14 30) 30 (by omega)
  have a4 := trimN_le 1 (bestLs (itemsOf (cntM l).2) 14 30) 30
  refine ⟨f1, f2, ?_, ?_, ?_, ?_, g1 256 (by omega) p256, fun t ht => ?_⟩
  · show 256 < (litM l).length; omega
  · show (litM l).length ≤ 288; omega
  · show (dstM l).length ≤ 30; omega
  · show 0 < (dstM l).length; omega
  · have h := hh t ht
    have gt := tgood_true.1 (hg t ht)
    have hb1 := lsN_bd t.1
    have hb2 := dsN_bd t.2
    unfold hasT at h ⊢
    by_cases ha : t.1 = 0
    · rw [if_pos ha] at h ⊢
      exact g1 _ (by omega) h
    · rw [if_neg ha] at h ⊢
      exact ⟨g1 _ (by omega) h.1, g2 _ (by omega) h.2⟩
/-- the runs of a plan can be written -/
structure RunG (R : List (Int × Int)) (O : List Int) : Prop where
  n : O.length = 19
  b7 : ∀ x ∈ O, 0 ≤ x ∧ x ≤ 7
  l : lensB O = true
  r : ∀ r ∈ R, 0 < O.getD r.1.toNat 0 ∧ 0 ≤ r.1 ∧ r.1 ≤ 18 ∧ 0 ≤ r.2 ∧ r.2 < 2 ^ (rb r.1).toNat
theorem run_in : ∀ (R : List (Int × Int)) {out x : List Int}, unr out R = some x → ∀ r ∈ R, 0 ≤ r.1 ∧ r.1 ≤ 18 ∧ 0 ≤ r.2 ∧ r.2 < 2 ^ (rb r.1).toNat
  | [], _, _, _ => fun r hr => by cases hr
  | (s, e) :: R, out, x, h => fun r hr => by
    by_cases hb : rbad out s e
    · rw [unr_bad hb] at h; cases h
    rw [unr_step hb] at h
    rcases List.mem_cons.1 hr with rfl | hr
    · unfold rbad at hb
      have s3 : e ≤ rtop s := by omega
      refine ⟨by omega, by omega, by omega, ?_⟩
      show e < 2 ^ (rb s).toNat
      unfold rtop at s3
      unfold rb
      (repeat' split at s3) <;> (repeat' split) <;> first | omega | (simp; omega)
    · exact run_in R h r hr
theorem one_pos : ∀ (R : List (Int × Int)) (c : List Int), c.length = 19 → (∀ x ∈ c, 0 ≤ x) → (∀ r ∈ R, 0 ≤ r.1 ∧ r.1 ≤ 18) →
    (R.foldl (fun c r => incL c r.1.toNat) c).length = 19 ∧ (∀ x ∈ R.foldl (fun c r => incL c r.1.toNat) c, 0 ≤ x) ∧ (∀ i, c.getD i 0 ≤ (R.foldl (fun c r => incL c r.1.toNat) c).getD i 0) ∧ ∀ r ∈ R, 0 < (R.foldl (fun c r => incL c r.1.toNat) c).getD r.1.toNat 0
  | [], c, h1, h2, _ => ⟨h1, h2, fun _ => Int.le_refl _, fun r hr => by cases hr⟩
  | r :: R, c, h1, h2, h3 => by
    obtain ⟨i1, i2, i3, i4⟩ := one_pos R (incL c r.1.toNat) (by rw [incL_len, h1]) (inc_nn _ _ h2) fun x hx => h3 x (List.mem_cons_of_mem _ hx)
    rw [List.foldl_cons]
    refine ⟨i1, i2, fun i => Int.le_trans (inc_mono _ _ _) (i3 i), fun x hx => ?_⟩
    rcases List.mem_cons.1 hx with rfl | hx
    · have := h3 x List.mem_cons_self
      exact Int.lt_of_lt_of_le (inc_pos c x.1.toNat (by omega) h2) (i3 _)
    · exact i4 x hx
theorem run_good {x : List Int} (hx : ∀ y ∈ x, 0 ≤ y ∧ y ≤ 15) : RunG (runM2 x) (oneM (runM2 x)) ∧ (runM2 x).length ≤ x.length ∧ unr [] (runM2 x) = some x := by
  have hb := BlockRuns.runs_back x.length [] x (Nat.le_refl _) hx
  have e : runM2 x = BlockRuns.runsOf x.length ([] : List Int).getLast? x := rfl
  rw [← e, List.nil_append] at hb
  have hin := run_in (runM2 x) hb.1
  obtain ⟨q1, q2, _, q4⟩ := one_pos (runM2 x) (List.replicate 19 0) (by simp) (fun y hy => by have := List.eq_of_mem_replicate hy; omega) fun r hr => ⟨(hin r hr).1, (hin r hr).2.1⟩
  have t1 : (twoM (oneC (runM2 x))).length = 19 := by rw [twoM_len]; exact q1
  have k1 : (itemsOf (twoM (oneC (runM2 x)))).length ≤ 2 ^ (6 + 1) := Nat.le_trans (itemsOf_le _) (by rw [t1]; decide)
  refine ⟨⟨by unfold oneM; rw [bestLs_len], fun y hy => ?_, ?_, fun r hr => ⟨?_, hin r hr⟩⟩, hb.2, hb.1⟩
  · unfold oneM at hy
    have := best_bd k1 y (by rw [t1]; exact hy)
    omega
  · have h := best_lens k1 (by omega) (by omega) 19
    rw [t1] at h
    have e2 : trimM 19 (bestLs (itemsOf (twoM (oneC (runM2 x)))) 6 19) = oneM (runM2 x) := by
      unfold oneM trimM
      have := trimN_ge 19 (bestLs (itemsOf (twoM (oneC (runM2 x)))) 6 19) 19 (Nat.le_refl _)
      rw [bestLs_len, List.take_of_length_le (by rw [bestLs_len]; exact this)]
    rw [e2] at h
    exact h
  · have hr2 := hin r hr
    have hp : 0 < (oneC (runM2 x)).getD r.1.toNat 0 := q4 r hr
    have := best_pos (c := twoM (oneC (runM2 x))) (s := r.1.toNat) k1 (by rw [t1]; omega)
    rw [t1] at this
    unfold oneM
    refine this.2 ?_
    unfold twoM
    rw [two_keep _ _ _ hp]
    exact hp
theorem own_runs {l : List (Int × Int)} (hg : ∀ t ∈ l, tgood t = true) : RunG (ownM l).R (ownM l).O ∧ (ownM l).R.length ≤ 316 ∧ unr [] (ownM l).R = some ((ownM l).L ++ (ownM l).D) := by
  have hp := own_good hg
  have e1 : (twoM (cntM l).1).length = 286 := by rw [twoM_len, (cnt_len l).1]
  have e2 := (cnt_len l).2
  have h := run_good (x := litM l ++ dstM l) (by
    intro y hy
    rcases List.mem_append.1 hy with h | h
    · have := best_bd (c := twoM (cntM l).1) (K := 14) (Nat.le_trans (itemsOf_le _) (by rw [e1]; decide)) y (by rw [e1]; exact trim_mem h)
      omega
    · have := best_bd (c := (cntM l).2) (K := 14) (Nat.le_trans (itemsOf_le _) (by rw [e2]; decide)) y (by rw [e2]; exact trim_mem h)
      omega)
  refine ⟨h.1, Nat.le_trans h.2.1 ?_, h.2.2⟩
  rw [List.length_append]
  unfold litM dstM
  rw [trim_len, trim_len, bestLs_len, bestLs_len]
  have a2 := trimN_le 257 (bestLs (itemsOf (twoM (cntM l).1)) 14 286) 286
  have a4 := trimN_le 1 (bestLs (itemsOf (cntM l).2) 14 30) 30
  omega
end Go.Proofs.Ythhllollhjpheaa
