/-
  The best lengths, plain: what each symbol gets; in form, whole, ordered.
-/
import Derived.Test.YthhllollhjpheaaSrtA
import Derived.Test.YthhllollhjpheaaMgA
namespace Go.Proofs.Ythhllollhjpheaa
open Go.RowKit Mg

theorem ins_perm (x : It) : ∀ l : List It, (ins x l).Perm (x :: l)
  | [] => .refl _
  | y :: t => by
    unfold ins
    split
    · exact .refl _
    · exact ((ins_perm x t).cons y).trans (.swap x y t)
theorem isort_perm : ∀ l : List It, (isort l).Perm l
  | [] => .refl _
  | x :: t => (ins_perm x (isort t)).trans ((isort_perm t).cons x)
theorem ins_old (x : It) : ∀ r : List It, r.Sublist (ins x r)
  | [] => List.nil_sublist _
  | y :: t => by
    unfold ins
    split
    · exact List.sublist_cons_self _ _
    · exact (ins_old x t).cons_cons y
theorem ins_new (x : It) : ∀ (r c : List It), c.Sublist r → (∀ e ∈ c, Le x e) → (x :: c).Sublist (ins x r)
  | [], c, h, _ => by
    have : c = [] := List.eq_nil_of_sublist_nil h
    subst this
    exact List.Sublist.refl _
  | y :: t, c, h, hc => by
    unfold ins
    split
    · exact h.cons_cons x
    · rename_i hn
      have hn : ¬ Le x y := fun hx => hn ((le_iff x y).2 hx)
      have : c.Sublist t := by
        cases h with
        | cons _ h => exact h
        | cons_cons _ _ => exact absurd (hc y (by simp)) hn
      exact (ins_new x t c this hc).cons y
theorem isort_stable : ∀ (a c : List It), c.Pairwise Le → c.Sublist a → c.Sublist (isort a)
  | [], c, _, h => h
  | x :: t, c, hc, h => by
    show c.Sublist (ins x (isort t))
    cases h with
    | cons _ h => exact (isort_stable t c hc h).trans (ins_old x _)
    | cons_cons _ h =>
      obtain ⟨h1, h2⟩ := List.pairwise_cons.1 hc
      exact ins_new x _ _ (isort_stable t _ h2 h) h1
theorem isort_st (a : List It) : St a (isort a) := ⟨isort_perm a, isort_sorted a, isort_stable a⟩
theorem row_of (l : List It) : ∀ k : Nat, RowOf l k (rowFn l k)
  | 0 => rfl
  | k + 1 => ⟨rowFn l k, row_of l k, isort_st _⟩
/-- the items, ordered -/
def itemsOf (c : List Int) : List It := isort (itemsTo c c.length)
theorem items_mem (c : List Int) : ∀ (j : Nat) (x : It), x ∈ itemsTo c j → ∃ s, s < j ∧ 0 < c.getD s 0 ∧ x = ⟨c.getD s 0, [s]⟩
  | 0, x, h => by cases h
  | j + 1, x, h => by
    unfold itemsTo at h
    have old : x ∈ itemsTo c j → ∃ s, s < j + 1 ∧ 0 < c.getD s 0 ∧ x = ⟨c.getD s 0, [s]⟩ := fun h => by
      obtain ⟨s, h1, h2⟩ := items_mem c j x h
      exact ⟨s, by omega, h2⟩
    split at h
    · rename_i hp
      rcases List.mem_append.1 h with h | h
      · exact old h
      · exact ⟨j, by omega, hp, List.mem_singleton.1 h⟩
    · exact old h
theorem items_has (c : List Int) (s : Nat) (hs : 0 < c.getD s 0) : ∀ j : Nat, s < j → (⟨c.getD s 0, [s]⟩ : It) ∈ itemsTo c j
  | 0, h => by omega
  | j + 1, h => by
    unfold itemsTo
    by_cases e : s = j
    · subst e
      rw [if_pos hs]
      exact List.mem_append.2 (.inr (List.mem_singleton.2 rfl))
    · have := items_has c s hs j (by omega)
      split
      · exact List.mem_append.2 (.inl this)
      · exact this
theorem items_sy (c : List Int) (j s : Nat) : s ∈ sy (itemsTo c j) ↔ s < j ∧ 0 < c.getD s 0 := by
  unfold sy
  rw [List.mem_flatMap]
  constructor
  · rintro ⟨x, hx, hs⟩
    obtain ⟨t, h1, h2, rfl⟩ := items_mem c j x hx
    obtain rfl := List.mem_singleton.1 hs
    exact ⟨h1, h2⟩
  · rintro ⟨h1, h2⟩
    exact ⟨_, items_has c s h2 j h1, by simp⟩
theorem items_nodup (c : List Int) : ∀ j : Nat, (sy (itemsTo c j)).Nodup
  | 0 => by simp [sy, itemsTo]
  | j + 1 => by
    have ih := items_nodup c j
    unfold itemsTo
    split
    · rw [sy_app]
      refine List.nodup_append.2 ⟨ih, by simp [sy], fun a ha b hb => ?_⟩
      have := ((items_sy c j a).1 ha).1
      have : b = j := by simpa [sy] using hb
      omega
    · exact ih
theorem items_sum (c : List Int) (g : Nat → Nat) : ∀ j : Nat, ((sy (itemsTo c j)).map g).sum = SN j (fun s => if 0 < c.getD s 0 then g s else 0)
  | 0 => rfl
  | j + 1 => by
    have ih := items_sum c g j
    unfold itemsTo
    simp only [SN]
    by_cases h : 0 < c.getD j 0
    · rw [if_pos h, if_pos h, sy_app, List.map_append, List.sum_append, ih]
      simp [sy]
    · rw [if_neg h, if_neg h, ih]
      rfl
theorem items_wsum (c : List Int) (g : Nat → Int) : ∀ j : Nat, ((itemsTo c j).map fun x => x.w * g (x.s.headD 0)).sum = SZ j (fun s => if 0 < c.getD s 0 then c.getD s 0 * g s else 0)
  | 0 => rfl
  | j + 1 => by
    have ih := items_wsum c g j
    unfold itemsTo
    simp only [SZ]
    by_cases h : 0 < c.getD j 0
    · rw [if_pos h, if_pos h, List.map_append, List.sum_append, ih]
      simp
    · rw [if_neg h, if_neg h, ih]
      simp
theorem items_gl (c : List Int) : GL (itemsOf c) := by
  have hp := isort_perm (itemsTo c c.length)
  refine ⟨isort_sorted _, fun x hx => ?_, fun x hx => ?_, ?_⟩
  · obtain ⟨s, _, _, rfl⟩ := items_mem c _ x (hp.mem_iff.1 hx)
    rfl
  · obtain ⟨s, _, h, rfl⟩ := items_mem c _ x (hp.mem_iff.1 hx)
    exact Int.le_of_lt h
  · exact (sy_perm hp).nodup_iff.2 (items_nodup c _)
theorem itemsOf_sy (c : List Int) (s : Nat) : s ∈ sy (itemsOf c) ↔ s < c.length ∧ 0 < c.getD s 0 := by
  rw [← items_sy]
  exact (sy_perm (isort_perm (itemsTo c c.length))).mem_iff
theorem itemsOf_len (c : List Int) : (itemsOf c).length = (itemsTo c c.length).length := (isort_perm _).length_eq
theorem itemsOf_le (c : List Int) : (itemsOf c).length ≤ c.length := by rw [itemsOf_len]; exact itemsTo_len c _
/-- the symbol at a place -/
def sOf (l : List It) (i : Nat) : Nat := (l.getD i ⟨0, []⟩).s.headD 0
theorem sOf_at {l : List It} (hl : GL l) {i : Nat} (hi : i < l.length) : l[i].s = [sOf l i] := by
  have h := hl.single l[i] (List.getElem_mem hi)
  obtain ⟨a, ha⟩ := List.length_eq_one_iff.1 h
  unfold sOf
  rw [List.getD_eq_getElem?_getD, List.getElem?_eq_getElem hi]
  simp [ha]
theorem sOf_mem {l : List It} {i : Nat} (hl : GL l) (hi : i < l.length) : sOf l i ∈ sy l := by
  unfold sy
  rw [List.mem_flatMap]
  exact ⟨l[i], List.getElem_mem hi, by rw [sOf_at hl hi]; simp⟩
theorem sOf_ex {l : List It} (hl : GL l) {s : Nat} (h : s ∈ sy l) : ∃ i, ∃ hi : i < l.length, sOf l i = s ∧ l[i].s = [s] := by
  unfold sy at h
  rw [List.mem_flatMap] at h
  obtain ⟨x, hx, hs⟩ := h
  obtain ⟨i, hi, rfl⟩ := List.mem_iff_getElem.1 hx
  have e := sOf_at hl hi
  rw [e] at hs
  have := List.mem_singleton.1 hs
  exact ⟨i, hi, this.symm, by rw [e, this]⟩
theorem sy_single : ∀ {l : List It}, (∀ x ∈ l, x.s.length = 1) → ∀ g : Nat → Nat, ((sy l).map g).sum = SN l.length (fun i => g (sOf l i)) := by
  intro l hl g
  have key : ∀ j, j ≤ l.length → ((sy (l.take j)).map g).sum = SN j (fun i => g (sOf l i)) := by
    intro j
    induction j with
    | zero => intro _; rfl
    | succ j ih =>
      intro hj
      rw [List.take_succ_eq_append_getElem (by omega), sy_app, List.map_append, List.sum_append, ih (by omega)]
      simp only [SN]
      congr 1
      obtain ⟨a, ha⟩ := List.length_eq_one_iff.1 (hl l[j] (List.getElem_mem _))
      unfold sOf sy
      rw [List.getD_eq_getElem?_getD, List.getElem?_eq_getElem (by omega)]
      simp [ha]
  have := key l.length (Nat.le_refl _)
  rwa [List.take_length] at this
theorem w_single : ∀ {l : List It} (g : Nat → Int), (l.map fun x => x.w * g (x.s.headD 0)).sum = SZ l.length (fun i => wt l i * g (sOf l i)) := by
  intro l g
  have key : ∀ j, j ≤ l.length → ((l.take j).map fun x => x.w * g (x.s.headD 0)).sum = SZ j (fun i => wt l i * g (sOf l i)) := by
    intro j
    induction j with
    | zero => intro _; rfl
    | succ j ih =>
      intro hj
      rw [List.take_succ_eq_append_getElem (by omega), List.map_append, List.sum_append, ih (by omega)]
      simp only [SZ]
      congr 1
      unfold sOf wt
      rw [List.getD_eq_getElem?_getD, List.getElem?_eq_getElem (by omega)]
      simp
  have := key l.length (Nat.le_refl _)
  rwa [List.take_length] at this
/-- sums over the symbols that stand, in either order -/
theorem sum_of (c : List Int) (g : Nat → Nat) : SN c.length (fun s => if 0 < c.getD s 0 then g s else 0) = SN (itemsOf c).length (fun i => g (sOf (itemsOf c) i)) := by
  rw [← items_sum, ← sy_single (items_gl c).single]
  exact (((sy_perm (isort_perm (itemsTo c c.length))).map g).sum_nat).symm
/-- the best length of a symbol -/
def bestAt (l : List It) (K s : Nat) : Nat := if l.length = 1 then (sy l).count s else (sy ((rowFn l K).take (2 * l.length - 2))).count s
def bestLs (l : List It) (K n : Nat) : List Int := (List.range n).map fun s => (bestAt l K s : Int)
theorem bestLs_len (l : List It) (K n : Nat) : (bestLs l K n).length = n := by simp [bestLs]
theorem bestLs_at (l : List It) (K n : Nat) {s : Nat} (h : s < n) : (bestLs l K n).getD s 0 = (bestAt l K s : Int) := by
  unfold bestLs
  rw [List.getD_eq_getElem?_getD, List.getElem?_map, List.getElem?_range h]
  rfl
theorem best_none {l : List It} {K s : Nat} (hl : GL l) (h : s ∉ sy l) (hK : l.length ≤ 2 ^ (K + 1)) : bestAt l K s = 0 := by
  unfold bestAt
  split
  · exact List.count_eq_zero.2 h
  · by_cases h2 : 2 ≤ l.length
    · obtain ⟨_, cs, _, _, _, _, _, _, hp⟩ := whole hl K _ (row_of l K) h2 hK
      rw [hp.count_eq, cnt_none h]
    · have : l.length = 0 := by omega
      rw [this]
      rfl
structure Levels (l : List It) (K : Nat) (cs : List Nat) : Prop where
  len : cs.length = K + 1
  le : ∀ c ∈ cs, c ≤ l.length
  kraft : SN l.length (fun i => 2 ^ (K + 1 - ln cs i)) = 2 ^ (K + 1)
  each : ∀ i, i < l.length → 1 ≤ ln cs i ∧ ln cs i ≤ K + 1
  cost : ws ((rowFn l K).take (2 * l.length - 2)) = wsum l cs
  at_ : ∀ i, i < l.length → bestAt l K (sOf l i) = ln cs i
theorem best_levels {l : List It} {K : Nat} (hl : GL l) (h2 : 2 ≤ l.length) (hK : l.length ≤ 2 ^ (K + 1)) : ∃ cs, Levels l K cs := by
  obtain ⟨_, cs, a1, a2, a3, a4, a5, a6, a7⟩ := whole hl K _ (row_of l K) h2 hK
  refine ⟨cs, a1, a3, a4, a5, a6, fun i hi => ?_⟩
  unfold bestAt
  rw [if_neg (by omega), a7.count_eq, cnt_levels hl hi (sOf_at hl hi)]
theorem best_one {l : List It} {K s : Nat} (hl : GL l) (h1 : l.length = 1) (h : s ∈ sy l) : bestAt l K s = 1 := by
  unfold bestAt
  rw [if_pos h1]
  have := List.count_pos_iff.2 h
  have := List.nodup_iff_count.1 hl.nodup s
  omega
/-- rows of a stable order -/
theorem ln_anti (cs : List Nat) {i k : Nat} (h : i ≤ k) : ln cs k ≤ ln cs i := by
  induction cs with
  | nil => exact Nat.le_refl _
  | cons c cs ih =>
    rw [ln_cons, ln_cons]
    by_cases h1 : k < c
    · rw [if_pos h1, if_pos (by omega)]
      omega
    · rw [if_neg h1]
      omega
/-- each symbol's length is in form -/
theorem form_at {c : List Int} {K s : Nat} (hK : (itemsOf c).length ≤ 2 ^ (K + 1)) (hs : s < c.length) :
    bestAt (itemsOf c) K s ≤ K + 1 ∧ (bestAt (itemsOf c) K s = 0 ↔ ¬ 0 < c.getD s 0) ∧ ((itemsOf c).length = 1 → bestAt (itemsOf c) K s ≤ 1) := by
  have hl := items_gl c
  by_cases h : 0 < c.getD s 0
  · have hm := (itemsOf_sy c s).2 ⟨hs, h⟩
    obtain ⟨i, hi, he, _⟩ := sOf_ex hl hm
    by_cases h1 : (itemsOf c).length = 1
    · have := best_one (K := K) hl h1 hm
      omega
    · obtain ⟨cs, L⟩ := best_levels hl (by omega) hK
      have e := L.at_ i hi
      rw [he] at e
      have := L.each i hi
      omega
  · have hm : s ∉ sy (itemsOf c) := fun hm => h ((itemsOf_sy c s).1 hm).2
    have := best_none hl hm hK
    omega
/-- the lengths are whole -/
theorem form_sum {c : List Int} {K : Nat} (hK : (itemsOf c).length ≤ 2 ^ (K + 1)) (hk : K ≤ 15) :
    SN c.length (fun s => if 0 < bestAt (itemsOf c) K s then 2 ^ (16 - bestAt (itemsOf c) K s) else 0) = if 2 ≤ (itemsOf c).length then 65536 else if (itemsOf c).length = 1 then 32768 else 0 := by
  have hl := items_gl c
  have e : SN c.length (fun s => if 0 < bestAt (itemsOf c) K s then 2 ^ (16 - bestAt (itemsOf c) K s) else 0) = SN c.length (fun s => if 0 < c.getD s 0 then 2 ^ (16 - bestAt (itemsOf c) K s) else 0) := by
    refine SN_congr fun s hs => ?_
    have := (form_at hK hs).2.1
    by_cases h : 0 < c.getD s 0
    · rw [if_pos h, if_pos (by omega)]
    · rw [if_neg h, if_neg (by omega)]
  rw [e, sum_of c (fun s => 2 ^ (16 - bestAt (itemsOf c) K s))]
  by_cases h2 : 2 ≤ (itemsOf c).length
  · rw [if_pos h2]
    obtain ⟨cs, L⟩ := best_levels hl h2 hK
    have e2 : SN (itemsOf c).length (fun i => 2 ^ (16 - bestAt (itemsOf c) K (sOf (itemsOf c) i))) = SN (itemsOf c).length (fun i => 2 ^ (K + 1 - ln cs i) * 2 ^ (15 - K)) := by
      refine SN_congr fun i hi => ?_
      have := L.each i hi
      rw [L.at_ i hi, ← Nat.pow_add]
      congr 1
      omega
    have e3 : ∀ (n d : Nat) (f : Nat → Nat), SN n (fun i => f i * d) = SN n f * d := by
      intro n d f
      induction n with
      | zero => simp [SN]
      | succ n ih => simp only [SN]; rw [ih, Nat.add_mul]
    rw [e2, e3, L.kraft, ← Nat.pow_add, show K + 1 + (15 - K) = 16 by omega]
  · rw [if_neg h2]
    by_cases h1 : (itemsOf c).length = 1
    · rw [if_pos h1, h1]
      have := best_one (K := K) hl h1 (sOf_mem hl (i := 0) (by omega))
      simp only [SN]
      rw [this]
    · have h0 : (itemsOf c).length = 0 := by omega
      rw [if_neg h1, h0]
      rfl
/-- what stands more often has no greater length -/
theorem order_at {c : List Int} {K s t : Nat} (hK : (itemsOf c).length ≤ 2 ^ (K + 1)) (hs : s < c.length) (ht : t < c.length) (h0 : 0 < c.getD t 0) (h : c.getD t 0 < c.getD s 0) : bestAt (itemsOf c) K s ≤ bestAt (itemsOf c) K t := by
  have hl := items_gl c
  have m1 := (itemsOf_sy c s).2 ⟨hs, by omega⟩
  have m2 := (itemsOf_sy c t).2 ⟨ht, h0⟩
  obtain ⟨i, hi, e1, e1'⟩ := sOf_ex hl m1
  obtain ⟨j, hj, e2, e2'⟩ := sOf_ex hl m2
  have w : ∀ (k u : Nat) (hk : k < (itemsOf c).length), (itemsOf c)[k].s = [u] → (itemsOf c)[k].w = c.getD u 0 := by
    intro k u hk e
    obtain ⟨v, _, _, hv⟩ := items_mem c _ _ ((isort_perm (itemsTo c c.length)).mem_iff.1 (List.getElem_mem hk))
    have hv : (itemsOf c)[k] = ⟨c.getD v 0, [v]⟩ := hv
    rw [hv] at e ⊢
    injection e with e _
    rw [e]
  have w1 := w i s hi e1'
  have w2 := w j t hj e2'
  have hij : j < i := by
    apply Decidable.byContradiction
    intro hn
    rcases Nat.lt_or_ge i j with hlt | hge
    · have := (List.pairwise_iff_getElem.1 hl.sorted i j hi hj hlt).w
      omega
    · have : i = j := by omega
      subst this
      omega
  by_cases h1 : (itemsOf c).length = 1
  · omega
  · obtain ⟨cs, L⟩ := best_levels hl (by omega) hK
    have q1 := L.at_ i hi
    have q2 := L.at_ j hj
    rw [e1] at q1
    rw [e2] at q2
    rw [q1, q2]
    exact ln_anti cs (by omega)
end Go.Proofs.Ythhllollhjpheaa
