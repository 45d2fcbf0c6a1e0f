/-
  The best lengths, plain: what each symbol gets; in form, whole, ordered.
  Blocks, plainly: which tokens fit a text, how often symbols stand, the plan of kind 2, how many bits a block has.
-/
import Derived.Test.YtoppjcmkhhkbmaaGreatSqueezePlainx4
import Derived.Test.YtoppjcmkhhkbmaaGreatSqueezePlainx5
import Derived.Test.YtoppjcmkhhkbmaaGreatSqueezePlainx6
namespace Go.Proofs.YtoppjcmkhhkbmaaGreat
open Go.RowKit Mg

theorem ins_perm (x : It) : ∀ l : List It, (ins x l).Perm (x :: l)
  | [] => .refl _
  | y :: t => by
    unfold ins
    split
    · exact .refl _
    · exact ((ins_perm x t).cons y).trans (.swap x y t)
theorem isort_perm : ∀ l : List It, (isort l).Perm l
  | [] => .refl _
  | x :: t => (ins_perm x (isort t)).trans ((isort_perm t).cons x)
theorem ins_old (x : It) : ∀ r : List It, r.Sublist (ins x r)
  | [] => List.nil_sublist _
  | y :: t => by
    unfold ins
    split
    · exact List.sublist_cons_self _ _
    · exact (ins_old x t).cons_cons y
theorem ins_new (x : It) : ∀ (r c : List It), c.Sublist r → (∀ e ∈ c, Le x e) → (x :: c).Sublist (ins x r)
  | [], c, h, _ => by
    have : c = [] := List.eq_nil_of_sublist_nil h
    subst this
    exact List.Sublist.refl _
  | y :: t, c, h, hc => by
    unfold ins
    split
    · exact h.cons_cons x
    · rename_i hn
      have hn : ¬ Le x y := fun hx => hn ((le_iff x y).2 hx)
      have : c.Sublist t := by
        cases h with
        | cons _ h => exact h
        | cons_cons _ _ => exact absurd (hc y (by simp)) hn
      exact (ins_new x t c this hc).cons y
theorem isort_stable : ∀ (a c : List It), c.Pairwise Le → c.Sublist a → c.Sublist (isort a)
  | [], c, _, h => h
  | x :: t, c, hc, h => by
    show c.Sublist (ins x (isort t))
    cases h with
    | cons _ h => exact (isort_stable t c hc h).trans (ins_old x _)
    | cons_cons _ h =>
      obtain ⟨h1, h2⟩ := List.pairwise_cons.1 hc
      exact ins_new x _ _ (isort_stable t _ h2 h) h1
theorem isort_st (a : List It) : St a (isort a) := ⟨isort_perm a, isort_sorted a, isort_stable a⟩
theorem row_of (l : List It) : ∀ k : Nat, RowOf l k (rowFn l k)
  | 0 => rfl
  | k + 1 => ⟨rowFn l k, row_of l k, isort_st _⟩
/-- the items, ordered -/
def itemsOf (c : List Int) : List It := isort (itemsTo c c.length)
theorem items_mem (c : List Int) : ∀ (j : Nat) (x : It), x ∈ itemsTo c j → ∃ s, s < j ∧ 0 < c.getD s 0 ∧ x = ⟨c.getD s 0, [s]⟩
  | 0, x, h => by cases h
  | j + 1, x, h => by
    unfold itemsTo at h
    have old : x ∈ itemsTo c j → ∃ s, s < j + 1 ∧ 0 < c.getD s 0 ∧ x = ⟨c.getD s 0, [s]⟩ := fun h => by
      obtain ⟨s, h1, h2⟩ := items_mem c j x h
      exact ⟨s, by omega, h2⟩
    split at h
    · rename_i hp
      rcases List.mem_append.1 h with h | h
      · exact old h
      · exact ⟨j, by omega, hp, List.mem_singleton.1 h⟩
    · exact old h
theorem items_has (c : List Int) (s : Nat) (hs : 0 < c.getD s 0) : ∀ j : Nat, s < j → (⟨c.getD s 0, [s]⟩ : It) ∈ itemsTo c j
  | 0, h => by omega
  | j + 1, h => by
    unfold itemsTo
    by_cases e : s = j
    · subst e
      rw [if_pos hs]
      exact List.mem_append.2 (.inr (List.mem_singleton.2 rfl))
    · have := items_has c s hs j (by omega)
      split
      · exact List.mem_append.2 (.inl this)
      · exact this
theorem items_sy (c : List Int) (j s : Nat) : s ∈ sy (itemsTo c j) ↔ s < j ∧ 0 < c.getD s 0 := by
  unfold sy
  rw [List.mem_flatMap]
  constructor
  · rintro ⟨x, hx, hs⟩
    obtain ⟨t, h1, h2, rfl⟩ := items_mem c j x hx
    obtain rfl := List.mem_singleton.1 hs
    exact ⟨h1, h2⟩
  · rintro ⟨h1, h2⟩
    exact ⟨_, items_has c s h2 j h1, by simp⟩
theorem items_nodup (c : List Int) : ∀ j : Nat, (sy (itemsTo c j)).Nodup
  | 0 => by simp [sy, itemsTo]
  | j + 1 => by
    have ih := items_nodup c j
    unfold itemsTo
    split
    · rw [sy_app]
      refine List.nodup_append.2 ⟨ih, by simp [sy], fun a ha b hb => ?_⟩
      have := ((items_sy c j a).1 ha).1
      have : b = j := by simpa [sy] using hb
      omega
    · exact ih
theorem items_sum (c : List Int) (g : Nat → Nat) : ∀ j : Nat, ((sy (itemsTo c j)).map g).sum = SN j (fun s => if 0 < c.getD s 0 then g s else 0)
  | 0 => rfl
  | j + 1 => by
    have ih := items_sum c g j
    unfold itemsTo
    simp only [SN]
    by_cases h : 0 < c.getD j 0
    · rw [if_pos h, if_pos h, sy_app, List.map_append, List.sum_append, ih]
      simp [sy]
    · rw [if_neg h, if_neg h, ih]
      rfl
theorem items_gl (c : List Int) : GL (itemsOf c) := by
  have hp := isort_perm (itemsTo c c.length)
  refine ⟨isort_sorted _, fun x hx => ?_, fun x hx => ?_, ?_⟩
  · obtain ⟨s, _, _, rfl⟩ := items_mem c _ x (hp.mem_iff.1 hx)
    rfl
  · obtain ⟨s, _, h, rfl⟩ := items_mem c _ x (hp.mem_iff.1 hx)
    exact Int.le_of_lt h
  · exact (sy_perm hp).nodup_iff.2 (items_nodup c _)
theorem itemsOf_sy (c : List Int) (s : Nat) : s ∈ sy (itemsOf c) ↔ s < c.length ∧ 0 < c.getD s 0 := by
  rw [← items_sy]
  exact (sy_perm (isort_perm (itemsTo c c.length))).mem_iff
theorem itemsOf_len (c : List Int) : (itemsOf c).length = (itemsTo c c.length).length := (isort_perm _).length_eq
theorem itemsOf_le (c : List Int) : (itemsOf c).length ≤ c.length := by rw [itemsOf_len]; exact itemsTo_len c _
/-- the symbol at a place -/
def sOf (l : List It) (i : Nat) : Nat := (l.getD i ⟨0, []⟩).s.headD 0
theorem sOf_at {l : List It} (hl : GL l) {i : Nat} (hi : i < l.length) : l[i].s = [sOf l i] := by
  have h := hl.single l[i] (List.getElem_mem hi)
  obtain ⟨a, ha⟩ := List.length_eq_one_iff.1 h
  unfold sOf
  rw [List.getD_eq_getElem?_getD, List.getElem?_eq_getElem hi]
  simp [ha]
theorem sOf_mem {l : List It} {i : Nat} (hl : GL l) (hi : i < l.length) : sOf l i ∈ sy l := by
  unfold sy
  rw [List.mem_flatMap]
  exact ⟨l[i], List.getElem_mem hi, by rw [sOf_at hl hi]; simp⟩
theorem sOf_ex {l : List It} (hl : GL l) {s : Nat} (h : s ∈ sy l) : ∃ i, ∃ hi : i < l.length, sOf l i = s ∧ l[i].s = [s] := by
  unfold sy at h
  rw [List.mem_flatMap] at h
  obtain ⟨x, hx, hs⟩ := h
  obtain ⟨i, hi, rfl⟩ := List.mem_iff_getElem.1 hx
  have e := sOf_at hl hi
  rw [e] at hs
  have := List.mem_singleton.1 hs
  exact ⟨i, hi, this.symm, by rw [e, this]⟩
theorem sy_single : ∀ {l : List It}, (∀ x ∈ l, x.s.length = 1) → ∀ g : Nat → Nat, ((sy l).map g).sum = SN l.length (fun i => g (sOf l i)) := by
  intro l hl g
  have key : ∀ j, j ≤ l.length → ((sy (l.take j)).map g).sum = SN j (fun i => g (sOf l i)) := by
    intro j
    induction j with
    | zero => intro _; rfl
    | succ j ih =>
      intro hj
      rw [List.take_succ_eq_append_getElem (by omega), sy_app, List.map_append, List.sum_append, ih (by omega)]
      simp only [SN]
      congr 1
      obtain ⟨a, ha⟩ := List.length_eq_one_iff.1 (hl l[j] (List.getElem_mem _))
      unfold sOf sy
      rw [List.getD_eq_getElem?_getD, List.getElem?_eq_getElem (by omega)]
      simp [ha]
  have := key l.length (Nat.le_refl _)
  rwa [List.take_length] at this
/-- sums over the symbols that stand, in either order -/
theorem sum_of (c : List Int) (g : Nat → Nat) : SN c.length (fun s => if 0 < c.getD s 0 then g s else 0) = SN (itemsOf c).length (fun i => g (sOf (itemsOf c) i)) := by
  rw [← items_sum, ← sy_single (items_gl c).single]
  exact (((sy_perm (isort_perm (itemsTo c c.length))).map g).sum_nat).symm
/-- the best length of a symbol -/
def bestAt (l : List It) (K s : Nat) : Nat := if l.length = 1 then (sy l).count s else (sy ((rowFn l K).take (2 * l.length - 2))).count s
def bestLs (l : List It) (K n : Nat) : List Int := (List.range n).map fun s => (bestAt l K s : Int)
theorem bestLs_len (l : List It) (K n : Nat) : (bestLs l K n).length = n := by simp [bestLs]
theorem bestLs_at (l : List It) (K n : Nat) {s : Nat} (h : s < n) : (bestLs l K n).getD s 0 = (bestAt l K s : Int) := by
  unfold bestLs
  rw [List.getD_eq_getElem?_getD, List.getElem?_map, List.getElem?_range h]
  rfl
theorem best_none {l : List It} {K s : Nat} (hl : GL l) (h : s ∉ sy l) (hK : l.length ≤ 2 ^ (K + 1)) : bestAt l K s = 0 := by
  unfold bestAt
  split
  · exact List.count_eq_zero.2 h
  · by_cases h2 : 2 ≤ l.length
    · obtain ⟨_, cs, _, _, _, _, _, _, hp⟩ := whole hl K _ (row_of l K) h2 hK
      rw [hp.count_eq, cnt_none h]
    · have : l.length = 0 := by omega
      rw [this]
      rfl
structure Levels (l : List It) (K : Nat) (cs : List Nat) : Prop where
  len : cs.length = K + 1
  le : ∀ c ∈ cs, c ≤ l.length
  kraft : SN l.length (fun i => 2 ^ (K + 1 - ln cs i)) = 2 ^ (K + 1)
  each : ∀ i, i < l.length → 1 ≤ ln cs i ∧ ln cs i ≤ K + 1
  cost : ws ((rowFn l K).take (2 * l.length - 2)) = wsum l cs
  at_ : ∀ i, i < l.length → bestAt l K (sOf l i) = ln cs i
theorem best_levels {l : List It} {K : Nat} (hl : GL l) (h2 : 2 ≤ l.length) (hK : l.length ≤ 2 ^ (K + 1)) : ∃ cs, Levels l K cs := by
  obtain ⟨_, cs, a1, a2, a3, a4, a5, a6, a7⟩ := whole hl K _ (row_of l K) h2 hK
  refine ⟨cs, a1, a3, a4, a5, a6, fun i hi => ?_⟩
  unfold bestAt
  rw [if_neg (by omega), a7.count_eq, cnt_levels hl hi (sOf_at hl hi)]
theorem best_one {l : List It} {K s : Nat} (hl : GL l) (h1 : l.length = 1) (h : s ∈ sy l) : bestAt l K s = 1 := by
  unfold bestAt
  rw [if_pos h1]
  have := List.count_pos_iff.2 h
  have := List.nodup_iff_count.1 hl.nodup s
  omega
/-- each symbol's length is in form -/
theorem form_at {c : List Int} {K s : Nat} (hK : (itemsOf c).length ≤ 2 ^ (K + 1)) (hs : s < c.length) :
    bestAt (itemsOf c) K s ≤ K + 1 ∧ (bestAt (itemsOf c) K s = 0 ↔ ¬ 0 < c.getD s 0) ∧ ((itemsOf c).length = 1 → bestAt (itemsOf c) K s ≤ 1) := by
  have hl := items_gl c
  by_cases h : 0 < c.getD s 0
  · have hm := (itemsOf_sy c s).2 ⟨hs, h⟩
    obtain ⟨i, hi, he, _⟩ := sOf_ex hl hm
    by_cases h1 : (itemsOf c).length = 1
    · have := best_one (K := K) hl h1 hm
      omega
    · obtain ⟨cs, L⟩ := best_levels hl (by omega) hK
      have e := L.at_ i hi
      rw [he] at e
      have := L.each i hi
      omega
  · have hm : s ∉ sy (itemsOf c) := fun hm => h ((itemsOf_sy c s).1 hm).2
    have := best_none hl hm hK
    omega
/-- the lengths are whole -/
theorem form_sum {c : List Int} {K : Nat} (hK : (itemsOf c).length ≤ 2 ^ (K + 1)) (hk : K ≤ 15) :
    SN c.length (fun s => if 0 < bestAt (itemsOf c) K s then 2 ^ (16 - bestAt (itemsOf c) K s) else 0) = if 2 ≤ (itemsOf c).length then 65536 else if (itemsOf c).length = 1 then 32768 else 0 := by
  have hl := items_gl c
  have e : SN c.length (fun s => if 0 < bestAt (itemsOf c) K s then 2 ^ (16 - bestAt (itemsOf c) K s) else 0) = SN c.length (fun s => if 0 < c.getD s 0 then 2 ^ (16 - bestAt (itemsOf c) K s) else 0) := by
    refine SN_congr fun s hs => ?_
    have := (form_at hK hs).2.1
    by_cases h : 0 < c.getD s 0
    · rw [if_pos h, if_pos (by omega)]
    · rw [if_neg h, if_neg (by omega)]
  rw [e, sum_of c (fun s => 2 ^ (16 - bestAt (itemsOf c) K s))]
  by_cases h2 : 2 ≤ (itemsOf c).length
  · rw [if_pos h2]
    obtain ⟨cs, L⟩ := best_levels hl h2 hK
    have e2 : SN (itemsOf c).length (fun i => 2 ^ (16 - bestAt (itemsOf c) K (sOf (itemsOf c) i))) = SN (itemsOf c).length (fun i => 2 ^ (K + 1 - ln cs i) * 2 ^ (15 - K)) := by
      refine SN_congr fun i hi => ?_
      have := L.each i hi
      rw [L.at_ i hi, ← Nat.pow_add]
      congr 1
      omega
    have e3 : ∀ (n d : Nat) (f : Nat → Nat), SN n (fun i => f i * d) = SN n f * d := by
      intro n d f
      induction n with
      | zero => simp [SN]
      | succ n ih => simp only [SN]; rw [ih, Nat.add_mul]
    rw [e2, e3, L.kraft, ← Nat.pow_add, show K + 1 + (15 - K) = 16 by omega]
  · rw [if_neg h2]
    by_cases h1 : (itemsOf c).length = 1
    · rw [if_pos h1, h1]
      have := best_one (K := K) hl h1 (sOf_mem hl (i := 0) (by omega))
      simp only [SN]
      rw [this]
    · have h0 : (itemsOf c).length = 0 := by omega
      rw [if_neg h1, h0]
      rfl
end Go.Proofs.YtoppjcmkhhkbmaaGreat

namespace Go.Proofs.YtoppjcmkhhkbmaaGreat

/-- how many bytes a token comes to -/
def tln (t : Int × Int) : Nat := (tn t).toNat
theorem tln_pos (t : Int × Int) : 1 ≤ tln t := by have := tn_pos (t := t); unfold tln; omega
theorem tln_eq (t : Int × Int) : ((tln t : Nat) : Int) = tn t := by have := tn_pos (t := t); unfold tln; omega
/-- a match says nothing of a byte at i, or what stands so far ahead -/
def farB (text : List Int) (d : Int) (i : Nat) : Bool := decide ((i : Int) < d) || text.getD i 0 == text.getD (i - d.toNat) 0
def fitT (text : List Int) (k : Nat) (t : Int × Int) : Bool :=
  tgood t && (decide (k + tln t ≤ text.length) && (if t.1 = 0 then text.getD k 0 == t.2 else (List.range (tln t)).all fun i => farB text t.2 (k + i)))
def fitM (text : List Int) : Nat → List (Int × Int) → Bool
  | k, [] => k == text.length
  | k, t :: l => fitT text k t && fitM text (k + tln t) l
/-- the symbols of a length, of a distance -/
def lsN (n : Int) : Nat := 257 + ((List.range 28).filter fun j => decide (lbase (257 + ((j + 1 : Nat) : Int)) ≤ n)).length
def dsN (n : Int) : Nat := ((List.range 29).filter fun j => decide (dbase ((j + 1 : Nat) : Int) ≤ n)).length
theorem filter_pre (p : Nat → Bool) (j : Nat) : ∀ n, j ≤ n → (∀ i, i < n → (p i = true ↔ i < j)) → ((List.range n).filter p).length = j
  | 0, h, _ => by simp; omega
  | n + 1, h, hp => by
    rw [List.range_succ, List.filter_append]
    by_cases hj : j = n + 1
    · have : p n = true := (hp n (by omega)).2 (by omega)
      have e := filter_pre p n n (Nat.le_refl _) fun i hi => by rw [hp i (by omega)]; omega
      rw [List.length_append, e, List.filter_cons_of_pos this]
      simp
      omega
    · have : ¬ p n = true := fun h => by have := (hp n (by omega)).1 h; omega
      have e := filter_pre p j n (by omega) fun i hi => hp i (by omega)
      rw [List.length_append, e, List.filter_cons_of_neg this]
      rfl
theorem lbase_mono : ∀ a : Fin 29, ∀ b : Fin 29, a.val ≤ b.val → lbase (257 + (a.val : Int)) ≤ lbase (257 + (b.val : Int)) := by decide +kernel
theorem dbase_mono : ∀ a : Fin 30, ∀ b : Fin 30, a.val ≤ b.val → dbase (a.val : Int) ≤ dbase (b.val : Int) := by decide +kernel
theorem lsN_of {n s : Int} (h : LSym n s) : ((lsN n : Nat) : Int) = s := by
  obtain ⟨h1, h2, h3, h4⟩ := h
  obtain ⟨j, rfl⟩ : ∃ j : Nat, s = 257 + (j : Int) := ⟨(s - 257).toNat, by omega⟩
  unfold lsN
  rw [filter_pre _ j 28 (by omega) fun i hi => ?_]
  · omega
  · rw [decide_eq_true_iff]
    constructor
    · intro h
      rcases Nat.lt_or_ge i j with h5 | h5
      · exact h5
      · exfalso
        rcases h4 with h4 | h4
        · omega
        · have := lbase_mono ⟨j + 1, by omega⟩ ⟨i + 1, by omega⟩ (by simp; omega)
          simp only at this
          rw [show (257 : Int) + (j : Int) + 1 = 257 + ((j + 1 : Nat) : Int) by omega] at h4
          omega
    · intro h
      have := lbase_mono ⟨i + 1, by omega⟩ ⟨j, by omega⟩ (by simp; omega)
      simp only at this
      omega
theorem dsN_of {n s : Int} (h : DSym n s) : ((dsN n : Nat) : Int) = s := by
  obtain ⟨h1, h2, h3, h4⟩ := h
  obtain ⟨j, rfl⟩ : ∃ j : Nat, s = (j : Int) := ⟨s.toNat, by omega⟩
  unfold dsN
  rw [filter_pre _ j 29 (by omega) fun i hi => ?_]
  rw [decide_eq_true_iff]
  constructor
  · intro h
    rcases Nat.lt_or_ge i j with h5 | h5
    · exact h5
    · exfalso
      rcases h4 with h4 | h4
      · omega
      · have := dbase_mono ⟨j + 1, by omega⟩ ⟨i + 1, by omega⟩ (by simp; omega)
        simp only at this
        rw [show (j : Int) + 1 = ((j + 1 : Nat) : Int) by omega] at h4
        omega
  · intro h
    have := dbase_mono ⟨i + 1, by omega⟩ ⟨j, by omega⟩ (by simp; omega)
    simp only at this
    omega
theorem lsN_bd (n : Int) : 257 ≤ lsN n ∧ lsN n ≤ 285 := by
  unfold lsN
  have := List.length_filter_le (fun j => decide (lbase (257 + ((j + 1 : Nat) : Int)) ≤ n)) (List.range 28)
  rw [List.length_range] at this
  omega
theorem dsN_bd (n : Int) : dsN n ≤ 29 := by
  unfold dsN
  have := List.length_filter_le (fun j => decide (dbase ((j + 1 : Nat) : Int) ≤ n)) (List.range 29)
  rw [List.length_range] at this
  omega
/-- how often symbols stand -/
def incL (c : List Int) (s : Nat) : List Int := c.set s (c.getD s 0 + 1)
theorem incL_len (c : List Int) (s : Nat) : (incL c s).length = c.length := by simp [incL]
def cntStep (c : List Int × List Int) (t : Int × Int) : List Int × List Int :=
  if t.1 = 0 then (incL c.1 t.2.toNat, c.2) else (incL c.1 (lsN t.1), incL c.2 (dsN t.2))
def cnt0 : List Int × List Int := ((List.replicate 286 0).set 256 1, List.replicate 30 0)
def cntM (l : List (Int × Int)) : List Int × List Int := l.foldl cntStep cnt0
theorem cnt_len (l : List (Int × Int)) : (cntM l).1.length = 286 ∧ (cntM l).2.length = 30 := by
  unfold cntM
  suffices h : ∀ (l : List (Int × Int)) (c : List Int × List Int), c.1.length = 286 → c.2.length = 30 → (l.foldl cntStep c).1.length = 286 ∧ (l.foldl cntStep c).2.length = 30 from h l cnt0 (by unfold cnt0; rw [List.length_set, List.length_replicate]) (by unfold cnt0; rw [List.length_replicate])
  intro l
  induction l with
  | nil => exact fun c h1 h2 => ⟨h1, h2⟩
  | cons t l ih =>
    intro c h1 h2
    refine ih _ ?_ ?_ <;> (unfold cntStep; split) <;> simp [incL_len, h1, h2]
/-- two symbols at least -/
def twoN (k : Nat) : List Int → List Int
  | [] => []
  | x :: l => if k = 0 then x :: l else if x = 0 then 1 :: twoN (k - 1) l else x :: twoN k l
def usedN (l : List Int) : Nat := (l.filter fun x => decide (0 < x)).length
def twoM (l : List Int) : List Int := twoN (2 - usedN l) l
theorem twoN_len : ∀ (l : List Int) (k : Nat), (twoN k l).length = l.length
  | [], _ => rfl
  | x :: l, k => by
    unfold twoN
    split
    · rfl
    · split
      · rw [List.length_cons, List.length_cons, twoN_len l (k - 1)]
      · rw [List.length_cons, List.length_cons, twoN_len l k]
theorem twoN_zero : ∀ (l : List Int), twoN 0 l = l
  | [] => rfl
  | x :: l => by unfold twoN; rw [if_pos rfl]
theorem twoM_len (l : List Int) : (twoM l).length = l.length := twoN_len _ _
/-- without the noughts at the end, so many at least -/
def trimN (least : Nat) (l : List Int) : Nat → Nat
  | 0 => 0
  | n + 1 => if least < n + 1 ∧ l.getD n 0 = 0 then trimN least l n else n + 1
def trimM (least : Nat) (l : List Int) : List Int := l.take (trimN least l l.length)
theorem trimN_le (least : Nat) (l : List Int) : ∀ n, trimN least l n ≤ n
  | 0 => Nat.le_refl _
  | n + 1 => by
    unfold trimN
    split
    · have := trimN_le least l n; omega
    · exact Nat.le_refl _
theorem trimN_ge (least : Nat) (l : List Int) : ∀ n, least ≤ n → least ≤ trimN least l n
  | 0, h => h
  | n + 1, h => by
    unfold trimN
    split
    next h1 => exact trimN_ge least l n (by omega)
    next => exact h
theorem trimN_zero (least : Nat) (l : List Int) : ∀ n i, trimN least l n ≤ i → i < n → l.getD i 0 = 0
  | 0, i, _, h => absurd h (Nat.not_lt_zero _)
  | n + 1, i, h1, h2 => by
    unfold trimN at h1
    split at h1
    next h3 =>
      rcases Nat.lt_or_ge i n with h4 | h4
      · exact trimN_zero least l n i h1 h4
      · rw [show i = n by omega]; exact h3.2
    next => omega
/-- the plan of kind 2 -/
structure PlanM where
  L : List Int
  D : List Int
  R : List (Int × Int)
  O : List Int
def litM (l : List (Int × Int)) : List Int := trimM 257 (bestLs (itemsOf (twoM (cntM l).1)) 14 286)
def dstM (l : List (Int × Int)) : List Int := trimM 1 (bestLs (itemsOf (cntM l).2) 14 30)
def runM2 (x : List Int) : List (Int × Int) := BlockRuns.runsOf x.length none x
def oneC (R : List (Int × Int)) : List Int := R.foldl (fun c r => incL c r.1.toNat) (List.replicate 19 0)
def oneM (R : List (Int × Int)) : List Int := bestLs (itemsOf (twoM (oneC R))) 6 19
def ownM (l : List (Int × Int)) : PlanM := ⟨litM l, dstM l, runM2 (litM l ++ dstM l), oneM (runM2 (litM l ++ dstM l))⟩
/-- how many lengths of lengths are written -/
def wrN (O : List Int) : Nat → Nat
  | 0 => 0
  | n + 1 => if 4 < n + 1 ∧ O.getD (ordT.getD n 0) 0 = 0 then wrN O n else n + 1
def runBits (O : List Int) (r : Int × Int) : Int := O.getD r.1.toNat 0 + rb r.1
def headM (p : PlanM) : Int := 14 + 3 * (wrN p.O 19 : Nat) + (p.R.map (runBits p.O)).sum
def tokBits (L D : List Int) (t : Int × Int) : Int :=
  if t.1 = 0 then L.getD t.2.toNat 0 else L.getD (lsN t.1) 0 + lextra (lsN t.1) + (D.getD (dsN t.2) 0 + dextra (dsN t.2))
def bodyM (L D : List Int) (l : List (Int × Int)) : Int := L.getD 256 0 + (l.map (tokBits L D)).sum
def usuD : List Int := List.replicate 30 5
/-- how many bits a block in form has -/
def bitsM (kind : Int) (l : List (Int × Int)) (text : List Int) : Int :=
  if kind = 0 then 42 + 8 * text.length else if kind = 1 then 3 + bodyM fixL usuD l else 3 + headM (ownM l) + bodyM (ownM l).L (ownM l).D l
def blkGood (kind : Int) (l : List (Int × Int)) (text : List Int) : Bool := decide (0 ≤ kind ∧ kind ≤ 2) && (fitM text 0 l && decide (kind = 0 → text.length ≤ 65535))
theorem fit_good {text : List Int} : ∀ {l : List (Int × Int)} {k : Nat}, fitM text k l = true → ∀ t ∈ l, tgood t = true
  | [], _, _ => fun t h => by cases h
  | t :: l, k, h => by
    unfold fitM at h
    rw [Bool.and_eq_true] at h
    intro x hx
    rcases List.mem_cons.1 hx with rfl | hx
    · unfold fitT at h
      rw [Bool.and_eq_true] at h
      exact h.1.1
    · exact fit_good h.2 x hx
theorem fit_le {text : List Int} : ∀ {l : List (Int × Int)} {k : Nat}, fitM text k l = true → k + l.length ≤ text.length
  | [], k, h => by
    unfold fitM at h
    have : k = text.length := by simpa using h
    simp [this]
  | t :: l, k, h => by
    unfold fitM at h
    rw [Bool.and_eq_true] at h
    have := fit_le h.2
    have := tln_pos t
    rw [List.length_cons]
    omega
end Go.Proofs.YtoppjcmkhhkbmaaGreat
