/-
  burnishlaw05.cost, walked; what the best lengths cost.
-/
import Derived.Test.YthhllollhjpheaaMgF
import Derived.Test.YthhllollhjpheaaMgP
namespace Go.Proofs.Ythhllollhjpheaa
open Go.RowKit Mg

/-- what the first j cost -/
def costTo (cs ls : List Int) : Nat → Int
  | 0 => 0
  | j + 1 => costTo cs ls j + cs.getD j 0 * ls.getD j 0

def badl (n : Int) : Bool := decide (n < 0 ∨ 16 < n)
theorem badl_false {n : Int} : badl n = false ↔ 0 ≤ n ∧ n ≤ 16 := by unfold badl; simp
theorem badl_true {n : Int} : badl n = true ↔ n < 0 ∨ 16 < n := by unfold badl; simp

theorem mul_bd {x y : Int} (h1 : 0 ≤ x) (h2 : x ≤ 1099511627776) (h3 : 0 ≤ y) (h4 : y ≤ 16) : 0 ≤ x * y ∧ x * y ≤ 17592186044416 := by
  refine ⟨Int.mul_nonneg h1 h3, ?_⟩
  have a := Int.mul_le_mul h2 h4 h3 (by omega)
  omega

theorem all_at {p : Int → Bool} {l : List Int} (h : l.any p = false) {j : Nat} (hj : j < l.length) : p l[j] = false := by
  have := List.any_eq_false.1 h l[j] (List.getElem_mem hj)
  simpa using this

theorem cost_bd (cs ls : List Int) (hc : cs.any badc = false) (hl : ls.any badl = false) : ∀ j : Nat, j ≤ cs.length → j ≤ ls.length → 0 ≤ costTo cs ls j ∧ costTo cs ls j ≤ j * 17592186044416
  | 0, _, _ => by simp [costTo]
  | j + 1, h1, h2 => by
    have ih := cost_bd cs ls hc hl j (by omega) (by omega)
    have e1 : cs.getD j 0 = cs[j] := by simp [List.getD, List.getElem?_eq_getElem (show j < cs.length by omega)]
    have e2 : ls.getD j 0 = ls[j] := by simp [List.getD, List.getElem?_eq_getElem (show j < ls.length by omega)]
    have b1 := badc_false.1 (all_at hc (show j < cs.length by omega))
    have b2 := badl_false.1 (all_at hl (show j < ls.length by omega))
    have b := mul_bd b1.1 b1.2 b2.1 b2.2
    simp only [costTo, e1, e2]
    constructor
    · omega
    · have : ((j + 1 : Nat) : Int) * 17592186044416 = j * 17592186044416 + 17592186044416 := by push_cast; omega
      omega

def ErrForm (W : World) (e : Ending) (w' : World) : Prop := e = .returned (.tuple #[.int .i64 0, .iface 40 (.int .i64 6)]) ∧ W = w'
theorem isum_perm {a b : List Int} (h : a.Perm b) : a.sum = b.sum := by
  induction h with
  | nil => rfl
  | cons x _ ih => rw [List.sum_cons, List.sum_cons, ih]
  | swap x y l => rw [List.sum_cons, List.sum_cons, List.sum_cons, List.sum_cons]; omega
  | trans _ _ h1 h2 => exact h1.trans h2
theorem cost_SZ (cs ls : List Int) : ∀ j, costTo cs ls j = SZ j (fun s => cs.getD s 0 * ls.getD s 0)
  | 0 => rfl
  | j + 1 => by
    have := cost_SZ cs ls j
    simp only [costTo, SZ]
    rw [this]
/-- what the best lengths cost is what Best says -/
theorem best_cost {l : List Int} {m : Int} {K : Nat} (hg : goodc l m = true) (hK : (itemsOf l).length ≤ 2 ^ (K + 1)) : costTo l (bestLs (itemsOf l) K l.length) l.length = bestFn (dsc (itemsOf l)) (K + 1) := by
  have hl := items_gl l
  have e1 : SZ l.length (fun s => l.getD s 0 * (bestLs (itemsOf l) K l.length).getD s 0) = SZ l.length (fun s => if 0 < l.getD s 0 then l.getD s 0 * (bestAt (itemsOf l) K s : Int) else 0) := SZ_congr fun s hs => by
    rw [bestLs_at _ _ _ hs]
    have := (good_at hg hs).1
    by_cases h : 0 < l.getD s 0
    · rw [if_pos h]
    · rw [if_neg h, show l.getD s 0 = 0 by omega, Int.zero_mul]
  have e2 : SZ l.length (fun s => if 0 < l.getD s 0 then l.getD s 0 * (bestAt (itemsOf l) K s : Int) else 0) = SZ (itemsOf l).length (fun i => wt (itemsOf l) i * (bestAt (itemsOf l) K (sOf (itemsOf l) i) : Int)) := by
    rw [← items_wsum l (fun s => (bestAt (itemsOf l) K s : Int)), ← w_single (l := itemsOf l) (fun s => (bestAt (itemsOf l) K s : Int))]
    exact (isum_perm ((isort_perm (itemsTo l l.length)).map _)).symm
  rw [cost_SZ, e1, e2]
  by_cases h2 : 2 ≤ (itemsOf l).length
  · obtain ⟨cs, L⟩ := best_levels hl h2 hK
    rw [best_fn hl h2 L]
    exact SZ_congr fun i hi => by rw [L.at_ i hi]
  · by_cases h1 : (itemsOf l).length = 1
    · obtain ⟨x, hx⟩ := List.length_eq_one_iff.1 h1
      have hb := best_one (K := K) hl h1 (sOf_mem hl (i := 0) (by omega))
      have hx0 := hl.nonneg x (by rw [hx]; simp)
      have ed : dsc (itemsOf l) = [x.w] := by rw [hx]; rfl
      have ew : wt (itemsOf l) 0 = x.w := by rw [hx]; rfl
      rw [ed, best_fn1 hx0 K, h1]
      simp only [SZ, hb, ew]
      omega
    · have h0 : itemsOf l = [] := List.eq_nil_of_length_eq_zero (by omega)
      rw [h0]
      rfl
set_option maxRecDepth 100000 in
/-- Best, of nothing too -/
theorem bestref_all (A : Option Addr) (c L : Nat) (d : List Int) (W : World) (h : RdI W W.heap.size A d) (hm : d.length ≤ 300) (hL : L ≤ 16) (hd : ∀ x ∈ d, 0 ≤ x ∧ x ≤ 1099511627776) :
    Calls Try.prog 23 #[.slice A d.length c, .int .i64 (L : Int)] W fun e w' => e = .returned (.int .i64 (bestFn d L)) ∧ Below W.heap.size W w' := by
  by_cases h0 : d.length = 0
  · have e : bestFn d L = 0 := by unfold bestFn; rw [if_pos h0]
    rw [e]
    have d0 : ((d.length : Int) == 0) = true := by rw [h0]; rfl
    generalize d.length = m at *
    clear h hm hL hd h0 e
    go_enter Try.func23, Try.ntmps23
    go_wp2
    go_ret
    exact ⟨rfl, Below.refl _ _⟩
  · have e : bestFn d L = (lv d L).1 := by unfold bestFn; rw [if_neg h0]
    rw [e]
    exact bestref_any A c L d W h (by omega) hm hL hd
theorem copied_rdi {w : World} {g : Nat} {l : List Int} (hg : Blk w g 3 (intsV l ++ [Value.int .i64 (-77)]).toArray) : RdI w (g + 1) (some ⟨g, 0, none⟩) l :=
  RdI.of_cells (by omega) (fun j hj => by rw [hg.cell j]; simp [intsV, hj, List.getElem?_append_left])
end Go.Proofs.Ythhllollhjpheaa
