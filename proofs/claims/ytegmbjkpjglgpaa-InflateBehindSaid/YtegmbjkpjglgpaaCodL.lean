/-
  Canonical codes of lengths, plainly: the order of the symbols, their codes.
-/
import Derived.Test.YtegmbjkpjglgpaaCod
namespace Go.Proofs.Ytegmbjkpjglgpaa
open Cd

/-- what lengths take of 65536 -/
def kraft (l : List Int) : Int := (l.map (fun x => if 0 < x then (2 : Int) ^ (16 - x.toNat) else 0)).sum
/-- lengths in form -/
def lensB (l : List Int) : Bool := decide (l.length ≤ 512) && (l.all (fun x => decide (0 ≤ x ∧ x ≤ 16)) && decide (kraft l ≤ 65536))
theorem lensB_iff {l : List Int} : lensB l = true ↔ l.length ≤ 512 ∧ (∀ x ∈ l, 0 ≤ x ∧ x ≤ 16) ∧ kraft l ≤ 65536 := by
  unfold lensB
  simp [List.all_eq_true]
def rowF (l : List Int) (n : Nat) : List Nat := (List.range l.length).filter (fun s => l.getD s 0 == (n : Int))
def ordL (l : List Int) : List Nat := (List.range 16).flatMap (fun i => rowF l (i + 1))
def lenOf (l : List Int) (s : Nat) : Nat := (l.getD s 0).toNat
def slOf (l : List Int) : SL := (ordL l).map (fun s => (s, lenOf l s))
theorem rowF_mem {l : List Int} {n s : Nat} : s ∈ rowF l n ↔ s < l.length ∧ l.getD s 0 = (n : Int) := by
  unfold rowF
  rw [List.mem_filter, List.mem_range]
  simp
theorem ordL_mem {l : List Int} {s : Nat} : s ∈ ordL l ↔ s < l.length ∧ ∃ i, i < 16 ∧ l.getD s 0 = ((i + 1 : Nat) : Int) := by
  unfold ordL
  rw [List.mem_flatMap]
  constructor
  · rintro ⟨i, hi, h⟩
    have := rowF_mem.1 h
    exact ⟨this.1, i, List.mem_range.1 hi, this.2⟩
  · rintro ⟨h, i, hi, e⟩
    exact ⟨i, List.mem_range.2 hi, rowF_mem.2 ⟨h, e⟩⟩
theorem ordL_nodup (l : List Int) : (ordL l).Nodup := by
  unfold ordL List.Nodup
  rw [List.pairwise_flatMap]
  refine ⟨fun i _ => List.Pairwise.filter _ List.nodup_range, ?_⟩
  have hr : (List.range 16).Pairwise (· < ·) := List.pairwise_lt_range
  refine hr.imp ?_
  intro i j hij s hs t ht e
  subst e
  have h1 := (rowF_mem.1 hs).2
  have h2 := (rowF_mem.1 ht).2
  omega
theorem sl_sorted (l : List Int) : (slOf l).Pairwise (fun x y => x.2 ≤ y.2) := by
  unfold slOf ordL
  rw [List.pairwise_map, List.pairwise_flatMap]
  refine ⟨fun i _ => ?_, ?_⟩
  · rw [List.pairwise_iff_getElem]
    intro a b ha hb _
    have h1 := (rowF_mem.1 (List.getElem_mem ha)).2
    have h2 := (rowF_mem.1 (List.getElem_mem hb)).2
    unfold lenOf
    rw [h1, h2]
    exact Nat.le_refl _
  · have hr : (List.range 16).Pairwise (· < ·) := List.pairwise_lt_range
    refine hr.imp ?_
    intro i j hij s hs t ht
    have h1 := (rowF_mem.1 hs).2
    have h2 := (rowF_mem.1 ht).2
    unfold lenOf
    rw [h1, h2]
    omega
theorem rowF_snoc (l : List Int) (x : Int) (n : Nat) : rowF (l ++ [x]) n = rowF l n ++ (if x = (n : Int) then [l.length] else []) := by
  unfold rowF
  rw [List.length_append, List.length_singleton, List.range_succ, List.filter_append]
  have e1 : (List.range l.length).filter (fun s => (l ++ [x]).getD s 0 == (n : Int)) = (List.range l.length).filter (fun s => l.getD s 0 == (n : Int)) := by
    refine List.filter_congr fun s hs => ?_
    rw [List.getD_eq_getElem?_getD, List.getD_eq_getElem?_getD, List.getElem?_append_left (List.mem_range.1 hs)]
  rw [e1]
  have e2 : (l ++ [x]).getD l.length 0 = x := by rw [List.getD_eq_getElem?_getD, List.getElem?_append_right (Nat.le_refl _)]; simp
  by_cases h : x = (n : Int)
  · rw [List.filter_cons_of_pos (by rw [e2]; simp [h]), if_pos h]; rfl
  · rw [List.filter_cons_of_neg (by rw [e2]; simp [h]), if_neg h]; rfl
def sumR (f : Nat → Nat) : Nat → Nat
  | 0 => 0
  | n + 1 => sumR f n + f n
theorem sumR_add (f g : Nat → Nat) : ∀ n, sumR (fun i => f i + g i) n = sumR f n + sumR g n
  | 0 => rfl
  | n + 1 => by
    unfold sumR
    rw [sumR_add f g n]
    omega
theorem sumR_pick (g : Nat → Nat) (x : Int) : ∀ n, sumR (fun i => if x = ((i + 1 : Nat) : Int) then g (i + 1) else 0) n = if 0 < x ∧ x ≤ (n : Int) then g x.toNat else 0
  | 0 => by rw [if_neg (by omega)]; rfl
  | n + 1 => by
    unfold sumR
    rw [sumR_pick g x n]
    by_cases h : x = ((n + 1 : Nat) : Int)
    · rw [if_neg (by omega), if_pos h, if_pos (by omega), h]
      simp
    · rw [if_neg h]
      by_cases h2 : 0 < x ∧ x ≤ (n : Int)
      · rw [if_pos h2, if_pos (by omega)]
        rfl
      · rw [if_neg h2, if_neg (by omega)]
theorem tot_rows (l : List Int) : ∀ n, tot (((List.range n).flatMap (fun i => rowF l (i + 1))).map (fun s => (s, lenOf l s))) = sumR (fun i => (rowF l (i + 1)).length * pw (i + 1)) n
  | 0 => rfl
  | n + 1 => by
    rw [List.range_succ, List.flatMap_append, List.map_append, tot_append, tot_rows l n]
    rw [show sumR (fun i => (rowF l (i + 1)).length * pw (i + 1)) (n + 1) = sumR (fun i => (rowF l (i + 1)).length * pw (i + 1)) n + (rowF l (n + 1)).length * pw (n + 1) from rfl]
    congr 1
    rw [List.flatMap_cons, List.flatMap_nil, List.append_nil, tot_same (n := n + 1), List.length_map]
    · intro x hx
      obtain ⟨s, hs, rfl⟩ := List.mem_map.1 hx
      have := (rowF_mem.1 hs).2
      show lenOf l s = n + 1
      unfold lenOf
      rw [this]
      omega
theorem tot_kraft (l : List Int) (h : ∀ x ∈ l, 0 ≤ x ∧ x ≤ 16) : ((tot (slOf l) : Nat) : Int) = kraft l := by
  unfold slOf ordL
  rw [tot_rows]
  have key : ∀ k, k ≤ l.length → ((sumR (fun i => (rowF (l.take k) (i + 1)).length * pw (i + 1)) 16 : Nat) : Int) = kraft (l.take k) := by
    intro k
    induction k with
    | zero =>
      intro _
      have : ∀ m, sumR (fun i => (rowF (l.take 0) (i + 1)).length * pw (i + 1)) m = 0 := by
        intro m
        induction m with
        | zero => rfl
        | succ m ihm =>
          unfold sumR
          rw [ihm]
          simp [rowF]
      rw [this]
      rfl
    | succ k ih =>
      intro hk
      have ih := ih (by omega)
      rw [List.take_succ_eq_append_getElem (by omega)]
      obtain ⟨x, hx⟩ : ∃ x, x = l[k] := ⟨_, rfl⟩
      have hxx := h l[k] (List.getElem_mem (by omega))
      rw [← hx] at hxx ⊢
      have e : (fun i => (rowF (l.take k ++ [x]) (i + 1)).length * pw (i + 1)) = (fun i => (rowF (l.take k) (i + 1)).length * pw (i + 1) + (if x = ((i + 1 : Nat) : Int) then pw (i + 1) else 0)) := by
        funext i
        rw [rowF_snoc, List.length_append, Nat.add_mul]
        congr 1
        split
        · simp
        · simp
      rw [e, sumR_add, sumR_pick pw x 16]
      have e2 : kraft (l.take k ++ [x]) = kraft (l.take k) + (if 0 < x then (2 : Int) ^ (16 - x.toNat) else 0) := by unfold kraft; simp
      rw [e2, ← ih]
      by_cases h0 : 0 < x
      · rw [if_pos ⟨h0, hxx.2⟩, if_pos h0]
        unfold pw
        push_cast
        rfl
      · rw [if_neg (fun h1 => h0 h1.1), if_neg h0]
        rfl
  have := key l.length (Nat.le_refl _)
  rw [List.take_length] at this
  exact this
theorem sl_ok {l : List Int} (h : lensB l = true) : Ok (slOf l) := by
  obtain ⟨_, h2, h3⟩ := lensB_iff.1 h
  refine ⟨fun x hx => ?_, sl_sorted l, by have := tot_kraft l h2; omega⟩
  obtain ⟨s, hs, rfl⟩ := List.mem_map.1 hx
  obtain ⟨_, i, hi, e⟩ := ordL_mem.1 hs
  show 1 ≤ lenOf l s ∧ lenOf l s ≤ 16
  unfold lenOf
  rw [e]
  omega
/-- the codes of symbols in an order -/
def asg (l : List Int) : List Nat → Nat → Nat → List Int → List Int
  | [], _, _, cs => cs
  | s :: r, nx, la, cs => asg l r (nx * 2 ^ (lenOf l s - la) + 1) (lenOf l s) (cs.set s ((nx * 2 ^ (lenOf l s - la) : Nat) : Int))
def codesL (l : List Int) : List Int := asg l (ordL l) 0 0 (List.replicate l.length 0)
theorem asg_length (l : List Int) : ∀ (o : List Nat) (nx la : Nat) (cs : List Int), (asg l o nx la cs).length = cs.length
  | [], _, _, _ => rfl
  | s :: r, nx, la, cs => by
    rw [asg, asg_length l r]
    simp
theorem asg_keep (l : List Int) (s : Nat) : ∀ (o : List Nat) (nx la : Nat) (cs : List Int), s ∉ o → (asg l o nx la cs).getD s 0 = cs.getD s 0
  | [], _, _, _, _ => rfl
  | t :: r, nx, la, cs, h => by
    rw [asg, asg_keep l s r _ _ _ (fun hm => h (List.mem_cons_of_mem _ hm))]
    have hne : t ≠ s := fun e => h (by rw [e]; exact List.mem_cons_self)
    rw [List.getD_eq_getElem?_getD, List.getD_eq_getElem?_getD, List.getElem?_set_ne hne]
theorem asg_at (l : List Int) : ∀ (o : List Nat) (nx la tt : Nat) (cs : List Int) (m r : List Nat) (s : Nat), o = m ++ s :: r → o.Nodup → (∀ x ∈ o, x < cs.length ∧ lenOf l x ≤ 16 ∧ la ≤ lenOf l x) → o.Pairwise (fun x y => lenOf l x ≤ lenOf l y) → nx * pw la = tt → la ≤ 16 →
    (asg l o nx la cs).getD s 0 = (((tt + tot (m.map (fun s => (s, lenOf l s)))) / pw (lenOf l s) : Nat) : Int)
  | [], _, _, _, _, m, r, s, e, _, _, _, _, _ => by cases m <;> cases e
  | t :: o, nx, la, tt, cs, m, r, s, e, hnd, hb, hp, hnx, hla => by
    rw [List.nodup_cons] at hnd
    rw [List.pairwise_cons] at hp
    have hbt := hb t List.mem_cons_self
    have h2 : nx * 2 ^ (lenOf l t - la) * pw (lenOf l t) = tt := by
      rw [← hnx, Nat.mul_assoc]
      congr 1
      unfold pw
      rw [← Nat.pow_add]
      congr 1
      omega
    cases m with
    | nil =>
      injection e with e1 e2
      subst e1
      rw [asg, asg_keep l t o _ _ _ hnd.1, List.getD_eq_getElem?_getD, List.getElem?_set_self hbt.1]
      simp only [Option.getD_some, List.map_nil, tot_nil, Nat.add_zero]
      congr 1
      rw [← h2, Nat.mul_div_cancel _ (pw_pos _)]
    | cons u m =>
      injection e with e1 e2
      subst e1
      rw [asg]
      have hsb : la ≤ lenOf l t := hbt.2.2
      rw [asg_at l o _ _ (tt + pw (lenOf l t)) _ m r s e2 hnd.2 (fun x hx => ⟨by rw [List.length_set]; exact (hb x (List.mem_cons_of_mem _ hx)).1, (hb x (List.mem_cons_of_mem _ hx)).2.1, hp.1 x hx⟩) hp.2 (by rw [Nat.add_mul, h2, Nat.one_mul]) hbt.2.1]
      rw [List.map_cons, tot_cons, Nat.add_assoc]
theorem codes_at {l : List Int} (h : lensB l = true) {m r : List Nat} {s : Nat} (e : ordL l = m ++ s :: r) : (codesL l).getD s 0 = ((tot (m.map (fun s => (s, lenOf l s))) / pw (lenOf l s) : Nat) : Int) := by
  have hok := sl_ok h
  have := asg_at l (ordL l) 0 0 0 (List.replicate l.length 0) m r s e (ordL_nodup l) (fun x hx => by
    have h1 := (ordL_mem.1 hx).1
    have h2 := hok.len (x, lenOf l x) (List.mem_map.2 ⟨x, hx, rfl⟩)
    exact ⟨by simpa using h1, h2.2, Nat.zero_le _⟩) (by
      have := hok.sorted
      unfold slOf at this
      rw [List.pairwise_map] at this
      exact this) (by simp) (by omega)
  rw [Nat.zero_add] at this
  exact this
theorem rowOf_sl (l : List Int) (n : Nat) (h1 : 1 ≤ n) (h16 : n ≤ 16) : rowOf (slOf l) n = rowF l n := by
  unfold rowOf slOf
  rw [List.filter_map, List.map_map]
  have e : ((fun x : Nat × Nat => x.1) ∘ fun s => (s, lenOf l s)) = id := rfl
  rw [e, List.map_id]
  unfold ordL
  have key : ∀ k, ((List.range k).flatMap (fun i => rowF l (i + 1))).filter ((fun x : Nat × Nat => decide (x.2 = n)) ∘ fun s => (s, lenOf l s)) = if n ≤ k then rowF l n else [] := by
    intro k
    induction k with
    | zero => rw [if_neg (by omega)]; rfl
    | succ k ih =>
      rw [List.range_succ, List.flatMap_append, List.filter_append, ih, List.flatMap_cons, List.flatMap_nil, List.append_nil]
      by_cases hk : n = k + 1
      · subst hk
        rw [if_neg (by omega), if_pos (Nat.le_refl _), List.nil_append]
        refine List.filter_eq_self.2 fun s hs => ?_
        have := (rowF_mem.1 hs).2
        show decide (lenOf l s = k + 1) = true
        refine decide_eq_true ?_
        unfold lenOf
        rw [this]
        omega
      · have e2 : (rowF l (k + 1)).filter ((fun x : Nat × Nat => decide (x.2 = n)) ∘ fun s => (s, lenOf l s)) = [] := by
          refine List.filter_eq_nil_iff.2 fun s hs => ?_
          have := (rowF_mem.1 hs).2
          show ¬ decide (lenOf l s = n) = true
          rw [decide_eq_true_eq]
          unfold lenOf
          rw [this]
          omega
        rw [e2, List.append_nil]
        by_cases h2 : n ≤ k
        · rw [if_pos h2, if_pos (by omega)]
        · rw [if_neg h2, if_neg (by omega)]
  rw [key 16, if_pos h16]
theorem first_at {l : List Int} (h : lensB l = true) {n s : Nat} {r : List Nat} (h1 : 1 ≤ n) (h16 : n ≤ 16) (e : rowF l n = s :: r) : (codesL l).getD s 0 = ((low (slOf l) n / pw n : Nat) : Int) := by
  have hs := (rowF_mem.1 (by rw [e]; exact List.mem_cons_self : s ∈ rowF l n))
  have hln : lenOf l s = n := by unfold lenOf; rw [hs.2]; omega
  have h3 := split3 n (sl_sorted l)
  have hB : (slOf l).filter (fun x => decide (x.2 = n)) = (rowF l n).map (fun s => (s, n)) := by
    have := rowOf_sl l n h1 h16
    unfold rowOf at this
    rw [← this, List.map_map]
    refine (List.map_id _).symm.trans (List.map_congr_left fun x hx => ?_)
    have := (List.mem_filter.1 hx).2
    simp at this
    show x = (x.1, n)
    rw [← this]
  have e2 : ordL l = (slOf l).map (·.1) := by
    unfold slOf
    rw [List.map_map]
    exact (List.map_id _).symm
  have e3 : ordL l = ((slOf l).filter (fun x => decide (x.2 < n))).map (·.1) ++ s :: (r ++ ((slOf l).filter (fun x => decide (n < x.2))).map (·.1)) := by
    rw [e2]
    conv => lhs; rw [h3]
    have e9 : ((fun x : Nat × Nat => x.1) ∘ fun s => (s, n)) = id := rfl
    rw [hB, List.map_append, List.map_append, List.map_map, e9, List.map_id, e]
    rfl
  rw [codes_at h e3, hln]
  congr 2
  unfold low
  rw [List.map_map]
  congr 1
  refine (List.map_congr_left fun x hx => ?_).trans (List.map_id _)
  have hm := (List.mem_filter.1 hx).1
  obtain ⟨t, _, rfl⟩ := List.mem_map.1 hm
  rfl
end Go.Proofs.Ytegmbjkpjglgpaa
