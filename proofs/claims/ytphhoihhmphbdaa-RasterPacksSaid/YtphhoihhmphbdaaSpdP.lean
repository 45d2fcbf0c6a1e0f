/-
  The places of all pixels, pass by pass, in plain words.
-/
import Derived.Test.YtphhoihhmphbdaaLaceA
namespace Go.Proofs.Ytphhoihhmphbdaa

theorem filt_gap (p : Nat → Bool) (x : Nat) (hx : p x = true) : ∀ d : Nat, (∀ i, x < i → i < x + 1 + d → p i = false) → (List.range (x + 1 + d)).filter p = (List.range x).filter p ++ [x]
  | 0, _ => by
    rw [Nat.add_zero, List.range_succ, List.filter_append]
    congr 1
    simp [hx]
  | d + 1, h => by
    rw [show x + 1 + (d + 1) = (x + 1 + d) + 1 from rfl, List.range_succ, List.filter_append, filt_gap p x hx d (fun i h1 h2 => h i h1 (by omega))]
    simp [h (x + 1 + d) (by omega) (by omega)]
theorem filt_none (p : Nat → Bool) (n : Nat) (h : ∀ i, i < n → p i = false) : (List.range n).filter p = [] := by
  rw [List.filter_eq_nil_iff]
  intro i hi
  rw [h i (List.mem_range.1 hi)]
  simp
/-- steps of 1, 2, 4 or 8 from a first one on -/
def okStep (x0 dx : Nat) : Prop := x0 < dx ∧ (dx = 1 ∨ dx = 2 ∨ dx = 4 ∨ dx = 8)
def onB (x0 dx i : Nat) : Bool := decide (i % dx = x0)
theorem on_step {x0 dx x : Nat} (hd : okStep x0 dx) (hx : x % dx = x0) (n : Nat) (h : x < n) : (List.range (min (x + dx) n)).filter (onB x0 dx) = (List.range (min x n)).filter (onB x0 dx) ++ [x] := by
  have e : min (x + dx) n = x + 1 + (min (x + dx) n - x - 1) := by have := hd.1; omega
  rw [e, filt_gap (onB x0 dx) x (decide_eq_true hx), show min x n = x by omega]
  intro i h1 h2
  have hi : i < x + dx := by have := hd.1; omega
  refine decide_eq_false ?_
  rcases hd.2 with rfl | rfl | rfl | rfl <;> omega
theorem on_start {x0 dx : Nat} (hd : okStep x0 dx) (n : Nat) : (List.range (min x0 n)).filter (onB x0 dx) = [] := by
  refine filt_none _ _ fun i hi => decide_eq_false ?_
  have := hd.1
  rw [Nat.mod_eq_of_lt (by omega)]
  omega
/-- the places of a row's pixels ahead of a column -/
def colL (x0 dx w y x : Nat) : List Int := ((List.range (min x w)).filter (onB x0 dx)).map fun i => ((y * w + i : Nat) : Int)
/-- the places of a pass's pixels ahead of a row -/
def rowL (x0 dx y0 dy w h y : Nat) : List Int := ((List.range (min y h)).filter (onB y0 dy)).flatMap fun j => colL x0 dx w j w
theorem col_step {x0 dx w y x : Nat} (hd : okStep x0 dx) (hx : x % dx = x0) (h : x < w) : colL x0 dx w y (x + dx) = colL x0 dx w y x ++ [((y * w + x : Nat) : Int)] := by
  unfold colL
  rw [on_step hd hx w h, List.map_append]
  rfl
theorem col_start {x0 dx w y : Nat} (hd : okStep x0 dx) : colL x0 dx w y x0 = [] := by
  unfold colL
  rw [on_start hd]
  rfl
theorem col_end {x0 dx w y x : Nat} (h : w ≤ x) : colL x0 dx w y x = colL x0 dx w y w := by
  unfold colL
  rw [Nat.min_eq_right h, Nat.min_self]
theorem row_step {x0 dx y0 dy w h y : Nat} (hd : okStep y0 dy) (hy : y % dy = y0) (hh : y < h) : rowL x0 dx y0 dy w h (y + dy) = rowL x0 dx y0 dy w h y ++ colL x0 dx w y w := by
  unfold rowL
  rw [on_step hd hy h hh, List.flatMap_append]
  simp
theorem row_start {x0 dx y0 dy w h : Nat} (hd : okStep y0 dy) : rowL x0 dx y0 dy w h y0 = [] := by
  unfold rowL
  rw [on_start hd]
  rfl
theorem row_end {x0 dx y0 dy w h y : Nat} (hh : h ≤ y) : rowL x0 dx y0 dy w h y = rowL x0 dx y0 dy w h h := by
  unfold rowL
  rw [Nat.min_eq_right hh, Nat.min_self]
theorem col_len (x0 dx w y x : Nat) : (colL x0 dx w y x).length ≤ w := by
  unfold colL
  rw [List.length_map]
  refine Nat.le_trans (List.length_filter_le _ _) ?_
  rw [List.length_range]
  omega
theorem flat_len {α : Type} (f : α → List Int) (n : Nat) (hf : ∀ a, (f a).length ≤ n) : ∀ l : List α, (l.flatMap f).length ≤ l.length * n
  | [] => by simp
  | a :: l => by
    rw [List.flatMap_cons, List.length_append, List.length_cons, Nat.succ_mul]
    have := hf a
    have := flat_len f n hf l
    omega
theorem row_len (x0 dx y0 dy w h y : Nat) : (rowL x0 dx y0 dy w h y).length ≤ h * w := by
  unfold rowL
  refine Nat.le_trans (flat_len _ w (fun j => col_len _ _ _ _ _) _) (Nat.mul_le_mul_right _ ?_)
  refine Nat.le_trans (List.length_filter_le _ _) ?_
  rw [List.length_range]
  omega
/-- the grid of a pass, of lace 0 the whole -/
def gridN : Nat → Nat × Nat × Nat × Nat
  | 0 => (0, 8, 0, 8)
  | 1 => (4, 8, 0, 8)
  | 2 => (0, 4, 4, 8)
  | 3 => (2, 4, 0, 4)
  | 4 => (0, 2, 2, 4)
  | 5 => (1, 2, 0, 2)
  | _ => (0, 1, 1, 2)
def gridU (l : Int) (k : Nat) : Nat × Nat × Nat × Nat := if l = 0 then (0, 1, 0, 1) else gridN k
def manyU (l : Int) : Nat := if l = 0 then 1 else 7
theorem grid_ok (l : Int) (k : Nat) : okStep (gridU l k).1 (gridU l k).2.1 ∧ okStep (gridU l k).2.2.1 (gridU l k).2.2.2 := by
  unfold gridU
  split
  · exact ⟨⟨by decide, by decide⟩, ⟨by decide, by decide⟩⟩
  · unfold gridN
    split <;> exact ⟨⟨by decide, by decide⟩, ⟨by decide, by decide⟩⟩
def passL (l : Int) (w h k : Nat) : List Int := rowL (gridU l k).1 (gridU l k).2.1 (gridU l k).2.2.1 (gridU l k).2.2.2 w h h
/-- the places of the pixels of so many passes -/
def spL (l : Int) (w h : Nat) : Nat → List Int
  | 0 => []
  | k + 1 => spL l w h k ++ passL l w h k
theorem sp_len (l : Int) (w h : Nat) : ∀ k, (spL l w h k).length ≤ k * (h * w)
  | 0 => by simp [spL]
  | k + 1 => by
    rw [spL, List.length_append, Nat.succ_mul]
    have := sp_len l w h k
    have := row_len (gridU l k).1 (gridU l k).2.1 (gridU l k).2.2.1 (gridU l k).2.2.2 w h h
    unfold passL
    omega
def spreadM (l : Int) (w h : Nat) : List Int := spL l w h (manyU l)
end Go.Proofs.Ytphhoihhmphbdaa
