/-
  raster.Unpack in plain words: how many places there are and where; which pixels any rows are.
  raster.Unpack in plain words: the pixels of rows in their order, and where they are put.
-/
import Derived.Test.YtphhoihhmphbdaaSpdP
import Derived.Test.YtphhoihhmphbdaaSamA
import Derived.Test.YtphhoihhmphbdaaFilB
import Derived.Test.YtphhoihhmphbdaaWhb
import Derived.Test.YtphhoihhmphbdaaPsumP
import Derived.Test.YtphhoihhmphbdaaLaceI
import Derived.Test.YtphhoihhmphbdaaPixel
namespace Go.Proofs.Ytphhoihhmphbdaa
open Go.RowKit

/-- how many steps there are ahead of a bound -/
def cntN (n x0 dx : Nat) : Nat := if n ≤ x0 then 0 else (n - x0 + dx - 1) / dx
theorem filt_cnt {x0 dx : Nat} (hd : okStep x0 dx) : ∀ n, ((List.range n).filter (onB x0 dx)).length = cntN n x0 dx
  | 0 => by simp [cntN]
  | n + 1 => by
    rw [List.range_succ, List.filter_append, List.length_append, filt_cnt hd n]
    have h0 := hd.1
    unfold cntN onB
    by_cases hn : n % dx = x0
    · rw [List.filter_cons_of_pos (by simp [hn])]
      simp only [List.filter_nil, List.length_cons, List.length_nil]
      have hge : x0 ≤ n := by rw [← hn]; exact Nat.mod_le _ _
      rw [if_neg (show ¬ n + 1 ≤ x0 by omega)]
      rcases hd.2 with rfl | rfl | rfl | rfl <;> split <;> omega
    · rw [List.filter_cons_of_neg (by simp [hn])]
      simp only [List.filter_nil, List.length_nil, Nat.add_zero]
      rcases hd.2 with rfl | rfl | rfl | rfl <;> split <;> split <;> omega
theorem colL_cnt {x0 dx : Nat} (hd : okStep x0 dx) (w y : Nat) : (colL x0 dx w y w).length = cntN w x0 dx := by
  unfold colL
  rw [List.length_map, Nat.min_self, filt_cnt hd]
theorem flat_same {α : Type} (f : α → List Int) (n : Nat) (hf : ∀ a, (f a).length = n) : ∀ l : List α, (l.flatMap f).length = l.length * n
  | [] => by simp
  | a :: l => by
    rw [List.flatMap_cons, List.length_append, List.length_cons, Nat.succ_mul, hf a, flat_same f n hf l]
    omega
theorem rowL_cnt {x0 dx y0 dy : Nat} (hd : okStep x0 dx) (hy : okStep y0 dy) (w h : Nat) : (rowL x0 dx y0 dy w h h).length = cntN h y0 dy * cntN w x0 dx := by
  unfold rowL
  rw [flat_same _ (cntN w x0 dx) (fun j => colL_cnt hd w j), Nat.min_self, filt_cnt hy]
/-- the places are within the picture -/
theorem colL_in {x0 dx w y x : Nat} {v : Int} (h : v ∈ colL x0 dx w y x) : ∃ i, i < w ∧ v = ((y * w + i : Nat) : Int) := by
  unfold colL at h
  obtain ⟨i, hi, rfl⟩ := List.mem_map.1 h
  have := List.mem_range.1 (List.mem_filter.1 hi).1
  exact ⟨i, by omega, rfl⟩
theorem rowL_in {x0 dx y0 dy w h y : Nat} {v : Int} (hv : v ∈ rowL x0 dx y0 dy w h y) : 0 ≤ v ∧ v < ((w * h : Nat) : Int) := by
  unfold rowL at hv
  obtain ⟨j, hj, hv⟩ := List.mem_flatMap.1 hv
  obtain ⟨i, hi, rfl⟩ := colL_in hv
  have hjh : j < h := by have := List.mem_range.1 (List.mem_filter.1 hj).1; omega
  have h1 : (j + 1) * w ≤ h * w := Nat.mul_le_mul_right _ (by omega)
  rw [Nat.succ_mul] at h1
  have h2 := Nat.mul_comm w h
  omega
theorem spL_in {l : Int} {w h : Nat} {v : Int} : ∀ k, v ∈ spL l w h k → 0 ≤ v ∧ v < ((w * h : Nat) : Int)
  | 0, hv => by cases hv
  | k + 1, hv => by
    rw [spL] at hv
    rcases List.mem_append.1 hv with hv | hv
    · exact spL_in k hv
    · exact rowL_in hv
theorem spread_in {l : Int} {w h : Nat} {v : Int} (hv : v ∈ spreadM l w h) : 0 ≤ v ∧ v < ((w * h : Nat) : Int) := spL_in _ hv
/-- the grids in both spellings -/
theorem grid_same (k : Nat) : gridM k = (((gridU 1 k).1 : Int), ((gridU 1 k).2.1 : Int), ((gridU 1 k).2.2.1 : Int), ((gridU 1 k).2.2.2 : Int)) := by
  show gridM k = (((gridN k).1 : Int), ((gridN k).2.1 : Int), ((gridN k).2.2.1 : Int), ((gridN k).2.2.2 : Int))
  match k with
  | 0 => rfl
  | 1 => rfl
  | 2 => rfl
  | 3 => rfl
  | 4 => rfl
  | 5 => rfl
  | k + 6 => rfl
theorem along_cnt (n x0 dx : Nat) (hd : okStep x0 dx) : alongM (n : Int) (x0 : Int) (dx : Int) = (cntN n x0 dx : Nat) := by
  unfold alongM cntN
  by_cases h : n ≤ x0
  · rw [if_pos (by omega), if_pos h]; rfl
  · rw [if_neg (by omega), if_neg h]
    rcases hd.2 with rfl | rfl | rfl | rfl <;> omega
/-- a pass as the program has it: its columns and rows are as many as its places -/
theorem pass_cnt (w h k : Nat) : (passL 1 w h k).length = ((passM w h k).1 * (passM w h k).2).toNat ∧ ((passM w h k).1 = 0 → (passL 1 w h k).length = 0) ∧ 0 ≤ (passM w h k).1 ∧ 0 ≤ (passM w h k).2 := by
  obtain ⟨o1, o2⟩ := grid_ok 1 k
  unfold passL
  rw [rowL_cnt o1 o2]
  unfold passM
  rw [grid_same]
  dsimp only
  rw [along_cnt _ _ _ o1, along_cnt _ _ _ o2]
  generalize cntN w (gridU 1 k).1 (gridU 1 k).2.1 = a
  generalize cntN h (gridU 1 k).2.2.1 (gridU 1 k).2.2.2 = b
  split
  · rename_i h0
    rcases h0 with h0 | h0
    · have : a = 0 := by omega
      subst this
      simp
    · have : b = 0 := by omega
      subst this
      simp
  · refine ⟨?_, fun h1 => ?_, by omega, by omega⟩
    · dsimp only
      rw [Int.mul_comm]
      exact (Int.toNat_natCast (b * a)).symm
    · dsimp only at h1
      have : a = 0 := by omega
      rw [this, Nat.mul_zero]
/-- how many pixels passes have -/
def pixN (xs : List (Nat × Int × Int)) : Nat := (xs.map fun x => (x.2.1 * x.2.2).toNat).sum
theorem pixN_app (xs ys : List (Nat × Int × Int)) : pixN (xs ++ ys) = pixN xs + pixN ys := by unfold pixN; rw [List.map_append, List.sum_append]
theorem pixN_all (w h : Nat) (l : Int) (hl : l = 0 ∨ l = 1) : pixN (passesM w h l) = (spreadM l w h).length := by
  rcases hl with rfl | rfl
  · have e : passesM w h 0 = [(0, (w : Int), (h : Int))] := rfl
    rw [e]
    show ((w : Int) * (h : Int)).toNat + 0 = (spL 0 w h 1).length
    rw [spL, spL, List.nil_append]
    unfold passL
    rw [rowL_cnt (grid_ok 0 0).1 (grid_ok 0 0).2]
    show _ = cntN h 0 1 * cntN w 0 1
    have c1 : ∀ n, cntN n 0 1 = n := fun n => by unfold cntN; split <;> omega
    rw [c1, c1, Nat.add_zero, ← Int.natCast_mul, Int.toNat_natCast, Nat.mul_comm]
  · have e : passesM w h 1 = (List.range 7).flatMap (passAt w h) := rfl
    have key : ∀ k, pixN ((List.range k).flatMap (passAt w h)) = (spL 1 w h k).length := by
      intro k
      induction k with
      | zero => rfl
      | succ k ih =>
        rw [List.range_succ, List.flatMap_append, pixN_app, ih, spL, List.length_append]
        congr 1
        obtain ⟨h1, h2, h3, _⟩ := pass_cnt w h k
        rw [List.flatMap_cons, List.flatMap_nil, List.append_nil]
        unfold passAt
        by_cases hp : 0 < (passM w h k).1
        · rw [if_pos hp, h1]
          simp [pixN]
        · rw [if_neg hp, h2 (by omega)]
          rfl
    rw [e, key 7]
    rfl
end Go.Proofs.Ytphhoihhmphbdaa

namespace Go.Proofs.Ytphhoihhmphbdaa
open Go.RowKit Go.Shelf

/-- the columns, rows, bytes of a row, bytes of a pass -/
def colsI (f : Fm) (k : Nat) : Nat := (passI f.w f.h f.l k).2.1.toNat
def rowsI (f : Fm) (k : Nat) : Nat := (passI f.w f.h f.l k).2.2.toNat
def rowI (f : Fm) (k : Nat) : Nat := (rowM f.w f.h f.d f.c f.l (colsI f k)).toNat
def segI (f : Fm) (k : Nat) : Nat := rowsI f k * (1 + rowI f k)
/-- the bytes, the pixels ahead of a pass -/
def offI (f : Fm) : Nat → Nat
  | 0 => 0
  | k + 1 => offI f k + segI f k
def pixI (f : Fm) : Nat → Nat
  | 0 => 0
  | k + 1 => pixI f k + rowsI f k * colsI f k
def manyI (f : Fm) : Nat := (chan f.c).toNat
def passN (f : Fm) : Nat := (passesM f.w f.h f.l).length
theorem pass_pos (f : Fm) (hh : headErr f.w f.h f.d f.c f.l = 0) {k : Nat} (hk : k < passN f) : (passI f.w f.h f.l k).2 = (((colsI f k : Nat) : Int), ((rowsI f k : Nat) : Int)) ∧ 1 ≤ colsI f k ∧ colsI f k ≤ 65535 ∧ 1 ≤ rowsI f k ∧ rowsI f k ≤ 65535 := by
  obtain ⟨b1, b2, b3, b4, _, b5, b6⟩ := headErr_bnd hh
  have key : 1 ≤ (passI f.w f.h f.l k).2.1 ∧ (passI f.w f.h f.l k).2.1 ≤ 65535 ∧ 1 ≤ (passI f.w f.h f.l k).2.2 ∧ (passI f.w f.h f.l k).2.2 ≤ 65535 := by
    have hm : passI f.w f.h f.l k ∈ passesM f.w f.h f.l := by
      unfold passI
      rw [List.getD_eq_getElem?_getD, List.getElem?_eq_getElem hk]
      exact List.getElem_mem hk
    generalize passI f.w f.h f.l k = x at hm
    unfold passesM at hm
    split at hm
    · rw [List.mem_singleton.1 hm]
      exact ⟨b1, b2, b3, b4⟩
    · obtain ⟨p, _, hp⟩ := List.mem_flatMap.1 hm
      unfold passAt at hp
      split at hp
      · rename_i hpos
        rw [List.mem_singleton.1 hp]
        have hb := pass_bd f.w f.h p b1 b2 b3 b4
        refine ⟨by dsimp only; omega, hb.2.1, ?_, hb.2.2.2⟩
        dsimp only
        have hb0 := hb.2.2.1
        unfold passM at hpos hb0 ⊢
        split
        · rename_i h0
          rw [if_pos h0] at hpos
          simp at hpos
        · rename_i h0
          rw [if_neg h0] at hb0
          dsimp only at hb0 ⊢
          have : alongM f.h (gridM p).2.2.1 (gridM p).2.2.2 ≠ 0 := fun h => h0 (.inr h)
          omega
      · cases hp
  unfold colsI rowsI
  obtain ⟨k1, k2, k3, k4⟩ := key
  refine ⟨?_, by omega, by omega, by omega, by omega⟩
  rw [Int.toNat_of_nonneg (by omega), Int.toNat_of_nonneg (by omega)]
theorem chan_in {c : Int} (h : 0 < chan c) : 1 ≤ (chan c).toNat ∧ (chan c).toNat ≤ 4 ∧ chan c = ((chan c).toNat : Int) := by
  have := chan_bd c
  omega
/-- a row's bytes hold its numbers just -/
theorem row_pos (f : Fm) (hh : headErr f.w f.h f.d f.c f.l = 0) {k : Nat} (hk : k < passN f) : 1 ≤ rowI f k ∧ rowI f k ≤ 600000 ∧ rowM f.w f.h f.d f.c f.l (colsI f k) = (rowI f k : Nat) ∧
    8 * rowI f k = colsI f k * manyI f * f.d.toNat + 7 - (colsI f k * manyI f * f.d.toNat + 7) % 8 ∧ colsI f k * manyI f ≤ 262140 := by
  obtain ⟨_, h1, h2, _, _⟩ := pass_pos f hh hk
  obtain ⟨hd, _, hch⟩ := headErr_deep hh
  obtain ⟨c1, c2, c3⟩ := chan_in hch
  obtain ⟨d1, d2⟩ := deep_bd hd
  have hb := rowM_bd f.w f.h f.d f.c f.l (colsI f k)
  have e : rowM f.w f.h f.d f.c f.l (colsI f k) = (((colsI f k : Nat) : Int) * chan f.c * f.d + 7) / 8 := by
    unfold rowM
    rw [if_pos ⟨hh, by omega, by omega⟩]
  have e2 : ((colsI f k : Nat) : Int) * chan f.c * f.d = ((colsI f k * manyI f * f.d.toNat : Nat) : Int) := by
    rw [c3, show f.d = ((f.d.toNat : Nat) : Int) by omega]
    unfold manyI
    simp
  have h5 : 1 ≤ colsI f k * manyI f * f.d.toNat := Nat.mul_pos (Nat.mul_pos h1 c1) (by omega)
  have h6 : colsI f k * manyI f ≤ 65535 * 4 := Nat.mul_le_mul h2 c2
  rw [e2] at e
  unfold rowI
  generalize colsI f k * manyI f * f.d.toNat = q at *
  omega
/-- the lines of a pass, and its pixels -/
def segB (f : Fm) (b : List Int) (k : Nat) : List Int := (b.drop (offI f k)).take (segI f k)
def rowsB (f : Fm) (b : List Int) (k : Nat) : List Int := unrO (rowI f k) (whM f.d f.c) (segB f b k) (rowsI f k)
def lineB (f : Fm) (b : List Int) (k y : Nat) : List Int := ((rowsB f b k).drop (y * rowI f k)).take (rowI f k)
def numsB (f : Fm) (b : List Int) (k y : Nat) : List Int := unpM (lineB f b k y) f.d.toNat (colsI f k * manyI f)
def pixB (f : Fm) (b : List Int) (k y x : Nat) : Option Px := pixOf f (((numsB f b k y).drop (x * manyI f)).take (manyI f))
def lineO (f : Fm) (b : List Int) (k y x : Nat) : List (Option Px) := (List.range x).map (pixB f b k y)
def rowsO (f : Fm) (b : List Int) (k y : Nat) : List (Option Px) := (List.range y).flatMap fun j => lineO f b k j (colsI f k)
def kindsB (size : Nat) (b : List Int) (count : Nat) : Bool := (List.range count).all fun j => decide (kindAt size b j ≤ 4)
theorem kindsB_iff (size : Nat) (b : List Int) (count : Nat) : kindsB size b count = true ↔ kindsOk size b count := by
  unfold kindsB kindsOk
  rw [List.all_eq_true]
  constructor
  · intro h j hj
    exact of_decide_eq_true (h j (List.mem_range.2 hj))
  · intro h j hj
    exact decide_eq_true (h j (List.mem_range.1 hj))
def passO (f : Fm) (b : List Int) (k : Nat) : List (Option Px) := if kindsB (rowI f k) (segB f b k) (rowsI f k) = true then rowsO f b k (rowsI f k) else [none]
/-- the pixels of so many passes; none where there is none -/
def allO (f : Fm) (b : List Int) : Nat → List (Option Px)
  | 0 => []
  | k + 1 => allO f b k ++ passO f b k
theorem lineO_snoc (f : Fm) (b : List Int) (k y x : Nat) : lineO f b k y (x + 1) = lineO f b k y x ++ [pixB f b k y x] := by unfold lineO; rw [List.range_succ, List.map_append]; rfl
theorem rowsO_snoc (f : Fm) (b : List Int) (k y : Nat) : rowsO f b k (y + 1) = rowsO f b k y ++ lineO f b k y (colsI f k) := by unfold rowsO; rw [List.range_succ, List.flatMap_append]; simp
theorem lineO_len (f : Fm) (b : List Int) (k y x : Nat) : (lineO f b k y x).length = x := by simp [lineO]
theorem rowsO_len (f : Fm) (b : List Int) (k : Nat) : ∀ y, (rowsO f b k y).length = y * colsI f k
  | 0 => by simp [rowsO]
  | y + 1 => by rw [rowsO_snoc, List.length_append, rowsO_len f b k y, lineO_len, Nat.succ_mul]
theorem allO_none {f : Fm} {b : List Int} {j : Nat} (h : none ∈ allO f b j) : ∀ k, j ≤ k → none ∈ allO f b k
  | 0, hk => by rw [Nat.le_zero.1 hk] at h; exact h
  | k + 1, hk => by
    by_cases e : j = k + 1
    · rw [← e]; exact h
    · rw [allO]
      exact List.mem_append_left _ (allO_none h k (by omega))
/-- the pixels put where they belong -/
def putAll (pl : List Int) (Q : List Px) (base : List Px) : List Px := (pl.zip Q).foldl (fun l x => l.set x.1.toNat x.2) base
theorem zip_snoc : ∀ (pl : List Int) (Q : List Px) (q : Px) (h : Q.length < pl.length), pl.zip (Q ++ [q]) = pl.zip Q ++ [(pl[Q.length], q)]
  | p :: pl, [], q, _ => by simp
  | p :: pl, x :: Q, q, h => by
    have := zip_snoc pl Q q (by simpa using h)
    simp only [List.cons_append, List.zip_cons_cons, List.length_cons, List.getElem_cons_succ, this]
  | [], Q, q, h => by simp at h
theorem put_snoc (pl : List Int) (Q : List Px) (q : Px) (base : List Px) (h : Q.length < pl.length) : putAll pl (Q ++ [q]) base = (putAll pl Q base).set (pl[Q.length]).toNat q := by
  unfold putAll
  rw [zip_snoc pl Q q h, List.foldl_append]
  rfl
theorem put_len (pl : List Int) (Q : List Px) (base : List Px) : (putAll pl Q base).length = base.length := by
  unfold putAll
  generalize pl.zip Q = z
  induction z generalizing base with
  | nil => rfl
  | cons x z ih => rw [List.foldl_cons, ih, List.length_set]
def pxZ (n : Nat) : List Px := List.replicate n (0, 0, 0, 0)
/-- the raster of rows, none where there is none -/
def unpR (f : Fm) (b : List Int) : Option (List Px) :=
  if none ∈ allO f b (passN f) then none else some (putAll (spreadM f.l f.w.toNat f.h.toNat) ((allO f b (passN f)).filterMap id) (pxZ (f.w * f.h).toNat))
theorem unpR_none {f : Fm} {b : List Int} {j : Nat} (hj : j ≤ passN f) (h : none ∈ allO f b j) : unpR f b = none := by
  unfold unpR
  rw [if_pos (allO_none h _ hj)]
theorem unpR_some {f : Fm} {b : List Int} {Q : List Px} (h : allO f b (passN f) = Q.map some) : unpR f b = some (putAll (spreadM f.l f.w.toNat f.h.toNat) Q (pxZ (f.w * f.h).toNat)) := by
  have h1 : ¬ none ∈ Q.map some := by simp
  have h2 : ∀ Q : List Px, (Q.map some).filterMap id = Q := fun Q => by
    induction Q with
    | nil => rfl
    | cons q Q ih => simp
  unfold unpR
  rw [h, if_neg h1, h2]
/-- a pixel set among cells -/
theorem cells_set : ∀ (l : List Px) (v : Nat) (q : Px), v < l.length →
    ((((l.flatMap encP).set (v * 4) (.int .i64 q.1)).set (v * 4 + 1) (.int .i64 q.2.1)).set (v * 4 + 2) (.int .i64 q.2.2.1)).set (v * 4 + 3) (.int .i64 q.2.2.2) = (l.set v q).flatMap encP
  | [], v, q, h => by simp at h
  | p :: l, 0, q, _ => by simp [encP]
  | p :: l, v + 1, q, h => by
    have ih := cells_set l v q (by simpa using h)
    have e : ∀ i, (v + 1) * 4 + i = (v * 4 + i) + 4 := fun i => by omega
    have e0 : (v + 1) * 4 = v * 4 + 4 := by omega
    rw [List.set_cons_succ, List.flatMap_cons, List.flatMap_cons, ← ih, e 1, e 2, e 3, e0]
    have hp : encP p = [.int .i64 p.1, .int .i64 p.2.1, .int .i64 p.2.2.1, .int .i64 p.2.2.2] := rfl
    rw [hp]
    simp only [List.cons_append, List.nil_append, List.set_cons_succ]
/-- the bytes, the pixels of all passes -/
theorem passesI (f : Fm) : ∀ k, k ≤ passN f → (passesM f.w f.h f.l).take k = (List.range k).map (passI f.w f.h f.l)
  | 0, _ => by simp
  | k + 1, h => by
    rw [List.range_succ, List.map_append, ← passesI f k (by omega), List.take_succ_eq_append_getElem (by exact h)]
    congr 1
    unfold passI
    rw [List.map_cons, List.map_nil, List.getD_eq_getElem?_getD, List.getElem?_eq_getElem (by exact h)]
    rfl
theorem offI_psum (f : Fm) (hh : headErr f.w f.h f.d f.c f.l = 0) : ∀ k, k ≤ passN f → psum f.w f.h f.d f.c f.l ((passesM f.w f.h f.l).take k) = (offI f k : Nat)
  | 0, _ => rfl
  | k + 1, h => by
    have ih := offI_psum f hh k (by omega)
    rw [passesI f k (by omega)] at ih
    rw [passesI f (k + 1) h, List.range_succ, List.map_append, List.map_cons, List.map_nil, psum_snoc, ih]
    obtain ⟨e1, _⟩ := pass_pos f hh h
    obtain ⟨_, _, e2, _⟩ := row_pos f hh h
    rw [e1]
    dsimp only
    rw [e2, offI]
    unfold segI
    simp
theorem offI_all (f : Fm) (hh : headErr f.w f.h f.d f.c f.l = 0) : dataM f.w f.h f.d f.c f.l = (offI f (passN f) : Nat) := by
  rw [(dataM_eq hh).1, ← offI_psum f hh _ (Nat.le_refl _)]
  congr 1
  exact (List.take_of_length_le (Nat.le_refl _)).symm
theorem offI_mono (f : Fm) {j : Nat} : ∀ k, j ≤ k → offI f j ≤ offI f k
  | 0, h => by rw [Nat.le_zero.1 h]; exact Nat.le_refl _
  | k + 1, h => by
    by_cases e : j = k + 1
    · rw [e]; exact Nat.le_refl _
    · rw [offI]
      have := offI_mono f k (show j ≤ k by omega)
      omega
theorem pixI_mono (f : Fm) {j : Nat} : ∀ k, j ≤ k → pixI f j ≤ pixI f k
  | 0, h => by rw [Nat.le_zero.1 h]; exact Nat.le_refl _
  | k + 1, h => by
    by_cases e : j = k + 1
    · rw [e]; exact Nat.le_refl _
    · rw [pixI]
      have := pixI_mono f k (show j ≤ k by omega)
      omega
theorem pixI_all (f : Fm) (hh : headErr f.w f.h f.d f.c f.l = 0) : pixI f (passN f) = (spreadM f.l f.w.toNat f.h.toNat).length := by
  obtain ⟨b1, b2, b3, b4, _, b5, b6⟩ := headErr_bnd hh
  have key : ∀ k, k ≤ passN f → pixN ((passesM f.w f.h f.l).take k) = pixI f k := by
    intro k
    induction k with
    | zero => intro _; rfl
    | succ k ih =>
      intro h
      have := ih (by omega)
      rw [passesI f k (by omega)] at this
      rw [passesI f (k + 1) h, List.range_succ, List.map_append, pixN_app, this, pixI]
      congr 1
      obtain ⟨e1, _⟩ := pass_pos f hh h
      unfold pixN
      rw [List.map_cons, List.map_nil, List.map_cons, List.map_nil, e1]
      dsimp only
      rw [← Int.natCast_mul, Int.toNat_natCast, Nat.mul_comm]
      simp
  have et : (passesM f.w f.h f.l).take (passN f) = passesM f.w f.h f.l := List.take_of_length_le (Nat.le_refl _)
  rw [← key _ (Nat.le_refl _), et, ← pixN_all _ _ _ (by omega), show ((f.w.toNat : Nat) : Int) = f.w by omega, show ((f.h.toNat : Nat) : Int) = f.h by omega]
end Go.Proofs.Ytphhoihhmphbdaa
