/-
  raster.Pack in plain words: the pixels at their places, their numbers, rows, filtered.
  What raster.Pack has packed is unpacked to the raster. Plain.
-/
import Derived.Test.YtphhoihhmphbdaaUnpM
import Derived.Test.YtphhoihhmphbdaaNumIdx
import Derived.Test.YtphhoihhmphbdaaFilC
namespace Go.Proofs.Ytphhoihhmphbdaa
open Go.RowKit

theorem pw_pow {d : Int} (hd : deepOk d) : pw d = 2 ^ d.toNat := by
  unfold deepOk at hd
  rcases hd with rfl | rfl | rfl | rfl | rfl <;> rfl
theorem nums_len {f : Fm} {p : Px} {l : List Int} (hf : formOk f = true) (h : numsOf f p = some l) : l.length = manyI f := by
  have hb := nums_back h
  unfold pixOf at hb
  split at hb
  · cases hb
  · rename_i hn
    have h2 := (chan_in (headErr_deep (formOk_parts hf).1).2.2).2.2
    unfold manyI
    omega
theorem nums_range {f : Fm} {p : Px} {l : List Int} (hf : formOk f = true) (h : numsOf f p = some l) : ∀ x ∈ l, 0 ≤ x ∧ x < 2 ^ f.d.toNat := by
  obtain ⟨hh, hpal, _, _⟩ := formOk_parts hf
  have hd := (headErr_deep hh).1
  rw [← pw_pow hd]
  have hb := nums_back h
  by_cases h3 : f.c = 3
  · unfold numsOf at h
    rw [if_pos h3] at h
    split at h
    · rename_i hlt
      injection h with h
      subst h
      intro x hx
      rw [List.mem_singleton.1 hx]
      unfold palB at hpal
      rw [if_pos h3] at hpal
      have hp := of_decide_eq_true hpal
      omega
    · cases h
  · unfold pixOf at hb
    split at hb
    · cases hb
    · first | rw [if_neg h3] at hb | skip
      split at hb
      · rename_i hall
        intro x hx
        have := List.all_eq_true.1 hall x hx
        unfold keyB at this
        exact of_decide_eq_true this
      · cases hb
/-- the pixel at the i-th place -/
def gth (px : List Px) (pl : List Int) (i : Nat) : Px := px.getD (pl.getD i 0).toNat (0, 0, 0, 0)
def nmP (f : Fm) (px : List Px) (pl : List Int) (i : Nat) : Option (List Int) := numsOf f (gth px pl i)
/-- the numbers of so many pixels from a place on -/
def nlP (f : Fm) (px : List Px) (pl : List Int) (s : Nat) : Nat → List Int
  | 0 => []
  | x + 1 => nlP f px pl s x ++ (nmP f px pl (s + x)).getD []
def rowP (f : Fm) (px : List Px) (pl : List Int) (k y : Nat) : List Int := packB (nlP f px pl (pixI f k + y * colsI f k) (colsI f k)) f.d.toNat
def rowsP (f : Fm) (px : List Px) (pl : List Int) (k : Nat) : Nat → List Int
  | 0 => []
  | y + 1 => rowsP f px pl k y ++ rowP f px pl k y
def segP (f : Fm) (px : List Px) (pl : List Int) (kind : Int) (k : Nat) : List Int := rollM (rowsP f px pl k (rowsI f k)) (rowI f k) (whM f.d f.c) (List.replicate (rowsI f k) kind) (rowsI f k)
def outP (f : Fm) (px : List Px) (pl : List Int) (kind : Int) : Nat → List Int
  | 0 => []
  | k + 1 => outP f px pl kind k ++ segP f px pl kind k
/-- the pixels of the first places have numbers -/
def numdP (f : Fm) (px : List Px) (pl : List Int) (n : Nat) : Prop := ∀ i, i < n → (nmP f px pl i).isSome = true
instance (f : Fm) (px : List Px) (pl : List Int) (n : Nat) : Decidable (numdP f px pl n) := by unfold numdP; infer_instance
/-- a raster's rows in a good form -/
def packM (f : Fm) (px : List Px) (kind : Int) : Option (List Int) :=
  if numdP f px (spreadM f.l f.w.toNat f.h.toNat) (spreadM f.l f.w.toNat f.h.toNat).length then some (outP f px (spreadM f.l f.w.toNat f.h.toNat) kind (passN f)) else none
theorem numdP_zero (f : Fm) (px : List Px) (pl : List Int) : numdP f px pl 0 := fun i h => by omega
theorem numdP_succ {f : Fm} {px : List Px} {pl : List Int} {n : Nat} {l : List Int} (h : numdP f px pl n) (hn : nmP f px pl n = some l) : numdP f px pl (n + 1) := fun i hi => by
  rcases Nat.lt_or_ge i n with h1 | h1
  · exact h i h1
  · rw [show i = n by omega, hn]; rfl
theorem packM_none {f : Fm} {px : List Px} {kind : Int} {i : Nat} (hi : i < (spreadM f.l f.w.toNat f.h.toNat).length) (h : nmP f px (spreadM f.l f.w.toNat f.h.toNat) i = none) : packM f px kind = none := by
  unfold packM
  rw [if_neg (fun h2 => by have := h2 i hi; rw [h] at this; cases this)]
theorem nlP_len {f : Fm} {px : List Px} {pl : List Int} (hf : formOk f = true) {n : Nat} (hok : numdP f px pl n) (s : Nat) : ∀ x, s + x ≤ n → (nlP f px pl s x).length = x * manyI f
  | 0, _ => by rw [Nat.zero_mul]; rfl
  | x + 1, h => by
    rw [nlP, List.length_append, nlP_len hf hok s x (by omega), Nat.succ_mul]
    have := hok (s + x) (by omega)
    cases hn : nmP f px pl (s + x) with
    | none => rw [hn] at this; cases this
    | some l => rw [Option.getD_some, nums_len hf hn]
theorem nlP_range {f : Fm} {px : List Px} {pl : List Int} (hf : formOk f = true) (s : Nat) : ∀ x, ∀ v ∈ nlP f px pl s x, 0 ≤ v ∧ v < 2 ^ f.d.toNat
  | 0, v, hv => by cases hv
  | x + 1, v, hv => by
    rw [nlP] at hv
    rcases List.mem_append.1 hv with hv | hv
    · exact nlP_range hf s x v hv
    · cases hn : nmP f px pl (s + x) with
      | none => rw [hn] at hv; cases hv
      | some l => rw [hn, Option.getD_some] at hv; exact nums_range hf hn v hv
theorem packB_len (l : List Int) (d : Nat) : 8 * (packB l d).length = l.length * d + 7 - (l.length * d + 7) % 8 := by
  unfold packB
  have h := padZ_len (nbH l d)
  rw [pkS_len, h.2, nbH_len]
  omega
/-- a row has its length -/
theorem rowP_len {f : Fm} {px : List Px} {pl : List Int} (hf : formOk f = true) {k y : Nat} (hk : k < passN f) {n : Nat} (hok : numdP f px pl n) (hn : pixI f k + y * colsI f k + colsI f k ≤ n) : (rowP f px pl k y).length = rowI f k := by
  obtain ⟨_, _, _, hr, _⟩ := row_pos f (formOk_parts hf).1 hk
  have h := packB_len (nlP f px pl (pixI f k + y * colsI f k) (colsI f k)) f.d.toNat
  rw [nlP_len hf hok _ _ hn] at h
  unfold rowP
  omega
theorem rowsP_len {f : Fm} {px : List Px} {pl : List Int} (hf : formOk f = true) {k : Nat} (hk : k < passN f) {n : Nat} (hok : numdP f px pl n) : ∀ y, pixI f k + y * colsI f k ≤ n → (rowsP f px pl k y).length = y * rowI f k
  | 0, _ => by rw [Nat.zero_mul]; rfl
  | y + 1, h => by
    rw [Nat.succ_mul] at h
    rw [rowsP, List.length_append, rowsP_len hf hk hok y (by omega), rowP_len hf hk hok (by omega), Nat.succ_mul]
theorem packB_B (l : List Int) (d : Nat) : ∀ x ∈ packB l d, isB x := by
  unfold packB
  refine pkS_B true (fun x hx => ?_)
  unfold padZ at hx
  rcases List.mem_append.1 hx with hx | hx
  · unfold nbH at hx
    obtain ⟨n, _, hx⟩ := List.mem_flatMap.1 hx
    exact dgS_bit true n d x hx
  · rw [List.eq_of_mem_replicate hx]; exact .inl rfl
theorem rowsP_B (f : Fm) (px : List Px) (pl : List Int) (k : Nat) : ∀ y, ∀ x ∈ rowsP f px pl k y, isB x
  | 0, x, hx => by cases hx
  | y + 1, x, hx => by
    rw [rowsP] at hx
    rcases List.mem_append.1 hx with hx | hx
    · exact rowsP_B f px pl k y x hx
    · exact packB_B _ _ x hx
theorem segP_len (f : Fm) (px : List Px) (pl : List Int) (kind : Int) (k : Nat) : (segP f px pl kind k).length = segI f k := by
  unfold segP segI
  rw [rollM_len]
theorem outP_len (f : Fm) (px : List Px) (pl : List Int) (kind : Int) : ∀ k, (outP f px pl kind k).length = offI f k
  | 0 => rfl
  | k + 1 => by rw [outP, List.length_append, outP_len f px pl kind k, segP_len, offI]
theorem along_le (n first step : Int) (h1 : 1 ≤ n) (h3 : 0 ≤ first) (h5 : 1 ≤ step) : alongM n first step ≤ n := by
  unfold alongM
  split
  · omega
  · have h := Int.ediv_le_of_le_mul (a := n - first + step - 1) (b := n) (c := step) (by omega) (by
      have h2 : (n - 1) * 1 ≤ (n - 1) * step := Int.mul_le_mul_of_nonneg_left h5 (by omega)
      have e : n * step = (n - 1) * step + step := by rw [Int.sub_mul, Int.one_mul]; omega
      rw [Int.mul_one] at h2
      omega)
    exact h
theorem passP_le (f : Fm) (hh : headErr f.w f.h f.d f.c f.l = 0) {k : Nat} (hk : k < passN f) : colsI f k ≤ f.w.toNat ∧ rowsI f k ≤ f.h.toNat := by
  obtain ⟨b1, b2, b3, b4, _, b5, b6⟩ := headErr_bnd hh
  have key : (passI f.w f.h f.l k).2.1 ≤ f.w ∧ (passI f.w f.h f.l k).2.2 ≤ f.h := by
    have hm : passI f.w f.h f.l k ∈ passesM f.w f.h f.l := by
      unfold passI
      rw [List.getD_eq_getElem?_getD, List.getElem?_eq_getElem hk]
      exact List.getElem_mem hk
    generalize passI f.w f.h f.l k = x at hm
    unfold passesM at hm
    split at hm
    · rw [List.mem_singleton.1 hm]
      exact ⟨Int.le_refl _, Int.le_refl _⟩
    · obtain ⟨p, _, hp⟩ := List.mem_flatMap.1 hm
      unfold passAt at hp
      split at hp
      · rw [List.mem_singleton.1 hp]
        dsimp only
        obtain ⟨q1, q2, q3, q4, q5, q6, q7, q8⟩ := grid_bd p
        unfold passM
        split
        · exact ⟨by dsimp only; omega, by dsimp only; omega⟩
        · exact ⟨along_le f.w _ _ b1 q1 q3, along_le f.h _ _ b3 q5 q7⟩
      · cases hp
  unfold colsI rowsI
  omega
theorem passN_le (f : Fm) : passN f ≤ 7 := by
  unfold passN passesM
  split
  · simp
  · exact pass_len f.w f.h 7
theorem row_le (f : Fm) (hh : headErr f.w f.h f.d f.c f.l = 0) {k : Nat} (hk : k < passN f) : rowI f k ≤ 8 * colsI f k := by
  obtain ⟨_, _, _, hr, _⟩ := row_pos f hh hk
  obtain ⟨hd, _, hch⟩ := headErr_deep hh
  have hc := (chan_in hch).2.1
  have hb := deep_bd hd
  have h1 : colsI f k * manyI f * f.d.toNat ≤ colsI f k * 4 * 16 := Nat.mul_le_mul (Nat.mul_le_mul_left _ hc) (by omega)
  omega
theorem size_le (f : Fm) (hh : headErr f.w f.h f.d f.c f.l = 0) {N : Nat} (hN : f.w * f.h = (N : Int)) {k : Nat} (hk : k < passN f) : rowsI f k * colsI f k ≤ N ∧ segI f k ≤ 9 * N := by
  obtain ⟨h1, h2⟩ := passP_le f hh hk
  obtain ⟨b1, b2, b3, b4, _, b5, b6⟩ := headErr_bnd hh
  have h3 : rowsI f k * colsI f k ≤ f.h.toNat * f.w.toNat := Nat.mul_le_mul h2 h1
  have h4 : f.h.toNat * f.w.toNat = N := by
    have e : ((f.h.toNat * f.w.toNat : Nat) : Int) = f.w * f.h := by rw [Int.natCast_mul, Int.toNat_of_nonneg (by omega), Int.toNat_of_nonneg (by omega), Int.mul_comm]
    rw [hN] at e
    omega
  obtain ⟨_, p1, _, p3, _⟩ := pass_pos f hh hk
  have h5 : segI f k ≤ rowsI f k * (9 * colsI f k) := by
    unfold segI
    exact Nat.mul_le_mul_left _ (by have := row_le f hh hk; omega)
  rw [Nat.mul_left_comm] at h5
  omega
theorem offI_le (f : Fm) (hh : headErr f.w f.h f.d f.c f.l = 0) {N : Nat} (hN : f.w * f.h = (N : Int)) : ∀ k, k ≤ passN f → offI f k ≤ k * (9 * N)
  | 0, _ => by simp [offI]
  | k + 1, h => by
    have ih := offI_le f hh hN k (by omega)
    have := (size_le f hh hN (k := k) (by omega)).2
    rw [offI, Nat.succ_mul]
    omega
end Go.Proofs.Ytphhoihhmphbdaa

namespace Go.Proofs.Ytphhoihhmphbdaa
open Go.RowKit

/-- every place is some pixel's -/
theorem colL_mem {x0 dx w y x : Nat} (hx : x < w) (h : x % dx = x0) : ((y * w + x : Nat) : Int) ∈ colL x0 dx w y w := by
  unfold colL
  rw [Nat.min_self]
  exact List.mem_map.2 ⟨x, List.mem_filter.2 ⟨List.mem_range.2 hx, decide_eq_true h⟩, rfl⟩
theorem passL_mem {l : Int} {w h k x y : Nat} (hx : x < w) (hy : y < h) (h1 : x % (gridU l k).2.1 = (gridU l k).1) (h2 : y % (gridU l k).2.2.2 = (gridU l k).2.2.1) : ((y * w + x : Nat) : Int) ∈ passL l w h k := by
  unfold passL rowL
  rw [Nat.min_self]
  exact List.mem_flatMap.2 ⟨y, List.mem_filter.2 ⟨List.mem_range.2 hy, decide_eq_true h2⟩, colL_mem hx h1⟩
theorem spL_mem {l : Int} {w h k : Nat} {v : Int} (hv : v ∈ passL l w h k) : ∀ n, k < n → v ∈ spL l w h n
  | 0, hn => by omega
  | n + 1, hn => by
    rw [spL]
    rcases Nat.lt_or_ge k n with h1 | h1
    · exact List.mem_append_left _ (spL_mem hv n h1)
    · rw [show n = k by omega]; exact List.mem_append_right _ hv
theorem grid_has (x y : Nat) : ∃ k, k < 7 ∧ x % (gridN k).2.1 = (gridN k).1 ∧ y % (gridN k).2.2.2 = (gridN k).2.2.1 := by
  by_cases h1 : y % 2 = 1
  · exact ⟨6, by omega, by show x % 1 = 0; omega, h1⟩
  by_cases h2 : x % 2 = 1
  · exact ⟨5, by omega, h2, by show y % 2 = 0; omega⟩
  by_cases h3 : y % 4 = 2
  · exact ⟨4, by omega, by show x % 2 = 0; omega, h3⟩
  by_cases h4 : x % 4 = 2
  · exact ⟨3, by omega, h4, by show y % 4 = 0; omega⟩
  by_cases h5 : y % 8 = 4
  · exact ⟨2, by omega, by show x % 4 = 0; omega, h5⟩
  by_cases h6 : x % 8 = 4
  · exact ⟨1, by omega, h6, by show y % 8 = 0; omega⟩
  exact ⟨0, by omega, by show x % 8 = 0; omega, by show y % 8 = 0; omega⟩
theorem spread_all (l : Int) (w h v : Nat) (hv : v < w * h) : (v : Int) ∈ spreadM l w h := by
  have hw : 0 < w := Nat.pos_of_ne_zero (fun e => by subst e; simp at hv)
  have hx : v % w < w := Nat.mod_lt _ hw
  have hy : v / w < h := Nat.div_lt_of_lt_mul hv
  have e : v = v / w * w + v % w := by rw [Nat.mul_comm]; exact (Nat.div_add_mod v w).symm
  unfold spreadM manyU
  by_cases hl : l = 0
  · rw [if_pos hl]
    refine spL_mem (k := 0) ?_ 1 (by omega)
    rw [e]
    exact passL_mem hx hy (by unfold gridU; rw [if_pos hl]; exact Nat.mod_one _) (by unfold gridU; rw [if_pos hl]; exact Nat.mod_one _)
  · rw [if_neg hl]
    obtain ⟨k, hk, h1, h2⟩ := grid_has (v % w) (v / w)
    refine spL_mem (k := k) ?_ 7 hk
    rw [e]
    exact passL_mem hx hy (by unfold gridU; rw [if_neg hl]; exact h1) (by unfold gridU; rw [if_neg hl]; exact h2)
/-- pixels put at their places -/
theorem foldl_put (px : List Px) : ∀ (z : List (Int × Px)) (base : List Px), base.length = px.length → (∀ x ∈ z, ∃ h : x.1.toNat < px.length, x.2 = px[x.1.toNat]) →
    (z.foldl (fun l x => l.set x.1.toNat x.2) base).length = px.length ∧ ∀ v (h : v < px.length), ((∃ x ∈ z, x.1.toNat = v) ∨ base[v]? = some px[v]) → (z.foldl (fun l x => l.set x.1.toNat x.2) base)[v]? = some px[v]
  | [], base, hb, _ => ⟨hb, fun v h hv => by rcases hv with ⟨x, hx, _⟩ | h2; cases hx; exact h2⟩
  | x :: z, base, hb, hz => by
    obtain ⟨hx1, hx2⟩ := hz x List.mem_cons_self
    have ih := foldl_put px z (base.set x.1.toNat x.2) (by rw [List.length_set]; exact hb) (fun y hy => hz y (List.mem_cons_of_mem _ hy))
    rw [List.foldl_cons]
    refine ⟨ih.1, fun v h hv => ih.2 v h ?_⟩
    by_cases e : x.1.toNat = v
    · refine .inr ?_
      subst e
      rw [List.getElem?_set_self (by rw [hb]; exact hx1), hx2]
    · rcases hv with ⟨y, hy, hyv⟩ | h2
      · rcases List.mem_cons.1 hy with rfl | hy
        · exact absurd hyv e
        · exact .inl ⟨y, hy, hyv⟩
      · exact .inr (by rw [List.getElem?_set_ne e]; exact h2)
theorem put_gth (px : List Px) (pl : List Int) (hin : ∀ v ∈ pl, 0 ≤ v ∧ v < (px.length : Int)) (hall : ∀ v, v < px.length → (v : Int) ∈ pl) : putAll pl ((List.range pl.length).map (gth px pl)) (pxZ px.length) = px := by
  unfold putAll
  have key := foldl_put px (pl.zip ((List.range pl.length).map (gth px pl))) (pxZ px.length) (by simp [pxZ]) (fun x hx => by
    obtain ⟨i, hi, he⟩ := List.mem_iff_getElem.1 hx
    rw [List.getElem_zip] at he
    have hi2 : i < pl.length := by rw [List.length_zip] at hi; omega
    obtain ⟨h0, h1⟩ := hin pl[i] (List.getElem_mem hi2)
    have hlt : (pl[i]).toNat < px.length := by omega
    subst he
    refine ⟨hlt, ?_⟩
    dsimp only
    rw [List.getElem_map, List.getElem_range]
    unfold gth
    rw [List.getD_eq_getElem?_getD, List.getD_eq_getElem?_getD, List.getElem?_eq_getElem hi2, Option.getD_some, List.getElem?_eq_getElem hlt]
    rfl)
  refine List.ext_getElem? fun v => ?_
  rcases Nat.lt_or_ge v px.length with hv | hv
  · rw [List.getElem?_eq_getElem hv]
    refine key.2 v hv (.inl ?_)
    obtain ⟨i, hi, he⟩ := List.mem_iff_getElem.1 (hall v hv)
    have hz : i < (pl.zip ((List.range pl.length).map (gth px pl))).length := by simp [hi]
    exact ⟨_, List.getElem_mem hz, by rw [List.getElem_zip]; dsimp only; rw [he, Int.toNat_natCast]⟩
  · rw [List.getElem?_eq_none (by rw [key.1]; exact hv), List.getElem?_eq_none hv]
/-- a filtered row, unfiltered -/
theorem atM_take {l : List Int} {j : Nat} {i : Int} (h : i < (j : Int)) : atM (l.take j) i = atM l i := by
  unfold atM
  split
  · rfl
  · rename_i hi
    have hlt : i.toNat < j := by omega
    rw [List.getD_eq_getElem?_getD, List.getD_eq_getElem?_getD, List.getElem?_take_of_lt hlt]
theorem filN_take (k bpp : Int) (row ahead : List Int) {j : Nat} : ∀ n, j ≤ n → (filN k bpp row ahead n).take j = filN k bpp row ahead j
  | 0, h => by rw [Nat.le_zero.1 h]; rfl
  | n + 1, h => by
    rw [filN]
    rcases Nat.lt_or_ge n j with h1 | h1
    · rw [show j = n + 1 by omega, List.take_of_length_le (by rw [List.length_append, filN_len]; simp)]
      rfl
    · rw [List.take_append_of_le_length (by rw [filN_len]; exact h1)]
      exact filN_take k bpp row ahead n h1
theorem filN_at (k bpp : Int) (row ahead : List Int) {j n : Nat} (h : j < n) : (filN k bpp row ahead n).getD j 0 = (row.getD j 0 - foreM k (atM row ((j : Int) - bpp)) (atM ahead (j : Int)) (atM ahead ((j : Int) - bpp))) % 256 := by
  have h1 := filN_take k bpp row ahead n (show j + 1 ≤ n by omega)
  have h2 : (filN k bpp row ahead n).getD j 0 = ((filN k bpp row ahead n).take (j + 1)).getD j 0 := by
    rw [List.getD_eq_getElem?_getD, List.getD_eq_getElem?_getD, List.getElem?_take_of_lt (by omega)]
  rw [h2, h1, filN, List.getD_eq_getElem?_getD, List.getElem?_append_right (by rw [filN_len]; exact Nat.le_refl _), filN_len, Nat.sub_self]
  rfl
theorem unf_fil (k bpp : Int) (row ahead : List Int) (hb : 1 ≤ bpp) (hr : ∀ x ∈ row, isB x) : ∀ j, j ≤ row.length → unfN k bpp (filN k bpp row ahead row.length) ahead j = row.take j
  | 0, _ => by rw [List.take_zero]; rfl
  | j + 1, h => by
    have hj : j < row.length := by omega
    rw [unfN, unf_fil k bpp row ahead hb hr j (by omega), filN_at k bpp row ahead hj, atM_take (show (j : Int) - bpp < (j : Int) by omega), List.take_succ_eq_append_getElem hj]
    congr 2
    have hx := hr _ (List.getElem_mem hj)
    rw [List.getD_eq_getElem?_getD, List.getElem?_eq_getElem hj, Option.getD_some]
    generalize foreM k _ _ _ = F
    unfold isB at hx
    omega
/-- the parts of rolled rows -/
theorem roll_take (rows : List Int) (size : Nat) (bpp : Int) (kinds : List Int) {j : Nat} : ∀ n, j ≤ n → ∃ t, rollM rows size bpp kinds n = rollM rows size bpp kinds j ++ t
  | 0, h => ⟨[], by rw [Nat.le_zero.1 h]; rfl⟩
  | n + 1, h => by
    rcases Nat.lt_or_ge n j with h1 | h1
    · exact ⟨[], by rw [show j = n + 1 by omega, List.append_nil]⟩
    · obtain ⟨t, ht⟩ := roll_take rows size bpp kinds n h1
      exact ⟨_, by rw [rollM, ht, List.append_assoc, List.append_assoc]⟩
theorem roll_at (rows : List Int) (size : Nat) (bpp : Int) (kinds : List Int) {j n : Nat} (h : j < n) : kindAt size (rollM rows size bpp kinds n) j = takeK rows size bpp kinds j ∧ rowAt size (rollM rows size bpp kinds n) j = filN (takeK rows size bpp kinds j) bpp (rowK rows size j) (aheadK rows size j) size := by
  obtain ⟨t, ht⟩ := roll_take rows size bpp kinds n (show j + 1 ≤ n by omega)
  have hl := rollM_len rows size bpp kinds j
  have hf := filN_len (takeK rows size bpp kinds j) bpp (rowK rows size j) (aheadK rows size j) size
  rw [ht, rollM]
  generalize filN (takeK rows size bpp kinds j) bpp (rowK rows size j) (aheadK rows size j) size = F at *
  generalize rollM rows size bpp kinds j = R at *
  generalize takeK rows size bpp kinds j = k at *
  constructor
  · unfold kindAt
    rw [← hl, List.getD_eq_getElem?_getD, List.append_assoc, List.append_assoc, List.getElem?_append_right (Nat.le_refl _), Nat.sub_self]
    rfl
  · unfold rowAt
    rw [← hl, List.append_assoc, List.append_assoc, show R.length + 1 = (R ++ [k]).length by simp, ← List.append_assoc R [k], List.drop_left, ← hf, List.take_left]
theorem roll_back (rows : List Int) (size : Nat) (bpp : Int) (kinds : List Int) (n : Nat) (hb : 1 ≤ bpp) (hr : ∀ x ∈ rows, isB x) (hl : rows.length = n * size) : ∀ j, j ≤ n → unrR size bpp (rollM rows size bpp kinds n) j = aheadK rows size j
  | 0, _ => rfl
  | j + 1, h => by
    obtain ⟨h1, h2⟩ := roll_at rows size bpp kinds (show j < n by omega)
    have hrl : (rowK rows size j).length = size := by
      have := chunk_inK hl (show j < n by omega)
      unfold rowK
      rw [List.length_take, List.length_drop]
      omega
    have hu := unf_fil (takeK rows size bpp kinds j) bpp (rowK rows size j) (aheadK rows size j) hb (fun x hx => hr x (List.mem_of_mem_drop (List.mem_of_mem_take hx))) size (by omega)
    rw [hrl] at hu
    rw [unrR, h1, h2, roll_back rows size bpp kinds n hb hr hl j (by omega), hu, List.take_of_length_le (by omega)]
    rfl
theorem roll_all (rows : List Int) (size : Nat) (bpp : Int) (kinds : List Int) (n : Nat) (hb : 1 ≤ bpp) (hr : ∀ x ∈ rows, isB x) (hl : rows.length = n * size) : ∀ j, j ≤ n → unrO size bpp (rollM rows size bpp kinds n) j = rows.take (j * size)
  | 0, _ => by rw [Nat.zero_mul, List.take_zero]; rfl
  | j + 1, h => by
    rw [unrO, roll_all rows size bpp kinds n hb hr hl j (by omega), roll_back rows size bpp kinds n hb hr hl (j + 1) h, Nat.succ_mul, List.take_add]
    rfl
theorem takeK_bd (rows : List Int) (size : Nat) (bpp : Int) (kinds : List Int) (j : Nat) (h : -1 ≤ kinds.getD j 0 ∧ kinds.getD j 0 ≤ 4) : 0 ≤ takeK rows size bpp kinds j ∧ takeK rows size bpp kinds j ≤ 4 := by
  unfold takeK
  have := light_bd (rowK rows size j) (aheadK rows size j) bpp
  split <;> omega
/-- numbers of packed bits -/
theorem pk_bit (P : List Int) (hb : ∀ x ∈ P, isBit x) (i : Nat) (hi : i < P.length) : bitH (pkS true P) i = P.getD i 0 := by
  have hj : i / 8 < (P.length + 7) / 8 := by omega
  have e : (pkS true P).getD (i / 8) 0 = byS true P (i / 8) 8 := by
    unfold pkS
    rw [List.getD_eq_getElem?_getD, List.getElem?_map, List.getElem?_range hj]
    rfl
  unfold bitH
  rw [e]
  have hr : i % 8 < 8 := Nat.mod_lt _ (by omega)
  have hix : i = 8 * (i / 8) + i % 8 := by omega
  have g : ∀ n, isBit (P.getD (8 * (i / 8) + n) 0) := fun n => getD_bit hb _
  have e2 : P.getD i 0 = P.getD (8 * (i / 8) + i % 8) 0 := by rw [← hix]
  rw [e2]
  generalize i / 8 = q at *
  generalize i % 8 = r at *
  have b0 := g 0
  have b1 := g 1
  have b2 := g 2
  have b3 := g 3
  have b4 := g 4
  have b5 := g 5
  have b6 := g 6
  have b7 := g 7
  simp only [byS, shS, if_true]
  generalize hx0 : P.getD (8 * q + 0) 0 = x0 at *
  generalize hx1 : P.getD (8 * q + 1) 0 = x1 at *
  generalize hx2 : P.getD (8 * q + 2) 0 = x2 at *
  generalize hx3 : P.getD (8 * q + 3) 0 = x3 at *
  generalize hx4 : P.getD (8 * q + 4) 0 = x4 at *
  generalize hx5 : P.getD (8 * q + 5) 0 = x5 at *
  generalize hx6 : P.getD (8 * q + 6) 0 = x6 at *
  generalize hx7 : P.getD (8 * q + 7) 0 = x7 at *
  unfold isBit at b0 b1 b2 b3 b4 b5 b6 b7
  have c0 : 0 ≤ x0 ∧ x0 ≤ 1 := by omega
  have c1 : 0 ≤ x1 ∧ x1 ≤ 1 := by omega
  have c2 : 0 ≤ x2 ∧ x2 ≤ 1 := by omega
  have c3 : 0 ≤ x3 ∧ x3 ≤ 1 := by omega
  have c4 : 0 ≤ x4 ∧ x4 ≤ 1 := by omega
  have c5 : 0 ≤ x5 ∧ x5 ≤ 1 := by omega
  have c6 : 0 ≤ x6 ∧ x6 ≤ 1 := by omega
  have c7 : 0 ≤ x7 ∧ x7 ≤ 1 := by omega
  clear b0 b1 b2 b3 b4 b5 b6 b7 g e e2 hix
  have p0 : (2 : Int) ^ (7 - 0) = 128 := by decide
  have p1 : (2 : Int) ^ (7 - 1) = 64 := by decide
  have p2 : (2 : Int) ^ (7 - 2) = 32 := by decide
  have p3 : (2 : Int) ^ (7 - 3) = 16 := by decide
  have p4 : (2 : Int) ^ (7 - 4) = 8 := by decide
  have p5 : (2 : Int) ^ (7 - 5) = 4 := by decide
  have p6 : (2 : Int) ^ (7 - 6) = 2 := by decide
  have p7 : (2 : Int) ^ (7 - 7) = 1 := by decide
  simp only [p0, p1, p2, p3, p4, p5, p6, p7]
  have h8 : r = 0 ∨ r = 1 ∨ r = 2 ∨ r = 3 ∨ r = 4 ∨ r = 5 ∨ r = 6 ∨ r = 7 := by omega
  rcases h8 with rfl | rfl | rfl | rfl | rfl | rfl | rfl | rfl
  · rw [hx0, p0]; omega
  · rw [hx1, p1]; omega
  · rw [hx2, p2]; omega
  · rw [hx3, p3]; omega
  · rw [hx4, p4]; omega
  · rw [hx5, p5]; omega
  · rw [hx6, p6]; omega
  · rw [hx7, p7]; omega
theorem num_dig (L : List Int) (at_ d : Nat) (n : Int) (h0 : 0 ≤ n) (hlt : n < 2 ^ d) (h : ∀ i, i < d → L.getD (at_ + i) 0 = n / 2 ^ (d - 1 - i) % 2) : ∀ j, j ≤ d → numH L at_ j = n / 2 ^ (d - j)
  | 0, _ => by
    rw [Nat.sub_zero, Int.ediv_eq_zero_of_lt h0 hlt]
    rfl
  | j + 1, hj => by
    rw [numH, num_dig L at_ d n h0 hlt h j (by omega), h j (by omega), show d - j = (d - (j + 1)) + 1 by omega, show d - 1 - j = d - (j + 1) by omega, Int.pow_succ, ← Int.ediv_ediv_of_nonneg (Int.le_of_lt (Int.pow_pos (by omega)))]
    generalize n / 2 ^ (d - (j + 1)) = q
    omega
theorem nbH_at (d : Nat) : ∀ (l : List Int) (i : Nat) (h : i < l.length) (j : Nat), j < d → (nbH l d).getD (i * d + j) 0 = l[i] / 2 ^ (d - 1 - j) % 2
  | [], i, h, _, _ => by simp at h
  | x :: l, i, h, j, hj => by
    have e : nbH (x :: l) d = dgS true x d ++ nbH l d := by unfold nbH; rw [List.flatMap_cons]
    have hl := dgS_len true x d
    rw [e, List.getD_eq_getElem?_getD]
    cases i with
    | zero =>
      rw [Nat.zero_mul, Nat.zero_add, List.getElem?_append_left (by omega)]
      unfold dgS
      rw [List.getElem?_map, List.getElem?_range hj]
      rfl
    | succ i =>
      have ih := nbH_at d l i (by simpa using h) j hj
      rw [List.getD_eq_getElem?_getD] at ih
      rw [List.getElem?_append_right (by rw [Nat.succ_mul]; omega), hl, show (i + 1) * d + j - d = i * d + j by rw [Nat.succ_mul]; omega, ih]
      rfl
theorem unpM_pack (l : List Int) (d : Nat) (hr : ∀ x ∈ l, 0 ≤ x ∧ x < 2 ^ d) : unpM (packB l d) d l.length = l := by
  have hP : ∀ x ∈ padZ (nbH l d), isBit x := fun x hx => by
    unfold padZ at hx
    rcases List.mem_append.1 hx with hx | hx
    · unfold nbH at hx
      obtain ⟨n, _, hx⟩ := List.mem_flatMap.1 hx
      exact dgS_bit true n d x hx
    · rw [List.eq_of_mem_replicate hx]; exact .inl rfl
  have hlen := padZ_len (nbH l d)
  have hnb := nbH_len l d
  refine List.ext_getElem (unpM_len _ _ _) fun i h1 h2 => ?_
  have e : (unpM (packB l d) d l.length)[i] = numH (bitsH (packB l d)) (i * d) d := by simp [unpM]
  rw [e]
  obtain ⟨q1, q2⟩ := hr _ (List.getElem_mem h2)
  have hbd : i * d + d ≤ l.length * d := by rw [← Nat.succ_mul]; exact Nat.mul_le_mul_right d h2
  rw [num_dig _ (i * d) d l[i] q1 q2 (fun j hj => ?_) d (Nat.le_refl d), Nat.sub_self, Int.pow_zero, Int.ediv_one]
  have hlt : i * d + j < (nbH l d).length := by omega
  rw [bitsH_at _ _ (by unfold packB; rw [pkS_len]; omega)]
  unfold packB
  rw [pk_bit _ hP _ (by omega), ← nbH_at d l i h2 j hj, List.getD_eq_getElem?_getD, List.getD_eq_getElem?_getD]
  unfold padZ
  rw [List.getElem?_append_left hlt]
/-- parts of a list put together part by part -/
theorem chunk_split (F g : Nat → List Int) (x : Nat) : ∀ N, (∀ n, n < N → F (n + 1) = F n ++ g n) → x < N → ∃ t, F N = F x ++ (g x ++ t)
  | 0, _, h => by omega
  | N + 1, hF, h => by
    rcases Nat.lt_or_ge x N with h1 | h1
    · obtain ⟨t, ht⟩ := chunk_split F g x N (fun n hn => hF n (by omega)) h1
      exact ⟨t ++ g N, by rw [hF N (by omega), ht, List.append_assoc, List.append_assoc]⟩
    · exact ⟨[], by rw [show x = N by omega, hF N (by omega), List.append_nil]⟩
theorem chunk_get {L A B : List Int} {a b : Nat} (h : ∃ t, L = A ++ (B ++ t)) (ha : A.length = a) (hb : B.length = b) : (L.drop a).take b = B := by
  obtain ⟨t, rfl⟩ := h
  rw [← ha, List.drop_left, ← hb, List.take_left]
theorem seg_outP (f : Fm) (px : List Px) (pl : List Int) (kind : Int) {k n : Nat} (h : k < n) : segB f (outP f px pl kind n) k = segP f px pl kind k :=
  chunk_get (chunk_split (outP f px pl kind) (segP f px pl kind) k n (fun _ _ => rfl) h) (outP_len f px pl kind k) (segP_len f px pl kind k)
theorem rows_outP {f : Fm} {px : List Px} {pl : List Int} {kind : Int} (hf : formOk f = true) {k n N : Nat} (h : k < n) (hn : n ≤ passN f) (hok : numdP f px pl N) (hN : pixI f k + rowsI f k * colsI f k ≤ N) : rowsB f (outP f px pl kind n) k = rowsP f px pl k (rowsI f k) := by
  have hl := rowsP_len hf (show k < passN f by omega) hok _ hN
  unfold rowsB
  rw [seg_outP f px pl kind h]
  unfold segP
  rw [roll_all _ _ _ _ _ (whM_bd f.d f.c (headErr_deep (formOk_parts hf).1).1).1 (rowsP_B f px pl k _) hl _ (Nat.le_refl _), List.take_of_length_le (by omega)]
theorem kinds_outP {f : Fm} {px : List Px} {pl : List Int} {kind : Int} (hk1 : -1 ≤ kind) (hk2 : kind ≤ 4) {k n : Nat} (h : k < n) : kindsB (rowI f k) (segB f (outP f px pl kind n) k) (rowsI f k) = true := by
  rw [kindsB_iff, seg_outP f px pl kind h]
  intro j hj
  unfold segP
  rw [(roll_at _ _ _ _ hj).1]
  refine (takeK_bd _ _ _ _ _ ?_).2
  rw [List.getD_eq_getElem?_getD, List.getElem?_replicate, if_pos hj]
  exact ⟨hk1, hk2⟩
theorem nlP_at {f : Fm} {px : List Px} {pl : List Int} (hf : formOk f = true) {n : Nat} (hok : numdP f px pl n) {s x m : Nat} (hx : x < m) (hm : s + m ≤ n) {l : List Int} (hl : nmP f px pl (s + x) = some l) : ((nlP f px pl s m).drop (x * manyI f)).take (manyI f) = l := by
  have h := chunk_split (nlP f px pl s) (fun x => (nmP f px pl (s + x)).getD []) x m (fun _ _ => rfl) hx
  rw [hl, Option.getD_some] at h
  exact chunk_get h (nlP_len hf hok s x (by omega)) (nums_len hf hl)
theorem pix_outP {f : Fm} {px : List Px} {pl : List Int} {kind : Int} (hf : formOk f = true) {k n N : Nat} (h : k < n) (hn : n ≤ passN f) (hok : numdP f px pl N) (hN : pixI f k + rowsI f k * colsI f k ≤ N) {y x : Nat} (hy : y < rowsI f k) (hx : x < colsI f k) :
    pixB f (outP f px pl kind n) k y x = some (gth px pl (pixI f k + (y * colsI f k + x))) := by
  have hbd : y * colsI f k + colsI f k ≤ rowsI f k * colsI f k := by rw [← Nat.succ_mul]; exact Nat.mul_le_mul_right _ hy
  have hk : k < passN f := by omega
  have e1 : lineB f (outP f px pl kind n) k y = rowP f px pl k y := by
    unfold lineB
    rw [rows_outP hf h hn hok hN]
    exact chunk_get (chunk_split (rowsP f px pl k) (rowP f px pl k) y _ (fun _ _ => rfl) hy) (rowsP_len hf hk hok y (by omega)) (rowP_len hf hk hok (by omega))
  have hl := nlP_len hf hok (pixI f k + y * colsI f k) (colsI f k) (by omega)
  have e2 : numsB f (outP f px pl kind n) k y = nlP f px pl (pixI f k + y * colsI f k) (colsI f k) := by
    unfold numsB
    rw [e1]
    unfold rowP
    rw [← hl, unpM_pack _ _ (nlP_range hf _ _)]
  unfold pixB
  rw [e2]
  have hs := hok (pixI f k + y * colsI f k + x) (by omega)
  cases hq : nmP f px pl (pixI f k + y * colsI f k + x) with
  | none => rw [hq] at hs; cases hs
  | some l =>
    rw [nlP_at hf hok hx (by omega) hq, ← Nat.add_assoc]
    exact nums_back hq
theorem rows_all {f : Fm} {px : List Px} {pl : List Int} {kind : Int} (hf : formOk f = true) {k n N : Nat} (h : k < n) (hn : n ≤ passN f) (hok : numdP f px pl N) (hN : pixI f k + rowsI f k * colsI f k ≤ N) : ∀ y, y ≤ rowsI f k →
    rowsO f (outP f px pl kind n) k y = (List.range (y * colsI f k)).map fun i => some (gth px pl (pixI f k + i))
  | 0, _ => by rw [Nat.zero_mul]; rfl
  | y + 1, hy => by
    rw [rowsO_snoc, rows_all hf h hn hok hN y (by omega), Nat.succ_mul, List.range_add, List.map_append, List.map_map]
    refine congrArg _ ?_
    unfold lineO
    refine List.map_congr_left fun x hx => ?_
    rw [pix_outP hf h hn hok hN (show y < rowsI f k by omega) (List.mem_range.1 hx)]
    rfl
theorem all_outP {f : Fm} {px : List Px} {pl : List Int} {kind : Int} (hf : formOk f = true) (hk1 : -1 ≤ kind) (hk2 : kind ≤ 4) {n N : Nat} (hn : n ≤ passN f) (hok : numdP f px pl N) (hN : pixI f n ≤ N) : ∀ k, k ≤ n →
    allO f (outP f px pl kind n) k = (List.range (pixI f k)).map fun i => some (gth px pl i)
  | 0, _ => rfl
  | k + 1, hk => by
    have hm := pixI_mono f (j := k + 1) n (by omega)
    rw [pixI] at hm
    rw [allO, all_outP hf hk1 hk2 hn hok hN k (by omega), pixI, List.range_add, List.map_append, List.map_map]
    refine congrArg _ ?_
    unfold passO
    rw [if_pos (kinds_outP hk1 hk2 (by omega)), rows_all hf (by omega) hn hok (by omega) _ (Nat.le_refl _)]
    rfl
/-- what is packed is unpacked -/
theorem unp_pack {f : Fm} {px : List Px} {kind : Int} {b : List Int} (hf : formOk f = true) (hk1 : -1 ≤ kind) (hk2 : kind ≤ 4) (hl : (px.length : Int) = f.w * f.h) (h : packM f px kind = some b) : unpR f b = some px := by
  obtain ⟨w1, w2, h1, h2, hwh, l1, l2⟩ := headErr_bnd (formOk_parts hf).1
  unfold packM at h
  split at h
  · rename_i hok
    injection h with h
    subst h
    have hp := pixI_all f (formOk_parts hf).1
    have e : px.length = f.w.toNat * f.h.toNat := by
      have : ((f.w.toNat * f.h.toNat : Nat) : Int) = f.w * f.h := by rw [Int.natCast_mul, Int.toNat_of_nonneg (by omega), Int.toNat_of_nonneg (by omega)]
      omega
    rw [unpR_some (Q := (List.range (spreadM f.l f.w.toNat f.h.toNat).length).map (gth px (spreadM f.l f.w.toNat f.h.toNat))) (by
      rw [all_outP hf hk1 hk2 (Nat.le_refl _) hok (by omega) _ (Nat.le_refl _), hp, List.map_map]; rfl), show (f.w * f.h).toNat = px.length by omega]
    refine congrArg some (put_gth px _ (fun v hv => ?_) (fun v hv => ?_))
    · have := spread_in hv
      rw [e]
      exact this
    · exact spread_all f.l f.w.toNat f.h.toNat v (by omega)
  · cases h
theorem pack_len {f : Fm} {px : List Px} {kind : Int} {b : List Int} (hf : formOk f = true) (h : packM f px kind = some b) : (b.length : Int) = dataM f.w f.h f.d f.c f.l := by
  unfold packM at h
  split at h
  · injection h with h
    subst h
    rw [outP_len, offI_all f (formOk_parts hf).1]
  · cases h
theorem outP_B (f : Fm) (px : List Px) (pl : List Int) (kind : Int) (hk1 : -1 ≤ kind) (hk2 : kind ≤ 4) : ∀ k, ∀ x ∈ outP f px pl kind k, isB x
  | 0, x, hx => by cases hx
  | k + 1, x, hx => by
    rw [outP] at hx
    rcases List.mem_append.1 hx with hx | hx
    · exact outP_B f px pl kind hk1 hk2 k x hx
    · unfold segP at hx
      revert hx
      suffices hs : ∀ n, n ≤ rowsI f k → ∀ x ∈ rollM (rowsP f px pl k (rowsI f k)) (rowI f k) (whM f.d f.c) (List.replicate (rowsI f k) kind) n, isB x from hs _ (Nat.le_refl _) x
      intro n
      induction n with
      | zero => intro _ x hx; cases hx
      | succ n ih =>
        intro hn x hx
        rw [rollM] at hx
        rcases List.mem_append.1 hx with hx | hx
        · rcases List.mem_append.1 hx with hx | hx
          · exact ih (by omega) x hx
          · rw [List.mem_singleton.1 hx]
            have := takeK_bd (rowsP f px pl k (rowsI f k)) (rowI f k) (whM f.d f.c) (List.replicate (rowsI f k) kind) n (by
              rw [List.getD_eq_getElem?_getD, List.getElem?_replicate, if_pos (show n < rowsI f k by omega)]
              exact ⟨hk1, hk2⟩)
            unfold isB
            omega
        · exact filN_isB _ _ _ _ _ x hx
theorem packM_B {f : Fm} {px : List Px} {kind : Int} {b : List Int} (hk1 : -1 ≤ kind) (hk2 : kind ≤ 4) (h : packM f px kind = some b) : ∀ x ∈ b, isB x := by
  unfold packM at h
  split at h
  · injection h with h
    subst h
    exact outP_B _ _ _ _ hk1 hk2 _
  · cases h
end Go.Proofs.Ytphhoihhmphbdaa
