/-
  No form that holds a raster is smaller than the best of the least ones. Plain: no walk.
-/
import Derived.Test.YtchkogfgkaaogaaBestB
import Derived.Test.YtchkogfgkaaogaaShPl
namespace Go.Proofs.Ytchkogfgkaaogaa
open Go.RowKit Go.Shelf

theorem mem_unl (l : List Px) : ∀ p : Px, p ∈ unl l ↔ p ∈ l := by
  have h : ∀ (l acc : List Px) (p : Px), p ∈ l.foldl unlStep acc ↔ p ∈ acc ∨ p ∈ l := by
    intro l
    induction l with
    | nil => intro acc p; simp
    | cons a l ih =>
      intro acc p
      rw [List.foldl_cons, ih]
      unfold unlStep
      split
      · rename_i ha
        constructor
        · rintro (h | h)
          · exact .inl h
          · exact .inr (List.mem_cons_of_mem _ h)
        · rintro (h | h)
          · exact .inl h
          · rcases List.mem_cons.1 h with rfl | h
            · exact .inl ha
            · exact .inr h
      · simp [or_assoc]
  intro p
  rw [unl, h]
  simp
theorem nodup_unl (l : List Px) : (unl l).Nodup := by
  have h : ∀ (l acc : List Px), acc.Nodup → (l.foldl unlStep acc).Nodup := by
    intro l
    induction l with
    | nil => intro acc h; exact h
    | cons a l ih =>
      intro acc h
      rw [List.foldl_cons]
      refine ih _ ?_
      unfold unlStep
      split
      · exact h
      · rename_i ha
        rw [List.nodup_append]
        refine ⟨h, by simp, fun x hx y hy => ?_⟩
        rw [List.mem_singleton.1 hy]
        rintro rfl
        exact ha hx
  exact h l [] (by simp)
theorem sub_len : ∀ (l m : List Px), l.Nodup → (∀ p ∈ l, p ∈ m) → l.length ≤ m.length
  | [], m, _, _ => by simp
  | a :: l, m, hn, hs => by
    have ha := hs a (by simp)
    have hn2 := List.nodup_cons.1 hn
    have h1 := sub_len l (m.erase a) hn2.2 (fun p hp => by
      refine (List.mem_erase_of_ne ?_).2 (hs p (List.mem_cons_of_mem _ hp))
      rintro rfl
      exact hn2.1 hp)
    rw [List.length_erase_of_mem ha] at h1
    have : 0 < m.length := List.length_pos_of_mem ha
    simp only [List.length_cons]
    omega
theorem fits_unl (f : Fm) (l : List Px) : fitsB f (unl l) = fitsB f l := by
  unfold fitsB
  congr 1
  rw [Bool.eq_iff_iff, List.all_eq_true, List.all_eq_true]
  constructor
  · intro h p hp
    exact h p ((mem_unl l p).2 hp)
  · intro h p hp
    exact h p ((mem_unl l p).1 hp)
/-- the first depth that fits is no greater than one that fits -/
theorem try_le {mk : Fm → Fm} {x y c lc d : Int} {l : List Px} : ∀ ds : List Int, ds.Pairwise (· ≤ ·) → d ∈ ds → fitsB (mk (bare x y d c lc)) l = true →
    ∃ d', d' ∈ ds ∧ d' ≤ d ∧ tryM mk x y c lc l ds = some (mk (bare x y d' c lc)) ∧ fitsB (mk (bare x y d' c lc)) l = true
  | [], _, h, _ => by cases h
  | e :: ds, hp, h, hf => by
    obtain ⟨h1, h2⟩ := List.pairwise_cons.1 hp
    by_cases he : fitsB (mk (bare x y e c lc)) l = true
    · refine ⟨e, by simp, ?_, by unfold tryM; rw [if_pos he], he⟩
      rcases List.mem_cons.1 h with rfl | h
      · exact Int.le_refl _
      · exact h1 d h
    · rcases List.mem_cons.1 h with rfl | h
      · exact absurd hf he
      · obtain ⟨d', a, b, c', d''⟩ := try_le ds h2 h hf
        exact ⟨d', List.mem_cons_of_mem _ a, b, by unfold tryM; rw [if_neg he]; exact c', d''⟩
theorem deps_pair (c : Int) : (depthsM c).Pairwise (· ≤ ·) := by
  unfold depthsM
  split
  · decide
  · split <;> decide
theorem dl_deps {c d : Int} (h : d ∈ dl c) : d ∈ depthsM c := by
  unfold dl at h
  unfold depthsM
  split at h
  · rename_i h0; rw [if_pos h0]; exact h
  · rename_i h0
    rw [if_neg h0]
    split at h
    · rename_i h3; rw [if_pos h3]; exact h
    · rename_i h3
      rw [if_neg h3]
      split at h
      · exact h
      · cases h
theorem head_dl {w h d c l : Int} (hh : headErr w h d c l = 0) : d ∈ dl c := by
  unfold headErr at hh
  split at hh
  · cases hh
  · rename_i hn
    exact Decidable.of_not_not (fun h => hn (.inr (.inr (.inl h))))
theorem psum_mono (w h d d' c l : Int) (hr : ∀ v, rowM w h d' c l v ≤ rowM w h d c l v) : ∀ (n : Nat) (xs : List (Nat × Int × Int)), xs.length = n → (∀ x ∈ xs, 0 ≤ x.2.2) → psum w h d' c l xs ≤ psum w h d c l xs
  | 0, xs, h0, _ => by rw [List.eq_nil_of_length_eq_zero h0]; exact Int.le_refl _
  | n + 1, xs, h0, hx => by
    rcases List.eq_nil_or_concat xs with rfl | ⟨pre, x, rfl⟩
    · simp at h0
    · rw [List.concat_eq_append] at *
      have hl : pre.length = n := by simpa using h0
      have ih := psum_mono w h d d' c l hr n pre hl (fun y hy => hx y (List.mem_append_left _ hy))
      have x1 := hx x (by simp)
      rw [psum_snoc, psum_snoc]
      have := Int.mul_le_mul_of_nonneg_left (show 1 + rowM w h d' c l x.2.1 ≤ 1 + rowM w h d c l x.2.1 by have := hr x.2.1; omega) x1
      omega
theorem data_mono {w h d d' c l : Int} (h1 : headErr w h d c l = 0) (h2 : headErr w h d' c l = 0) (hd : d' ≤ d) : dataM w h d' c l ≤ dataM w h d c l := by
  obtain ⟨b1, b2, b3, b4, _⟩ := headErr_bnd h1
  rw [(dataM_eq h1).1, (dataM_eq h2).1]
  refine psum_mono w h d d' c l (fun v => ?_) _ _ rfl (fun x hx => (passes_in w h l b1 b2 b3 b4 x hx).1)
  unfold rowM
  by_cases hv : 1 ≤ v ∧ v ≤ 65535
  · rw [if_pos ⟨h2, hv⟩, if_pos ⟨h1, hv⟩]
    have hc := chan_bd c
    have : v * chan c * d' ≤ v * chan c * d := Int.mul_le_mul_of_nonneg_left hd (Int.mul_nonneg (by omega) hc.1)
    omega
  · rw [if_neg (fun hh => hv hh.2), if_neg (fun hh => hv hh.2)]
    exact Int.le_refl _
/-- the best is the least -/
theorem bestM_le (f0 : Fm) : ∀ (n : Nat) (fs : List Fm), fs.length = n → sizeM (bestM f0 fs) ≤ sizeM f0 ∧ ∀ g ∈ fs, sizeM (bestM f0 fs) ≤ sizeM g
  | 0, fs, h => by rw [List.eq_nil_of_length_eq_zero h]; exact ⟨Int.le_refl _, by simp⟩
  | n + 1, fs, h => by
    rcases List.eq_nil_or_concat fs with rfl | ⟨pre, x, rfl⟩
    · simp at h
    · rw [List.concat_eq_append] at *
      obtain ⟨i1, i2⟩ := bestM_le f0 n pre (by simpa using h)
      rw [bestM_snoc]
      by_cases hs : sizeM x < sizeM (bestM f0 pre)
      · rw [if_pos hs]
        refine ⟨by omega, fun g hg => ?_⟩
        rcases List.mem_append.1 hg with hg | hg
        · have := i2 g hg; omega
        · rw [List.mem_singleton.1 hg]; exact Int.le_refl _
      · rw [if_neg hs]
        refine ⟨i1, fun g hg => ?_⟩
        rcases List.mem_append.1 hg with hg | hg
        · exact i2 g hg
        · rw [List.mem_singleton.1 hg]; omega
theorem bestOf_le {fs : List Fm} {g : Fm} (hg : g ∈ fs) : sizeM (bestOf fs) ≤ sizeM g := by
  cases fs with
  | nil => cases hg
  | cons f fs =>
    obtain ⟨h1, h2⟩ := bestM_le f fs.length fs rfl
    rcases List.mem_cons.1 hg with rfl | hg
    · exact h1
    · exact h2 g hg
theorem addM_old {r : Option Fm} {fs : List Fm} {g : Fm} (h : g ∈ fs) : g ∈ addM r fs := by
  unfold addM
  split
  · exact List.mem_append_left _ h
  · exact h
theorem addM_new {fs : List Fm} {g : Fm} : g ∈ addM (some g) fs := by simp [addM]
theorem plain_keep (x y lc : Int) (l : List Px) {g : Fm} : ∀ (cs : List Int) (fs : List Fm), g ∈ fs → g ∈ plainM x y lc l cs fs
  | [], _, h => h
  | _ :: cs, _, h => plain_keep x y lc l cs _ (addM_old h)
theorem plain_mem (x y lc : Int) (l : List Px) {g : Fm} {c : Int} (hg : leastM idF x y c lc l = some g) : ∀ (cs : List Int) (fs : List Fm), c ∈ cs → g ∈ plainM x y lc l cs fs
  | [], _, h => by cases h
  | e :: cs, fs, h => by
    rcases List.mem_cons.1 h with rfl | h
    · show g ∈ plainM x y lc l cs (addM (leastM idF x y c lc l) fs)
      rw [hg]
      exact plain_keep x y lc l cs _ addM_new
    · exact plain_mem x y lc l hg cs _ h
theorem forms_plain {x y lc : Int} {px : List Px} {g : Fm} (h : g ∈ plainM x y lc (unl px) [0, 2, 4, 6] []) : g ∈ formsM x y lc px := by
  have h2 : g ∈ keyedM x y lc (unl px) (plainM x y lc (unl px) [0, 2, 4, 6] []) := by
    unfold keyedM
    split
    · exact addM_old (addM_old h)
    · exact h
  unfold formsM paledM
  split
  · exact addM_old h2
  · exact h2
/-- a bare form that fits: there is one as small among the least -/
theorem bare_least {x y d c lc : Int} {px : List Px} (hc : c ∈ [0, 2, 4, 6]) (hf : fitsB (bare x y d c lc) (unl px) = true) : ∃ g ∈ formsM x y lc px, sizeM g ≤ dataM x y d c lc := by
  have hh := (form_parts (fits_ok hf)).1
  obtain ⟨d', _, hle, ht, hf'⟩ := try_le (mk := idF) (depthsM c) (deps_pair c) (dl_deps (head_dl hh)) hf
  refine ⟨bare x y d' c lc, forms_plain (plain_mem x y lc (unl px) ht _ _ hc), ?_⟩
  have hk := fits_ok hf'
  have e : sizeM (bare x y d' c lc) = rsize (bare x y d' c lc) := rsize_eq hk
  have e2 : rsize (bare x y d' c lc) = dataM x y d' c lc := by
    unfold rsize
    have : ¬ c = 3 := by
      simp only [List.mem_cons, List.not_mem_nil, or_false] at hc
      omega
    show dataM x y d' c lc + (if c = 3 then _ else 0) + (if 0 < ([] : List Int).length then _ else 0) = _
    rw [if_neg this, if_neg (by simp)]
    omega
  rw [e, e2]
  exact data_mono hh (form_parts hk).1 hle
theorem pxOf_3 {c d : Int} {n : List Int} (hc : c = 0 ∨ c = 2) : (pxOf c d n).2.2.2 = 65535 := by
  unfold pxOf
  simp only
  rw [if_neg (by omega), if_neg (by omega)]
theorem wide_3 {c : Int} (hc : c = 0 ∨ c = 2) (a b e f g : Int) : wideOf c (a, b, e, f) = wideOf c (a, b, e, g) := by
  rcases hc with rfl | rfl <;> rfl
/-- what a pixel's numbers say of it, in a form with a key -/
theorem nums_key {f : Fm} {p : Px} {n : List Int} (hc : f.c = 0 ∨ f.c = 2) (h : numsOf f p = some n) :
    (wideOf f.c p).all (fun x => narrowOk x f.d) = true ∧ n = (wideOf f.c p).map (· / stp f.d) ∧ (n.length : Int) = chan f.c ∧ n.all (keyB f.d) = true ∧ p = clear (pxOf f.c f.d n) (decide (f.key ≠ [] ∧ f.key = n)) := by
  have hb := nums_back h
  unfold numsOf at h
  rw [if_neg (by omega)] at h
  split at h
  · rename_i ha
    split at h
    · injection h with h
      unfold pixOf at hb
      split at hb
      · cases hb
      · rename_i hl
        rw [if_neg (by omega)] at hb
        split at hb
        · rename_i hk
          injection hb with hb
          exact ⟨ha, h.symm, Decidable.of_not_not hl, hk, hb.symm⟩
        · cases hb
    · cases h
  · cases h
/-- and back -/
theorem key_nums {f : Fm} {p : Px} (hc : f.c = 0 ∨ f.c = 2) (h1 : (wideOf f.c p).all (fun x => narrowOk x f.d) = true) (h2 : (((wideOf f.c p).map (· / stp f.d)).length : Int) = chan f.c) (h3 : ((wideOf f.c p).map (· / stp f.d)).all (keyB f.d) = true)
    (h4 : p = clear (pxOf f.c f.d ((wideOf f.c p).map (· / stp f.d))) (decide (f.key ≠ [] ∧ f.key = (wideOf f.c p).map (· / stp f.d)))) : numsOf f p = some ((wideOf f.c p).map (· / stp f.d)) := by
  unfold numsOf
  rw [if_neg (by omega), if_pos h1, if_pos]
  unfold pixOf
  rw [if_neg (fun hh => hh h2), if_neg (by omega), if_pos h3, ← h4]
theorem bare_nums {w h d c l : Int} {p : Px} (hc : c = 0 ∨ c = 2) (h1 : (wideOf c p).all (fun x => narrowOk x d) = true) (h2 : (((wideOf c p).map (· / stp d)).length : Int) = chan c) (h3 : ((wideOf c p).map (· / stp d)).all (keyB d) = true)
    (h4 : p = pxOf c d ((wideOf c p).map (· / stp d))) : numsOf (bare w h d c l) p = some ((wideOf c p).map (· / stp d)) := by
  have h5 : ∀ b : Bool, b = false → p = clear (pxOf c d ((wideOf c p).map (· / stp d))) b := fun b hb => by subst hb; exact h4
  exact key_nums (f := bare w h d c l) hc h1 h2 h3 (h5 _ (decide_eq_false (fun hh => hh.1 rfl)))
theorem ok_bare {f : Fm} (h : formOk f = true) (hc : f.c ≠ 3) : formOk (bare f.w f.h f.d f.c f.l) = true := by
  obtain ⟨hh, _, _, _⟩ := form_parts h
  unfold formOk palB keysB
  show (decide (headErr f.w f.h f.d f.c f.l = 0) && (if f.c = 3 then _ else decide (([] : List Px).length = 0)) && ([] : List Px).all pxOk && (decide (([] : List Int).length = 0) || _)) = true
  rw [decide_eq_true hh, if_neg hc]
  simp
/-- without clear pixels a key is of no use -/
theorem key_bare {f : Fm} {l : List Px} (hc : f.c = 0 ∨ f.c = 2) (hf : fitsB f l = true) (hn : ∀ p ∈ l, p.2.2.2 ≠ 0) : fitsB (bare f.w f.h f.d f.c f.l) l = true := by
  have hok := fits_ok hf
  unfold fitsB at hf ⊢
  rw [Bool.and_eq_true, List.all_eq_true] at hf ⊢
  have hb := ok_bare hok (by omega)
  refine ⟨fun p hp => ?_, hb⟩
  have h1 := hf.1 p hp
  unfold fnumsOf at h1 ⊢
  rw [if_pos hok] at h1
  rw [if_pos hb]
  cases hq : numsOf f p with
  | none => rw [hq] at h1; cases h1
  | some n =>
    obtain ⟨a1, a2, a3, a4, a5⟩ := nums_key hc hq
    have a6 : p = pxOf f.c f.d n := by
      unfold clear at a5
      split at a5
      · have := hn p hp
        rw [a5] at this
        exact absurd rfl this
      · exact a5
    have := bare_nums (w := f.w) (h := f.h) (l := f.l) (p := p) hc a1 (by rw [← a2]; exact a3) (by rw [← a2]; exact a4) (by rw [← a2]; exact a6)
    rw [this]
    rfl
theorem mkKey_eq {f : Fm} {p : Px} {n : List Int} (hok : formOk f = true) (hc : f.c = 0 ∨ f.c = 2) (hp : p.2.2.2 = 0) (hq : numsOf f p = some n) : mkKey p (bare f.w f.h f.d f.c f.l) = f := by
  obtain ⟨a1, a2, a3, a4, a5⟩ := nums_key hc hq
  obtain ⟨p0, p1, p2, p3⟩ := p
  simp only at hp
  subst hp
  have hkey : f.key = n ∧ (p0, p1, p2, (65535 : Int)) = pxOf f.c f.d n := by
    unfold clear at a5
    have h3 := pxOf_3 (d := f.d) (n := n) hc
    split at a5
    · rename_i hd
      rw [decide_eq_true_eq] at hd
      refine ⟨hd.2, ?_⟩
      generalize pxOf f.c f.d n = q at *
      obtain ⟨q0, q1, q2, q3⟩ := q
      simp only [Prod.mk.injEq] at a5 h3 ⊢
      omega
    · rw [← a5] at h3
      cases h3
  have hw : wideOf f.c (p0, p1, p2, (65535 : Int)) = wideOf f.c (p0, p1, p2, (0 : Int)) := wide_3 hc _ _ _ _ _
  have hb := ok_bare hok (by omega)
  have hn2 : numsOf (bare f.w f.h f.d f.c f.l) (p0, p1, p2, (65535 : Int)) = some ((wideOf f.c (p0, p1, p2, (65535 : Int))).map (· / stp f.d)) :=
    bare_nums hc (by rw [hw]; exact a1) (by rw [hw, ← a2]; exact a3) (by rw [hw, ← a2]; exact a4) (by rw [hw, ← a2]; exact hkey.2)
  have hpal : f.pal = [] := by
    have := (form_parts hok).2.1
    unfold palB at this
    rw [if_neg (by omega), decide_eq_true_eq] at this
    exact List.eq_nil_of_length_eq_zero this
  unfold mkKey keyOf' fnumsOf
  rw [if_pos hb, hn2]
  show Fm.mk f.w f.h f.d f.c f.l [] ((wideOf f.c (p0, p1, p2, (65535 : Int))).map (· / stp f.d)) = f
  rw [hw, ← a2, ← hkey.1]
  conv => rhs; rw [show f = Fm.mk f.w f.h f.d f.c f.l f.pal f.key from rfl, hpal]
theorem lastM_clear : ∀ (n : Nat) (l : List Px), l.length = n → (clearL l).length ≤ lastM l
  | 0, l, h => by rw [List.eq_nil_of_length_eq_zero h]; exact Nat.le_refl _
  | n + 1, l, h => by
    rcases List.eq_nil_or_concat l with rfl | ⟨pre, x, rfl⟩
    · simp at h
    · rw [List.concat_eq_append] at *
      have ih := lastM_clear n pre (by simpa using h)
      have hcl := clear_len pre
      rw [lastM_snoc]
      unfold clearL at *
      rw [List.filter_append, List.length_append]
      by_cases hx : x.2.2.2 = 65535
      · rw [if_pos hx]; simp [hx]; simpa using ih
      · rw [if_neg hx]; simp [hx]; simpa using hcl
theorem lastM_rest (a : List Px) : ∀ (n : Nat) (b : List Px), b.length = n → (∀ p ∈ b, p.2.2.2 = 65535) → lastM (a ++ b) = lastM a
  | 0, b, h, _ => by rw [List.eq_nil_of_length_eq_zero h, List.append_nil]
  | n + 1, b, h, hb => by
    rcases List.eq_nil_or_concat b with rfl | ⟨pre, x, rfl⟩
    · simp at h
    · rw [List.concat_eq_append] at *
      have ih := lastM_rest a n pre (by simpa using h) (fun p hp => hb p (List.mem_append_left _ hp))
      rw [← List.append_assoc, lastM_snoc, if_pos (hb x (by simp)), ih]
theorem lastM_pal (l : List Px) : lastM (palM l) ≤ (clearL l).length := by
  unfold palM
  rw [lastM_rest (clearL l) _ (restL l) rfl (fun p hp => by unfold restL at hp; simpa using (List.mem_filter.1 hp).2)]
  exact lastM_le _
theorem palM_mem {l : List Px} {p : Px} : p ∈ palM l ↔ p ∈ l := by
  unfold palM clearL restL
  rw [List.mem_append, List.mem_filter, List.mem_filter]
  by_cases h : p.2.2.2 = 65535 <;> simp [h]
theorem findIdx_mem {l : List Px} {p : Px} : l.findIdx (· == p) < l.length ↔ p ∈ l := by
  rw [List.findIdx_lt_length]
  constructor
  · rintro ⟨x, hx, h⟩
    exact eq_of_beq h ▸ hx
  · intro h
    exact ⟨p, h, by simp⟩
theorem lnums_pal {f : Fm} {p : Px} (hc : f.c = 3) : (numsOf f p).isSome = true ↔ p ∈ f.pal := by
  unfold numsOf
  rw [if_pos hc]
  by_cases h : f.pal.findIdx (· == p) < f.pal.length
  · rw [if_pos h]
    exact ⟨fun _ => findIdx_mem.1 h, fun _ => rfl⟩
  · rw [if_neg h]
    exact ⟨fun hh => absurd hh (by simp), fun hh => absurd (findIdx_mem.2 hh) h⟩
theorem formOk_mk {g : Fm} (h1 : headErr g.w g.h g.d g.c g.l = 0) (h2 : palB g = true) (h3 : ∀ p ∈ g.pal, pxOk p = true) (h4 : keysB g = true) : formOk g = true := by
  unfold formOk
  rw [decide_eq_true h1, h2, h4, List.all_eq_true.2 h3]
  rfl
theorem rsize_pal {g : Fm} (h : g.c = 3) (hk : g.key = []) : rsize g = dataM g.w g.h g.d g.c g.l + (12 + 3 * (g.pal.length : Int) + (if 0 < lastM g.pal then 12 + (lastM g.pal : Int) else 0)) := by
  have hk0 : ¬ 0 < g.key.length := by rw [hk]; simp
  unfold rsize
  rw [if_pos h, if_neg hk0]
  omega
theorem rsize_col {g : Fm} (h : g.c ≠ 3) : rsize g = dataM g.w g.h g.d g.c g.l + (if 0 < g.key.length then 12 + 2 * (g.key.length : Int) else 0) := by
  unfold rsize
  rw [if_neg h]
  omega
theorem clear_nodup {l : List Px} (h : l.Nodup) : (clearL l).Nodup := h.filter _
theorem least_of {x y : Int} {px : List Px} {f : Fm} (hpx : 0 < px.length) (hw : f.w = x) (hh : f.h = y) (hf : fitsB f px = true) : ∃ g ∈ formsM x y f.l px, sizeM g ≤ sizeM f := by
  subst hw hh
  rw [← fits_unl] at hf
  have hok := fits_ok hf
  obtain ⟨he, hpb, hpo, hkb⟩ := form_parts hok
  obtain ⟨hd, h16, hch⟩ := headErr_deep he
  rw [rsize_eq hok]
  have hcs : f.c = 0 ∨ f.c = 2 ∨ f.c = 3 ∨ f.c = 4 ∨ f.c = 6 := by
    unfold chan at hch
    split at hch
    · omega
    · split at hch
      · omega
      · split at hch
        · omega
        · split at hch
          · omega
          · omega
  by_cases h3 : f.c = 3
  · -- a palette
    have hk0 : f.key = [] := by
      unfold keysB at hkb
      simp only [Bool.or_eq_true, Bool.and_eq_true, decide_eq_true_eq] at hkb
      exact List.eq_nil_of_length_eq_zero (by omega)
    have hin : ∀ p ∈ unl px, p ∈ f.pal := by
      intro p hp
      unfold fitsB at hf
      rw [Bool.and_eq_true, List.all_eq_true] at hf
      have := hf.1 p hp
      unfold fnumsOf at this
      rw [if_pos hok] at this
      exact (lnums_pal h3).1 this
    unfold palB at hpb
    rw [if_pos h3, decide_eq_true_eq] at hpb
    have hlen := sub_len (unl px) f.pal (nodup_unl px) hin
    have h256 : pw f.d ≤ 256 := by
      rcases hd with h | h | h | h | h
      · rw [h]; decide
      · rw [h]; decide
      · rw [h]; decide
      · rw [h]; decide
      · exact absurd h (h16 h3)
    have hne : 1 ≤ (unl px).length := by
      obtain ⟨p, hp⟩ := List.exists_mem_of_length_pos hpx
      exact List.length_pos_of_mem ((mem_unl px p).2 hp)
    have hpl : (palM (unl px)).length = (unl px).length := by unfold palM; rw [List.length_append]; exact parts_len _
    have hfit : fitsB (mkPal (unl px) (bare f.w f.h f.d 3 f.l)) (unl px) = true := by
      have hok2 : formOk (mkPal (unl px) (bare f.w f.h f.d 3 f.l)) = true := by
        refine formOk_mk (by show headErr f.w f.h f.d 3 f.l = 0; rw [← h3]; exact he) ?_ (fun p hp => hpo p (hin p (palM_mem.1 hp))) ?_
        · unfold palB
          show (if (3 : Int) = 3 then decide (1 ≤ (palM (unl px)).length ∧ ((palM (unl px)).length : Int) ≤ pw f.d) else _) = true
          rw [if_pos rfl, decide_eq_true (by rw [hpl]; omega)]
        · unfold keysB
          show (decide (([] : List Int).length = 0) || _) = true
          rw [decide_eq_true (by rfl), Bool.true_or]
      unfold fitsB
      rw [hok2, Bool.and_true, List.all_eq_true]
      intro p hp
      unfold fnumsOf
      rw [if_pos hok2]
      exact (lnums_pal rfl).2 (palM_mem.2 hp)
    have he3 : headErr f.w f.h f.d 3 f.l = 0 := by rw [← h3]; exact he
    obtain ⟨d', _, hle, ht, hf'⟩ := try_le (mk := mkPal (unl px)) (depthsM 3) (deps_pair 3) (dl_deps (head_dl he3)) hfit
    refine ⟨mkPal (unl px) (bare f.w f.h d' 3 f.l), ?_, ?_⟩
    · unfold formsM paledM
      rw [if_pos (by omega)]
      show _ ∈ addM (leastM (mkPal (unl px)) f.w f.h 3 f.l (unl px)) _
      have ht2 : leastM (mkPal (unl px)) f.w f.h 3 f.l (unl px) = some (mkPal (unl px) (bare f.w f.h d' 3 f.l)) := ht
      rw [ht2]
      exact addM_new
    · have hk2 := fits_ok hf'
      rw [rsize_eq hk2]
      have hm := data_mono he3 (form_parts hk2).1 hle
      have hl1 := lastM_pal (unl px)
      have hl2 := lastM_clear _ f.pal rfl
      have hl3 := sub_len (clearL (unl px)) (clearL f.pal) (clear_nodup (nodup_unl px)) (fun p hp => by
        unfold clearL at hp ⊢
        rw [List.mem_filter] at hp ⊢
        exact ⟨hin p hp.1, hp.2⟩)
      have hm2 : dataM f.w f.h d' 3 f.l ≤ dataM f.w f.h f.d 3 f.l := hm
      have e1 : rsize (mkPal (unl px) (bare f.w f.h d' 3 f.l)) = dataM f.w f.h d' 3 f.l + (12 + 3 * ((palM (unl px)).length : Int) + (if 0 < lastM (palM (unl px)) then 12 + (lastM (palM (unl px)) : Int) else 0)) := rsize_pal rfl rfl
      rw [e1, rsize_pal h3 hk0, h3, hpl]
      generalize lastM (palM (unl px)) = a at *
      generalize lastM f.pal = b at *
      by_cases h1 : 0 < a
      · rw [if_pos h1, if_pos (by omega)]; omega
      · rw [if_neg h1]
        by_cases h2 : 0 < b
        · rw [if_pos h2]; omega
        · rw [if_neg h2]; omega
  · have hp0 : f.pal = [] := by
      unfold palB at hpb
      rw [if_neg h3, decide_eq_true_eq] at hpb
      exact List.eq_nil_of_length_eq_zero hpb
    have hge : dataM f.w f.h f.d f.c f.l ≤ rsize f := by
      unfold rsize
      rw [if_neg h3]
      split <;> omega
    by_cases hk0 : f.key = []
    · have hb : f = bare f.w f.h f.d f.c f.l := by
        conv => lhs; rw [show f = Fm.mk f.w f.h f.d f.c f.l f.pal f.key from rfl, hp0, hk0]
        rfl
      rw [hb] at hf
      obtain ⟨g, hg, hs⟩ := bare_least (by simp; omega) hf
      exact ⟨g, hg, by omega⟩
    · have hc : f.c = 0 ∨ f.c = 2 := by
        unfold keysB at hkb
        simp only [Bool.or_eq_true, Bool.and_eq_true, decide_eq_true_eq] at hkb
        rcases hkb with h | ⟨⟨h, _⟩, _⟩
        · exact absurd (List.eq_nil_of_length_eq_zero h) hk0
        · exact h
      by_cases h0 : 0 ≤ clearAt (unl px)
      · obtain ⟨_, hm, hz⟩ := (clear_find (unl px)).1 h0
        generalize hp : (unl px).getD (clearAt (unl px)).toNat (0, 0, 0, 0) = p at *
        have hns : ∃ n, numsOf f p = some n := by
          have hf2 := hf
          unfold fitsB at hf2
          rw [Bool.and_eq_true, List.all_eq_true] at hf2
          have := hf2.1 p hm
          unfold fnumsOf at this
          rw [if_pos hok] at this
          cases hq : numsOf f p with
          | none => rw [hq] at this; cases this
          | some n => exact ⟨n, rfl⟩
        obtain ⟨n, hn⟩ := hns
        have hmk := mkKey_eq hok hc hz hn
        have hfit : fitsB (mkKey p (bare f.w f.h f.d f.c f.l)) (unl px) = true := by rw [hmk]; exact hf
        obtain ⟨d', _, hle, ht, hf'⟩ := try_le (mk := mkKey p) (depthsM f.c) (deps_pair f.c) (dl_deps (head_dl he)) hfit
        refine ⟨mkKey p (bare f.w f.h d' f.c f.l), ?_, ?_⟩
        · have hin : mkKey p (bare f.w f.h d' f.c f.l) ∈ keyedM f.w f.h f.l (unl px) (plainM f.w f.h f.l (unl px) [0, 2, 4, 6] []) := by
            unfold keyedM
            rw [if_pos h0, hp]
            have ht2 : leastM (mkKey p) f.w f.h f.c f.l (unl px) = some (mkKey p (bare f.w f.h d' f.c f.l)) := ht
            rcases hc with h | h
            · rw [h] at ht2 ⊢
              rw [ht2]
              exact addM_old addM_new
            · rw [h] at ht2 ⊢
              rw [ht2]
              exact addM_new
          unfold formsM paledM
          split
          · exact addM_old hin
          · exact hin
        · have hk2 := fits_ok hf'
          rw [rsize_eq hk2]
          have hm := data_mono he (form_parts hk2).1 hle
          have hkl1 : ((mkKey p (bare f.w f.h d' f.c f.l)).key.length : Int) ≤ chan f.c := by
            have hb2 := (form_parts hk2).2.2.2
            unfold keysB at hb2
            simp only [Bool.or_eq_true, Bool.and_eq_true, decide_eq_true_eq] at hb2
            have e : (mkKey p (bare f.w f.h d' f.c f.l)).c = f.c := rfl
            rw [e] at hb2
            rcases hb2 with h | ⟨⟨_, h⟩, _⟩ <;> omega
          have hkl2 : (f.key.length : Int) = chan f.c := by
            unfold keysB at hkb
            simp only [Bool.or_eq_true, Bool.and_eq_true, decide_eq_true_eq] at hkb
            rcases hkb with h | ⟨⟨_, h⟩, _⟩
            · exact absurd (List.eq_nil_of_length_eq_zero h) hk0
            · exact h
          have hm2 : dataM f.w f.h d' f.c f.l ≤ dataM f.w f.h f.d f.c f.l := hm
          have e1 : rsize (mkKey p (bare f.w f.h d' f.c f.l)) = dataM f.w f.h d' f.c f.l + (if 0 < (mkKey p (bare f.w f.h d' f.c f.l)).key.length then 12 + 2 * ((mkKey p (bare f.w f.h d' f.c f.l)).key.length : Int) else 0) := rsize_col h3
          rw [e1, rsize_col h3]
          generalize (mkKey p (bare f.w f.h d' f.c f.l)).key.length = a at *
          by_cases h1 : 0 < a
          · rw [if_pos h1, if_pos (by omega)]; omega
          · rw [if_neg h1]
            by_cases h2 : 0 < f.key.length
            · rw [if_pos h2]; omega
            · rw [if_neg h2]; omega
      · have hnc : ∀ p ∈ unl px, p.2.2.2 ≠ 0 := by
          intro p hp hz
          have := (clear_find (unl px)).2 h0
          rw [List.find?_eq_none] at this
          exact this p hp (by simp [hz])
        obtain ⟨g, hg, hs⟩ := bare_least (by simp; omega) (key_bare hc hf hnc)
        exact ⟨g, hg, by omega⟩

end Go.Proofs.Ytchkogfgkaaogaa
