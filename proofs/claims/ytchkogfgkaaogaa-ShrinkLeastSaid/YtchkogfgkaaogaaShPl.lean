/-
  The least forms, the best form and its size, as the document's answer says them: the same as the program's. Plain: no walk.
-/
import Derived.Test.YtchkogfgkaaogaaBestA
namespace Go.Proofs.Ytchkogfgkaaogaa
open Go.RowKit Go.Shelf

/-- the first clear pixel's numbers, its alpha full -/
def rkey (f : Fm) (l : List Px) : List Int :=
  if formOk f = true then (match l.find? (fun p => p.2.2.2 == 0) with | some p => (numsOf f (p.1, p.2.1, p.2.2.1, 65535)).getD [] | none => []) else []
/-- the form that is tried: none, if a key is wanted and there is none -/
def rform (i : Nat) (x y d c lc : Int) (l : List Px) : Option Fm :=
  if i = 4 ∨ i = 5 then (if (rkey (bare x y d c lc) l).length = 0 then none else some ⟨x, y, d, c, lc, [], rkey (bare x y d c lc) l⟩)
  else if c = 3 then some ⟨x, y, d, c, lc, palM l, []⟩ else some (bare x y d c lc)
def rtry (i : Nat) (x y c lc : Int) (l : List Px) : List Int → Option Fm
  | [] => none
  | d :: ds => match rform i x y d c lc l with
    | none => rtry i x y c lc l ds
    | some f => if fitsB f l = true then some f else rtry i x y c lc l ds
def rcolors : List Int := [0, 2, 4, 6, 0, 2, 3]
def rdeps : List Int := [1, 2, 4, 8, 16]
/-- the forms of the first n colors -/
def rforms (x y lc : Int) (l : List Px) : Nat → List Fm
  | 0 => []
  | n + 1 => addM (rtry n x y (rcolors.getD n 0) lc l rdeps) (rforms x y lc l n)

theorem ok_head {f : Fm} (h : headErr f.w f.h f.d f.c f.l ≠ 0) : formOk f = false := by unfold formOk; rw [decide_eq_false h]; rfl
theorem fits_head {f : Fm} {l : List Px} (h : headErr f.w f.h f.d f.c f.l ≠ 0) : fitsB f l = false := by unfold fitsB; rw [ok_head h, Bool.and_false]
theorem head_bad {x y d c lc : Int} (h : d ∉ dl c) : headErr x y d c lc ≠ 0 := by
  unfold headErr
  rw [if_pos (.inr (.inr (.inl h)))]
  omega
theorem tryM_bad {mk : Fm → Fm} {x y c lc d : Int} {l : List Px} {ds : List Int} (h : fitsB (mk (bare x y d c lc)) l = false) : tryM mk x y c lc l (d :: ds) = tryM mk x y c lc l ds := by
  conv => lhs; unfold tryM
  rw [h, if_neg (by simp)]
/-- a maker that leaves the head alone -/
def Heads (mk : Fm → Fm) : Prop := ∀ f, (mk f).w = f.w ∧ (mk f).h = f.h ∧ (mk f).d = f.d ∧ (mk f).c = f.c ∧ (mk f).l = f.l
theorem try_bad {mk : Fm → Fm} (hm : Heads mk) {x y c lc d : Int} (l : List Px) (ds : List Int) (h : d ∉ dl c) : tryM mk x y c lc l (d :: ds) = tryM mk x y c lc l ds := by
  obtain ⟨h1, h2, h3, h4, h5⟩ := hm (bare x y d c lc)
  refine tryM_bad (fits_head ?_)
  rw [h1, h2, h3, h4, h5]
  exact head_bad h
theorem try_all {mk : Fm → Fm} (hm : Heads mk) (x y c lc : Int) (l : List Px) (hc : c = 0 ∨ c = 2 ∨ c = 4 ∨ c = 6 ∨ c = 3) : tryM mk x y c lc l rdeps = leastM mk x y c lc l := by
  unfold rdeps leastM
  rcases hc with rfl | rfl | rfl | rfl | rfl
  · rfl
  · rw [try_bad hm l _ (by decide), try_bad hm l _ (by decide), try_bad hm l _ (by decide)]; rfl
  · rw [try_bad hm l _ (by decide), try_bad hm l _ (by decide), try_bad hm l _ (by decide)]; rfl
  · rw [try_bad hm l _ (by decide), try_bad hm l _ (by decide), try_bad hm l _ (by decide)]; rfl
  · show tryM mk x y 3 lc l [1, 2, 4, 8, 16] = tryM mk x y 3 lc l [1, 2, 4, 8]
    have h16 : tryM mk x y 3 lc l [16] = none := by rw [try_bad hm l [] (by decide)]; rfl
    have step : ∀ (d : Int) (a b : List Int), tryM mk x y 3 lc l a = tryM mk x y 3 lc l b → tryM mk x y 3 lc l (d :: a) = tryM mk x y 3 lc l (d :: b) := by
      intro d a b h
      unfold tryM
      rw [h]
    exact step 1 _ _ (step 2 _ _ (step 4 _ _ (step 8 _ _ h16)))
theorem rtry_plain (i : Nat) (x y c lc : Int) (l : List Px) (hi : i ≠ 4 ∧ i ≠ 5) (hc : c ≠ 3) : ∀ ds : List Int, rtry i x y c lc l ds = tryM idF x y c lc l ds
  | [] => rfl
  | d :: ds => by
    have e : rform i x y d c lc l = some (bare x y d c lc) := by unfold rform; rw [if_neg (by omega), if_neg hc]
    unfold rtry tryM
    rw [e, rtry_plain i x y c lc l hi hc ds]
    rfl
theorem rtry_pal (i : Nat) (x y lc : Int) (l : List Px) (hi : i ≠ 4 ∧ i ≠ 5) : ∀ ds : List Int, rtry i x y 3 lc l ds = tryM (mkPal l) x y 3 lc l ds
  | [] => rfl
  | d :: ds => by
    have e : rform i x y d 3 lc l = some (mkPal l (bare x y d 3 lc)) := by unfold rform; rw [if_neg (by omega), if_pos rfl]; rfl
    unfold rtry tryM
    rw [e, rtry_pal i x y lc l hi ds]
theorem pal_many {l : List Px} (x y lc : Int) (h : ¬ l.length ≤ 256) (d : Int) (hd : d ∈ [1, 2, 4, 8]) : fitsB (mkPal l (bare x y d 3 lc)) l = false := by
  have hl : (palM l).length = l.length := by unfold palM; rw [List.length_append]; exact parts_len l
  have : palB (mkPal l (bare x y d 3 lc)) = false := by
    unfold palB
    have e1 : (mkPal l (bare x y d 3 lc)).c = 3 := rfl
    have e2 : (mkPal l (bare x y d 3 lc)).d = d := rfl
    have e3 : (mkPal l (bare x y d 3 lc)).pal = palM l := rfl
    rw [if_pos e1, e2, e3, hl]
    refine decide_eq_false fun hh => ?_
    have hp : pw d ≤ 256 := by
      simp only [List.mem_cons, List.not_mem_nil, or_false] at hd
      rcases hd with rfl | rfl | rfl | rfl <;> decide
    omega
  unfold fitsB formOk
  rw [this]
  simp
theorem nokey {x y d c lc : Int} {p : Px} (hc : c = 0 ∨ c = 2) (hp : p.2.2.2 = 0) : fnumsOf (bare x y d c lc) p = none := by
  unfold fnumsOf
  split
  · unfold numsOf
    have e1 : (bare x y d c lc).c = c := rfl
    have e2 : (bare x y d c lc).d = d := rfl
    have e3 : (bare x y d c lc).key = [] := rfl
    rw [if_neg (by rw [e1]; omega)]
    split
    · rw [if_neg ?_]
      intro h
      unfold pixOf at h
      split at h
      · cases h
      · rw [if_neg (by rw [e1]; omega)] at h
        split at h
        · injection h with h
          rw [e3] at h
          have h2 : (pxOf c d (List.map (fun x => x / stp d) (wideOf c p))) = p := by
            have : decide (([] : List Int) ≠ [] ∧ ([] : List Int) = List.map (fun x => x / stp d) (wideOf c p)) = false := by simp
            rw [e1, e2] at h
            unfold clear at h
            simpa using h
          have h3 : (pxOf c d (List.map (fun x => x / stp d) (wideOf c p))).2.2.2 = 65535 := by
            unfold pxOf
            simp only
            rw [if_neg (by omega), if_neg (by omega)]
          rw [h2, hp] at h3
          omega
        · cases h
    · rfl
  · rfl
theorem clear_find (l : List Px) : (0 ≤ clearAt l → l.find? (fun p => p.2.2.2 == 0) = some (l.getD (clearAt l).toNat (0, 0, 0, 0)) ∧ l.getD (clearAt l).toNat (0, 0, 0, 0) ∈ l ∧ (l.getD (clearAt l).toNat (0, 0, 0, 0)).2.2.2 = 0) ∧
    (¬ 0 ≤ clearAt l → l.find? (fun p => p.2.2.2 == 0) = none) := by
  unfold clearAt
  by_cases h : l.findIdx (fun p => p.2.2.2 == 0) < l.length
  · rw [if_pos h]
    refine ⟨fun _ => ?_, fun hh => absurd (Int.natCast_nonneg _) hh⟩
    have e : l.getD ((l.findIdx (fun p => p.2.2.2 == 0) : Nat) : Int).toNat (0, 0, 0, 0) = l[l.findIdx (fun p => p.2.2.2 == 0)] := by
      rw [Int.toNat_natCast, List.getD_eq_getElem?_getD, List.getElem?_eq_getElem h]; rfl
    have hp : (l[l.findIdx (fun p => p.2.2.2 == 0)].2.2.2 == 0) = true := List.findIdx_getElem (p := fun p : Px => p.2.2.2 == 0) (w := h)
    rw [e]
    refine ⟨?_, List.getElem_mem h, eq_of_beq hp⟩
    rw [List.find?_eq_some_iff_getElem]
    refine ⟨hp, _, h, rfl, fun j hj => ?_⟩
    have := List.not_of_lt_findIdx hj
    simpa using this
  · rw [if_neg h]
    refine ⟨fun hh => absurd hh (by omega), fun _ => ?_⟩
    rw [List.find?_eq_none]
    intro p hp hh
    exact h (List.findIdx_lt_length_of_exists ⟨p, hp, hh⟩)
theorem rtry_key (i : Nat) (x y c lc : Int) (l : List Px) (hi : i = 4 ∨ i = 5) (hc : c = 0 ∨ c = 2) (h0 : 0 ≤ clearAt l) : ∀ ds : List Int, rtry i x y c lc l ds = tryM (mkKey (l.getD (clearAt l).toNat (0, 0, 0, 0))) x y c lc l ds
  | [] => rfl
  | d :: ds => by
    obtain ⟨hf, hm, hz⟩ := (clear_find l).1 h0
    have hk : rkey (bare x y d c lc) l = keyOf' (bare x y d c lc) (l.getD (clearAt l).toNat (0, 0, 0, 0)) := by
      unfold rkey keyOf' fnumsOf
      rw [hf]
      split
      · rfl
      · rfl
    generalize hp : l.getD (clearAt l).toNat (0, 0, 0, 0) = p at *
    have ih := rtry_key i x y c lc l hi hc h0 ds
    rw [hp] at ih
    by_cases hn : (rkey (bare x y d c lc) l).length = 0
    · have e : rform i x y d c lc l = none := by unfold rform; rw [if_pos hi, if_pos hn]
      have hb : mkKey p (bare x y d c lc) = bare x y d c lc := by
        unfold mkKey
        rw [← hk, List.eq_nil_of_length_eq_zero hn]
        rfl
      have hfit : fitsB (mkKey p (bare x y d c lc)) l = false := by
        rw [hb]
        unfold fitsB
        rw [Bool.and_eq_false_iff]
        left
        rw [List.all_eq_false]
        exact ⟨p, hm, by rw [nokey hc hz]; simp⟩
      rw [tryM_bad hfit, ← ih]
      conv => lhs; unfold rtry
      rw [e]
    · have e : rform i x y d c lc l = some (mkKey p (bare x y d c lc)) := by
        unfold rform mkKey
        rw [if_pos hi, if_neg hn, hk]
        rfl
      unfold rtry tryM
      rw [e, ih]
theorem rtry_nokey (i : Nat) (x y c lc : Int) (l : List Px) (hi : i = 4 ∨ i = 5) (h0 : ¬ 0 ≤ clearAt l) : ∀ ds : List Int, rtry i x y c lc l ds = none
  | [] => rfl
  | d :: ds => by
    have hk : rkey (bare x y d c lc) l = [] := by
      unfold rkey
      rw [(clear_find l).2 h0]
      split <;> rfl
    have e : rform i x y d c lc l = none := by unfold rform; rw [if_pos hi, if_pos (by rw [hk]; rfl)]
    unfold rtry
    rw [e]
    exact rtry_nokey i x y c lc l hi h0 ds
theorem heads_id : Heads idF := fun _ => ⟨rfl, rfl, rfl, rfl, rfl⟩
theorem heads_key (p : Px) : Heads (mkKey p) := fun _ => ⟨rfl, rfl, rfl, rfl, rfl⟩
theorem heads_pal (l : List Px) : Heads (mkPal l) := fun _ => ⟨rfl, rfl, rfl, rfl, rfl⟩
theorem addM_none (fs : List Fm) : addM none fs = fs := rfl
theorem rforms_eq (x y lc : Int) (px : List Px) : rforms x y lc (unl px) 7 = formsM x y lc px := by
  unfold formsM
  generalize unl px = l
  have h1 : rforms x y lc l 4 = plainM x y lc l [0, 2, 4, 6] [] := by
    show addM (rtry 3 x y 6 lc l rdeps) (addM (rtry 2 x y 4 lc l rdeps) (addM (rtry 1 x y 2 lc l rdeps) (addM (rtry 0 x y 0 lc l rdeps) []))) = addM (leastM idF x y 6 lc l) (addM (leastM idF x y 4 lc l) (addM (leastM idF x y 2 lc l) (addM (leastM idF x y 0 lc l) [])))
    rw [rtry_plain 3 x y 6 lc l (by omega) (by omega), rtry_plain 2 x y 4 lc l (by omega) (by omega), rtry_plain 1 x y 2 lc l (by omega) (by omega), rtry_plain 0 x y 0 lc l (by omega) (by omega),
      try_all heads_id x y 6 lc l (by simp), try_all heads_id x y 4 lc l (by simp), try_all heads_id x y 2 lc l (by simp), try_all heads_id x y 0 lc l (by simp)]
  have h2 : rforms x y lc l 6 = keyedM x y lc l (plainM x y lc l [0, 2, 4, 6] []) := by
    rw [← h1]
    show addM (rtry 5 x y 2 lc l rdeps) (addM (rtry 4 x y 0 lc l rdeps) (rforms x y lc l 4)) = _
    unfold keyedM
    by_cases h0 : 0 ≤ clearAt l
    · rw [if_pos h0, rtry_key 5 x y 2 lc l (by omega) (by omega) h0, rtry_key 4 x y 0 lc l (by omega) (by omega) h0, try_all (heads_key _) x y 2 lc l (by simp), try_all (heads_key _) x y 0 lc l (by simp)]
    · rw [if_neg h0, rtry_nokey 5 x y 2 lc l (by omega) h0, rtry_nokey 4 x y 0 lc l (by omega) h0, addM_none, addM_none]
  rw [← h2]
  show addM (rtry 6 x y 3 lc l rdeps) (rforms x y lc l 6) = _
  unfold paledM
  rw [rtry_pal 6 x y lc l (by omega), try_all (heads_pal l) x y 3 lc l (by simp)]
  by_cases h : l.length ≤ 256
  · rw [if_pos h]
  · rw [if_neg h]
    have : leastM (mkPal l) x y 3 lc l = none := by
      show tryM (mkPal l) x y 3 lc l [1, 2, 4, 8] = none
      rw [tryM_bad (pal_many x y lc h 1 (by simp)), tryM_bad (pal_many x y lc h 2 (by simp)), tryM_bad (pal_many x y lc h 4 (by simp)), tryM_bad (pal_many x y lc h 8 (by simp))]
      rfl
    rw [this, addM_none]

/-- a good form's size, as the document's answer says it -/
def rsize (f : Fm) : Int := dataM f.w f.h f.d f.c f.l + (if f.c = 3 then 12 + 3 * (f.pal.length : Int) + (if 0 < lastM f.pal then 12 + (lastM f.pal : Int) else 0) else 0) + (if 0 < f.key.length then 12 + 2 * (f.key.length : Int) else 0)
theorem csum_nil : csum [] = 0 := rfl
theorem csum_one (a : ByteArray) (l : List Int) : csum [(a, l)] = 12 + (l.length : Int) := by simp [csum]
theorem csum_two (a b : ByteArray) (l m : List Int) : csum [(a, l), (b, m)] = 12 + (l.length : Int) + (12 + (m.length : Int)) := by simp [csum]
theorem rsize_eq {f : Fm} (hf : formOk f = true) : sizeM f = rsize f := by
  obtain ⟨_, hp, _, hk⟩ := form_parts hf
  unfold sizeM rsize
  rw [if_pos hf]
  have hc := colsM_length f.pal
  have ht := clrM_length f
  have e : (chunksM f).tail = (if f.pal.length = 0 then [] else [(plte, colsM f.pal)]) ++ (if (clrM f).length = 0 then [] else [(trns, clrM f)]) := rfl
  rw [e]
  by_cases h3 : f.c = 3
  · unfold palB at hp
    rw [if_pos h3, decide_eq_true_eq] at hp
    have hk0 : f.key.length = 0 := by
      unfold keysB at hk
      simp only [Bool.or_eq_true, Bool.and_eq_true, decide_eq_true_eq] at hk
      omega
    have a1 : ¬ f.pal.length = 0 := by omega
    have a3 : ¬ 0 < f.key.length := by omega
    rw [if_neg a1, if_pos h3, if_neg a3]
    by_cases hl : 0 < lastM f.pal
    · have a2 : ¬ (clrM f).length = 0 := by omega
      rw [if_neg a2, if_pos hl]
      show dataM f.w f.h f.d f.c f.l + csum [(plte, colsM f.pal), (trns, clrM f)] = _
      rw [csum_two, hc, ht, hk0]
      push_cast
      omega
    · have a2 : (clrM f).length = 0 := by omega
      rw [if_pos a2, if_neg hl]
      show dataM f.w f.h f.d f.c f.l + csum [(plte, colsM f.pal)] = _
      rw [csum_one, hc]
      push_cast
      omega
  · unfold palB at hp
    rw [if_neg h3, decide_eq_true_eq] at hp
    have hl := lastM_le f.pal
    rw [if_pos hp, if_neg h3]
    by_cases hk0 : 0 < f.key.length
    · have a2 : ¬ (clrM f).length = 0 := by omega
      rw [if_neg a2, if_pos hk0]
      show dataM f.w f.h f.d f.c f.l + csum [(trns, clrM f)] = _
      rw [csum_one, ht]
      have : lastM f.pal = 0 := by omega
      rw [this]
      push_cast
      omega
    · have a2 : (clrM f).length = 0 := by omega
      rw [if_pos a2, if_neg hk0]
      show dataM f.w f.h f.d f.c f.l + csum [] = _
      rw [csum_nil]
      omega

end Go.Proofs.Ytchkogfgkaaogaa
