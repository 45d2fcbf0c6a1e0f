/-
  The least forms are forms; the best of them.
-/
import Derived.Test.YtchkogfgkaaogaaSiz
namespace Go.Proofs.Ytchkogfgkaaogaa
open Go.RowKit Go.Shelf

theorem tryM_fit {mk : Fm → Fm} {x y c lc : Int} {l : List Px} {f : Fm} : ∀ ds : List Int, tryM mk x y c lc l ds = some f → fitsB f l = true
  | [], h => by cases h
  | d :: ds, h => by
    unfold tryM at h
    split at h
    · rename_i h1
      injection h with h
      rw [← h]
      exact h1
    · exact tryM_fit ds h
theorem addM_all {P : Fm → Prop} {r : Option Fm} {fs : List Fm} (h1 : ∀ f ∈ fs, P f) (h2 : ∀ f, r = some f → P f) : ∀ f ∈ addM r fs, P f := by
  intro f hf
  unfold addM at hf
  split at hf
  · rename_i f2
    rcases List.mem_append.1 hf with hf | hf
    · exact h1 f hf
    · rw [List.mem_singleton.1 hf]
      exact h2 _ rfl
  · exact h1 f hf
theorem least_fit {mk : Fm → Fm} {x y c lc : Int} {l : List Px} (f : Fm) (h : leastM mk x y c lc l = some f) : fitsB f l = true := tryM_fit _ h
theorem plainM_fit (x y lc : Int) (l : List Px) : ∀ (cs : List Int) (fs : List Fm), (∀ f ∈ fs, fitsB f l = true) → ∀ f ∈ plainM x y lc l cs fs, fitsB f l = true
  | [], _, h => h
  | _ :: cs, _, h => plainM_fit x y lc l cs _ (addM_all h least_fit)
theorem forms_fit (x y lc : Int) (px : List Px) : ∀ f ∈ formsM x y lc px, fitsB f (unl px) = true := by
  have h1 := plainM_fit x y lc (unl px) [0, 2, 4, 6] [] (by simp)
  have h2 : ∀ f ∈ keyedM x y lc (unl px) (plainM x y lc (unl px) [0, 2, 4, 6] []), fitsB f (unl px) = true := by
    unfold keyedM
    split
    · exact addM_all (addM_all h1 least_fit) least_fit
    · exact h1
  unfold formsM paledM
  split
  · exact addM_all h2 least_fit
  · exact h2
theorem fits_ok {f : Fm} {l : List Px} (h : fitsB f l = true) : formOk f = true := by
  unfold fitsB at h
  rw [Bool.and_eq_true] at h
  exact h.2
theorem form_lens {f : Fm} (h : formOk f = true) : f.pal.length ≤ 65536 ∧ f.key.length ≤ 4 := by
  obtain ⟨_, h1, _, h2⟩ := form_parts h
  have hb := pw_bd f.d
  have hc := chan_bd f.c
  constructor
  · unfold palB at h1
    split at h1
    · rw [decide_eq_true_eq] at h1; omega
    · rw [decide_eq_true_eq] at h1; omega
  · unfold keysB at h2
    simp only [Bool.or_eq_true, Bool.and_eq_true, decide_eq_true_eq] at h2
    rcases h2 with h2 | ⟨⟨_, h2⟩, _⟩
    · omega
    · omega
def bestS (b f : Fm) : Fm := if sizeM f < sizeM b then f else b
def bestM (f0 : Fm) (fs : List Fm) : Fm := fs.foldl bestS f0
theorem bestM_snoc (f0 : Fm) (fs : List Fm) (f : Fm) : bestM f0 (fs ++ [f]) = if sizeM f < sizeM (bestM f0 fs) then f else bestM f0 fs := by unfold bestM; rw [List.foldl_append]; rfl
theorem head_16 {x y lc : Int} (h : headErr x y 8 0 0 = 0) (h0 : 0 ≤ lc) (h1 : lc ≤ 1) : headErr x y 16 6 lc = 0 := by
  unfold headErr at h ⊢
  split at h
  · cases h
  · rename_i hn
    split at h
    · cases h
    · rename_i hm
      rw [if_neg ?_, if_neg hm]
      rintro (h2 | h2 | h2 | h2 | h2)
      · exact hn (.inl h2)
      · exact hn (.inr (.inl h2))
      · exact h2 (by simp [dl])
      · omega
      · omega
theorem rgba_ok {x y lc : Int} (h : headErr x y 16 6 lc = 0) : formOk (bare x y 16 6 lc) = true := by
  unfold formOk bare palB keysB
  simp [h]
theorem rgba_fits {x y lc : Int} (h : headErr x y 16 6 lc = 0) (p : Px) (hp : soundB p = true) : (fnumsOf (bare x y 16 6 lc) p).isSome = true := by
  unfold fnumsOf
  rw [if_pos (rgba_ok h)]
  obtain ⟨a, b, c, d⟩ := p
  unfold soundB at hp
  simp at hp
  obtain ⟨h1, h2, h3, h4⟩ := hp
  have e1 : (bare x y 16 6 lc).c = 6 := rfl
  have e2 : (bare x y 16 6 lc).d = 16 := rfl
  have e3 : wideOf 6 (a, b, c, d) = [a, b, c, d] := rfl
  have e4 : stp 16 = 1 := rfl
  unfold numsOf
  rw [e1, e2, e3, e4, if_neg (by omega)]
  have hn : ([a, b, c, d].all fun x => narrowOk x 16) = true := by
    simp [narrowOk, deepB, deepOk, e4]
    omega
  rw [if_pos hn]
  have e5 : [a, b, c, d].map (· / 1) = [a, b, c, d] := by simp
  have hk : ([a, b, c, d].all (keyB 16)) = true := by
    simp [keyB, pw]
    omega
  have e6 : pixOf (bare x y 16 6 lc) [a, b, c, d] = some (a, b, c, d) := by
    unfold pixOf
    rw [e1, e2, if_neg (by simp [chan]), if_neg (by omega), if_pos hk]
    simp [bare, clear, pxOf, stp]
  rw [e5, e6, if_pos rfl]
  rfl
theorem addM_ne {r : Option Fm} {fs : List Fm} (h : fs ≠ []) : addM r fs ≠ [] := by
  unfold addM
  split
  · simp
  · exact h
theorem forms_ne {x y lc : Int} {px : List Px} (h : rasOk x y px = true) (h0 : 0 ≤ lc) (h1 : lc ≤ 1) : formsM x y lc px ≠ [] := by
  unfold rasOk at h
  simp only [Bool.and_eq_true, decide_eq_true_eq, List.all_eq_true] at h
  obtain ⟨⟨ha, _⟩, hb⟩ := h
  have hh := head_16 ha h0 h1
  have hf : fitsB (idF (bare x y 16 6 lc)) (unl px) = true := by
    unfold fitsB idF
    rw [Bool.and_eq_true]
    exact ⟨List.all_eq_true.2 fun p hp => rgba_fits hh p (hb p (unl_sub px p hp)), rgba_ok hh⟩
  have hl : ∃ f, leastM idF x y 6 lc (unl px) = some f := by
    show ∃ f, tryM idF x y 6 lc (unl px) [8, 16] = some f
    unfold tryM
    split
    · exact ⟨_, rfl⟩
    · unfold tryM
      rw [if_pos hf]
      exact ⟨_, rfl⟩
  obtain ⟨f, hl⟩ := hl
  have hp : plainM x y lc (unl px) [0, 2, 4, 6] [] ≠ [] := by
    show addM (leastM idF x y 6 lc (unl px)) _ ≠ []
    rw [hl]
    simp [addM]
  have hk : keyedM x y lc (unl px) (plainM x y lc (unl px) [0, 2, 4, 6] []) ≠ [] := by
    unfold keyedM
    split
    · exact addM_ne (addM_ne hp)
    · exact hp
  unfold formsM paledM
  split
  · exact addM_ne hk
  · exact hk

end Go.Proofs.Ytchkogfgkaaogaa
