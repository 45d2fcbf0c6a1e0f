/-
  The least forms are forms; the best of them.
  shrink.Best.
-/
import Derived.Test.YtphhoihhmphbdaaSiz
import Derived.Lib.QuietBelow
import Derived.BigQuiet
namespace Go.Proofs.Ytphhoihhmphbdaa
open Go.RowKit Go.Shelf

theorem tryM_fit {mk : Fm → Fm} {x y c lc : Int} {l : List Px} {f : Fm} : ∀ ds : List Int, tryM mk x y c lc l ds = some f → fitsB f l = true
  | [], h => by cases h
  | d :: ds, h => by
    unfold tryM at h
    split at h
    · rename_i h1
      injection h with h
      rw [← h]
      exact h1
    · exact tryM_fit ds h
theorem addM_all {P : Fm → Prop} {r : Option Fm} {fs : List Fm} (h1 : ∀ f ∈ fs, P f) (h2 : ∀ f, r = some f → P f) : ∀ f ∈ addM r fs, P f := by
  intro f hf
  unfold addM at hf
  split at hf
  · rename_i f2
    rcases List.mem_append.1 hf with hf | hf
    · exact h1 f hf
    · rw [List.mem_singleton.1 hf]
      exact h2 _ rfl
  · exact h1 f hf
theorem least_fit {mk : Fm → Fm} {x y c lc : Int} {l : List Px} (f : Fm) (h : leastM mk x y c lc l = some f) : fitsB f l = true := tryM_fit _ h
theorem plainM_fit (x y lc : Int) (l : List Px) : ∀ (cs : List Int) (fs : List Fm), (∀ f ∈ fs, fitsB f l = true) → ∀ f ∈ plainM x y lc l cs fs, fitsB f l = true
  | [], _, h => h
  | _ :: cs, _, h => plainM_fit x y lc l cs _ (addM_all h least_fit)
theorem forms_fit (x y lc : Int) (px : List Px) : ∀ f ∈ formsM x y lc px, fitsB f (unl px) = true := by
  have h1 := plainM_fit x y lc (unl px) [0, 2, 4, 6] [] (by simp)
  have h2 : ∀ f ∈ keyedM x y lc (unl px) (plainM x y lc (unl px) [0, 2, 4, 6] []), fitsB f (unl px) = true := by
    unfold keyedM
    split
    · exact addM_all (addM_all h1 least_fit) least_fit
    · exact h1
  unfold formsM paledM
  split
  · exact addM_all h2 least_fit
  · exact h2
theorem fits_ok {f : Fm} {l : List Px} (h : fitsB f l = true) : formOk f = true := by
  unfold fitsB at h
  rw [Bool.and_eq_true] at h
  exact h.2
theorem form_lens {f : Fm} (h : formOk f = true) : f.pal.length ≤ 65536 ∧ f.key.length ≤ 4 := by
  obtain ⟨_, h1, _, h2⟩ := form_parts h
  have hb := pw_bd f.d
  have hc := chan_bd f.c
  constructor
  · unfold palB at h1
    split at h1
    · rw [decide_eq_true_eq] at h1; omega
    · rw [decide_eq_true_eq] at h1; omega
  · unfold keysB at h2
    simp only [Bool.or_eq_true, Bool.and_eq_true, decide_eq_true_eq] at h2
    rcases h2 with h2 | ⟨⟨_, h2⟩, _⟩
    · omega
    · omega
def bestS (b f : Fm) : Fm := if sizeM f < sizeM b then f else b
def bestM (f0 : Fm) (fs : List Fm) : Fm := fs.foldl bestS f0
theorem bestM_snoc (f0 : Fm) (fs : List Fm) (f : Fm) : bestM f0 (fs ++ [f]) = if sizeM f < sizeM (bestM f0 fs) then f else bestM f0 fs := by unfold bestM; rw [List.foldl_append]; rfl
theorem head_16 {x y lc : Int} (h : headErr x y 8 0 0 = 0) (h0 : 0 ≤ lc) (h1 : lc ≤ 1) : headErr x y 16 6 lc = 0 := by
  unfold headErr at h ⊢
  split at h
  · cases h
  · rename_i hn
    split at h
    · cases h
    · rename_i hm
      rw [if_neg ?_, if_neg hm]
      rintro (h2 | h2 | h2 | h2 | h2)
      · exact hn (.inl h2)
      · exact hn (.inr (.inl h2))
      · exact h2 (by simp [dl])
      · omega
      · omega
theorem rgba_ok {x y lc : Int} (h : headErr x y 16 6 lc = 0) : formOk (bare x y 16 6 lc) = true := by
  unfold formOk bare palB keysB
  simp [h]
theorem rgba_fits {x y lc : Int} (h : headErr x y 16 6 lc = 0) (p : Px) (hp : soundB p = true) : (fnumsOf (bare x y 16 6 lc) p).isSome = true := by
  unfold fnumsOf
  rw [if_pos (rgba_ok h)]
  obtain ⟨a, b, c, d⟩ := p
  unfold soundB at hp
  simp at hp
  obtain ⟨h1, h2, h3, h4⟩ := hp
  have e1 : (bare x y 16 6 lc).c = 6 := rfl
  have e2 : (bare x y 16 6 lc).d = 16 := rfl
  have e3 : wideOf 6 (a, b, c, d) = [a, b, c, d] := rfl
  have e4 : stp 16 = 1 := rfl
  unfold numsOf
  rw [e1, e2, e3, e4, if_neg (by omega)]
  have hn : ([a, b, c, d].all fun x => narrowOk x 16) = true := by
    simp [narrowOk, deepB, deepOk, e4]
    omega
  rw [if_pos hn]
  have e5 : [a, b, c, d].map (· / 1) = [a, b, c, d] := by simp
  have hk : ([a, b, c, d].all (keyB 16)) = true := by
    simp [keyB, pw]
    omega
  have e6 : pixOf (bare x y 16 6 lc) [a, b, c, d] = some (a, b, c, d) := by
    unfold pixOf
    rw [e1, e2, if_neg (by simp [chan]), if_neg (by omega), if_pos hk]
    simp [bare, clear, pxOf, stp]
  rw [e5, e6, if_pos rfl]
  rfl
theorem addM_ne {r : Option Fm} {fs : List Fm} (h : fs ≠ []) : addM r fs ≠ [] := by
  unfold addM
  split
  · simp
  · exact h
theorem forms_ne {x y lc : Int} {px : List Px} (h : rasOk x y px = true) (h0 : 0 ≤ lc) (h1 : lc ≤ 1) : formsM x y lc px ≠ [] := by
  unfold rasOk at h
  simp only [Bool.and_eq_true, decide_eq_true_eq, List.all_eq_true] at h
  obtain ⟨⟨ha, _⟩, hb⟩ := h
  have hh := head_16 ha h0 h1
  have hf : fitsB (idF (bare x y 16 6 lc)) (unl px) = true := by
    unfold fitsB idF
    rw [Bool.and_eq_true]
    exact ⟨List.all_eq_true.2 fun p hp => rgba_fits hh p (hb p (unl_sub px p hp)), rgba_ok hh⟩
  have hl : ∃ f, leastM idF x y 6 lc (unl px) = some f := by
    show ∃ f, tryM idF x y 6 lc (unl px) [8, 16] = some f
    unfold tryM
    split
    · exact ⟨_, rfl⟩
    · unfold tryM
      rw [if_pos hf]
      exact ⟨_, rfl⟩
  obtain ⟨f, hl⟩ := hl
  have hp : plainM x y lc (unl px) [0, 2, 4, 6] [] ≠ [] := by
    show addM (leastM idF x y 6 lc (unl px)) _ ≠ []
    rw [hl]
    simp [addM]
  have hk : keyedM x y lc (unl px) (plainM x y lc (unl px) [0, 2, 4, 6] []) ≠ [] := by
    unfold keyedM
    split
    · exact addM_ne (addM_ne hp)
    · exact hp
  unfold formsM paledM
  split
  · exact addM_ne hk
  · exact hk

end Go.Proofs.Ytphhoihhmphbdaa

namespace Go.Proofs.Ytphhoihhmphbdaa
open Go.RowKit Go.Shelf

theorem plainM_len (x y lc : Int) (l : List Px) : ∀ (cs : List Int) (fs : List Fm), (plainM x y lc l cs fs).length ≤ fs.length + cs.length
  | [], _ => Nat.le_refl _
  | c :: cs, fs => by
    have h1 := plainM_len x y lc l cs (addM (leastM idF x y c lc l) fs)
    have h2 := addM_len (leastM idF x y c lc l) fs
    unfold plainM
    simp only [List.length_cons]
    omega
theorem formsM_len (x y lc : Int) (px : List Px) : (formsM x y lc px).length ≤ 7 := by
  have h1 := plainM_len x y lc (unl px) [0, 2, 4, 6] []
  have h2 : (keyedM x y lc (unl px) (plainM x y lc (unl px) [0, 2, 4, 6] [])).length ≤ 6 := by
    unfold keyedM
    split
    · refine Nat.le_trans (addM_len _ _) ?_
      have := addM_len (leastM (mkKey ((unl px).getD (clearAt (unl px)).toNat (0, 0, 0, 0))) x y 0 lc (unl px)) (plainM x y lc (unl px) [0, 2, 4, 6] [])
      simp only [List.length_nil, List.length_cons] at h1
      omega
    · simp only [List.length_nil, List.length_cons] at h1
      omega
  unfold formsM paledM
  split
  · exact Nat.le_trans (addM_len _ _) (by omega)
  · omega
/-- the best form of a raster -/
def bestOf (fs : List Fm) : Fm := match fs with
  | [] => bare 0 0 0 0 0
  | f :: fs => bestM f fs
def BestEnd (r : Option (List Fm)) (W : World) (e : Ending) (w' : World) : Prop :=
  (match r with
  | none => e = .returned (.tuple #[.agg #[.int .i64 0, .int .i64 0, .int .i64 0, .int .i64 0, .int .i64 0, .slice none 0 0, .slice none 0 0], .iface 42 (.int .i64 6)])
  | some fs => ∃ z : FR, e = .returned (.tuple #[.agg #[.int .i64 z.f.w, .int .i64 z.f.h, .int .i64 z.f.d, .int .i64 z.f.c, .int .i64 z.f.l, .slice z.PA z.f.pal.length z.pc, .slice z.KA z.f.key.length z.kc], .nilIface]) ∧ z.f = bestOf fs ∧ FmOwn w' W.heap.size z.f z.PA z.KA z.pc z.kc) ∧ Below W.heap.size W w'
set_option maxRecDepth 100000 in
set_option maxHeartbeats 4000000 in
theorem best_no (x y lc : Int) (PR : Option Addr) (pr : Nat) (px : List Px) (W : World) (hp : RdP W W.heap.size PR px) (hm : px.length ≤ 1000000) (hn : fformsM x y lc px = none) :
    Calls Try.prog 61 #[.agg #[.int .i64 x, .int .i64 y, .slice PR px.length pr], .int .i64 lc] W (BestEnd none W) := by
  have Hp := hid hp
  have Hn := hid hn
  have Hw := hid (rcw_start x y PR px.length pr W)
  have Hw2 := hid (Hw.out.alloc (.cells #[.int .i64 0, .int .i64 0, .int .i64 0, .int .i64 0, .int .i64 0, .slice none 0 0, .slice none 0 0] 38))
  have Hr := hid (show Blk ((W.alloc (.cells #[.int .i64 x, .int .i64 y, .slice PR px.length pr] 33)).alloc (.cells #[.int .i64 0, .int .i64 0, .int .i64 0, .int .i64 0, .int .i64 0, .slice none 0 0, .slice none 0 0] 38)) (W.heap.size + 1) 38 #[.int .i64 0, .int .i64 0, .int .i64 0, .int .i64 0, .int .i64 0, .slice none 0 0, .slice none 0 0] by
    have h := Blk.new (W.alloc (.cells #[.int .i64 x, .int .i64 y, .slice PR px.length pr] 33)) 38 #[.int .i64 0, .int .i64 0, .int .i64 0, .int .i64 0, .int .i64 0, .slice none 0 0, .slice none 0 0]
    rw [World.size_alloc] at h
    exact h)
  clear hp hn Hw
  go_enter Try.func61, Try.ntmps61
  go_wp2_with fail
  refine (sforms_any x y lc PR pr px _ (Rd.more (Rd.below Hp.out Hw2.out.2 (Nat.le_refl _)) Hw2.out.2.size) hm).mono ?_
  rintro e w1 ⟨he, hb⟩
  rw [Hn.out] at he
  have he : e = .returned (.tuple #[.slice none 0 0, .iface 42 (.int .i64 6)]) := he
  subst he
  have Hw1 := hid (Hw2.out.below hb)
  have Hr1 := hid (Hr.out.below hb Hr.out.lt)
  have r0 := Hr1.out.cell 0
  have r1 := Hr1.out.cell 1
  have r2 := Hr1.out.cell 2
  have r3 := Hr1.out.cell 3
  have r4 := Hr1.out.cell 4
  have r5 := Hr1.out.cell 5
  have r6 := Hr1.out.cell 6
  have fr := fun i => Hr1.out.frozen i
  simp only [List.getElem?_toArray, List.getElem?_cons_zero, List.getElem?_cons_succ] at r0 r1 r2 r3 r4 r5 r6
  clear hb Hw2 Hr
  go_wp2
  refine bodyPost_ret (v := .tuple #[.agg #[.int .i64 0, .int .i64 0, .int .i64 0, .int .i64 0, .int .i64 0, .slice none 0 0, .slice none 0 0], .iface 42 (.int .i64 6)]) (by simp [results, Try.results61, go_sem, r0, r1, r2, r3, r4, r5, r6]) rfl ?_
  exact ⟨rfl, below8 Hw1.out.2 (by omega)⟩
set_option maxRecDepth 100000 in
set_option maxHeartbeats 8000000 in
theorem best_yes (x y lc : Int) (PR : Option Addr) (pr : Nat) (px : List Px) (W : World) (hp : RdP W W.heap.size PR px) (hm : px.length ≤ 1000000) (h1 : rasOk x y px = true) (h2 : 0 ≤ lc) (h3 : lc ≤ 1) :
    Calls Try.prog 61 #[.agg #[.int .i64 x, .int .i64 y, .slice PR px.length pr], .int .i64 lc] W (BestEnd (some (formsM x y lc px)) W) := by
  have Hp := hid hp
  have Hn := hid (show fformsM x y lc px = some (formsM x y lc px) from if_pos ⟨h1, h2, h3⟩)
  have Hne := hid (forms_ne h1 h2 h3)
  have Hlen := hid (formsM_len x y lc px)
  have Hfit := hid (forms_fit x y lc px)
  have Hw := hid (rcw_start x y PR px.length pr W)
  have Hw2 := hid (Hw.out.alloc (.cells #[.int .i64 0, .int .i64 0, .int .i64 0, .int .i64 0, .int .i64 0, .slice none 0 0, .slice none 0 0] 38))
  have Hr := hid (show Blk ((W.alloc (.cells #[.int .i64 x, .int .i64 y, .slice PR px.length pr] 33)).alloc (.cells #[.int .i64 0, .int .i64 0, .int .i64 0, .int .i64 0, .int .i64 0, .slice none 0 0, .slice none 0 0] 38)) (W.heap.size + 1) 38 #[.int .i64 0, .int .i64 0, .int .i64 0, .int .i64 0, .int .i64 0, .slice none 0 0, .slice none 0 0] by
    have h := Blk.new (W.alloc (.cells #[.int .i64 x, .int .i64 y, .slice PR px.length pr] 33)) 38 #[.int .i64 0, .int .i64 0, .int .i64 0, .int .i64 0, .int .i64 0, .slice none 0 0, .slice none 0 0]
    rw [World.size_alloc] at h
    exact h)
  clear hp Hw h1 h2 h3
  go_enter Try.func61, Try.ntmps61
  go_wp2_with fail
  refine (sforms_any x y lc PR pr px _ (Rd.more (Rd.below Hp.out Hw2.out.2 (Nat.le_refl _)) Hw2.out.2.size) hm).mono ?_
  rintro e w1 ⟨he, hb⟩
  rw [Hn.out] at he
  obtain ⟨OA, oc, zs, rfl, hzm, hzo, hzf⟩ := he
  have Hw1 := hid (Hw2.out.below hb)
  have Hr1 := hid (Hr.out.below hb Hr.out.lt)
  have hbs : W.heap.size ≤ ((W.alloc (.cells #[.int .i64 x, .int .i64 y, .slice PR px.length pr] 33)).alloc (.cells #[.int .i64 0, .int .i64 0, .int .i64 0, .int .i64 0, .int .i64 0, .slice none 0 0, .slice none 0 0] 38)).heap.size := Hw2.out.2.size
  have Hzf := hid (fun z hz => (hzf z hz).lower hbs)
  have Hzm := hid hzm
  have hz7 : zs.length ≤ 7 := by have h := congrArg List.length Hzm.out; rw [List.length_map] at h; rw [h]; exact Hlen.out
  obtain ⟨z0, zt, rfl⟩ : ∃ z0 zt, zs = z0 :: zt := by
    cases zs with
    | nil => exact absurd hzm.symm Hne.out
    | cons z0 zt => exact ⟨z0, zt, rfl⟩
  obtain ⟨A', c', hAc, hcap⟩ := own_form hzo
  injection hAc with hA1 _ hc1
  subst hA1 hc1
  obtain ⟨g, rfl, hg1, hg2⟩ := own_block hzo (by simp)
  have Hrd := hid (own_rd hzo)
  have Hok := hid (fun z (hz : z ∈ z0 :: zt) => fits_ok (Hfit.out z.f (by rw [← hzm]; exact List.mem_map_of_mem hz)))
  have hat : ∀ k (hk : k < (z0 :: zt).length), ∀ o u, o < 7 → (encF ((z0 :: zt)[k]))[o]? = some u → w1.cell? ⟨g, k * 7 + o, none⟩ = some u := by
    intro k hk o u ho hu
    obtain ⟨b, off, hA, hb, hc⟩ := Hrd.out.at_ (k := 0) (by simp) (by omega)
    simp only [Option.some.injEq, Addr.mk.injEq] at hA
    obtain ⟨rfl, rfl, _⟩ := hA
    have h1 := hc (k * 7 + o) u (by
      rw [flat_at encF 7 (z0 :: zt) (fun _ _ => rfl) k o _ (List.getElem?_eq_getElem hk) ho]
      exact hu)
    rw [Nat.zero_add] at h1
    exact h1
  have Hat := hid hat
  have hrl := Hr1.out.lt
  have x0 : w1.cell? ⟨g, 0, none⟩ = some (.int .i64 z0.f.w) := Hat.out 0 (by simp) 0 _ (by omega) rfl
  have x1 : w1.cell? ⟨g, 1, none⟩ = some (.int .i64 z0.f.h) := Hat.out 0 (by simp) 1 _ (by omega) rfl
  have x2 : w1.cell? ⟨g, 2, none⟩ = some (.int .i64 z0.f.d) := Hat.out 0 (by simp) 2 _ (by omega) rfl
  have x3 : w1.cell? ⟨g, 3, none⟩ = some (.int .i64 z0.f.c) := Hat.out 0 (by simp) 3 _ (by omega) rfl
  have x4 : w1.cell? ⟨g, 4, none⟩ = some (.int .i64 z0.f.l) := Hat.out 0 (by simp) 4 _ (by omega) rfl
  have x5 : w1.cell? ⟨g, 5, none⟩ = some (.slice z0.PA z0.f.pal.length z0.pc) := Hat.out 0 (by simp) 5 _ (by omega) rfl
  have x6 : w1.cell? ⟨g, 6, none⟩ = some (.slice z0.KA z0.f.key.length z0.kc) := Hat.out 0 (by simp) 6 _ (by omega) rfl
  simp only [List.length_cons] at hcap hz7
  clear hb Hw2 Hr hat hzo hzf hzm hbs hg1
  simp only [List.length_cons]
  go_upto_region 5 with (fail)
  clear x0 x1 x2 x3 x4 x5 x6
  have Hbb := hid (Blk.new w1 38 #[.int .i64 z0.f.w, .int .i64 z0.f.h, .int .i64 z0.f.d, .int .i64 z0.f.c, .int .i64 z0.f.l, .slice z0.PA z0.f.pal.length z0.pc, .slice z0.KA z0.f.key.length z0.kc])
  have Hb2 := hid ((Below.refl w1.heap.size w1).alloc (Nat.le_refl _) (.cells #[.int .i64 z0.f.w, .int .i64 z0.f.h, .int .i64 z0.f.d, .int .i64 z0.f.c, .int .i64 z0.f.l, .slice z0.PA z0.f.pal.length z0.pc, .slice z0.KA z0.f.key.length z0.kc] 38))
  generalize w1.alloc (.cells #[.int .i64 z0.f.w, .int .i64 z0.f.h, .int .i64 z0.f.d, .int .i64 z0.f.c, .int .i64 z0.f.l, .slice z0.PA z0.f.pal.length z0.pc, .slice z0.KA z0.f.key.length z0.kc] 38) = w2 at *
  have hs2 := Hb2.out.size
  go_cut [25, 26, 27] from 24 to 27 (fun sl ln i wc => ∃ off cc : Nat, sl = .slice (some ⟨g, off, none⟩) zt.length cc ∧ (0 < zt.length → off = 7) ∧ ln = .int .i64 (zt.length : Nat) ∧ i = .int .i64 0 ∧ w2 = wc)
  case first =>
    by_cases h1 : oc = 1
    · subst h1
      have Hz := hid (show zt.length = 0 by omega)
      go_wp2
      go_meet
      exact ⟨0, 0, by simp [Hz.out], fun h => absurd h (by rw [Hz.out]; omega), by simp [Hz.out], rfl, rfl⟩
    · go_wp2
      go_meet
      exact ⟨7, oc - 1, by simp, fun _ => rfl, rfl, rfl, rfl⟩
  case rest =>
  obtain ⟨off, cc, rfl, hoff, rfl, rfl, rfl⟩ := hcut
  go_upto_region 6 with (fail)
  go_loopw [27] (fun i wr => ∃ (k : Nat) (zb : FR), k ≤ zt.length ∧ i = .int .i64 k ∧ zb ∈ z0 :: zt ∧ zb.f = bestM z0.f ((zt.take k).map (·.f)) ∧ Blk wr w1.heap.size 38 #[.int .i64 zb.f.w, .int .i64 zb.f.h, .int .i64 zb.f.d, .int .i64 zb.f.c, .int .i64 zb.f.l, .slice zb.PA zb.f.pal.length zb.pc, .slice zb.KA zb.f.key.length zb.kc] ∧ Below w1.heap.size w1 wr) (fun i _ => zt.length - (intOf i).toNat)
  case atStart => exact ⟨0, z0, by omega, rfl, by simp, rfl, Hbb.out, Hb2.out⟩
  case round =>
    obtain ⟨k, zb, hk, rfl, hzb, hzbf, hbb, hbw⟩ := hrel
    have Hzb := hid hzb
    have Hzbf := hid hzbf
    have Hbb := hid hbb
    have Hbw := hid hbw
    have hsr := hbb.lt
    have fb := fun i => hbb.frozen i
    have b0 := hbb.cell 0
    have b1 := hbb.cell 1
    have b2 := hbb.cell 2
    have b3 := hbb.cell 3
    have b4 := hbb.cell 4
    have b5 := hbb.cell 5
    have b6 := hbb.cell 6
    simp only [List.getElem?_toArray, List.getElem?_cons_zero, List.getElem?_cons_succ] at b0 b1 b2 b3 b4 b5 b6
    clear hzb hzbf hbb hbw
    by_cases hlt : k < zt.length
    · obtain rfl := hoff (by omega)
      have hlt1 : k + 1 < (z0 :: zt).length := by simp; omega
      have hgz : (z0 :: zt)[k + 1] = zt[k] := rfl
      have Hzk := hid (show zt[k] ∈ z0 :: zt from List.mem_cons_of_mem _ (List.getElem_mem hlt))
      have Hsn := hid (show bestM z0.f ((zt.take (k + 1)).map (·.f)) = if sizeM zt[k].f < sizeM zb.f then zt[k].f else zb.f by
        rw [List.take_succ_eq_append_getElem hlt, List.map_append, List.map_singleton, bestM_snoc, ← Hzbf.out])
      have x0 : wr.cell? ⟨g, 7 + k * 7 + 0, none⟩ = some (.int .i64 zt[k].f.w) := (Hbw.out.cell (p := ⟨g, 7 + k * 7 + 0, none⟩) hg2).trans (by rw [show 7 + k * 7 + 0 = (k + 1) * 7 + 0 by omega]; exact Hat.out (k + 1) hlt1 0 _ (by omega) rfl)
      have x1 : wr.cell? ⟨g, 7 + k * 7 + 1, none⟩ = some (.int .i64 zt[k].f.h) := (Hbw.out.cell (p := ⟨g, 7 + k * 7 + 1, none⟩) hg2).trans (by rw [show 7 + k * 7 + 1 = (k + 1) * 7 + 1 by omega]; exact Hat.out (k + 1) hlt1 1 _ (by omega) rfl)
      have x2 : wr.cell? ⟨g, 7 + k * 7 + 2, none⟩ = some (.int .i64 zt[k].f.d) := (Hbw.out.cell (p := ⟨g, 7 + k * 7 + 2, none⟩) hg2).trans (by rw [show 7 + k * 7 + 2 = (k + 1) * 7 + 2 by omega]; exact Hat.out (k + 1) hlt1 2 _ (by omega) rfl)
      have x3 : wr.cell? ⟨g, 7 + k * 7 + 3, none⟩ = some (.int .i64 zt[k].f.c) := (Hbw.out.cell (p := ⟨g, 7 + k * 7 + 3, none⟩) hg2).trans (by rw [show 7 + k * 7 + 3 = (k + 1) * 7 + 3 by omega]; exact Hat.out (k + 1) hlt1 3 _ (by omega) rfl)
      have x4 : wr.cell? ⟨g, 7 + k * 7 + 4, none⟩ = some (.int .i64 zt[k].f.l) := (Hbw.out.cell (p := ⟨g, 7 + k * 7 + 4, none⟩) hg2).trans (by rw [show 7 + k * 7 + 4 = (k + 1) * 7 + 4 by omega]; exact Hat.out (k + 1) hlt1 4 _ (by omega) rfl)
      have x5 : wr.cell? ⟨g, 7 + k * 7 + 5, none⟩ = some (.slice zt[k].PA zt[k].f.pal.length zt[k].pc) := (Hbw.out.cell (p := ⟨g, 7 + k * 7 + 5, none⟩) hg2).trans (by rw [show 7 + k * 7 + 5 = (k + 1) * 7 + 5 by omega]; exact Hat.out (k + 1) hlt1 5 _ (by omega) rfl)
      have x6 : wr.cell? ⟨g, 7 + k * 7 + 6, none⟩ = some (.slice zt[k].KA zt[k].f.key.length zt[k].kc) := (Hbw.out.cell (p := ⟨g, 7 + k * 7 + 6, none⟩) hg2).trans (by rw [show 7 + k * 7 + 6 = (k + 1) * 7 + 6 by omega]; exact Hat.out (k + 1) hlt1 6 _ (by omega) rfl)
      simp only [Nat.add_zero] at x0
      clear hgz
      generalize zt[k] = z at *
      have Hbx := hid (Blk.new wr 38 #[.int .i64 z.f.w, .int .i64 z.f.h, .int .i64 z.f.d, .int .i64 z.f.c, .int .i64 z.f.l, .slice z.PA z.f.pal.length z.pc, .slice z.KA z.f.key.length z.kc])
      have Hby := hid (Hbb.out.alloc (.cells #[.int .i64 z.f.w, .int .i64 z.f.h, .int .i64 z.f.d, .int .i64 z.f.c, .int .i64 z.f.l, .slice z.PA z.f.pal.length z.pc, .slice z.KA z.f.key.length z.kc] 38))
      have Hbz := hid (Hbw.out.alloc Hbw.out.size (.cells #[.int .i64 z.f.w, .int .i64 z.f.h, .int .i64 z.f.d, .int .i64 z.f.c, .int .i64 z.f.l, .slice z.PA z.f.pal.length z.pc, .slice z.KA z.f.key.length z.kc] 38))
      have hxs : w1.heap.size ≤ (wr.alloc (.cells #[.int .i64 z.f.w, .int .i64 z.f.h, .int .i64 z.f.d, .int .i64 z.f.c, .int .i64 z.f.l, .slice z.PA z.f.pal.length z.pc, .slice z.KA z.f.key.length z.kc] 38)).heap.size := Hbz.out.size
      go_upto_region 8 with (fail)
      clear x0 x1 x2 x3 x4 x5 x6 b0 b1 b2 b3 b4 b5 b6 fb
      have hgx : w1.heap.size < wr.heap.size := hsr
      generalize wr.alloc (.cells #[.int .i64 z.f.w, .int .i64 z.f.h, .int .i64 z.f.d, .int .i64 z.f.c, .int .i64 z.f.l, .slice z.PA z.f.pal.length z.pc, .slice z.KA z.f.key.length z.kc] 38) = wx at *
      generalize wr.heap.size = G at *
      have k0 := cell_regrown (show wx.cell? ⟨G, 0, none⟩ = some (.int .i64 z.f.w) from Hbx.out.cell 0)
      have m0 := cell_regrown (show wx.cell? ⟨w1.heap.size, 0, none⟩ = some (.int .i64 zb.f.w) from Hby.out.cell 0)
      have k1 := cell_regrown (show wx.cell? ⟨G, 1, none⟩ = some (.int .i64 z.f.h) from Hbx.out.cell 1)
      have m1 := cell_regrown (show wx.cell? ⟨w1.heap.size, 1, none⟩ = some (.int .i64 zb.f.h) from Hby.out.cell 1)
      have k2 := cell_regrown (show wx.cell? ⟨G, 2, none⟩ = some (.int .i64 z.f.d) from Hbx.out.cell 2)
      have m2 := cell_regrown (show wx.cell? ⟨w1.heap.size, 2, none⟩ = some (.int .i64 zb.f.d) from Hby.out.cell 2)
      have k3 := cell_regrown (show wx.cell? ⟨G, 3, none⟩ = some (.int .i64 z.f.c) from Hbx.out.cell 3)
      have m3 := cell_regrown (show wx.cell? ⟨w1.heap.size, 3, none⟩ = some (.int .i64 zb.f.c) from Hby.out.cell 3)
      have k4 := cell_regrown (show wx.cell? ⟨G, 4, none⟩ = some (.int .i64 z.f.l) from Hbx.out.cell 4)
      have m4 := cell_regrown (show wx.cell? ⟨w1.heap.size, 4, none⟩ = some (.int .i64 zb.f.l) from Hby.out.cell 4)
      have k5 := cell_regrown (show wx.cell? ⟨G, 5, none⟩ = some (.slice z.PA z.f.pal.length z.pc) from Hbx.out.cell 5)
      have m5 := cell_regrown (show wx.cell? ⟨w1.heap.size, 5, none⟩ = some (.slice zb.PA zb.f.pal.length zb.pc) from Hby.out.cell 5)
      have k6 := cell_regrown (show wx.cell? ⟨G, 6, none⟩ = some (.slice z.KA z.f.key.length z.kc) from Hbx.out.cell 6)
      have m6 := cell_regrown (show wx.cell? ⟨w1.heap.size, 6, none⟩ = some (.slice zb.KA zb.f.key.length zb.kc) from Hby.out.cell 6)
      have cS1 : ∀ d' os, Calls Try.prog 63 #[.agg #[.int .i64 z.f.w, .int .i64 z.f.h, .int .i64 z.f.d, .int .i64 z.f.c, .int .i64 z.f.l, .slice z.PA z.f.pal.length z.pc, .slice z.KA z.f.key.length z.kc]] (Sort.grow (redrawn wx d') os) fun e w'' => e = .returned (.int .i64 (sizeM z.f)) ∧ ∃ p : Regrown, w'' = Sort.grow (redrawn wx p.d) p.os := (fun d' os => Calls.regrown_of (size_f z.f z.PA z.KA z.pc z.kc _ (Rd.more (Rd.below (Hzf.out _ Hzk.out).rdp ((Hbz.out).trans ((below_regrown wx d' os).mono hxs)) (Nat.le_refl _)) (Nat.le_trans hxs (below_regrown wx d' os).size)) (RdI.below (Hzf.out _ Hzk.out).rdi ((Hbz.out).trans ((below_regrown wx d' os).mono hxs)) (Nat.le_refl _) |>.more (Nat.le_trans hxs (below_regrown wx d' os).size)) (by have := form_lens (Hok.out _ Hzk.out); omega) (by have := form_lens (Hok.out _ Hzk.out); omega)))
      have cS2 : ∀ d' os, Calls Try.prog 63 #[.agg #[.int .i64 zb.f.w, .int .i64 zb.f.h, .int .i64 zb.f.d, .int .i64 zb.f.c, .int .i64 zb.f.l, .slice zb.PA zb.f.pal.length zb.pc, .slice zb.KA zb.f.key.length zb.kc]] (Sort.grow (redrawn wx d') os) fun e w'' => e = .returned (.int .i64 (sizeM zb.f)) ∧ ∃ p : Regrown, w'' = Sort.grow (redrawn wx p.d) p.os := (fun d' os => Calls.regrown_of (size_f zb.f zb.PA zb.KA zb.pc zb.kc _ (Rd.more (Rd.below (Hzf.out _ Hzb.out).rdp ((Hbz.out).trans ((below_regrown wx d' os).mono hxs)) (Nat.le_refl _)) (Nat.le_trans hxs (below_regrown wx d' os).size)) (RdI.below (Hzf.out _ Hzb.out).rdi ((Hbz.out).trans ((below_regrown wx d' os).mono hxs)) (Nat.le_refl _) |>.more (Nat.le_trans hxs (below_regrown wx d' os).size)) (by have := form_lens (Hok.out _ Hzb.out); omega) (by have := form_lens (Hok.out _ Hzb.out); omega)))
      refine wp_region_quiet_below (by kernel_rfl) (by kernel_rfl) ?_
      repeat (go_big_quiet_step (first | with_reducible exact cS1 _ _ | with_reducible exact cS2 _ _))
      refine wpQuiet_nil ?_
      intro w5 hw5
      obtain ⟨⟨dq, osq⟩, hw5⟩ := hw5
      have hb5 : Below wx.heap.size wx w5 := by rw [hw5]; exact below_regrown wx dq osq
      clear hw5 k0 k1 k2 k3 k4 k5 k6 m0 m1 m2 m3 m4 m5 m6 cS1 cS2
      have Hbx5 := hid (Hbx.out.below hb5 Hbx.out.lt)
      have Hby5 := hid (Hby.out.below hb5 Hby.out.lt)
      have Hbz5 := hid (Hbz.out.trans (hb5.mono hxs))
      have k0 := Hbx5.out.cell 0
      have k1 := Hbx5.out.cell 1
      have k2 := Hbx5.out.cell 2
      have k3 := Hbx5.out.cell 3
      have k4 := Hbx5.out.cell 4
      have k5 := Hbx5.out.cell 5
      have k6 := Hbx5.out.cell 6
      have fb := fun i => Hby5.out.frozen i
      simp only [List.getElem?_toArray, List.getElem?_cons_zero, List.getElem?_cons_succ] at k0 k1 k2 k3 k4 k5 k6
      have m0 := Hby5.out.cell 0
      have m1 := Hby5.out.cell 1
      have m2 := Hby5.out.cell 2
      have m3 := Hby5.out.cell 3
      have m4 := Hby5.out.cell 4
      have m5 := Hby5.out.cell 5
      have m6 := Hby5.out.cell 6
      simp only [List.getElem?_toArray, List.getElem?_cons_zero, List.getElem?_cons_succ] at m0 m1 m2 m3 m4 m5 m6
      clear hb5
      by_cases hs : sizeM z.f < sizeM zb.f
      · rw [show decide (sizeM z.f < sizeM zb.f) = true from decide_eq_true hs]
        have Hnx := hid (Hsn.out.trans (if_pos hs))
        clear hs
        go_wp2
        go_roundw
        case rel =>
          refine ⟨k + 1, z, by omega, by go_num, Hzk.out, Hnx.out.symm, ?_, below8 Hbz5.out (Nat.le_refl _)⟩
          exact (((((((Hby5.out.set_ 0 _).set_ 1 _).set_ 2 _).set_ 3 _).set_ 4 _).set_ 5 _).set_ 6 _)
        case measure => simp [intOf]; omega
      · rw [show decide (sizeM z.f < sizeM zb.f) = false from decide_eq_false hs]
        have Hnx := hid (Hsn.out.trans (if_neg hs))
        clear hs
        go_wp2
        go_roundw
        case rel => exact ⟨k + 1, zb, by omega, by go_num, Hzb.out, Hnx.out.symm, Hby5.out, Hbz5.out⟩
        case measure => simp [intOf]; omega
    · obtain rfl : k = zt.length := by omega
      have Hr5 := hid (Hr1.out.below Hbw.out hrl)
      have r0 := Hr5.out.cell 0
      have r1 := Hr5.out.cell 1
      have r2 := Hr5.out.cell 2
      have r3 := Hr5.out.cell 3
      have r4 := Hr5.out.cell 4
      have r5 := Hr5.out.cell 5
      have r6 := Hr5.out.cell 6
      have fr := fun i => Hr5.out.frozen i
      simp only [List.getElem?_toArray, List.getElem?_cons_zero, List.getElem?_cons_succ] at r0 r1 r2 r3 r4 r5 r6
      go_wp2
      refine bodyPost_ret (v := .tuple #[.agg #[.int .i64 zb.f.w, .int .i64 zb.f.h, .int .i64 zb.f.d, .int .i64 zb.f.c, .int .i64 zb.f.l, .slice zb.PA zb.f.pal.length zb.pc, .slice zb.KA zb.f.key.length zb.kc], .nilIface]) (by simp [results, Try.results61, go_sem, r0, r1, r2, r3, r4, r5, r6]) rfl ?_
      refine ⟨⟨zb, rfl, ?_, ?_⟩, below8 (Hw1.out.2.trans (Hbw.out.mono Hw1.out.2.size)) (by omega)⟩
      · rw [Hzbf.out, List.take_length, ← Hzm.out]
        rfl
      · exact ((Hzf.out _ Hzb.out).below Hbw.out (Nat.le_refl _)).lower (by simp) |>.set7 Hr5.out (by decide) (by decide) _ _ _ _ _ _ _
theorem best_any (x y lc : Int) (PR : Option Addr) (pr : Nat) (px : List Px) (W : World) (hp : RdP W W.heap.size PR px) (hm : px.length ≤ 1000000) :
    Calls Try.prog 61 #[.agg #[.int .i64 x, .int .i64 y, .slice PR px.length pr], .int .i64 lc] W (BestEnd (fformsM x y lc px) W) := by
  by_cases h : rasOk x y px = true ∧ 0 ≤ lc ∧ lc ≤ 1
  · rw [show fformsM x y lc px = some (formsM x y lc px) from if_pos h]
    exact best_yes x y lc PR pr px W hp hm h.1 h.2.1 h.2.2
  · rw [show fformsM x y lc px = none from if_neg h]
    exact best_no x y lc PR pr px W hp hm (if_neg h)

end Go.Proofs.Ytphhoihhmphbdaa
