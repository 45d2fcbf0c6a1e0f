/-
  shrink.unlike: all unlike pixels of a list, in the order in which they stand first.
-/
import Derived.Test.YtchkogfgkaaogaaShMap
import Derived.Test.YtchkogfgkaaogaaRlaw
import Derived.Deep.RegionHeld3
import Derived.Deep.RegionLaw
import Derived.BigRegion
import Derived.Maps.OwnOps
namespace Go.Proofs.Ytchkogfgkaaogaa
open Go.RowKit

/-- the unlike pixels -/
def unlStep (acc : List Px) (p : Px) : List Px := if p ∈ acc then acc else acc ++ [p]
def unl (l : List Px) : List Px := l.foldl unlStep []
theorem unl_take (l : List Px) (j : Nat) (hj : j < l.length) : unl (l.take (j + 1)) = unlStep (unl (l.take j)) l[j] := by
  unfold unl
  rw [List.take_succ_eq_append_getElem hj, List.foldl_append]; rfl
/-- the map behind j pixels -/
def CInv (u : List (Px × Int)) (j : Nat) (keys : List Px) : Prop := KeysOk u ∧ (∀ x ∈ u, 1 ≤ x.2 ∧ x.2 ≤ j) ∧ u.map (·.1) = keys
theorem bump_keys' {u : List (Px × Int)} (hk : KeysOk u) (p : Px) : (bump u p).map (·.1) = unlStep (u.map (·.1)) p := by
  rw [bump_keys hk]
  unfold touch unlStep
  split
  · rfl
  · simp
theorem cnt_some {u : List (Px × Int)} {j : Nat} {keys : List Px} (h : CInv u j keys) (p : Px) : 0 ≤ cntOf u p ∧ cntOf u p ≤ j ∧ (cntOf u p = 0 ↔ p ∉ keys) := by
  obtain ⟨hk, hc, hkeys⟩ := h
  by_cases hp : p ∈ u.map (·.1)
  · obtain ⟨x, hx, hxp⟩ := List.mem_map.1 hp
    obtain ⟨i, hi⟩ := List.getElem?_of_mem hx
    rw [(find_hit hk hi hxp).1]
    have := hc x hx
    exact ⟨by omega, this.2, fun h => by omega, fun h => absurd (hkeys ▸ hp) h⟩
  · rw [(find_no hp).1]
    exact ⟨by omega, by omega, fun _ h => hp (hkeys ▸ h), fun _ => rfl⟩
theorem cinv_next {u : List (Px × Int)} {j : Nat} {keys : List Px} (h : CInv u j keys) {p : Px} (hp : soundB p = true) : CInv (bump u p) (j + 1) (unlStep keys p) := by
  have hcn := cnt_some h p
  obtain ⟨hk, hc, hkeys⟩ := h
  refine ⟨bump_ok hk hp, fun x hx => ?_, by rw [bump_keys' hk, hkeys]⟩
  have hat := touch_at hk p
  obtain ⟨hil, _⟩ := List.getElem?_eq_some_iff.1 hat
  obtain ⟨i, hi⟩ := List.getElem?_of_mem hx
  unfold bump at hi
  by_cases e : idxOf' u p = i
  · subst e
    rw [List.getElem?_set_self hil] at hi
    injection hi with hi
    subst hi
    show 1 ≤ cntOf u p + 1 ∧ cntOf u p + 1 ≤ _
    omega
  · rw [List.getElem?_set_ne e] at hi
    unfold touch at hi
    split at hi
    · have := hc x (List.mem_of_getElem? hi); omega
    · rename_i hno
      by_cases hl : i < u.length
      · rw [List.getElem?_append_left hl] at hi
        have := hc x (List.mem_of_getElem? hi); omega
      · have := (find_no hno).2
        rw [List.getElem?_append_right (by omega)] at hi
        have h2 := (List.getElem?_eq_some_iff.1 hi).1
        simp at h2
        omega

section
variable {g B base : Nat} {w w' : World}
theorem Only.grown (h : Only g w w') : w.grownBy w' (some g) := ⟨h.2.2.1, h.2.2.2.1, h.2.2.2.2, Nat.le_of_eq h.1.symm, fun k _ hk => h.2.1 k (fun e => hk (by rw [e]))⟩
theorem Only.below (h : Only g w w') (hg : B ≤ g) : Below B w w' := ⟨h.2.2.1, h.2.2.2.1, h.2.2.2.2, Nat.le_of_eq h.1.symm, fun k hk => h.2.1 k (by omega)⟩
theorem Only.blk (h : Only g w w') {b : Nat} {t : TypeId} {cs : Array Value} (hb : Blk w b t cs) (hne : b ≠ g) : Blk w' b t cs := (h.2.1 b hne).trans hb
theorem own_only {e : TypeId} {size n : Nat} {v : Value} {xs : List Value} (ho : w.ownsRow base e size v n xs) (h : Only g w w') (hg : g < base) : w'.ownsRow base e size v n xs :=
  ho.kept h.grown (by
    cases hv : v.ownBlock with
    | none => exact .inl rfl
    | some k => exact .inr (fun he => by have := (ho.lt k hv).1; injection he with he; omega))
theorem MapW.alloc {u : List (Px × Int)} (h : MapW w g u) (o : Obj) : MapW (w.alloc o) g u := (Below.heap_alloc w o g (Array.getElem?_eq_some_iff.1 h).1).trans h
theorem MapW.drew {u : List (Px × Int)} (h : MapW w g u) : MapW w.drew g u := h
theorem MapW.grown {u : List (Px × Int)} {row : Option Nat} (h : MapW w g u) (hb : w.grownBy w' row) (hne : some g ≠ row) : MapW w' g u := (hb.block g (Array.getElem?_eq_some_iff.1 h).1 hne).trans h
end
theorem unl_sub (l : List Px) : ∀ x ∈ unl l, x ∈ l := by
  have : ∀ (l acc : List Px), ∀ x ∈ l.foldl unlStep acc, x ∈ acc ∨ x ∈ l := by
    intro l
    induction l with
    | nil => intro acc x hx; exact .inl hx
    | cons a l ih =>
      intro acc x hx
      rcases ih _ x hx with h | h
      · unfold unlStep at h
        split at h
        · exact .inl h
        · rcases List.mem_append.1 h with h | h
          · exact .inl h
          · simp at h; subst h; exact .inr (by simp)
      · exact .inr (by simp [h])
  intro x hx
  rcases this l [] x hx with h | h
  · cases h
  · exact h
theorem unl_len (l : List Px) : (unl l).length ≤ l.length := by
  have : ∀ (l acc : List Px), (l.foldl unlStep acc).length ≤ acc.length + l.length := by
    intro l
    induction l with
    | nil => intro acc; simp
    | cons a l ih =>
      intro acc
      have := ih (unlStep acc a)
      have h2 : (unlStep acc a).length ≤ acc.length + 1 := by unfold unlStep; split <;> simp
      simp only [List.foldl_cons, List.length_cons]; omega
  have h := this l []
  unfold unl
  simpa using h

theorem own_rdp {w : World} {base : Nat} {A : Option Addr} {c : Nat} {o : List Px} (h : w.ownsRow base 69 4 (.slice A o.length c) o.length (o.flatMap encP)) : RdP w w.heap.size A o := own_rd h
theorem own_nil_n {w : World} {base : Nat} {e : TypeId} {size n c : Nat} {A : Option Addr} {xs : List Value} (h : w.ownsRow base e size (.slice A n c) n xs) (hA : A = none) : n = 0 := by
  subst hA
  rcases h.2 with ⟨h1, _⟩ | ⟨g, cap, cur, h1, _⟩
  · injection h1
  · injection h1 with h1; cases h1
/-- what a list of pixels ends in -/
def PxsEnd (l : List Px) (W : World) (e : Ending) (w' : World) : Prop := ∃ A c, e = .returned (.slice A l.length c) ∧ w'.ownsRow W.heap.size 69 4 (.slice A l.length c) l.length (l.flatMap encP) ∧ Below W.heap.size W w'

set_option maxRecDepth 100000 in
set_option maxHeartbeats 8000000 in
theorem unlike_any (A : Option Addr) (c : Nat) (l : List Px) (W : World) (hp : RdP W W.heap.size A l) (hm : l.length ≤ 1000000) (hs : l.all soundB = true) :
    Calls Try.prog 37 #[.slice A l.length c] W (PxsEnd (unl l) W) := by
  have Hp := hid hp
  have Hs := hid hs
  obtain ⟨i0, hi0, hz0, hz1, hz2⟩ := info_parts px_info
  have Hi0 := hid hi0
  have Hz0 := hid hz0
  have Hz1 := hid hz1
  have Hz2 := hid hz2
  have hmm := @run_makeMap Try.prog
  have H0 := hid (show MapW (W.alloc (.map #[] 0)) W.heap.size [] from heap_alloc_new W _)
  clear hp hs hi0 hz0 hz1 hz2
  go_enter Try.func37, Try.ntmps37
  go_upto_region 4 with (fail)
  go_loopw [4, 10] (fun o i wr => ∃ (j : Nat) (A' : Option Addr) (c' : Nat) (u : List (Px × Int)), j ≤ l.length ∧ i = .int .i64 j ∧ o = .slice A' (unl (l.take j)).length c' ∧ wr.ownsRow (W.heap.size + 1) 69 4 (.slice A' (unl (l.take j)).length c') (unl (l.take j)).length ((unl (l.take j)).flatMap encP) ∧ MapW wr W.heap.size u ∧ CInv u j (unl (l.take j)) ∧ Below W.heap.size W wr) (fun _ i _ => l.length - (intOf i).toNat)
  case atStart =>
    exact ⟨0, none, 0, [], by omega, rfl, rfl, World.ownsRow_nil _ _ _ _, H0.out, ⟨⟨by simp, by simp⟩, by simp, rfl⟩, (Below.refl _ _).alloc (Nat.le_refl _) _⟩
  case round =>
    obtain ⟨j, A', c', u, hj, rfl, rfl, hown, hmap, hinv, hb⟩ := hrel
    have Hown := hid hown
    have Hmap := hid hmap
    have Hinv := hid hinv
    have Hb := hid hb
    have hg : W.heap.size < wr.heap.size := (Array.getElem?_eq_some_iff.1 hmap).1
    clear hown hmap hinv hb H0
    by_cases hlt : j < l.length
    · obtain ⟨b, off, rfl, hbb, x0, x1, x2, x3⟩ := px_at (Rd.below Hp.out Hb.out (Nat.le_refl _)) hlt
      have Hut := hid (unl_take l j hlt)
      have hsp : soundB l[j] = true := List.all_eq_true.1 Hs.out _ (List.getElem_mem hlt)
      have hul : (unl (l.take j)).length ≤ j := Nat.le_trans (unl_len _) (List.length_take_le _ _)
      generalize l[j] = p at *
      have Hsp := hid hsp
      have Hnx := hid (cinv_next Hinv.out Hsp.out)
      obtain ⟨c0, cj, cz⟩ := cnt_some Hinv.out p
      have Hcz := hid cz
      obtain ⟨p0, p1, p2, p3⟩ := p
      simp only at x0 x1 x2 x3
      obtain ⟨w1, w2, h1, h2, h3, h4, h5, h6, h7, h8⟩ := map_bump (p := (p0, p1, p2, p3)) ((Hmap.out.alloc (.cells #[.int .i64 p0, .int .i64 p1, .int .i64 p2, .int .i64 p3] 69)).drew) Hinv.out.1 Hsp.out
      have Hbox := hid (h8.blk ((Blk.new wr 69 #[.int .i64 p0, .int .i64 p1, .int .i64 p2, .int .i64 p3]).drew) (by omega))
      have Hown2 := hid (own_only (World.ownsRow.drew (Hown.out.alloc (.cells #[.int .i64 p0, .int .i64 p1, .int .i64 p2, .int .i64 p3] 69))) h8 (by omega))
      have Hb2 := hid (((Hb.out.alloc (by omega) (.cells #[.int .i64 p0, .int .i64 p1, .int .i64 p2, .int .i64 p3] 69)).drew).trans (h8.below (Nat.le_refl _)))
      have hsz2 : W.heap.size + 1 ≤ w2.heap.size ∧ wr.heap.size < w2.heap.size := by have := h8.1; simp at this; omega
      obtain ⟨hs2, hs3⟩ := hsz2
      have H6 := hid h6
      have hbx : w1.cell? ⟨wr.heap.size, 0, none⟩ = some (.int .i64 p0) := (World.cell?_of_block (h7.2.1 wr.heap.size (by omega))).trans ((Blk.new wr 69 #[.int .i64 p0, .int .i64 p1, .int .i64 p2, .int .i64 p3]).drew.cell 0)
      generalize cntOf u (p0, p1, p2, p3) = n at *
      generalize (idxOf' u (p0, p1, p2, p3) : Nat) = st at *
      unfold vP at h1 h2 h3 h5
      simp only at h1 h2 h3 h5
      have hq : IntKind.i64.wrap (n + 1) = n + 1 := IntWalk.i64_in _ (by omega)
      clear h6 h7 h8 hsp cz hmm
      by_cases hn : n = 0
      · have he := hid (show unl (l.take (j + 1)) = unl (l.take j) ++ [(p0, p1, p2, p3)] by rw [Hut.out]; unfold unlStep; rw [if_neg (Hcz.out.1 hn)])
        have hq2 : (n + 1 == 1) = true := beq_iff_eq.2 (by omega)
        clear hn
        go_wp2_with fail
        go_region
        have r0 := Hbox.out.cell 0
        have r1 := Hbox.out.cell 1
        have r2 := Hbox.out.cell 2
        have r3 := Hbox.out.cell 3
        simp only [List.getElem?_toArray, List.getElem?_cons_zero, List.getElem?_cons_succ] at r0 r1 r2 r3
        go_wp2_with (at_builtin; refine wpList_app _ rfl _ _ _ rfl (W.heap.size + 1) 69 i0 (.agg #[.int .i64 0, .int .i64 0, .int .i64 0, .int .i64 0]) 4 32 Try.underlying22 Hi0.out Hz0.out Hz1.out Hz2.out rfl (by omega) A' (unl (l.take j)).length c' _ rfl (Hown2.out.alloc _) _ _ 1 1 [.int .i64 p0, .int .i64 p1, .int .i64 p2, .int .i64 p3] rfl (rd_one _ _ _ _ (Blk.new _ _ _)) (by simp) (by simp [Value.oneCell']) (by simp only [maxLen]; omega) (by omega) (by simp; omega) ?_; rintro A3 c3 w3 ⟨hown3, hgr3, hb3, _⟩)
        go_roundw
        case rel =>
          refine ⟨j + 1, A3, c3, bump u (p0, p1, p2, p3), by omega, by go_num, by rw [he.out, List.length_append]; rfl, ?_, ?_, ?_, (Hb2.out.alloc (by omega) _).trans (hb3.mono (by omega))⟩
          · rw [he.out, List.flatMap_append, List.length_append]
            exact hown3
          · refine MapW.grown (MapW.alloc H6.out _) hgr3 ?_
            intro e
            have := ((Hown2.out.alloc (.cells #[.int .i64 p0, .int .i64 p1, .int .i64 p2, .int .i64 p3] 69)).lt _ e.symm).1
            omega
          · rw [Hut.out]; exact Hnx.out
        case measure => simp [intOf]; omega
      · have he := hid (show unl (l.take (j + 1)) = unl (l.take j) by rw [Hut.out]; unfold unlStep; rw [if_pos (Decidable.of_not_not (fun h => hn (Hcz.out.2 h)))])
        have hq2 : (n + 1 == 1) = false := beq_eq_false_iff_ne.2 (by omega)
        clear hn
        go_wp2_with fail
        go_region
        have r0 := Hbox.out.cell 0
        have r1 := Hbox.out.cell 1
        have r2 := Hbox.out.cell 2
        have r3 := Hbox.out.cell 3
        simp only [List.getElem?_toArray, List.getElem?_cons_zero, List.getElem?_cons_succ] at r0 r1 r2 r3
        go_wp2_with fail
        go_roundw
        case rel =>
          refine ⟨j + 1, A', c', bump u (p0, p1, p2, p3), by omega, by go_num, by rw [he.out], by rw [he.out]; exact Hown2.out, H6.out, by rw [Hut.out]; exact Hnx.out, Hb2.out⟩
        case measure => simp [intOf]; omega
    · have e : j = l.length := by omega
      have ht : l.take j = l := by rw [e, List.take_length]
      rw [ht] at Hown ⊢
      go_wp2
      go_ret
      exact ⟨A', c', rfl, own_base Hown.out (by omega), Hb.out⟩

end Go.Proofs.Ytchkogfgkaaogaa
