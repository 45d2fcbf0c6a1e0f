/-
  A map from pixels to counts, of the call's own: looked up, and raised by one.
-/
import Derived.Test.YtchkogfgkaaogaaShA
import Derived.WideKeyEntry
import Derived.DeepKeys4
namespace Go.Proofs.Ytchkogfgkaaogaa
open Go.RowKit Go.MapKept Go.WideElems Go.ChangeMaps
open Go.WideMaps (KeyLaw)

theorem wide_px : (match Try.prog.underlying 69 with | some (.array _ _) | some (.struct _) => true | _ => false) = true := by kernel_rfl
theorem row_px : (69 : TypeId) < Try.prog.types.size := of_decide_eq_true (by kernel_rfl)
theorem law_px : KeyLaw Try.prog 69 := deep_law_laid laidOut (m := 3) (by omega) row_px (by kernel_rfl) (by kernel_rfl)
def smallB (x : Int) : Prop := 0 ≤ x ∧ x ≤ 65535
theorem small_wf {x : Int} (h : smallB x) : (Lit.int .i64 x).wf = true := by
  obtain ⟨h1, h2⟩ := h
  exact WalkArith.wf_i64 (by omega)
theorem px_key {a0 a1 a2 a3 : Int} (w0 : (Lit.int .i64 a0).wf = true) (w1 : (Lit.int .i64 a1).wf = true) (w2 : (Lit.int .i64 a2).wf = true) (w3 : (Lit.int .i64 a3).wf = true) :
    ∃ kl, keyOf Try.prog 69 (.agg #[.int .i64 a0, .int .i64 a1, .int .i64 a2, .int .i64 a3]) = some kl := by
  have hs : ∃ m, Try.prog.types.size = m + 1 := ⟨Try.prog.types.size - 1, by have : 0 < Try.prog.types.size := of_decide_eq_true (by kernel_rfl); omega⟩
  obtain ⟨m, hm⟩ := hs
  have hkt : Try.prog.keyType 69 = true := by kernel_rfl
  have hc : Try.prog.cellsOf 69 = 4 := by kernel_rfl
  have hc1 : Try.prog.cellsOf 3 = 1 := by kernel_rfl
  unfold keyOf
  simp only [Try.underlying69]
  rw [if_pos (by simp [hkt, Value.formed, Try.underlying69, hc]), hm]
  unfold Program.keyLits
  simp only [Try.underlying69, Value.cells]
  rw [if_pos (by rw [hc]; exact ⟨rfl, by kernel_rfl⟩)]
  simp [Program.keyLits, Try.underlying3, hc1, w0, w1, w2, w3]

/-- the entries of a map from pixels to counts -/
def mapEs (u : List (Px × Int)) : Array MapEntry := (u.mapIdx (fun i x => (⟨vP x.1, .int .i64 x.2, i⟩ : MapEntry))).toArray
def MapW (w : World) (g : Nat) (u : List (Px × Int)) : Prop := w.heap[g]? = some (.map (mapEs u) u.length)
/-- all keys are pixels' numbers, and unlike -/
def KeysOk (u : List (Px × Int)) : Prop := (∀ x ∈ u, soundB x.1 = true) ∧ (u.map (·.1)).Nodup
def cntOf (u : List (Px × Int)) (p : Px) : Int := ((u.find? (fun x => x.1 == p)).map (·.2)).getD 0
def idxOf' (u : List (Px × Int)) (p : Px) : Nat := u.findIdx (fun x => x.1 == p)
def touch (u : List (Px × Int)) (p : Px) : List (Px × Int) := if p ∈ u.map (·.1) then u else u ++ [(p, 0)]
theorem vP_inj {p q : Px} (h : vP p = vP q) : p = q := by
  obtain ⟨p0, p1, p2, p3⟩ := p
  obtain ⟨q0, q1, q2, q3⟩ := q
  unfold vP at h
  simp at h
  obtain ⟨rfl, rfl, rfl, rfl⟩ := h
  rfl
theorem sound_key {p : Px} (h : soundB p = true) : ∃ kl, keyOf Try.prog 69 (vP p) = some kl := by
  obtain ⟨p0, p1, p2, p3⟩ := p
  unfold soundB at h
  simp at h
  obtain ⟨h0, h1, h2, h3⟩ := h
  exact px_key (small_wf h0) (small_wf h1) (small_wf h2) (small_wf h3)
theorem mapEs_at (u : List (Px × Int)) (j : Nat) : (mapEs u).toList[j]? = (u[j]?).map (fun x => (⟨vP x.1, .int .i64 x.2, j⟩ : MapEntry)) := by
  simp [mapEs, List.getElem?_mapIdx]
theorem mapEs_keys {u : List (Px × Int)} (hk : KeysOk u) : ∀ e ∈ (mapEs u).toList, ∃ l, keyOf Try.prog 69 e.key = some l := by
  intro e he
  obtain ⟨j, hj⟩ := List.getElem?_of_mem he
  rw [mapEs_at] at hj
  cases hx : u[j]? with
  | none => rw [hx] at hj; cases hj
  | some x =>
    rw [hx] at hj
    injection hj with hj
    subst hj
    exact sound_key (hk.1 x (List.mem_of_getElem? hx))
theorem find_hit {u : List (Px × Int)} (hk : KeysOk u) {p : Px} {j : Nat} {x : Px × Int} (hx : u[j]? = some x) (hp : x.1 = p) : cntOf u p = x.2 ∧ idxOf' u p = j ∧ p ∈ u.map (·.1) := by
  obtain ⟨hj, hxe⟩ := List.getElem?_eq_some_iff.1 hx
  have hfirst : ∀ i, i < j → ∀ (hi : i < u.length), (u[i].1 == p) = false := by
    intro i hi hl
    rw [beq_eq_false_iff_ne]
    intro h
    have := (List.pairwise_iff_getElem.1 hk.2) i j (by simpa using hl) (by simpa using hj) hi
    apply this
    simp [h, hxe, hp]
  have hidx : idxOf' u p = j := by
    unfold idxOf'
    rw [List.findIdx_eq hj]
    exact ⟨by rw [hxe, hp]; simp, fun i hi => hfirst i hi (by omega)⟩
  refine ⟨?_, hidx, List.mem_map.2 ⟨x, List.mem_of_getElem? hx, hp⟩⟩
  unfold cntOf
  have hf : u.find? (fun x => x.1 == p) = some x := by
    rw [List.find?_eq_some_iff_getElem]
    exact ⟨by simp [hp], j, hj, hxe, fun i hi => by simpa using hfirst i hi (by omega)⟩
  rw [hf]; rfl
theorem find_no {u : List (Px × Int)} {p : Px} (h : p ∉ u.map (·.1)) : cntOf u p = 0 ∧ idxOf' u p = u.length := by
  have h' : ∀ x ∈ u, ¬ (x.1 == p) = true := fun x hx he => h (List.mem_map.2 ⟨x, hx, eq_of_beq he⟩)
  refine ⟨?_, ?_⟩
  · unfold cntOf
    rw [List.find?_eq_none.2 h']
    rfl
  · unfold idxOf'
    exact List.findIdx_eq_length_of_false (fun x hx => by simpa using h' x hx)
theorem map_find {u : List (Px × Int)} (hk : KeysOk u) {p : Px} (hp : soundB p = true) (w : World) :
    ((Instr.findKey 69 (vP p) (mapEs u).toList).run Try.prog w = .ok none w ∧ p ∉ u.map (·.1)) ∨
    (∃ j x, (Instr.findKey 69 (vP p) (mapEs u).toList).run Try.prog w = .ok (some (j, .int .i64 x.2)) w ∧ u[j]? = some x ∧ x.1 = p) := by
  obtain ⟨kl, hkl⟩ := sound_key hp
  rcases law_px.find w hkl _ (mapEs_keys hk) with ⟨h1, h2⟩ | ⟨j, e, h1, h2, h3⟩
  · refine .inl ⟨h1, fun hm => ?_⟩
    obtain ⟨x, hx, hxp⟩ := List.mem_map.1 hm
    obtain ⟨j, hj⟩ := List.getElem?_of_mem hx
    have := mapEs_at u j
    rw [hj] at this
    exact h2 _ (List.mem_of_getElem? this) (by rw [← hxp])
  · rw [mapEs_at] at h2
    cases hx : u[j]? with
    | none => rw [hx] at h2; cases h2
    | some x =>
      rw [hx] at h2
      injection h2 with h2
      subst h2
      exact .inr ⟨j, x, h1, hx, vP_inj h3⟩
theorem map_lookup {w : World} {g : Nat} {u : List (Px × Int)} (h : MapW w g u) (hk : KeysOk u) {p : Px} (hp : soundB p = true) :
    (Instr.lookup 125 (.map (some g)) (vP p) false).run Try.prog w = .ok (.int .i64 (cntOf u p)) w := by
  obtain ⟨kl, hkl⟩ := sound_key hp
  rcases map_find hk hp w with ⟨h1, h2⟩ | ⟨j, x, h1, h2, h3⟩
  · rw [(find_no h2).1]
    simp [Instr.lookup, run_underlying Try.underlying125, MapKept.run_getObj_map h, law_px.check w _ hkl, h1, Result.andThen]
  · rw [(find_hit hk h2 h3).1]
    simp [Instr.lookup, run_underlying Try.underlying125, MapKept.run_getObj_map h, law_px.check w _ hkl, h1, Result.andThen]
theorem setBlock_at {w : World} {g : Nat} {o o' : Obj} (h : w.heap[g]? = some o') : (setBlock w g o).heap[g]? = some o := by
  have hg : g < w.heap.size := (Array.getElem?_eq_some_iff.1 h).1
  simp [setBlock, hg]
/-- nothing but block g has turned -/
def Only (g : Nat) (w w' : World) : Prop := w'.heap.size = w.heap.size ∧ (∀ k, k ≠ g → w'.heap[k]? = w.heap[k]?) ∧ w'.os = w.os ∧ w'.tape = w.tape ∧ w'.output = w.output
theorem only_set (w : World) (g : Nat) (o : Obj) : Only g w (setBlock w g o) := by
  refine ⟨by simp [setBlock], fun k hk => ?_, rfl, rfl, rfl⟩
  simp [setBlock, Ne.symm hk]
theorem Only.trans {g : Nat} {a b c : World} (h1 : Only g a b) (h2 : Only g b c) : Only g a c := ⟨h2.1.trans h1.1, fun k hk => (h2.2.1 k hk).trans (h1.2.1 k hk), h2.2.2.1.trans h1.2.2.1, h2.2.2.2.1.trans h1.2.2.2.1, h2.2.2.2.2.trans h1.2.2.2.2⟩
theorem touch_ok {u : List (Px × Int)} (hk : KeysOk u) {p : Px} (hp : soundB p = true) : KeysOk (touch u p) := by
  unfold touch
  split
  · exact hk
  · rename_i h
    refine ⟨fun x hx => ?_, ?_⟩
    · rcases List.mem_append.1 hx with hx | hx
      · exact hk.1 x hx
      · simp at hx; subst hx; exact hp
    · rw [List.map_append, List.nodup_append]
      refine ⟨hk.2, by simp, fun a ha b hb hab => ?_⟩
      simp at hb
      subst hb hab
      exact h ha
theorem touch_at {u : List (Px × Int)} (hk : KeysOk u) (p : Px) : (touch u p)[idxOf' u p]? = some (p, cntOf u p) := by
  unfold touch
  split
  · rename_i h
    obtain ⟨x, hx, hxp⟩ := List.mem_map.1 h
    obtain ⟨j, hj⟩ := List.getElem?_of_mem hx
    obtain ⟨h1, h2, _⟩ := find_hit hk hj hxp
    rw [h2, h1, hj, ← hxp]
  · rename_i h
    obtain ⟨h1, h2⟩ := find_no h
    rw [h1, h2, List.getElem?_append_right (Nat.le_refl _)]
    simp
theorem map_entry {w : World} {g : Nat} {u : List (Px × Int)} (h : MapW w g u) (hk : KeysOk u) {p : Px} (hp : soundB p = true) :
    ∃ w1, (Instr.mapEntry 125 (.map (some g)) (vP p)).run Try.prog w = .ok (.tuple #[.int .i64 (cntOf u p), .int .i64 (idxOf' u p : Nat)]) w1 ∧ MapW w1 g (touch u p) ∧ Only g w w1 := by
  obtain ⟨kl, hkl⟩ := sound_key hp
  rcases map_find hk hp w with ⟨h1, h2⟩ | ⟨j, x, h1, h2, h3⟩
  · obtain ⟨e1, e2⟩ := find_no h2
    have ht : touch u p = u ++ [(p, 0)] := by unfold touch; rw [if_neg h2]
    refine ⟨setBlock w g (.map (mapEs (touch u p)) (u.length + 1)), ?_, ?_, only_set _ _ _⟩
    · rw [e1, e2, ht]
      have he : mapEs (u ++ [(p, 0)]) = (mapEs u).push ⟨vP p, .int .i64 0, u.length⟩ := by simp [mapEs, List.mapIdx_append]
      rw [he]
      simp [Instr.mapEntry, run_underlying Try.underlying125, MapKept.run_getObj_map h, law_px.check w _ hkl, h1, MapKept.run_setObj_map _ h, Result.andThen, setBlock, goInt]
    · have := setBlock_at (o := .map (mapEs (touch u p)) (u.length + 1)) h
      rw [ht] at this ⊢
      unfold MapW
      rw [this]; simp
  · obtain ⟨e1, e2, e3⟩ := find_hit hk h2 h3
    have ht : touch u p = u := by unfold touch; rw [if_pos e3]
    have hat : (mapEs u)[j]? = some ⟨vP p, .int .i64 x.2, j⟩ := by
      have := mapEs_at u j
      rw [h2] at this
      rw [← h3]
      simpa using this
    have hsame : (mapEs u).modify j (fun e => { e with key := vP p }) = mapEs u := by
      apply Array.ext'
      rw [Array.toList_modify]
      apply List.ext_getElem?
      intro i
      rw [List.getElem?_modify]
      have hl : (mapEs u).toList[j]? = some ⟨vP p, .int .i64 x.2, j⟩ := by simpa using hat
      by_cases hi : j = i
      · subst hi
        simp [hl]
      · simp [hi]
    refine ⟨setBlock w g (.map (mapEs (touch u p)) u.length), ?_, ?_, only_set _ _ _⟩
    · rw [e1, e2, ht]
      simp [Instr.mapEntry, run_underlying Try.underlying125, MapKept.run_getObj_map h, law_px.check w _ hkl, h1, hat, law_px.stays w hkl, hsame, MapKept.run_setObj_map _ h, Result.andThen, setBlock, goInt]
    · have := setBlock_at (o := .map (mapEs (touch u p)) u.length) h
      rw [ht] at this ⊢
      exact this
theorem mapEs_set (u : List (Px × Int)) (j : Nat) (p : Px) (n v : Int) (h : u[j]? = some (p, n)) : (mapEs u).modify j (fun e => { e with val := .int .i64 v }) = mapEs (u.set j (p, v)) := by
  apply Array.ext'
  rw [Array.toList_modify]
  apply List.ext_getElem?
  intro i
  rw [List.getElem?_modify, mapEs_at, mapEs_at]
  obtain ⟨hj, _⟩ := List.getElem?_eq_some_iff.1 h
  by_cases hi : j = i
  · subst hi
    have e : u[j] = (p, n) := by rw [List.getElem?_eq_getElem hj] at h; injection h
    simp [hj, e]
  · simp [hi]
theorem map_store {w : World} {g : Nat} {u : List (Px × Int)} (h : MapW w g u) {j : Nat} {p : Px} {n : Int} (hj : u[j]? = some (p, n)) (v : Int) :
    ∃ w1, (Instr.entryStore 125 (.map (some g)) (.int .i64 (j : Nat)) (.int .i64 v)).run Try.prog w = .ok () w1 ∧ MapW w1 g (u.set j (p, v)) ∧ Only g w w1 := by
  have hborn : (((mapEs u).toList).map (·.born)).Nodup := by
    have : ((mapEs u).toList).map (·.born) = List.range u.length := by
      apply List.ext_getElem?
      intro i
      rw [List.getElem?_map, mapEs_at]
      by_cases hi : i < u.length
      · simp [hi]
      · simp [hi]
    rw [this]; exact List.nodup_range
  have hat : (mapEs u).toList[j]? = some ⟨vP p, .int .i64 n, j⟩ := by rw [mapEs_at, hj]; rfl
  have hidx : (mapEs u).findIdx? (fun e => ((e.born : Nat) : Int) == ((j : Nat) : Int)) = some j := by
    rw [findIdx_arr]
    exact findIdx_born hborn hat
  refine ⟨setBlock w g (.map (mapEs (u.set j (p, v))) u.length), ?_, ?_, only_set _ _ _⟩
  · rw [← mapEs_set u j p n v hj]
    simp [Instr.entryStore, MapKept.run_getObj_map h, asInt, asIntOf, hidx, MapKept.run_setObj_map _ h, Result.andThen, setBlock]
  · have := setBlock_at (o := .map (mapEs (u.set j (p, v))) u.length) h
    unfold MapW
    rw [this]; simp

/-- the map with a pixel counted once more -/
def bump (u : List (Px × Int)) (p : Px) : List (Px × Int) := (touch u p).set (idxOf' u p) (p, cntOf u p + 1)
theorem bump_keys {u : List (Px × Int)} (hk : KeysOk u) (p : Px) : (bump u p).map (·.1) = (touch u p).map (·.1) := by
  unfold bump
  rw [List.map_set]
  have h := touch_at hk p
  obtain ⟨hj, he⟩ := List.getElem?_eq_some_iff.1 h
  apply List.ext_getElem?
  intro i
  by_cases hi : idxOf' u p = i
  · subst hi
    rw [List.getElem?_set_self (by simpa using hj)]
    simp [h]
  · rw [List.getElem?_set_ne hi]
theorem bump_ok {u : List (Px × Int)} (hk : KeysOk u) {p : Px} (hp : soundB p = true) : KeysOk (bump u p) := by
  refine ⟨fun x hx => ?_, by rw [bump_keys hk]; exact (touch_ok hk hp).2⟩
  have : x.1 ∈ (bump u p).map (·.1) := List.mem_map.2 ⟨x, hx, rfl⟩
  rw [bump_keys hk] at this
  obtain ⟨y, hy, he⟩ := List.mem_map.1 this
  rw [← he]
  exact (touch_ok hk hp).1 y hy
theorem cnt_touch {u : List (Px × Int)} (hk : KeysOk u) {p : Px} (hp : soundB p = true) : cntOf (touch u p) p = cntOf u p := (find_hit (touch_ok hk hp) (touch_at hk p) rfl).1
theorem cnt_bump {u : List (Px × Int)} (hk : KeysOk u) {p : Px} (hp : soundB p = true) : cntOf (bump u p) p = cntOf u p + 1 := by
  obtain ⟨hj, _⟩ := List.getElem?_eq_some_iff.1 (touch_at hk p)
  exact (find_hit (j := idxOf' u p) (x := (p, cntOf u p + 1)) (bump_ok hk hp) (by unfold bump; rw [List.getElem?_set_self hj]) rfl).1
/-- what 'seen[p]++' needs, in whatever order -/
theorem map_bump {w : World} {g : Nat} {u : List (Px × Int)} (h : MapW w g u) (hk : KeysOk u) {p : Px} (hp : soundB p = true) : ∃ w1 w2,
    (Instr.lookup 125 (.map (some g)) (vP p) false).run Try.prog w = .ok (.int .i64 (cntOf u p)) w ∧
    (Instr.mapEntry 125 (.map (some g)) (vP p)).run Try.prog w = .ok (.tuple #[.int .i64 (cntOf u p), .int .i64 (idxOf' u p : Nat)]) w1 ∧
    (Instr.lookup 125 (.map (some g)) (vP p) false).run Try.prog w1 = .ok (.int .i64 (cntOf u p)) w1 ∧
    (Instr.entryStore 125 (.map (some g)) (.int .i64 (idxOf' u p : Nat)) (.int .i64 (cntOf u p + 1))).run Try.prog w1 = .ok () w2 ∧
    (Instr.lookup 125 (.map (some g)) (vP p) false).run Try.prog w2 = .ok (.int .i64 (cntOf u p + 1)) w2 ∧
    MapW w2 g (bump u p) ∧ Only g w w1 ∧ Only g w w2 := by
  obtain ⟨w1, e1, m1, o1⟩ := map_entry h hk hp
  obtain ⟨w2, e2, m2, o2⟩ := map_store m1 (touch_at hk p) (cntOf u p + 1)
  refine ⟨w1, w2, map_lookup h hk hp, e1, ?_, e2, ?_, m2, o1, o1.trans o2⟩
  · have := map_lookup m1 (touch_ok hk hp) hp
    rwa [cnt_touch hk hp] at this
  · have := map_lookup (u := bump u p) m2 (bump_ok hk hp) hp
    rwa [cnt_bump hk hp] at this

end Go.Proofs.Ytchkogfgkaaogaa
