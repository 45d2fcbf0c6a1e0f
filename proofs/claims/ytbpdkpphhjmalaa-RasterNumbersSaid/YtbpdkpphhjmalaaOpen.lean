/-
  Opening arguments: what a value that came in reads as, cell by cell, for structs (nested ones too) and slices of whatever element. Nothing here speaks of one function.
-/
import Derived.Test.YtbpdkpphhjmalaaBase
import Derived.Deep.Slices
import Derived.Deep.Fields
import Derived.Deep.AppendLies
import Derived.Deep.Draws
import Derived.ChangeSame
import Derived.Laws.OwnMore
namespace Go.Proofs.Ytbpdkpphhjmalaa
open Go.ChangeShapes Go.WideShapes Go.ChangeAt Go.RowKit Go.Deep

/-- the types of a type's cells: structs are taken apart, to a depth -/
def leaves (P : Program) : Nat → TypeId → List TypeId
  | 0, t => [t]
  | d + 1, t => match P.underlying t with
    | some (.struct fs) => fs.toList.flatMap fun f => leaves P d f.type
    | _ => [t]

def offsOk (P : Program) (lv : TypeId → List TypeId) (ok : TypeId → Bool) : Nat → List Field → Bool
  | _, [] => true
  | o, f :: r => (f.offset == o) && (P.cellsOf f.type == (lv f.type).length) && ok f.type && offsOk P lv ok (o + (lv f.type).length) r
def leavesOk (P : Program) : Nat → TypeId → Bool
  | 0, t => P.cellsOf t == 1
  | d + 1, t => match P.underlying t with
    | some (.struct fs) => (P.cellsOf t == (fs.toList.flatMap fun f => leaves P d f.type).length) && offsOk P (leaves P d) (leavesOk P d) 0 fs.toList
    | _ => P.cellsOf t == 1

section
variable {H : Type} {enc : TypeId × Value → H} {P : Program} {w : World} {base : Nat} {spare : Nat → Bool} {held : Bool}

theorem leaf_fields (d : Nat) (hd : ∀ (t : TypeId) (fuel : Nat) (cs : List Value) (x : DataW H × List MemPlace), leavesOk P d t = true → cs.length = (leaves P d t).length → DataW.trod enc P w base spare held fuel t cs = some x →
      ∀ (j : Nat) (u : TypeId), (leaves P d t)[j]? = some u → ∃ (m : Nat) (y : DataW H × List MemPlace) (v : Value), cs[j]? = some v ∧ DataW.trod enc P w base spare held m u [v] = some y)
    (cs : List Value) (m : Nat) : ∀ (fs : List Field) (o : Nat), offsOk P (leaves P d) (leavesOk P d) o fs = true → o + (fs.flatMap fun f => leaves P d f.type).length ≤ cs.length →
      (∀ f ∈ fs, ∃ y, DataW.trod enc P w base spare held m f.type ((cs.drop f.offset).take (P.cellsOf f.type)) = some y) →
      ∀ (j : Nat) (u : TypeId), (fs.flatMap fun f => leaves P d f.type)[j]? = some u → ∃ (n : Nat) (y : DataW H × List MemPlace) (v : Value), cs[o + j]? = some v ∧ DataW.trod enc P w base spare held n u [v] = some y
  | [], _, _, _, _, j, u, hj => by simp at hj
  | f :: r, o, hok, hlen, hf, j, u, hj => by
    simp only [offsOk, Bool.and_eq_true, beq_iff_eq] at hok
    obtain ⟨⟨⟨h1, h2⟩, h3⟩, h4⟩ := hok
    simp only [List.flatMap_cons, List.length_append] at hlen hj
    by_cases hlt : j < (leaves P d f.type).length
    · rw [List.getElem?_append_left hlt] at hj
      obtain ⟨y, hy⟩ := hf f (by simp)
      rw [h1, h2] at hy
      obtain ⟨n, y', v, hv, ht⟩ := hd f.type m _ y h3 (by rw [List.length_take, List.length_drop]; omega) hy j u hj
      refine ⟨n, y', v, ?_, ht⟩
      rw [List.getElem?_take_of_lt hlt, List.getElem?_drop] at hv
      exact hv
    · rw [List.getElem?_append_right (by omega)] at hj
      obtain ⟨n, y, v, hv, ht⟩ := leaf_fields d hd cs m r (o + (leaves P d f.type).length) h4 (by omega) (fun g hg => hf g (by simp [hg])) (j - (leaves P d f.type).length) u hj
      exact ⟨n, y, v, by rw [← hv]; congr 1; omega, ht⟩

theorem leaf_at : ∀ (d : Nat) (t : TypeId) (fuel : Nat) (cs : List Value) (x : DataW H × List MemPlace), leavesOk P d t = true → cs.length = (leaves P d t).length → DataW.trod enc P w base spare held fuel t cs = some x →
      ∀ (j : Nat) (u : TypeId), (leaves P d t)[j]? = some u → ∃ (m : Nat) (y : DataW H × List MemPlace) (v : Value), cs[j]? = some v ∧ DataW.trod enc P w base spare held m u [v] = some y := by
  intro d
  induction d with
  | zero =>
    intro t fuel cs x _ hlen h j u hj
    simp only [leaves] at hj hlen
    match cs, hlen with
    | [c], _ =>
      cases j with
      | zero => simp at hj; subst hj; exact ⟨fuel, x, c, rfl, h⟩
      | succ j => simp at hj
  | succ d ih =>
    intro t fuel cs x hok hlen h j u hj
    have single : (leaves P (d + 1) t = [t]) → ∃ (m : Nat) (y : DataW H × List MemPlace) (v : Value), cs[j]? = some v ∧ DataW.trod enc P w base spare held m u [v] = some y := by
      intro e
      rw [e] at hj hlen
      match cs, hlen with
      | [c], _ =>
        cases j with
        | zero => simp at hj; subst hj; exact ⟨fuel, x, c, rfl, h⟩
        | succ j => simp at hj
    cases hu : P.underlying t with
    | none => exact single (by simp [leaves, hu])
    | some td =>
      cases td with
      | struct fs =>
        simp only [leaves, hu] at hj hlen
        simp only [leavesOk, hu, Bool.and_eq_true, beq_iff_eq] at hok
        obtain ⟨xs, n, _, _, _, hxl, hg⟩ := DataW.trod_struct hu h
        have hf : ∀ f ∈ fs.toList, ∃ y, DataW.trod enc P w base spare held n f.type ((cs.drop f.offset).take (P.cellsOf f.type)) = some y := by
          intro f hf
          obtain ⟨i, hi, he⟩ := List.getElem_of_mem hf
          have hi' : i < fs.size := by simpa using hi
          have hfi : fs[i]? = some f := by rw [Array.getElem?_eq_getElem hi']; simpa using he
          exact ⟨xs[i]'(by omega), (hg i f hfi).trans (List.getElem?_eq_getElem (by omega))⟩
        obtain ⟨m, y, v, hv, ht⟩ := leaf_fields d ih cs n fs.toList 0 hok.2 (by omega) hf j u hj
        exact ⟨m, y, v, by simpa using hv, ht⟩
      | _ => exact single (by simp [leaves, hu])

/-- a struct by value: its cells, and what each reads as -/
theorem open_agg {r : Reach} {b0 : Nat} {t : TypeId} {fs : Array Field} {v : Value} {x : DataW H} {ps : List MemPlace} (d : Nat) (hs : P.underlying t = some (.struct fs)) (hok : leavesOk P (d + 1) t = true)
    (hv : Value.okWide P w r b0 t v) (h : DataW.Trod enc P w base spare held t v x ps) :
    ∃ cs : List Value, v = .agg ⟨cs⟩ ∧ cs.length = (leaves P (d + 1) t).length ∧ ∀ (j : Nat) (u : TypeId), (leaves P (d + 1) t)[j]? = some u →
      ∃ (m : Nat) (y : DataW H × List MemPlace) (v : Value), cs[j]? = some v ∧ DataW.trod enc P w base spare held m u [v] = some y := by
  obtain ⟨cs, rfl, hsz⟩ := okWide_struct hs hv
  obtain ⟨fuel, hf⟩ := h
  obtain ⟨l⟩ := cs
  have hC : P.cellsOf t = (leaves P (d + 1) t).length := by
    simp only [leavesOk, hs, Bool.and_eq_true, beq_iff_eq] at hok
    simp only [leaves, hs]
    exact hok.1
  have hlen : l.length = (leaves P (d + 1) t).length := by rw [← hC, ← hsz]; simp
  exact ⟨l, rfl, hlen, leaf_at (d + 1) t fuel l _ hok hlen (by simpa [Value.cells] using hf)⟩

theorem leaf_int {k : IntKind} {u : TypeId} {m : Nat} {v : Value} {y : DataW H × List MemPlace} (hu : P.underlying u = some (.int k)) (h : DataW.trod enc P w base spare held m u [v] = some y) :
    ∃ n, v = .int k n ∧ (Lit.int k n).wf = true := by
  obtain ⟨n, h1, _, h2⟩ := DataW.trod_int hu h
  simp at h1
  exact ⟨n, h1, h2⟩
theorem leaf_bool {u : TypeId} {m : Nat} {v : Value} {y : DataW H × List MemPlace} (hu : P.underlying u = some .bool) (h : DataW.trod enc P w base spare held m u [v] = some y) : ∃ b, v = .bool b := by
  obtain ⟨b, h1, _⟩ := DataW.trod_bool hu h
  simp at h1
  exact ⟨b, h1⟩
theorem leaf_string {u : TypeId} {m : Nat} {v : Value} {y : DataW H × List MemPlace} (hu : P.underlying u = some .string) (h : DataW.trod enc P w base spare held m u [v] = some y) : ∃ s : ByteArray, v = .string s ∧ s.size ≤ maxLen := by
  obtain ⟨s, h1, _, h2⟩ := DataW.trod_string hu h
  simp at h1
  exact ⟨s, h1, h2⟩

end

/-- in world w the slice value '.slice A n c' of elements of 'size' cells holds the cells xs, in a block below B; nil and empty slices too -/
def Rd (w : World) (B size : Nat) (A : Option Addr) (n : Nat) (xs : List Value) : Prop :=
  xs.length = n * size ∧ (0 < xs.length → ∃ b off, A = some ⟨b, off, none⟩ ∧ b < B ∧ ∀ j u, xs[j]? = some u → w.cell? ⟨b, off + j, none⟩ = some u)

section
variable {w w' : World} {B B' size n : Nat} {A : Option Addr} {xs : List Value}
theorem Rd.nil : Rd w B size A 0 [] := ⟨by simp, fun h => absurd h (by simp)⟩
theorem Rd.at_ {k : Nat} (h : Rd w B size A n xs) (hk : k < n) (hs : 0 < size) : ∃ b off, A = some ⟨b, off, none⟩ ∧ b < B ∧ ∀ j u, xs[j]? = some u → w.cell? ⟨b, off + j, none⟩ = some u :=
  h.2 (by rw [h.1]; exact Nat.mul_pos (by omega) hs)
theorem Rd.keep (h : Rd w B size A n xs) (hk : ∀ b o, b < B → w'.cell? ⟨b, o, none⟩ = w.cell? ⟨b, o, none⟩) : Rd w' B size A n xs :=
  ⟨h.1, fun hn => by
    obtain ⟨b, off, e, hb, hc⟩ := h.2 hn
    exact ⟨b, off, e, hb, fun j u hu => (hk b _ hb).trans (hc j u hu)⟩⟩
theorem Rd.more (h : Rd w B size A n xs) (hB : B ≤ B') : Rd w B' size A n xs :=
  ⟨h.1, fun hn => by
    obtain ⟨b, off, e, hb, hc⟩ := h.2 hn
    exact ⟨b, off, e, by omega, hc⟩⟩
theorem Rd.below {C : Nat} (h : Rd w B size A n xs) (hb : Below C w w') (hC : B ≤ C) : Rd w' B size A n xs := h.keep fun b o hp => hb.cell (p := ⟨b, o, none⟩) (by show b < C; omega)
theorem Rd.drew (h : Rd w B size A n xs) : Rd w.drew B size A n xs := h
theorem Rd.drewN (h : Rd w B size A n xs) (k : Nat) : Rd (w.drewN k) B size A n xs := h
theorem Rd.alloc (h : Rd w B size A n xs) (hB : B ≤ w.heap.size) (o : Obj) : Rd (w.alloc o) B size A n xs := h.keep fun b i hp => World.cell?_alloc_lt w o ⟨b, i, none⟩ (by show b < w.heap.size; omega)
theorem Rd.setCell (h : Rd w B size A n xs) {p : Addr} (hB : B ≤ p.block) (u : Value) : Rd (w.setCell p u) B size A n xs :=
  h.keep fun b i hp => World.cell?_setCell_other w p ⟨b, i, none⟩ u (fun e => by subst e; exact absurd hB (by show ¬ B ≤ b; omega))
end

/-- an element's cell, in a list of elements of one size -/
theorem flat_at {α : Type} (f : α → List Value) (size : Nat) : ∀ (l : List α), (∀ a ∈ l, (f a).length = size) → ∀ (i j : Nat) (a : α), l[i]? = some a → j < size → (l.flatMap f)[i * size + j]? = (f a)[j]?
  | [], _, i, j, a, h, _ => by simp at h
  | x :: r, hl, i, j, a, h, hj => by
    have hx := hl x (by simp)
    cases i with
    | zero =>
      simp at h; subst h
      rw [List.flatMap_cons, Nat.zero_mul, Nat.zero_add, List.getElem?_append_left (by omega)]
    | succ i =>
      rw [List.flatMap_cons, List.getElem?_append_right (by rw [hx, Nat.succ_mul]; omega)]
      have : (i + 1) * size + j - (f x).length = i * size + j := by rw [hx, Nat.succ_mul]; omega
      rw [this]
      exact flat_at f size r (fun a ha => hl a (by simp [ha])) i j a (by simpa using h) hj
theorem flat_length {α : Type} (f : α → List Value) (size : Nat) : ∀ (l : List α), (∀ a ∈ l, (f a).length = size) → (l.flatMap f).length = l.length * size
  | [], _ => by simp
  | x :: r, hl => by
    rw [List.flatMap_cons, List.length_append, hl x (by simp), flat_length f size r (fun a ha => hl a (by simp [ha])), List.length_cons, Nat.succ_mul]; omega

theorem list_of_ex {α : Type} (Q : Nat → α → Prop) : ∀ (n : Nat), (∀ i, i < n → ∃ a, Q i a) → ∃ l : List α, l.length = n ∧ ∀ i a, l[i]? = some a → Q i a
  | 0, _ => ⟨[], rfl, by simp⟩
  | n + 1, h => by
    obtain ⟨l, hl, hq⟩ := list_of_ex Q n (fun i hi => h i (by omega))
    obtain ⟨a, ha⟩ := h n (by omega)
    refine ⟨l ++ [a], by simp [hl], fun i b hb => ?_⟩
    by_cases hi : i < l.length
    · rw [List.getElem?_append_left hi] at hb
      exact hq i b hb
    · rw [List.getElem?_append_right (by omega)] at hb
      have h1 : i - l.length = 0 := by
        rcases Nat.eq_zero_or_pos (i - l.length) with h0 | h0
        · exact h0
        · rw [List.getElem?_eq_none (by simp; omega)] at hb; cases hb
      rw [h1] at hb
      simp at hb
      subst hb
      have : i = n := by omega
      subst this
      exact ha

section
variable {H : Type} {enc : TypeId × Value → H} {P : Program} {w : World} {base : Nat} {spare : Nat → Bool} {held : Bool}

/-- a slice: its elements' cells, each element as the lemma for its type says -/
theorem open_slice_of {α : Type} (encA : α → List Value) (ok : α → Prop) (size : Nat) (hsize : 0 < size) {t e : TypeId} {fuel : Nat} {v : Value} {x : DataW H × List MemPlace} (ht : P.underlying t = some (.slice e)) (hC : P.cellsOf e = size)
    (hel : ∀ (n : Nat) (cs : List Value) (y : DataW H × List MemPlace), cs.length = size → DataW.trod enc P w base spare held n e cs = some y → ∃ a : α, cs = encA a ∧ ok a)
    (hsz : ∀ a, (encA a).length = size)
    (h : DataW.trod enc P w base spare held fuel t [v] = some x) :
    ∃ (A : Option Addr) (c : Nat) (l : List α), v = .slice A l.length c ∧ l.length ≤ c ∧ c ≤ maxLen ∧ (∀ a ∈ l, ok a) ∧ Rd w w.heap.size size A l.length (l.flatMap encA) := by
  rcases open_slice ht h with ⟨hc, _⟩ | ⟨a, len, cap, m, n, D, Pl, hc, hb, hl, hm, hmm, hx, hi⟩
  · simp at hc
    exact ⟨none, 0, [], hc, by simp, by simp [maxLen], by simp, Rd.nil⟩
  · simp at hc
    have hlm : len ≤ m := by rw [hmm]; split <;> omega
    obtain ⟨l, hll, hlq⟩ := list_of_ex (fun i b => ok b ∧ ∀ j, j < size → w.cell? (a.add (i * size + j)) = (encA b)[j]?) len (fun i him => by
      obtain ⟨cs', hcs, ht'⟩ := hi i (by omega)
      rw [hC] at hcs
      obtain ⟨_, hcl, hat⟩ := World.cells?_some hcs
      obtain ⟨b, hb1, hb2⟩ := hel n cs' _ hcl ht'
      exact ⟨b, hb2, fun j hj => by rw [← hb1, ← hat j hj, Go.Deep.add_add]⟩)
    subst hll
    refine ⟨some a, cap, l, hc, hl, hm, fun b hbm => ?_, flat_length encA size l (fun a _ => hsz a), fun hpos => ?_⟩
    · obtain ⟨i, hil, hib⟩ := List.getElem_of_mem hbm
      exact (hlq i b (by rw [List.getElem?_eq_getElem hil, hib])).1
    · have cell : ∀ j u, (l.flatMap encA)[j]? = some u → w.cell? (a.add j) = some u := by
        intro j u hu
        have hjl : j < l.length * size := by
          rw [← flat_length encA size l (fun a _ => hsz a)]
          exact (List.getElem?_eq_some_iff.1 hu).1
        have hd : j / size < l.length := (Nat.div_lt_iff_lt_mul hsize).2 hjl
        have hr : j % size < size := Nat.mod_lt _ hsize
        have hj : j = (j / size) * size + j % size := by have := Nat.div_add_mod j size; rw [Nat.mul_comm] at this; omega
        have hel' : l[j / size]? = some l[j / size] := List.getElem?_eq_getElem hd
        have h1 := (hlq _ _ hel').2 _ hr
        have h2 := flat_at encA size l (fun a _ => hsz a) (j / size) (j % size) _ hel' hr
        rw [← hj] at h1 h2
        rw [h1, ← h2, hu]
      have hl0 : 0 < (l.flatMap encA).length := hpos
      have h0 := cell 0 _ (List.getElem?_eq_getElem hl0)
      obtain ⟨b, off, spot⟩ := a
      have hspot : spot = none := by simpa [Addr.add] using World.cell?_spot h0
      subst hspot
      refine ⟨b, off, rfl, ?_, fun j u hu => ?_⟩
      · have h0' : w.cell? ⟨b, off, none⟩ = some (l.flatMap encA)[0] := by simpa [Addr.add] using h0
        rcases Nat.lt_or_ge b w.heap.size with hlt | hge
        · exact hlt
        · simp [World.cell?, Array.getElem?_eq_none hge] at h0'
      · have := cell j u hu
        unfold Addr.add at this
        split at this
        · rename_i hj; subst hj; simpa using this
        · simpa using this
end

end Go.Proofs.Ytbpdkpphhjmalaa
