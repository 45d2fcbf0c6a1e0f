/-
  Base of this seat's proofs: from a walk that returns true and writes nothing that was there, to the given row. Nothing here speaks of one function.
  Small functions: burnishnum.Num and Is (an error as its number), png.within. Each as what it returns for every input.
  Blocks that are known whole, and what becomes of them.
  Opening arguments: what a value that came in reads as, cell by cell, for structs (nested ones too) and slices of whatever element. Nothing here speaks of one function.
  Slices of numbers: what a walk reads of them.
  Slices of a call's own that are appended to: the walk's step at append, whatever the source.
  Append where there is room, onto a block that is known whole: as a step of the walk.
  Slices of bytes: what a walk reads of them; errors as values.
  Tokens: their cells.
  burnishnum.Ints where both sides say the same; CopyInts and KeptInts.
-/
import Derived.Test.YthhllollhjpheaaRows
import Derived.WalkKit
import Derived.ProofKit
import Derived.OpenShut
import Derived.ShutString
import Derived.ChangeOld
import Derived.Below
import Derived.WalkLawsBesides
import Derived.WalkSpells
import Derived.Deep.QuietTactic
import Derived.BigQuiet
import Derived.Outline
import Derived.Laws.OwnMore
import Derived.Deep.Draws
import Derived.Laws.Rows
import Derived.Deep.Slices
import Derived.Deep.Fields
import Derived.Deep.AppendLies
import Derived.ChangeSame
import Derived.Maps.AppendAt
import Derived.RegionTactic
import Derived.OwnWalk
import Derived.RangeFuncBox
import Derived.Laws.MakeOwn
import Derived.Laws.CopyOwn
namespace Go.Proofs.Ythhllollhjpheaa
open Go.ChangeShapes Go.WideShapes Go.ChangeAt Go.RowKit

theorem hid {p : Prop} (h : p) : Hid p := h

theorem ret_bool {a b : Bool} (h : a = b) : Ending.returned (.bool a) = Ending.returned (.bool b) := by rw [h]
theorem ret_int {k : IntKind} {a b : Int} (h : a = b) : Ending.returned (.int k a) = Ending.returned (.int k b) := by rw [h]

theorem own : ownKnob Try.prog.godebug = none := by kernel_rfl
theorem laidOut : laidOutB Try.prog = true := by kernel_rfl

theorem trodAll_lt {H : Type} {enc : TypeId × Value → H} {P : Program} {w : World} {spare : Nat → Bool} {held : Bool} :
    ∀ {ts : List TypeId} {vs : List Value} {ds : List (DataW H)} {ps : List MemPlace}, DataW.TrodAll enc P w 0 spare held ts vs ds ps → ∀ x ∈ ps, x.block < w.heap.size
  | [], [], [], _, h => by rw [show _ = [] from h]; simp
  | _ :: _, _ :: _, _ :: _, _, ⟨_, _, ⟨m, hm⟩, hr, e⟩ => by
    intro x hx
    rw [e, List.mem_append] at hx
    rcases hx with hx | hx
    · exact DataW.trod_lt m _ _ _ hm x hx
    · exact trodAll_lt hr x hx

/-- what came in reads behind the call as it read before, if nothing below the old heap's end has turned -/
theorem below_trodAll {H : Type} {enc : TypeId × Value → H} {P : Program} (hl : laidOutB P = true) {W W' : World} (hb : Below W.heap.size W W') :
    ∀ {ts : List TypeId} {vs : List Value} {ds : List (DataW H)} {ps : List MemPlace}, (∀ t ∈ ts, P.readableRec t = true ∧ t < P.types.size) →
      DataW.TrodAll enc P W 0 (fun _ => true) true ts vs ds ps → DataW.TrodAll enc P W' 0 (fun b => decide (b < W.heap.size)) true ts vs ds ps
  | [], [], [], _, _, h => h
  | t :: ts, _ :: _, _ :: _, _, ht, ⟨p, q, h1, hr, e⟩ => by
    have hlt : ∀ x ∈ p, x.block < W.heap.size := by obtain ⟨m, hm⟩ := h1; exact DataW.trod_lt m _ _ _ hm
    exact ⟨p, q, Below.trod hl (ht t (by simp)).1 (ht t (by simp)).2 h1 hb hlt, below_trodAll hl hb (fun u hu => ht u (by simp [hu])) hr, e⟩

/-- the row's step of a law: its walk is all that is asked -/
theorem law_lifted {a : Assume} {C : Checked} {os : Os} {f : FuncId} {fn : Func} {s : ChangeSpec} {H : Type} {enc : TypeId × Value → H} {tb : TypeId}
    (hown : ownKnob C.prog.godebug = none) (hlaid : laidOutB C.prog = true) (started : os.Started) (noInit : C.prog.inits.idxOf? f = none) (hfn : C.prog.funcs[f]? = some fn)
    (hvars : s.vars = []) (hres : fn.resultTypes = #[tb]) (htb : C.prog.underlying tb = some .bool)
    (hts : ∀ t ∈ fn.params.toList, C.prog.readableRec t = true ∧ t < C.prog.types.size)
    (hspec : ∀ ds : List (DataW H), ds.length = fn.params.size → (s.fn H ds).results = [.lit (.bool true)] ∧ (s.fn H ds).args = ds ∧ (s.fn H ds).vars = [])
    (witness : ∃ (w : World) (tape : Tape) (i : Input), w.os = os ∧ (w.forCall tape i).Shaped C.prog ∧ i.vars = [] ∧ Input.okWide C.prog (w.forCall tape i) .any w.heap.size f i ∧
      s.pre6 enc C.prog fn [] false (w.forCall tape i).memory i.args ∧ a.holds C.prog (lone (Frame.enter C.prog f i.args .normal) [] (w.forCall tape i)))
    (walk : ∀ (W : World) (base : Nat) (args : Array Value) (ds : List (DataW H)) (ps : List MemPlace),
      (∀ (j : Nat) t v, fn.params[j]? = some t → args[j]? = some v → Value.okWide C.prog W .any base t v) →
      DataW.TrodAll enc C.prog W 0 (fun _ => true) true fn.params.toList args.toList ds ps →
      Calls C.prog f args W fun e W' => e = .returned (.bool true) ∧ Below W.heap.size W W') :
    ReturnsInHanded a C os f .any (s.pre6 enc C.prog fn [] false) (s.post enc C.prog fn false true false false) := by
  refine returnsInHanded_of_change (C := C) hown started noInit hfn witness ?_
  intro W base args ds gs before hval hW _ _
  have hW' := hW
  obtain ⟨p, q, hA, hV, rfl, _, _⟩ := hW
  rw [hvars] at hV
  obtain ⟨rfl, rfl⟩ := trodVars_none hV
  refine (walk W base args ds p hval hA).mono fun e W' ⟨he, bel⟩ => ?_
  subst he
  have hlen : ds.length = fn.params.size := by
    have : ∀ {ts : List TypeId} {vs : List Value} {ds : List (DataW H)} {ps : List MemPlace}, DataW.TrodAll enc C.prog W 0 (fun _ => true) true ts vs ds ps → ds.length = ts.length := by
      intro ts
      induction ts with
      | nil =>
        intro vs ds ps h
        cases vs with
        | nil => cases ds with | nil => rfl | cons _ _ => exact h.elim
        | cons _ _ => exact h.elim
      | cons t ts ih =>
        intro vs ds ps h
        cases vs with
        | nil => exact h.elim
        | cons _ _ => cases ds with
          | nil => exact h.elim
          | cons _ _ => obtain ⟨_, _, _, hr, _⟩ := h; simp [ih hr]
    simpa using this hA
  obtain ⟨h1, h2, h3⟩ := hspec ds hlen
  refine ⟨_, rfl, ds, [], p ++ [], [], p, [], hW', ?_, ?_, ?_, bel.frame _, fun h => by cases h⟩
  · rw [List.append_nil, h1, hres]
    exact trodAll_mk1 (shut_bool htb _)
  · rw [List.append_nil, h2]
    exact below_trodAll hlaid bel hts hA
  · rw [List.append_nil, h3, hvars]
    rfl

end Go.Proofs.Ythhllollhjpheaa

namespace Go.Proofs.Ythhllollhjpheaa
open Go.RowKit

theorem num_nil (w : World) : Calls Try.prog 37 #[.nilIface] w fun e w' => e = .returned (.int .i64 0) ∧ w = w' := by
  go_enter Try.func37, Try.ntmps37
  go_wp2
  go_ret
  exact ⟨rfl, rfl⟩

set_option maxRecDepth 100000 in
theorem num_no (n : Int) (hn : 1 ≤ n) (w : World) : Calls Try.prog 37 #[.iface 40 (.int .i64 n)] w fun e w' => e = .returned (.int .i64 n) ∧ w = w' := by
  have h0 : (n == 0) = false := by simp; omega
  have ta : ∀ w : World, (Instr.typeAssert (.iface 40 (.int .i64 n)) 33 40 true).run Try.prog w = .ok (.tuple #[.int .i64 n, .bool true]) w := fun _ => by kernel_rfl
  go_enter Try.func37, Try.ntmps37
  go_wp2
  go_ret
  exact ⟨rfl, rfl⟩

theorem is_nil (k : Int) (w : World) : Calls Try.prog 12 #[.nilIface, .int .i64 k] w fun e w' => e = .returned (.bool (0 == k)) ∧ w = w' := by
  go_enter Try.func12, Try.ntmps12
  go_wp2_with (go_at_call 37; refine (num_nil _).mono ?_; rintro e w' ⟨rfl, rfl⟩)
  go_ret
  exact ⟨rfl, rfl⟩

theorem is_no (n k : Int) (hn : 1 ≤ n) (w : World) : Calls Try.prog 12 #[.iface 40 (.int .i64 n), .int .i64 k] w fun e w' => e = .returned (.bool (n == k)) ∧ w = w' := by
  go_enter Try.func12, Try.ntmps12
  go_wp2_with (go_at_call 37; refine (num_no n hn _).mono ?_; rintro e w' ⟨rfl, rfl⟩)
  go_ret
  exact ⟨rfl, rfl⟩

end Go.Proofs.Ythhllollhjpheaa

namespace Go.Proofs.Ythhllollhjpheaa
open Go.RowKit

/-- block g is just the cells cs, none frozen -/
def Blk (w : World) (g : Nat) (t : TypeId) (cs : Array Value) : Prop := w.heap[g]? = some (.cells cs t (0, 0))

section
variable {w w' : World} {g : Nat} {t : TypeId} {cs : Array Value}
theorem Blk.lt (h : Blk w g t cs) : g < w.heap.size := by
  rcases Nat.lt_or_ge g w.heap.size with hlt | hge
  · exact hlt
  · unfold Blk at h; rw [Array.getElem?_eq_none hge] at h; cases h
theorem Blk.cell (h : Blk w g t cs) (i : Nat) : w.cell? ⟨g, i, none⟩ = cs[i]? := cell_of_row w g i cs t (0, 0) h
theorem Blk.frozen (h : Blk w g t cs) (i : Nat) : w.frozen? ⟨g, i, none⟩ = false := by
  unfold Blk at h
  simp [World.frozen?, h]
theorem Blk.new (w : World) (t : TypeId) (cs : Array Value) : Blk (w.alloc (.cells cs t)) w.heap.size t cs := heap_alloc_new w _
theorem Blk.drew (h : Blk w g t cs) : Blk w.drew g t cs := h
theorem Blk.drewN (h : Blk w g t cs) (n : Nat) : Blk (w.drewN n) g t cs := h
theorem Blk.alloc (h : Blk w g t cs) (o : Obj) : Blk (w.alloc o) g t cs := (Below.heap_alloc w o g h.lt).trans h
theorem Blk.set_ (h : Blk w g t cs) (i : Nat) (u : Value) : Blk (w.setCell ⟨g, i, none⟩ u) g t (cs.setIfInBounds i u) := by
  unfold Blk at h ⊢
  simp [World.setCell, Array.getElem?_modify, h]
theorem Blk.far (h : Blk w g t cs) {p : Addr} (hp : g ≠ p.block) (u : Value) : Blk (w.setCell p u) g t cs := (Below.heap_setCell w p u g hp).trans h
theorem Blk.below {B : Nat} (h : Blk w g t cs) (hb : Below B w w') (hg : g < B) : Blk w' g t cs := (hb.block g hg).trans h
theorem Blk.grown {row : Option Nat} (h : Blk w g t cs) (hb : w.grownBy w' row) (hg : some g ≠ row) : Blk w' g t cs := (hb.block g h.lt hg).trans h
end

/-- a row of numbers, as its block holds them -/
def intRow (n : Nat) (f : Nat → Int) : Array Value := ((List.range n).map fun k => Value.int .i64 (f k)).toArray
theorem intRow_at (n : Nat) (f : Nat → Int) (k : Nat) (h : k < n) : (intRow n f)[k]? = some (.int .i64 (f k)) := by
  simp [intRow, h]

theorem below_drewN {B : Nat} {a w : World} (h : Below B a w) (n : Nat) : Below B a (w.drewN n) := ⟨h.os, h.tape, h.output, h.size, h.block⟩
theorem bcell {W w1 : World} {B : Nat} (hb : Below B W w1) : (∀ b o, b < B → w1.cell? ⟨b, o, none⟩ = W.cell? ⟨b, o, none⟩) ∧ (∀ b o, b < B → w1.frozen? ⟨b, o, none⟩ = W.frozen? ⟨b, o, none⟩) :=
  ⟨fun b o h => hb.cell (p := ⟨b, o, none⟩) h, fun b o h => hb.frozen (p := ⟨b, o, none⟩) h⟩

end Go.Proofs.Ythhllollhjpheaa

namespace Go.Proofs.Ythhllollhjpheaa
open Go.ChangeShapes Go.WideShapes Go.ChangeAt Go.RowKit Go.Deep

/-- the types of a type's cells: structs are taken apart, to a depth -/
def leaves (P : Program) : Nat → TypeId → List TypeId
  | 0, t => [t]
  | d + 1, t => match P.underlying t with
    | some (.struct fs) => fs.toList.flatMap fun f => leaves P d f.type
    | _ => [t]

def offsOk (P : Program) (lv : TypeId → List TypeId) (ok : TypeId → Bool) : Nat → List Field → Bool
  | _, [] => true
  | o, f :: r => (f.offset == o) && (P.cellsOf f.type == (lv f.type).length) && ok f.type && offsOk P lv ok (o + (lv f.type).length) r
def leavesOk (P : Program) : Nat → TypeId → Bool
  | 0, t => P.cellsOf t == 1
  | d + 1, t => match P.underlying t with
    | some (.struct fs) => (P.cellsOf t == (fs.toList.flatMap fun f => leaves P d f.type).length) && offsOk P (leaves P d) (leavesOk P d) 0 fs.toList
    | _ => P.cellsOf t == 1

section
variable {H : Type} {enc : TypeId × Value → H} {P : Program} {w : World} {base : Nat} {spare : Nat → Bool} {held : Bool}

theorem leaf_fields (d : Nat) (hd : ∀ (t : TypeId) (fuel : Nat) (cs : List Value) (x : DataW H × List MemPlace), leavesOk P d t = true → cs.length = (leaves P d t).length → DataW.trod enc P w base spare held fuel t cs = some x →
      ∀ (j : Nat) (u : TypeId), (leaves P d t)[j]? = some u → ∃ (m : Nat) (y : DataW H × List MemPlace) (v : Value), cs[j]? = some v ∧ DataW.trod enc P w base spare held m u [v] = some y)
    (cs : List Value) (m : Nat) : ∀ (fs : List Field) (o : Nat), offsOk P (leaves P d) (leavesOk P d) o fs = true → o + (fs.flatMap fun f => leaves P d f.type).length ≤ cs.length →
      (∀ f ∈ fs, ∃ y, DataW.trod enc P w base spare held m f.type ((cs.drop f.offset).take (P.cellsOf f.type)) = some y) →
      ∀ (j : Nat) (u : TypeId), (fs.flatMap fun f => leaves P d f.type)[j]? = some u → ∃ (n : Nat) (y : DataW H × List MemPlace) (v : Value), cs[o + j]? = some v ∧ DataW.trod enc P w base spare held n u [v] = some y
  | [], _, _, _, _, j, u, hj => by simp at hj
  | f :: r, o, hok, hlen, hf, j, u, hj => by
    simp only [offsOk, Bool.and_eq_true, beq_iff_eq] at hok
    obtain ⟨⟨⟨h1, h2⟩, h3⟩, h4⟩ := hok
    simp only [List.flatMap_cons, List.length_append] at hlen hj
    by_cases hlt : j < (leaves P d f.type).length
    · rw [List.getElem?_append_left hlt] at hj
      obtain ⟨y, hy⟩ := hf f (by simp)
      rw [h1, h2] at hy
      obtain ⟨n, y', v, hv, ht⟩ := hd f.type m _ y h3 (by rw [List.length_take, List.length_drop]; omega) hy j u hj
      refine ⟨n, y', v, ?_, ht⟩
      rw [List.getElem?_take_of_lt hlt, List.getElem?_drop] at hv
      exact hv
    · rw [List.getElem?_append_right (by omega)] at hj
      obtain ⟨n, y, v, hv, ht⟩ := leaf_fields d hd cs m r (o + (leaves P d f.type).length) h4 (by omega) (fun g hg => hf g (by simp [hg])) (j - (leaves P d f.type).length) u hj
      exact ⟨n, y, v, by rw [← hv]; congr 1; omega, ht⟩

theorem leaf_at : ∀ (d : Nat) (t : TypeId) (fuel : Nat) (cs : List Value) (x : DataW H × List MemPlace), leavesOk P d t = true → cs.length = (leaves P d t).length → DataW.trod enc P w base spare held fuel t cs = some x →
      ∀ (j : Nat) (u : TypeId), (leaves P d t)[j]? = some u → ∃ (m : Nat) (y : DataW H × List MemPlace) (v : Value), cs[j]? = some v ∧ DataW.trod enc P w base spare held m u [v] = some y := by
  intro d
  induction d with
  | zero =>
    intro t fuel cs x _ hlen h j u hj
    simp only [leaves] at hj hlen
    match cs, hlen with
    | [c], _ =>
      cases j with
      | zero => simp at hj; subst hj; exact ⟨fuel, x, c, rfl, h⟩
      | succ j => simp at hj
  | succ d ih =>
    intro t fuel cs x hok hlen h j u hj
    have single : (leaves P (d + 1) t = [t]) → ∃ (m : Nat) (y : DataW H × List MemPlace) (v : Value), cs[j]? = some v ∧ DataW.trod enc P w base spare held m u [v] = some y := by
      intro e
      rw [e] at hj hlen
      match cs, hlen with
      | [c], _ =>
        cases j with
        | zero => simp at hj; subst hj; exact ⟨fuel, x, c, rfl, h⟩
        | succ j => simp at hj
    cases hu : P.underlying t with
    | none => exact single (by simp [leaves, hu])
    | some td =>
      cases td with
      | struct fs =>
        simp only [leaves, hu] at hj hlen
        simp only [leavesOk, hu, Bool.and_eq_true, beq_iff_eq] at hok
        obtain ⟨xs, n, _, _, _, hxl, hg⟩ := DataW.trod_struct hu h
        have hf : ∀ f ∈ fs.toList, ∃ y, DataW.trod enc P w base spare held n f.type ((cs.drop f.offset).take (P.cellsOf f.type)) = some y := by
          intro f hf
          obtain ⟨i, hi, he⟩ := List.getElem_of_mem hf
          have hi' : i < fs.size := by simpa using hi
          have hfi : fs[i]? = some f := by rw [Array.getElem?_eq_getElem hi']; simpa using he
          exact ⟨xs[i]'(by omega), (hg i f hfi).trans (List.getElem?_eq_getElem (by omega))⟩
        obtain ⟨m, y, v, hv, ht⟩ := leaf_fields d ih cs n fs.toList 0 hok.2 (by omega) hf j u hj
        exact ⟨m, y, v, by simpa using hv, ht⟩
      | _ => exact single (by simp [leaves, hu])

/-- a struct by value: its cells, and what each reads as -/
theorem open_agg {r : Reach} {b0 : Nat} {t : TypeId} {fs : Array Field} {v : Value} {x : DataW H} {ps : List MemPlace} (d : Nat) (hs : P.underlying t = some (.struct fs)) (hok : leavesOk P (d + 1) t = true)
    (hv : Value.okWide P w r b0 t v) (h : DataW.Trod enc P w base spare held t v x ps) :
    ∃ cs : List Value, v = .agg ⟨cs⟩ ∧ cs.length = (leaves P (d + 1) t).length ∧ ∀ (j : Nat) (u : TypeId), (leaves P (d + 1) t)[j]? = some u →
      ∃ (m : Nat) (y : DataW H × List MemPlace) (v : Value), cs[j]? = some v ∧ DataW.trod enc P w base spare held m u [v] = some y := by
  obtain ⟨cs, rfl, hsz⟩ := okWide_struct hs hv
  obtain ⟨fuel, hf⟩ := h
  obtain ⟨l⟩ := cs
  have hC : P.cellsOf t = (leaves P (d + 1) t).length := by
    simp only [leavesOk, hs, Bool.and_eq_true, beq_iff_eq] at hok
    simp only [leaves, hs]
    exact hok.1
  have hlen : l.length = (leaves P (d + 1) t).length := by rw [← hC, ← hsz]; simp
  exact ⟨l, rfl, hlen, leaf_at (d + 1) t fuel l _ hok hlen (by simpa [Value.cells] using hf)⟩

theorem leaf_int {k : IntKind} {u : TypeId} {m : Nat} {v : Value} {y : DataW H × List MemPlace} (hu : P.underlying u = some (.int k)) (h : DataW.trod enc P w base spare held m u [v] = some y) :
    ∃ n, v = .int k n ∧ (Lit.int k n).wf = true := by
  obtain ⟨n, h1, _, h2⟩ := DataW.trod_int hu h
  simp at h1
  exact ⟨n, h1, h2⟩
theorem leaf_bool {u : TypeId} {m : Nat} {v : Value} {y : DataW H × List MemPlace} (hu : P.underlying u = some .bool) (h : DataW.trod enc P w base spare held m u [v] = some y) : ∃ b, v = .bool b := by
  obtain ⟨b, h1, _⟩ := DataW.trod_bool hu h
  simp at h1
  exact ⟨b, h1⟩
theorem leaf_string {u : TypeId} {m : Nat} {v : Value} {y : DataW H × List MemPlace} (hu : P.underlying u = some .string) (h : DataW.trod enc P w base spare held m u [v] = some y) : ∃ s : ByteArray, v = .string s ∧ s.size ≤ maxLen := by
  obtain ⟨s, h1, _, h2⟩ := DataW.trod_string hu h
  simp at h1
  exact ⟨s, h1, h2⟩

end

/-- in world w the slice value '.slice A n c' of elements of 'size' cells holds the cells xs, in a block below B; nil and empty slices too -/
def Rd (w : World) (B size : Nat) (A : Option Addr) (n : Nat) (xs : List Value) : Prop :=
  xs.length = n * size ∧ (0 < xs.length → ∃ b off, A = some ⟨b, off, none⟩ ∧ b < B ∧ ∀ j u, xs[j]? = some u → w.cell? ⟨b, off + j, none⟩ = some u)

section
variable {w w' : World} {B B' size n : Nat} {A : Option Addr} {xs : List Value}
theorem Rd.nil : Rd w B size A 0 [] := ⟨by simp, fun h => absurd h (by simp)⟩
theorem Rd.at_ {k : Nat} (h : Rd w B size A n xs) (hk : k < n) (hs : 0 < size) : ∃ b off, A = some ⟨b, off, none⟩ ∧ b < B ∧ ∀ j u, xs[j]? = some u → w.cell? ⟨b, off + j, none⟩ = some u :=
  h.2 (by rw [h.1]; exact Nat.mul_pos (by omega) hs)
theorem Rd.keep (h : Rd w B size A n xs) (hk : ∀ b o, b < B → w'.cell? ⟨b, o, none⟩ = w.cell? ⟨b, o, none⟩) : Rd w' B size A n xs :=
  ⟨h.1, fun hn => by
    obtain ⟨b, off, e, hb, hc⟩ := h.2 hn
    exact ⟨b, off, e, hb, fun j u hu => (hk b _ hb).trans (hc j u hu)⟩⟩
theorem Rd.more (h : Rd w B size A n xs) (hB : B ≤ B') : Rd w B' size A n xs :=
  ⟨h.1, fun hn => by
    obtain ⟨b, off, e, hb, hc⟩ := h.2 hn
    exact ⟨b, off, e, by omega, hc⟩⟩
theorem Rd.below {C : Nat} (h : Rd w B size A n xs) (hb : Below C w w') (hC : B ≤ C) : Rd w' B size A n xs := h.keep fun b o hp => hb.cell (p := ⟨b, o, none⟩) (by show b < C; omega)
theorem Rd.drew (h : Rd w B size A n xs) : Rd w.drew B size A n xs := h
theorem Rd.drewN (h : Rd w B size A n xs) (k : Nat) : Rd (w.drewN k) B size A n xs := h
theorem Rd.alloc (h : Rd w B size A n xs) (hB : B ≤ w.heap.size) (o : Obj) : Rd (w.alloc o) B size A n xs := h.keep fun b i hp => World.cell?_alloc_lt w o ⟨b, i, none⟩ (by show b < w.heap.size; omega)
theorem Rd.setCell (h : Rd w B size A n xs) {p : Addr} (hB : B ≤ p.block) (u : Value) : Rd (w.setCell p u) B size A n xs :=
  h.keep fun b i hp => World.cell?_setCell_other w p ⟨b, i, none⟩ u (fun e => by subst e; exact absurd hB (by show ¬ B ≤ b; omega))
end

/-- an element's cell, in a list of elements of one size -/
theorem flat_at {α : Type} (f : α → List Value) (size : Nat) : ∀ (l : List α), (∀ a ∈ l, (f a).length = size) → ∀ (i j : Nat) (a : α), l[i]? = some a → j < size → (l.flatMap f)[i * size + j]? = (f a)[j]?
  | [], _, i, j, a, h, _ => by simp at h
  | x :: r, hl, i, j, a, h, hj => by
    have hx := hl x (by simp)
    cases i with
    | zero =>
      simp at h; subst h
      rw [List.flatMap_cons, Nat.zero_mul, Nat.zero_add, List.getElem?_append_left (by omega)]
    | succ i =>
      rw [List.flatMap_cons, List.getElem?_append_right (by rw [hx, Nat.succ_mul]; omega)]
      have : (i + 1) * size + j - (f x).length = i * size + j := by rw [hx, Nat.succ_mul]; omega
      rw [this]
      exact flat_at f size r (fun a ha => hl a (by simp [ha])) i j a (by simpa using h) hj
theorem flat_length {α : Type} (f : α → List Value) (size : Nat) : ∀ (l : List α), (∀ a ∈ l, (f a).length = size) → (l.flatMap f).length = l.length * size
  | [], _ => by simp
  | x :: r, hl => by
    rw [List.flatMap_cons, List.length_append, hl x (by simp), flat_length f size r (fun a ha => hl a (by simp [ha])), List.length_cons, Nat.succ_mul]; omega

theorem list_of_ex {α : Type} (Q : Nat → α → Prop) : ∀ (n : Nat), (∀ i, i < n → ∃ a, Q i a) → ∃ l : List α, l.length = n ∧ ∀ i a, l[i]? = some a → Q i a
  | 0, _ => ⟨[], rfl, by simp⟩
  | n + 1, h => by
    obtain ⟨l, hl, hq⟩ := list_of_ex Q n (fun i hi => h i (by omega))
    obtain ⟨a, ha⟩ := h n (by omega)
    refine ⟨l ++ [a], by simp [hl], fun i b hb => ?_⟩
    by_cases hi : i < l.length
    · rw [List.getElem?_append_left hi] at hb
      exact hq i b hb
    · rw [List.getElem?_append_right (by omega)] at hb
      have h1 : i - l.length = 0 := by
        rcases Nat.eq_zero_or_pos (i - l.length) with h0 | h0
        · exact h0
        · rw [List.getElem?_eq_none (by simp; omega)] at hb; cases hb
      rw [h1] at hb
      simp at hb
      subst hb
      have : i = n := by omega
      subst this
      exact ha

section
variable {H : Type} {enc : TypeId × Value → H} {P : Program} {w : World} {base : Nat} {spare : Nat → Bool} {held : Bool}

/-- a slice: its elements' cells, each element as the lemma for its type says -/
theorem open_slice_of {α : Type} (encA : α → List Value) (ok : α → Prop) (size : Nat) (hsize : 0 < size) {t e : TypeId} {fuel : Nat} {v : Value} {x : DataW H × List MemPlace} (ht : P.underlying t = some (.slice e)) (hC : P.cellsOf e = size)
    (hel : ∀ (n : Nat) (cs : List Value) (y : DataW H × List MemPlace), cs.length = size → DataW.trod enc P w base spare held n e cs = some y → ∃ a : α, cs = encA a ∧ ok a)
    (hsz : ∀ a, (encA a).length = size)
    (h : DataW.trod enc P w base spare held fuel t [v] = some x) :
    ∃ (A : Option Addr) (c : Nat) (l : List α), v = .slice A l.length c ∧ l.length ≤ c ∧ c ≤ maxLen ∧ (∀ a ∈ l, ok a) ∧ Rd w w.heap.size size A l.length (l.flatMap encA) := by
  rcases open_slice ht h with ⟨hc, _⟩ | ⟨a, len, cap, m, n, D, Pl, hc, hb, hl, hm, hmm, hx, hi⟩
  · simp at hc
    exact ⟨none, 0, [], hc, by simp, by simp [maxLen], by simp, Rd.nil⟩
  · simp at hc
    have hlm : len ≤ m := by rw [hmm]; split <;> omega
    obtain ⟨l, hll, hlq⟩ := list_of_ex (fun i b => ok b ∧ ∀ j, j < size → w.cell? (a.add (i * size + j)) = (encA b)[j]?) len (fun i him => by
      obtain ⟨cs', hcs, ht'⟩ := hi i (by omega)
      rw [hC] at hcs
      obtain ⟨_, hcl, hat⟩ := World.cells?_some hcs
      obtain ⟨b, hb1, hb2⟩ := hel n cs' _ hcl ht'
      exact ⟨b, hb2, fun j hj => by rw [← hb1, ← hat j hj, Go.Deep.add_add]⟩)
    subst hll
    refine ⟨some a, cap, l, hc, hl, hm, fun b hbm => ?_, flat_length encA size l (fun a _ => hsz a), fun hpos => ?_⟩
    · obtain ⟨i, hil, hib⟩ := List.getElem_of_mem hbm
      exact (hlq i b (by rw [List.getElem?_eq_getElem hil, hib])).1
    · have cell : ∀ j u, (l.flatMap encA)[j]? = some u → w.cell? (a.add j) = some u := by
        intro j u hu
        have hjl : j < l.length * size := by
          rw [← flat_length encA size l (fun a _ => hsz a)]
          exact (List.getElem?_eq_some_iff.1 hu).1
        have hd : j / size < l.length := (Nat.div_lt_iff_lt_mul hsize).2 hjl
        have hr : j % size < size := Nat.mod_lt _ hsize
        have hj : j = (j / size) * size + j % size := by have := Nat.div_add_mod j size; rw [Nat.mul_comm] at this; omega
        have hel' : l[j / size]? = some l[j / size] := List.getElem?_eq_getElem hd
        have h1 := (hlq _ _ hel').2 _ hr
        have h2 := flat_at encA size l (fun a _ => hsz a) (j / size) (j % size) _ hel' hr
        rw [← hj] at h1 h2
        rw [h1, ← h2, hu]
      have hl0 : 0 < (l.flatMap encA).length := hpos
      have h0 := cell 0 _ (List.getElem?_eq_getElem hl0)
      obtain ⟨b, off, spot⟩ := a
      have hspot : spot = none := by simpa [Addr.add] using World.cell?_spot h0
      subst hspot
      refine ⟨b, off, rfl, ?_, fun j u hu => ?_⟩
      · have h0' : w.cell? ⟨b, off, none⟩ = some (l.flatMap encA)[0] := by simpa [Addr.add] using h0
        rcases Nat.lt_or_ge b w.heap.size with hlt | hge
        · exact hlt
        · simp [World.cell?, Array.getElem?_eq_none hge] at h0'
      · have := cell j u hu
        unfold Addr.add at this
        split at this
        · rename_i hj; subst hj; simpa using this
        · simpa using this
end

end Go.Proofs.Ythhllollhjpheaa

namespace Go.Proofs.Ythhllollhjpheaa
open Go.RowKit

def encI (n : Int) : List Value := [.int .i64 n]
def okI (n : Int) : Prop := (Lit.int .i64 n).wf = true
/-- the slice '.slice A l.length c' reads as the numbers l -/
def RdI (w : World) (B : Nat) (A : Option Addr) (l : List Int) : Prop := Rd w B 1 A l.length (l.flatMap encI)

theorem int_at {w : World} {B : Nat} {A : Option Addr} {l : List Int} (h : RdI w B A l) {j : Nat} (hj : j < l.length) :
    ∃ b off, A = some ⟨b, off, none⟩ ∧ b < B ∧ w.cell? ⟨b, off + j, none⟩ = some (.int .i64 l[j]) := by
  obtain ⟨b, off, hA, hb, hc⟩ := Rd.at_ h hj (by omega)
  exact ⟨b, off, hA, hb, by have := hc (j * 1 + 0) _ (flat_at encI 1 l (fun _ _ => rfl) j 0 l[j] (List.getElem?_eq_getElem hj) (by omega)); simpa using this⟩

theorem RdI.nil {w : World} {B : Nat} {A : Option Addr} : RdI w B A [] := Rd.nil
theorem RdI.more {w : World} {B B' : Nat} {A : Option Addr} {l : List Int} (h : RdI w B A l) (hB : B ≤ B') : RdI w B' A l := Rd.more h hB
theorem RdI.below {w w' : World} {B C : Nat} {A : Option Addr} {l : List Int} (h : RdI w B A l) (hb : Below C w w') (hC : B ≤ C) : RdI w' B A l := Rd.below h hb hC
theorem RdI.alloc {w : World} {B : Nat} {A : Option Addr} {l : List Int} (h : RdI w B A l) (hB : B ≤ w.heap.size) (o : Obj) : RdI (w.alloc o) B A l := Rd.alloc h hB o
theorem RdI.drewN {w : World} {B : Nat} {A : Option Addr} {l : List Int} (h : RdI w B A l) (k : Nat) : RdI (w.drewN k) B A l := h
theorem RdI.setCell {w : World} {B : Nat} {A : Option Addr} {l : List Int} (h : RdI w B A l) {p : Addr} (hB : B ≤ p.block) (u : Value) : RdI (w.setCell p u) B A l := Rd.setCell h hB u
/-- a block whose first cells are the numbers -/
theorem RdI.of_cells {w : World} {B b : Nat} {l : List Int} (hb : b < B) (h : ∀ j, (hj : j < l.length) → w.cell? ⟨b, j, none⟩ = some (.int .i64 l[j])) : RdI w B (some ⟨b, 0, none⟩) l := by
  have hl := flat_length encI 1 l (fun _ _ => rfl)
  refine ⟨hl, fun _ => ⟨b, 0, rfl, hb, fun j u hu => ?_⟩⟩
  have hj : j < l.length := by have := (List.getElem?_eq_some_iff.1 hu).1; omega
  have := flat_at encI 1 l (fun _ _ => rfl) j 0 l[j] (List.getElem?_eq_getElem hj) (by omega)
  simp at this
  rw [this] at hu
  simp [encI] at hu
  subst hu
  simpa using h j hj
theorem RdI.new {w : World} {t : TypeId} {l : List Int} {cs : Array Value} (e : cs = (l.map (Value.int .i64)).toArray) : RdI (w.alloc (.cells cs t)) (w.heap.size + 1) (some ⟨w.heap.size, 0, none⟩) l := by
  refine RdI.of_cells (by omega) fun j hj => ?_
  rw [(Blk.new w t cs).cell j, e]
  simp [hj]

theorem int_of {H : Type} {enc : TypeId × Value → H} {w : World} {base : Nat} {spare : Nat → Bool} {held : Bool} (n : Nat) (cs : List Value) (y : DataW H × List MemPlace) (hl : cs.length = 1)
    (h : DataW.trod enc Try.prog w base spare held n 3 cs = some y) : ∃ t : Int, cs = encI t ∧ okI t := by
  match cs, hl with
  | [v], _ =>
    obtain ⟨a, rfl, wa⟩ := leaf_int Try.underlying3 h
    exact ⟨a, rfl, wa⟩

end Go.Proofs.Ythhllollhjpheaa

namespace Go.Proofs.Ythhllollhjpheaa
open Go.RowKit

section
variable {w w' : World} {base : Nat} {e : TypeId} {size n : Nat} {v : Value} {xs : List Value}
theorem own_form (h : w.ownsRow base e size v n xs) : ∃ A c, v = .slice A n c ∧ n ≤ c := by
  rcases h.2 with ⟨rfl, rfl⟩ | ⟨g, cap, cur, rfl, _, _, hnc, _⟩
  · exact ⟨none, 0, rfl, Nat.le_refl _⟩
  · exact ⟨_, cap, rfl, hnc⟩
/-- what an owned row reads as -/
theorem own_rd {A : Option Addr} {c : Nat} (h : w.ownsRow base e size (.slice A n c) n xs) : Rd w w.heap.size size A n xs := by
  refine ⟨h.1, fun hp => ?_⟩
  have hn : 0 < n := by
    rcases Nat.eq_zero_or_pos n with h0 | h0
    · have := h.1; rw [h0, Nat.zero_mul] at this; omega
    · exact h0
  rcases h.2 with ⟨_, h0⟩ | ⟨g, cap, cur, hv, _, hh, hnc, _, hcur, htake⟩
  · omega
  · injection hv with hA _ _
    subst hA
    refine ⟨g, 0, rfl, (Array.getElem?_eq_some_iff.1 hh).1, fun j u hu => ?_⟩
    rw [Nat.zero_add, h.cellAt j (by have := h.1; have := (List.getElem?_eq_some_iff.1 hu).1; omega)]
    exact hu
theorem own_block {A : Option Addr} {c : Nat} (h : w.ownsRow base e size (.slice A n c) n xs) (hn : 0 < n) : ∃ g, A = some ⟨g, 0, none⟩ ∧ base ≤ g ∧ g < w.heap.size := by
  rcases h.2 with ⟨_, h0⟩ | ⟨g, cap, cur, hv, hb, hh, _⟩
  · omega
  · injection hv with hA _ _
    exact ⟨g, hA, hb, (Array.getElem?_eq_some_iff.1 hh).1⟩
theorem own_below {C : Nat} (h : w.ownsRow base e size v n xs) (hb : Below C w w') (hC : w.heap.size ≤ C) : w'.ownsRow base e size v n xs := by
  refine ⟨h.1, ?_⟩
  rcases h.2 with hn | ⟨g, cap, cur, rfl, hg, hgg, rest⟩
  · exact .inl hn
  · refine .inr ⟨g, cap, cur, rfl, hg, ?_, rest⟩
    rw [hb.block g (by have := (Array.getElem?_eq_some_iff.1 hgg).1; omega)]
    exact hgg
theorem own_blk_ne {g : Nat} {t : TypeId} {cs : Array Value} (h : w.ownsRow base e size v n xs) (hg : Blk w g t cs) (hne : e ≠ t) : some g ≠ v.ownBlock := by
  rcases h.2 with ⟨rfl, _⟩ | ⟨g', cap, cur, rfl, _, hh, _⟩
  · simp [Value.ownBlock]
  · intro he
    have : g = g' := by simpa [Value.ownBlock] using he
    subst this
    unfold Blk at hg
    rw [hg] at hh
    injection hh with hh
    injection hh with _ ht
    exact hne ht.symm
theorem own_cell {A : Option Addr} {c j : Nat} (h : w.ownsRow base e 1 (.slice A n c) n xs) (hj : j < n) : ∃ g u, A = some ⟨g, 0, none⟩ ∧ base ≤ g ∧ g < w.heap.size ∧ xs[j]? = some u ∧ w.cell? ⟨g, j, none⟩ = some u := by
  obtain ⟨g, rfl, h1, h2⟩ := own_block h (by omega)
  have hl : j < xs.length := by have := h.1; omega
  exact ⟨g, xs[j], rfl, h1, h2, List.getElem?_eq_getElem hl, by rw [h.cellAt j (by omega)]; exact List.getElem?_eq_getElem hl⟩
theorem own_drewN (h : w.ownsRow base e size v n xs) (k : Nat) : (w.drewN k).ownsRow base e size v n xs := h
end

section
variable {P : Program} (w : World)

theorem run_append_of_nil (base : Nat) (t ty e : TypeId) (i : TypeInfo) (size : Nat) (ht : P.underlying t = some (.slice e)) (hi : P.info? e = some i)
    (v : Value) (n : Nat) (xs : List Value) (hown : w.ownsRow base e size v n xs) (c : Nat) : (Builtin.append_ #[t, t] ty #[v, .slice none 0 c]).run P w = .ok v w := by
  rcases hown.2 with ⟨rfl, rfl⟩ | ⟨g, cap, cur, rfl, _, _, hnc, _⟩
  · simp [Builtin.append_, run_underlying ht, sizeOf, typeInfo, hi, Builtin.lenOf, Builtin.firstCells]
  · simp [Builtin.append_, run_underlying ht, sizeOf, typeInfo, hi, Builtin.lenOf, Builtin.firstCells, hnc, storeCells]

theorem run_append_any (base : Nat) (t ty e : TypeId) (i : TypeInfo) (z : Value) (size bytes : Nat) (ht : P.underlying t = some (.slice e)) (hi : P.info? e = some i) (hz : i.zero = some z)
    (hsize : i.size = size) (hby : i.bytes = bytes) (hzs : z.cells.size = size) (hsz : 0 < size)
    (v : Value) (n : Nat) (xs : List Value) (hown : w.ownsRow base e size v n xs)
    (B : Nat) (A : Option Addr) (m c : Nat) (news : List Value) (hr : Rd w B size A m news) (hnil : A = none → m = 0) (h1 : ∀ u ∈ news, u.oneCell' = true)
    (h63 : n + m ≤ maxLen) (hbytes : (n + m) * bytes ≤ 140737488355328) (hbase : base ≤ w.heap.size) :
    ∃ v' w', (Builtin.append_ #[t, t] ty #[v, .slice A m c]).run P w = .ok v' w' ∧ w'.ownsRow base e size v' (n + m) (xs ++ news) ∧ w.grownBy w' v.ownBlock ∧
      (v'.ownBlock = v.ownBlock ∨ v'.ownBlock = some w.heap.size) := by
  rcases A with _ | ad
  · obtain rfl := hnil rfl
    have hn : news = [] := List.eq_nil_of_length_eq_zero (by simpa using hr.1)
    subst hn
    exact ⟨v, w, run_append_of_nil w base t ty e i size ht hi v n xs hown c, by simpa using hown, World.grownBy.refl w _, .inl rfl⟩
  · have hcells : ∀ j u, news[j]? = some u → w.cell? (ad.add j) = some u := by
      intro j u hu
      obtain ⟨b, off, h, _, hc⟩ := hr.2 (by have := (List.getElem?_eq_some_iff.1 hu).1; omega)
      injection h with h
      subst h
      have := hc j u hu
      unfold Addr.add
      split
      · rename_i hj; subst hj; simpa using this
      · exact this
    obtain ⟨v', w', hrun, h2, h3, _, h5⟩ := run_append_own_at (P := P) w base t ty e i z size bytes ht hi hz hsize hby hzs hsz v n xs hown ad m c news hr.1 hcells h1 h63 hbytes hbase
    exact ⟨v', w', hrun, h2, h3, h5⟩

/-- what is known behind an append -/
def Apped (w : World) (base : Nat) (e : TypeId) (size : Nat) (A : Option Addr) (n c : Nat) (xs : List Value) (m : Nat) (news : List Value) (A' : Option Addr) (c' : Nat) (w' : World) : Prop :=
  w'.ownsRow base e size (.slice A' (n + m) c') (n + m) (xs ++ news) ∧ w.grownBy w' (Value.slice A n c).ownBlock ∧ Below base w w' ∧
    ((Value.slice A' (n + m) c').ownBlock = (Value.slice A n c).ownBlock ∨ (Value.slice A' (n + m) c').ownBlock = some w.heap.size)

theorem wp_app {o : Oper} {a : Act} {K : Act → World → Prop} {Q : Exit → Act → World → Prop} (s x : Operand) (t : TypeId)
    (ho : o.op = .call { callee := .builtin .append, args := #[s, x], argTypes := #[t, t] })
    (base : Nat) (e : TypeId) (i : TypeInfo) (z : Value) (size bytes : Nat) (ht : P.underlying t = some (.slice e)) (hi : P.info? e = some i) (hz : i.zero = some z)
    (hsize : i.size = size) (hby : i.bytes = bytes) (hzs : z.cells.size = size) (hsz : 0 < size)
    (A : Option Addr) (n c : Nat) (xs : List Value) (hs : a.eval s = .slice A n c) (hown : w.ownsRow base e size (.slice A n c) n xs)
    (B : Nat) (X : Option Addr) (m d : Nat) (news : List Value) (hx : a.eval x = .slice X m d) (hr : Rd w B size X m news) (hnil : X = none → m = 0) (h1 : ∀ u ∈ news, u.oneCell' = true)
    (h63 : n + m ≤ maxLen) (hbytes : (n + m) * bytes ≤ 140737488355328) (hbase : base ≤ w.heap.size)
    (h : ∀ A' c' w', Apped w base e size A n c xs m news A' c' w' → K (a.put o.dst (.slice A' (n + m) c')) w') : o.wp P a w K Q := by
  obtain ⟨v', w', hrun, h2, h3, h4⟩ := run_append_any (P := P) w base t o.type e i z size bytes ht hi hz hsize hby hzs hsz _ n xs hown B X m d news hr hnil h1 h63 hbytes hbase
  obtain ⟨A', c', rfl, _⟩ := own_form h2
  have hb : Below base w w' := (Below.refl base w).grown h3 hbase (fun k hk => (hown.lt k hk).1)
  unfold Oper.wp execOp
  simp only [ho, resolve, invoke, builtin, Sem.run_bind, Sem.run_pure, Result.andThen_ok, List.map_toArray, List.map_cons, List.map_nil, hs, hx, hrun]
  exact h A' c' w' ⟨h2, h3, hb, h4⟩

theorem wpList_app {ops : Array Oper} {rest : List Oper} {o : Oper} {a : Act} {Q : Exit → Act → World → Prop} (hgd : o.guard = none) (s x : Operand) (t : TypeId)
    (ho : o.op = .call { callee := .builtin .append, args := #[s, x], argTypes := #[t, t] })
    (base : Nat) (e : TypeId) (i : TypeInfo) (z : Value) (size bytes : Nat) (ht : P.underlying t = some (.slice e)) (hi : P.info? e = some i) (hz : i.zero = some z)
    (hsize : i.size = size) (hby : i.bytes = bytes) (hzs : z.cells.size = size) (hsz : 0 < size)
    (A : Option Addr) (n c : Nat) (xs : List Value) (hs : a.eval s = .slice A n c) (hown : w.ownsRow base e size (.slice A n c) n xs)
    (B : Nat) (X : Option Addr) (m d : Nat) (news : List Value) (hx : a.eval x = .slice X m d) (hr : Rd w B size X m news) (hnil : X = none → m = 0) (h1 : ∀ u ∈ news, u.oneCell' = true)
    (h63 : n + m ≤ maxLen) (hbytes : (n + m) * bytes ≤ 140737488355328) (hbase : base ≤ w.heap.size)
    (h : ∀ A' c' w', Apped w base e size A n c xs m news A' c' w' → wpList P ops Q rest (a.put o.dst (.slice A' (n + m) c')) w') : wpList P ops Q (o :: rest) a w :=
  wpList_plain hgd fun _ hK => wp_app w s x t ho base e i z size bytes ht hi hz hsize hby hzs hsz A n c xs hs hown B X m d news hx hr hnil h1 h63 hbytes hbase fun A' c' w' h2 => hK _ _ (h A' c' w' h2)

theorem step_app {ops : Array Oper} {o : Oper} {a : Act} {K : Act → World → Prop} {Q : Exit → Act → World → Prop} {E : Prop} (hgd : o.guard = none) (s x : Operand) (t : TypeId)
    (ho : o.op = .call { callee := .builtin .append, args := #[s, x], argTypes := #[t, t] })
    (base : Nat) (e : TypeId) (i : TypeInfo) (z : Value) (size bytes : Nat) (ht : P.underlying t = some (.slice e)) (hi : P.info? e = some i) (hz : i.zero = some z)
    (hsize : i.size = size) (hby : i.bytes = bytes) (hzs : z.cells.size = size) (hsz : 0 < size)
    (A : Option Addr) (n c : Nat) (xs : List Value) (hs : a.eval s = .slice A n c) (hown : w.ownsRow base e size (.slice A n c) n xs)
    (B : Nat) (X : Option Addr) (m d : Nat) (news : List Value) (hx : a.eval x = .slice X m d) (hr : Rd w B size X m news) (hnil : X = none → m = 0) (h1 : ∀ u ∈ news, u.oneCell' = true)
    (h63 : n + m ≤ maxLen) (hbytes : (n + m) * bytes ≤ 140737488355328) (hbase : base ≤ w.heap.size)
    (h : ∀ A' c' w', Apped w base e size A n c xs m news A' c' w' → K (a.put o.dst (.slice A' (n + m) c')) w') :
    if Region.wanted o (yielded ops a.tmps) = true then Oper.wp P o a w K Q else E := by
  have hw : Region.wanted o (yielded ops a.tmps) = true := by simp [Region.wanted, hgd]
  rw [if_pos hw]
  exact wp_app w s x t ho base e i z size bytes ht hi hz hsize hby hzs hsz A n c xs hs hown B X m d news hx hr hnil h1 h63 hbytes hbase h

/-- one new element, of one or more cells, out of a block just made -/
theorem rd_one (g : Nat) (t : TypeId) (cs : List Value) (hg : Blk w g t cs.toArray) : Rd w w.heap.size cs.length (some ⟨g, 0, none⟩) 1 cs := by
  refine ⟨by simp, fun _ => ⟨g, 0, rfl, hg.lt, fun j u hu => ?_⟩⟩
  rw [hg.cell (0 + j)]
  simpa using hu
end

end Go.Proofs.Ythhllollhjpheaa

namespace Go.Proofs.Ythhllollhjpheaa
open Go.RowKit

section
variable {P : Program} (w : World)

/-- what is known behind an append into spare room -/
def Roomed (w : World) (g : Nat) (e : TypeId) (n : Nat) (cur : Array Value) (news : List Value) (w' : World) : Prop :=
  Blk w' g e (cur.toList.take n ++ news ++ cur.toList.drop (n + news.length)).toArray ∧ w.grownBy w' (some g) ∧ Below g w w'

theorem run_append_blk (t ty e : TypeId) (i : TypeInfo) (ht : P.underlying t = some (.slice e)) (hi : P.info? e = some i) (hsize : i.size = 1)
    (g n cap : Nat) (cur : Array Value) (hg : Blk w g e cur) (hcur : cur.size = cap)
    (B : Nat) (X : Option Addr) (m d : Nat) (news : List Value) (hr : Rd w B 1 X m news) (hnil : X = none → m = 0) (h1 : ∀ u ∈ news, u.oneCell' = true) (hroom : n + m ≤ cap) :
    ∃ w', (Builtin.append_ #[t, t] ty #[.slice (some ⟨g, 0, none⟩) n cap, .slice X m d]).run P w = .ok (.slice (some ⟨g, 0, none⟩) (n + m) cap) w' ∧ Roomed w g e n cur news w' := by
  have hl : news.length = m := by simpa using hr.1
  rcases X with _ | ad
  · obtain rfl := hnil rfl
    obtain rfl := List.eq_nil_of_length_eq_zero hl
    refine ⟨w, ?_, ?_, World.grownBy.refl w _, Below.refl _ _⟩
    · simp [Builtin.append_, run_underlying ht, sizeOf, typeInfo, hi, Builtin.lenOf, Builtin.firstCells, (show n ≤ cap by omega), storeCells]
    · simpa using hg
  · have hcells : ∀ j u, news[j]? = some u → w.cell? (ad.add j) = some u := by
      intro j u hu
      obtain ⟨b, off, h, _, hc⟩ := hr.2 (by have := (List.getElem?_eq_some_iff.1 hu).1; omega)
      injection h with h
      subst h
      have := hc j u hu
      unfold Addr.add
      split
      · rename_i hj; subst hj; simpa using this
      · exact this
    have hrun := run_append_room (P := P) w t ty e i ht hi g n cap cur hg ad m d news (by rw [hsize]; omega) hcells h1 hroom (by rw [hsize]; omega)
    rw [hsize] at hrun
    simp only [Nat.mul_one] at hrun
    refine ⟨_, hrun, ?_, ⟨rfl, rfl, rfl, by simp, fun k _ hk => setRow_other w g k _ (fun e => hk (by rw [e]))⟩, below_setRow (Below.refl _ _) (Nat.le_refl _) _⟩
    exact setRow_heap w g cur _ e (0, 0) hg

theorem wp_room {o : Oper} {a : Act} {K : Act → World → Prop} {Q : Exit → Act → World → Prop} (s x : Operand) (t : TypeId)
    (ho : o.op = .call { callee := .builtin .append, args := #[s, x], argTypes := #[t, t] }) (e : TypeId) (i : TypeInfo) (ht : P.underlying t = some (.slice e)) (hi : P.info? e = some i) (hsize : i.size = 1)
    (g n cap : Nat) (cur : Array Value) (hs : a.eval s = .slice (some ⟨g, 0, none⟩) n cap) (hg : Blk w g e cur) (hcur : cur.size = cap)
    (B : Nat) (X : Option Addr) (m d : Nat) (news : List Value) (hx : a.eval x = .slice X m d) (hr : Rd w B 1 X m news) (hnil : X = none → m = 0) (h1 : ∀ u ∈ news, u.oneCell' = true) (hroom : n + m ≤ cap)
    (h : ∀ w', Roomed w g e n cur news w' → K (a.put o.dst (.slice (some ⟨g, 0, none⟩) (n + m) cap)) w') : o.wp P a w K Q := by
  obtain ⟨w', hrun, h2⟩ := run_append_blk (P := P) w t o.type e i ht hi hsize g n cap cur hg hcur B X m d news hr hnil h1 hroom
  unfold Oper.wp execOp
  simp only [ho, resolve, invoke, builtin, Sem.run_bind, Sem.run_pure, Result.andThen_ok, List.map_toArray, List.map_cons, List.map_nil, hs, hx, hrun]
  exact h w' h2

theorem wpList_room {ops : Array Oper} {rest : List Oper} {o : Oper} {a : Act} {Q : Exit → Act → World → Prop} (hgd : o.guard = none) (s x : Operand) (t : TypeId)
    (ho : o.op = .call { callee := .builtin .append, args := #[s, x], argTypes := #[t, t] }) (e : TypeId) (i : TypeInfo) (ht : P.underlying t = some (.slice e)) (hi : P.info? e = some i) (hsize : i.size = 1)
    (g n cap : Nat) (cur : Array Value) (hs : a.eval s = .slice (some ⟨g, 0, none⟩) n cap) (hg : Blk w g e cur) (hcur : cur.size = cap)
    (B : Nat) (X : Option Addr) (m d : Nat) (news : List Value) (hx : a.eval x = .slice X m d) (hr : Rd w B 1 X m news) (hnil : X = none → m = 0) (h1 : ∀ u ∈ news, u.oneCell' = true) (hroom : n + m ≤ cap)
    (h : ∀ w', Roomed w g e n cur news w' → wpList P ops Q rest (a.put o.dst (.slice (some ⟨g, 0, none⟩) (n + m) cap)) w') : wpList P ops Q (o :: rest) a w :=
  wpList_plain hgd fun _ hK => wp_room w s x t ho e i ht hi hsize g n cap cur hs hg hcur B X m d news hx hr hnil h1 hroom fun w' h2 => hK _ _ (h w' h2)
end

theorem own_base {w : World} {b b' : Nat} {e : TypeId} {size n : Nat} {v : Value} {xs : List Value} (h : w.ownsRow b' e size v n xs) (hb : b ≤ b') : w.ownsRow b e size v n xs := by
  refine ⟨h.1, ?_⟩
  rcases h.2 with hn | ⟨g, cap, cur, rfl, hg, rest⟩
  · exact .inl hn
  · exact .inr ⟨g, cap, cur, rfl, by omega, rest⟩
theorem Rd.grown {w w' : World} {B size n : Nat} {A : Option Addr} {xs : List Value} {row : Option Nat} (h : Rd w B size A n xs) (hg : w.grownBy w' row) (hB : B ≤ w.heap.size) (hr : ∀ g, row = some g → B ≤ g) : Rd w' B size A n xs :=
  h.keep fun b o hb => World.cell?_of_block (hg.block b (by omega) (fun e => by have := hr b e.symm; omega))
/-- cells made for a row, all the same -/
theorem made_list (v : Value) (n : Nat) (h : v.cells = #[v]) : madeCells v.cells (n * 1) = (List.replicate n v).toArray := by
  rw [h]
  apply Array.ext'
  apply List.ext_getElem
  · simp [madeCells]
  · intro i h1 h2
    simp [madeCells, Nat.mod_one]

theorem rd_two (w : World) (t : TypeId) (a b : Value) : Rd (w.alloc (.cells #[a, b] t)) (w.heap.size + 1) 1 (some ⟨w.heap.size, 0, none⟩) 2 [a, b] :=
  ⟨rfl, fun _ => ⟨w.heap.size, 0, rfl, Nat.lt_succ_self _, fun j u hu => by rw [(Blk.new w t #[a, b]).cell (0 + j), Nat.zero_add, ← hu, List.getElem?_toArray]⟩⟩
/-- a row that is made, filled, and filled to its end -/
theorem copied_blk {W w1 w2 : World} {e : TypeId} {Z Y : Obj} {n k : Nat} {z : Value} {xs ys : List Value} {cur : Array Value} (hx : xs.length = n) (hy : ys.length = k)
    (h1 : Roomed (W.alloc Z) W.heap.size e 0 (List.replicate (n + k) z).toArray xs w1)
    (hcur : cur = (List.take 0 (List.replicate (n + k) z) ++ xs ++ List.drop (0 + xs.length) (List.replicate (n + k) z)).toArray)
    (h2 : Roomed (w1.alloc Y) W.heap.size e n cur ys w2) : Blk w2 W.heap.size e (xs ++ ys).toArray ∧ Below W.heap.size W w2 := by
  refine ⟨?_, ?_⟩
  · have h := h2.1
    rw [hcur] at h
    have e1 : List.drop (n + ys.length) (xs ++ List.drop xs.length (List.replicate (n + k) z)) = [] := List.drop_eq_nil_of_le (by simp; omega)
    have e2 : List.take n (xs ++ List.drop xs.length (List.replicate (n + k) z)) = xs := by rw [← hx]; simp
    simp only [List.take_zero, List.nil_append, Nat.zero_add, e1, e2, List.append_nil] at h
    exact h
  · have b1 : Below W.heap.size W w1 := ((Below.refl _ _).alloc (Nat.le_refl _) _).trans h1.2.2
    exact (b1.alloc b1.size _).trans h2.2.2

end Go.Proofs.Ythhllollhjpheaa

namespace Go.Proofs.Ythhllollhjpheaa
open Go.RowKit

def isB (n : Int) : Prop := 0 ≤ n ∧ n ≤ 255
/-- the bytes, as cells -/
def bytesV (l : List Int) : List Value := l.map (Value.int .u8)
theorem bytesV_append (l m : List Int) : bytesV l ++ bytesV m = bytesV (l ++ m) := by simp [bytesV]
theorem bytesV_length (l : List Int) : (bytesV l).length = l.length := by simp [bytesV]

/-- what a byte of a slice of bytes reads as -/
theorem byte_at {w : World} {B : Nat} {A : Option Addr} {l : List Int} (h : Rd w B 1 A l.length (bytesV l)) {j : Nat} (hj : j < l.length) :
    ∃ b off, A = some ⟨b, off, none⟩ ∧ b < B ∧ w.cell? ⟨b, off + j, none⟩ = some (.int .u8 (l.getD j 0)) := by
  obtain ⟨b, off, hA, hb, hc⟩ := Rd.at_ h hj (by omega)
  exact ⟨b, off, hA, hb, hc j _ (by simp [bytesV, List.getD, List.getElem?_eq_getElem hj])⟩

/-- an error by its number -/
def errv (k : Int) : Value := if k = 0 then .nilIface else .iface 40 (.int .i64 k)
theorem num_errv (k : Int) (hk : 0 ≤ k) (w : World) : Calls Try.prog 37 #[errv k] w fun e w' => e = .returned (.int .i64 k) ∧ w = w' := by
  unfold errv
  split
  · rename_i h; subst h; exact num_nil w
  · exact num_no k (by omega) w

theorem rd_nil {w : World} {B size n : Nat} {A : Option Addr} {xs : List Value} (h : Rd w B size A n xs) (hs : 0 < size) (hA : A = none) : n = 0 := by
  rcases Nat.eq_zero_or_pos n with h0 | h0
  · exact h0
  · obtain ⟨b, off, hA', _⟩ := h.at_ (k := 0) h0 hs
    rw [hA] at hA'; cases hA'
theorem own_nil {w : World} {base : Nat} {e : TypeId} {size n c : Nat} {xs : List Value} (h : w.ownsRow base e size (.slice none n c) n xs) : c = 0 := by
  rcases h.2 with ⟨h1, _⟩ | ⟨g, cap, cur, h1, _⟩
  · injection h1
  · injection h1 with h1; cases h1
theorem bytesV_cells {l : List Int} : ∀ u ∈ bytesV l, u.oneCell' = true := by intro u hu; obtain ⟨x, _, rfl⟩ := List.mem_map.1 hu; rfl

end Go.Proofs.Ythhllollhjpheaa

namespace Go.Proofs.Ythhllollhjpheaa
open Go.RowKit

/-- a token's cells -/
def encTok (t : Int × Int) : List Value := [.int .i64 t.1, .int .i64 t.2]
def okTok (t : Int × Int) : Prop := (Lit.int .i64 t.1).wf = true ∧ (Lit.int .i64 t.2).wf = true

/-- what the walk reads of token j -/
theorem tok_at {w : World} {B : Nat} {A : Option Addr} {l : List (Int × Int)} (h : Rd w B 2 A l.length (l.flatMap encTok)) {j : Nat} (hj : j < l.length) :
    ∃ b off, A = some ⟨b, off, none⟩ ∧ b < B ∧ w.cell? ⟨b, off + j * 2, none⟩ = some (.int .i64 l[j].1) ∧ w.cell? ⟨b, off + j * 2 + 1, none⟩ = some (.int .i64 l[j].2) := by
  obtain ⟨b, off, hA, hb, hc⟩ := h.at_ hj (by omega)
  have hl : ∀ a ∈ l, (encTok a).length = 2 := fun _ _ => rfl
  have hjj : l[j]? = some l[j] := List.getElem?_eq_getElem hj
  exact ⟨b, off, hA, hb, by have := hc (j * 2 + 0) _ (flat_at encTok 2 l hl j 0 l[j] hjj (by omega)); simpa using this, by have := hc (j * 2 + 1) _ (flat_at encTok 2 l hl j 1 l[j] hjj (by omega)); rw [← Nat.add_assoc] at this; exact this⟩

end Go.Proofs.Ythhllollhjpheaa

namespace Go.Proofs.Ythhllollhjpheaa
open Go.RowKit

def intsV (l : List Int) : List Value := l.map (Value.int .i64)
theorem intsV_eq (l : List Int) : l.flatMap encI = intsV l := by
  induction l with
  | nil => rfl
  | cons a l ih => rw [List.flatMap_cons, ih]; rfl
theorem intsV_length (l : List Int) : (intsV l).length = l.length := by simp [intsV]
theorem int_info : (Try.prog.info? 3).map (fun i => (i.zero, i.size, i.bytes)) = some (some (.int .i64 0), 1, 8) := by kernel_rfl

theorem own_rdi {w : World} {base : Nat} {A : Option Addr} {c : Nat} {o : List Int} (h : w.ownsRow base 3 1 (.slice A o.length c) o.length (intsV o)) : RdI w w.heap.size A o := by
  have := own_rd h
  unfold RdI
  rw [intsV_eq]
  exact this

end Go.Proofs.Ythhllollhjpheaa
