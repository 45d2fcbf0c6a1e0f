/-
  Base of this seat's proofs: from a walk that returns true and writes nothing that was there, to the given row. Nothing here speaks of one function.
  Small functions: burnishnum.Num and Is (an error as its number), png.within. Each as what it returns for every input.
  Blocks that are known whole, and what becomes of them.
  Opening arguments: what a value that came in reads as, cell by cell, for structs (nested ones too) and slices of whatever element. Nothing here speaks of one function.
  Slices of numbers: what a walk reads of them.
  Slices of a call's own that are appended to: the walk's step at append, whatever the source.
  Append where there is room, onto a block that is known whole: as a step of the walk.
  Slices of bytes: what a walk reads of them; errors as values.
  Tokens: their cells.
  burnishnum.Ints where both sides say the same; CopyInts and KeptInts.
  Canonical codes, plainly: a symbol is read the same by rows of codes of one length and by looking through all codes.
  Canonical codes of lengths, plainly: the order of the symbols, their codes.
  'or' and 'and' on ints that are not negative.
  Bits of bytes, the lowest first; numbers of bits; shifts.
-/
import Derived.Test.YtoppjcmkhhkbmaaGreatRows
import Derived.WalkKit
import Derived.ProofKit
import Derived.OpenShut
import Derived.ShutString
import Derived.ChangeOld
import Derived.Below
import Derived.WalkLawsBesides
import Derived.WalkSpells
import Derived.Deep.QuietTactic
import Derived.BigQuiet
import Derived.Outline
import Derived.Laws.OwnMore
import Derived.Deep.Draws
import Derived.Laws.Rows
import Derived.Deep.Slices
import Derived.Deep.Fields
import Derived.Deep.AppendLies
import Derived.ChangeSame
import Derived.Maps.AppendAt
import Derived.RegionTactic
import Derived.OwnWalk
import Derived.RangeFuncBox
import Derived.Laws.MakeOwn
import Derived.Laws.CopyOwn
import Derived.Laws.BitsLemmas
import Derived.IntWalk
namespace Go.Proofs.YtoppjcmkhhkbmaaGreat
open Go.ChangeShapes Go.WideShapes Go.ChangeAt Go.RowKit

theorem hid {p : Prop} (h : p) : Hid p := h

theorem ret_bool {a b : Bool} (h : a = b) : Ending.returned (.bool a) = Ending.returned (.bool b) := by rw [h]
theorem ret_int {k : IntKind} {a b : Int} (h : a = b) : Ending.returned (.int k a) = Ending.returned (.int k b) := by rw [h]

theorem own : ownKnob Tryz.prog.godebug = none := by kernel_rfl
theorem laidOut : laidOutB Tryz.prog = true := by kernel_rfl

/-- what came in reads behind the call as it read before, if nothing below the old heap's end has turned -/
theorem below_trodAll {H : Type} {enc : TypeId × Value → H} {P : Program} (hl : laidOutB P = true) {W W' : World} (hb : Below W.heap.size W W') :
    ∀ {ts : List TypeId} {vs : List Value} {ds : List (DataW H)} {ps : List MemPlace}, (∀ t ∈ ts, P.readableRec t = true ∧ t < P.types.size) →
      DataW.TrodAll enc P W 0 (fun _ => true) true ts vs ds ps → DataW.TrodAll enc P W' 0 (fun b => decide (b < W.heap.size)) true ts vs ds ps
  | [], [], [], _, _, h => h
  | t :: ts, _ :: _, _ :: _, _, ht, ⟨p, q, h1, hr, e⟩ => by
    have hlt : ∀ x ∈ p, x.block < W.heap.size := by obtain ⟨m, hm⟩ := h1; exact DataW.trod_lt m _ _ _ hm
    exact ⟨p, q, Below.trod hl (ht t (by simp)).1 (ht t (by simp)).2 h1 hb hlt, below_trodAll hl hb (fun u hu => ht u (by simp [hu])) hr, e⟩

/-- the row's step of a law: its walk is all that is asked -/
theorem law_lifted {a : Assume} {C : Checked} {os : Os} {f : FuncId} {fn : Func} {s : ChangeSpec} {H : Type} {enc : TypeId × Value → H} {tb : TypeId}
    (hown : ownKnob C.prog.godebug = none) (hlaid : laidOutB C.prog = true) (started : os.Started) (noInit : C.prog.inits.idxOf? f = none) (hfn : C.prog.funcs[f]? = some fn)
    (hvars : s.vars = []) (hres : fn.resultTypes = #[tb]) (htb : C.prog.underlying tb = some .bool)
    (hts : ∀ t ∈ fn.params.toList, C.prog.readableRec t = true ∧ t < C.prog.types.size)
    (hspec : ∀ ds : List (DataW H), ds.length = fn.params.size → (s.fn H ds).results = [.lit (.bool true)] ∧ (s.fn H ds).args = ds ∧ (s.fn H ds).vars = [])
    (witness : ∃ (w : World) (tape : Tape) (i : Input), w.os = os ∧ (w.forCall tape i).Shaped C.prog ∧ i.vars = [] ∧ Input.okWide C.prog (w.forCall tape i) .any w.heap.size f i ∧
      s.pre6 enc C.prog fn [] false (w.forCall tape i).memory i.args ∧ a.holds C.prog (lone (Frame.enter C.prog f i.args .normal) [] (w.forCall tape i)))
    (walk : ∀ (W : World) (base : Nat) (args : Array Value) (ds : List (DataW H)) (ps : List MemPlace),
      (∀ (j : Nat) t v, fn.params[j]? = some t → args[j]? = some v → Value.okWide C.prog W .any base t v) →
      DataW.TrodAll enc C.prog W 0 (fun _ => true) true fn.params.toList args.toList ds ps →
      Calls C.prog f args W fun e W' => e = .returned (.bool true) ∧ Below W.heap.size W W') :
    ReturnsInHanded a C os f .any (s.pre6 enc C.prog fn [] false) (s.post enc C.prog fn false true false false) := by
  refine returnsInHanded_of_change (C := C) hown started noInit hfn witness ?_
  intro W base args ds gs before hval hW _ _
  have hW' := hW
  obtain ⟨p, q, hA, hV, rfl, _, _⟩ := hW
  rw [hvars] at hV
  obtain ⟨rfl, rfl⟩ := trodVars_none hV
  refine (walk W base args ds p hval hA).mono fun e W' ⟨he, bel⟩ => ?_
  subst he
  have hlen : ds.length = fn.params.size := by
    have : ∀ {ts : List TypeId} {vs : List Value} {ds : List (DataW H)} {ps : List MemPlace}, DataW.TrodAll enc C.prog W 0 (fun _ => true) true ts vs ds ps → ds.length = ts.length := by
      intro ts
      induction ts with
      | nil =>
        intro vs ds ps h
        cases vs with
        | nil => cases ds with | nil => rfl | cons _ _ => exact h.elim
        | cons _ _ => exact h.elim
      | cons t ts ih =>
        intro vs ds ps h
        cases vs with
        | nil => exact h.elim
        | cons _ _ => cases ds with
          | nil => exact h.elim
          | cons _ _ => obtain ⟨_, _, _, hr, _⟩ := h; simp [ih hr]
    simpa using this hA
  obtain ⟨h1, h2, h3⟩ := hspec ds hlen
  refine ⟨_, rfl, ds, [], p ++ [], [], p, [], hW', ?_, ?_, ?_, bel.frame _, fun h => by cases h⟩
  · rw [List.append_nil, h1, hres]
    exact trodAll_mk1 (shut_bool htb _)
  · rw [List.append_nil, h2]
    exact below_trodAll hlaid bel hts hA
  · rw [List.append_nil, h3, hvars]
    rfl

end Go.Proofs.YtoppjcmkhhkbmaaGreat

namespace Go.Proofs.YtoppjcmkhhkbmaaGreat
open Go.RowKit
end Go.Proofs.YtoppjcmkhhkbmaaGreat

namespace Go.Proofs.YtoppjcmkhhkbmaaGreat
open Go.RowKit

/-- block g is just the cells cs, none frozen -/
def Blk (w : World) (g : Nat) (t : TypeId) (cs : Array Value) : Prop := w.heap[g]? = some (.cells cs t (0, 0))

section
variable {w w' : World} {g : Nat} {t : TypeId} {cs : Array Value}
theorem Blk.lt (h : Blk w g t cs) : g < w.heap.size := by
  rcases Nat.lt_or_ge g w.heap.size with hlt | hge
  · exact hlt
  · unfold Blk at h; rw [Array.getElem?_eq_none hge] at h; cases h
theorem Blk.cell (h : Blk w g t cs) (i : Nat) : w.cell? ⟨g, i, none⟩ = cs[i]? := cell_of_row w g i cs t (0, 0) h
theorem Blk.frozen (h : Blk w g t cs) (i : Nat) : w.frozen? ⟨g, i, none⟩ = false := by
  unfold Blk at h
  simp [World.frozen?, h]
theorem Blk.new (w : World) (t : TypeId) (cs : Array Value) : Blk (w.alloc (.cells cs t)) w.heap.size t cs := heap_alloc_new w _
theorem Blk.drew (h : Blk w g t cs) : Blk w.drew g t cs := h
theorem Blk.drewN (h : Blk w g t cs) (n : Nat) : Blk (w.drewN n) g t cs := h
theorem Blk.alloc (h : Blk w g t cs) (o : Obj) : Blk (w.alloc o) g t cs := (Below.heap_alloc w o g h.lt).trans h
theorem Blk.set_ (h : Blk w g t cs) (i : Nat) (u : Value) : Blk (w.setCell ⟨g, i, none⟩ u) g t (cs.setIfInBounds i u) := by
  unfold Blk at h ⊢
  simp [World.setCell, Array.getElem?_modify, h]
theorem Blk.far (h : Blk w g t cs) {p : Addr} (hp : g ≠ p.block) (u : Value) : Blk (w.setCell p u) g t cs := (Below.heap_setCell w p u g hp).trans h
theorem Blk.below {B : Nat} (h : Blk w g t cs) (hb : Below B w w') (hg : g < B) : Blk w' g t cs := (hb.block g hg).trans h
theorem Blk.grown {row : Option Nat} (h : Blk w g t cs) (hb : w.grownBy w' row) (hg : some g ≠ row) : Blk w' g t cs := (hb.block g h.lt hg).trans h
end

/-- a row of numbers, as its block holds them -/
def intRow (n : Nat) (f : Nat → Int) : Array Value := ((List.range n).map fun k => Value.int .i64 (f k)).toArray
theorem intRow_at (n : Nat) (f : Nat → Int) (k : Nat) (h : k < n) : (intRow n f)[k]? = some (.int .i64 (f k)) := by
  simp [intRow, h]

theorem below_drewN {B : Nat} {a w : World} (h : Below B a w) (n : Nat) : Below B a (w.drewN n) := ⟨h.os, h.tape, h.output, h.size, h.block⟩
end Go.Proofs.YtoppjcmkhhkbmaaGreat

namespace Go.Proofs.YtoppjcmkhhkbmaaGreat
open Go.ChangeShapes Go.WideShapes Go.ChangeAt Go.RowKit Go.Deep
section
variable {H : Type} {enc : TypeId × Value → H} {P : Program} {w : World} {base : Nat} {spare : Nat → Bool} {held : Bool}
theorem leaf_int {k : IntKind} {u : TypeId} {m : Nat} {v : Value} {y : DataW H × List MemPlace} (hu : P.underlying u = some (.int k)) (h : DataW.trod enc P w base spare held m u [v] = some y) :
    ∃ n, v = .int k n ∧ (Lit.int k n).wf = true := by
  obtain ⟨n, h1, _, h2⟩ := DataW.trod_int hu h
  simp at h1
  exact ⟨n, h1, h2⟩
end

/-- in world w the slice value '.slice A n c' of elements of 'size' cells holds the cells xs, in a block below B; nil and empty slices too -/
def Rd (w : World) (B size : Nat) (A : Option Addr) (n : Nat) (xs : List Value) : Prop :=
  xs.length = n * size ∧ (0 < xs.length → ∃ b off, A = some ⟨b, off, none⟩ ∧ b < B ∧ ∀ j u, xs[j]? = some u → w.cell? ⟨b, off + j, none⟩ = some u)

section
variable {w w' : World} {B B' size n : Nat} {A : Option Addr} {xs : List Value}
theorem Rd.nil : Rd w B size A 0 [] := ⟨by simp, fun h => absurd h (by simp)⟩
theorem Rd.at_ {k : Nat} (h : Rd w B size A n xs) (hk : k < n) (hs : 0 < size) : ∃ b off, A = some ⟨b, off, none⟩ ∧ b < B ∧ ∀ j u, xs[j]? = some u → w.cell? ⟨b, off + j, none⟩ = some u :=
  h.2 (by rw [h.1]; exact Nat.mul_pos (by omega) hs)
theorem Rd.keep (h : Rd w B size A n xs) (hk : ∀ b o, b < B → w'.cell? ⟨b, o, none⟩ = w.cell? ⟨b, o, none⟩) : Rd w' B size A n xs :=
  ⟨h.1, fun hn => by
    obtain ⟨b, off, e, hb, hc⟩ := h.2 hn
    exact ⟨b, off, e, hb, fun j u hu => (hk b _ hb).trans (hc j u hu)⟩⟩
theorem Rd.more (h : Rd w B size A n xs) (hB : B ≤ B') : Rd w B' size A n xs :=
  ⟨h.1, fun hn => by
    obtain ⟨b, off, e, hb, hc⟩ := h.2 hn
    exact ⟨b, off, e, by omega, hc⟩⟩
theorem Rd.below {C : Nat} (h : Rd w B size A n xs) (hb : Below C w w') (hC : B ≤ C) : Rd w' B size A n xs := h.keep fun b o hp => hb.cell (p := ⟨b, o, none⟩) (by show b < C; omega)
theorem Rd.drew (h : Rd w B size A n xs) : Rd w.drew B size A n xs := h
theorem Rd.drewN (h : Rd w B size A n xs) (k : Nat) : Rd (w.drewN k) B size A n xs := h
theorem Rd.alloc (h : Rd w B size A n xs) (hB : B ≤ w.heap.size) (o : Obj) : Rd (w.alloc o) B size A n xs := h.keep fun b i hp => World.cell?_alloc_lt w o ⟨b, i, none⟩ (by show b < w.heap.size; omega)
theorem Rd.setCell (h : Rd w B size A n xs) {p : Addr} (hB : B ≤ p.block) (u : Value) : Rd (w.setCell p u) B size A n xs :=
  h.keep fun b i hp => World.cell?_setCell_other w p ⟨b, i, none⟩ u (fun e => by subst e; exact absurd hB (by show ¬ B ≤ b; omega))
end

/-- an element's cell, in a list of elements of one size -/
theorem flat_at {α : Type} (f : α → List Value) (size : Nat) : ∀ (l : List α), (∀ a ∈ l, (f a).length = size) → ∀ (i j : Nat) (a : α), l[i]? = some a → j < size → (l.flatMap f)[i * size + j]? = (f a)[j]?
  | [], _, i, j, a, h, _ => by simp at h
  | x :: r, hl, i, j, a, h, hj => by
    have hx := hl x (by simp)
    cases i with
    | zero =>
      simp at h; subst h
      rw [List.flatMap_cons, Nat.zero_mul, Nat.zero_add, List.getElem?_append_left (by omega)]
    | succ i =>
      rw [List.flatMap_cons, List.getElem?_append_right (by rw [hx, Nat.succ_mul]; omega)]
      have : (i + 1) * size + j - (f x).length = i * size + j := by rw [hx, Nat.succ_mul]; omega
      rw [this]
      exact flat_at f size r (fun a ha => hl a (by simp [ha])) i j a (by simpa using h) hj
theorem flat_length {α : Type} (f : α → List Value) (size : Nat) : ∀ (l : List α), (∀ a ∈ l, (f a).length = size) → (l.flatMap f).length = l.length * size
  | [], _ => by simp
  | x :: r, hl => by
    rw [List.flatMap_cons, List.length_append, hl x (by simp), flat_length f size r (fun a ha => hl a (by simp [ha])), List.length_cons, Nat.succ_mul]; omega

theorem list_of_ex {α : Type} (Q : Nat → α → Prop) : ∀ (n : Nat), (∀ i, i < n → ∃ a, Q i a) → ∃ l : List α, l.length = n ∧ ∀ i a, l[i]? = some a → Q i a
  | 0, _ => ⟨[], rfl, by simp⟩
  | n + 1, h => by
    obtain ⟨l, hl, hq⟩ := list_of_ex Q n (fun i hi => h i (by omega))
    obtain ⟨a, ha⟩ := h n (by omega)
    refine ⟨l ++ [a], by simp [hl], fun i b hb => ?_⟩
    by_cases hi : i < l.length
    · rw [List.getElem?_append_left hi] at hb
      exact hq i b hb
    · rw [List.getElem?_append_right (by omega)] at hb
      have h1 : i - l.length = 0 := by
        rcases Nat.eq_zero_or_pos (i - l.length) with h0 | h0
        · exact h0
        · rw [List.getElem?_eq_none (by simp; omega)] at hb; cases hb
      rw [h1] at hb
      simp at hb
      subst hb
      have : i = n := by omega
      subst this
      exact ha

section
variable {H : Type} {enc : TypeId × Value → H} {P : Program} {w : World} {base : Nat} {spare : Nat → Bool} {held : Bool}

/-- a slice: its elements' cells, each element as the lemma for its type says -/
theorem open_slice_of {α : Type} (encA : α → List Value) (ok : α → Prop) (size : Nat) (hsize : 0 < size) {t e : TypeId} {fuel : Nat} {v : Value} {x : DataW H × List MemPlace} (ht : P.underlying t = some (.slice e)) (hC : P.cellsOf e = size)
    (hel : ∀ (n : Nat) (cs : List Value) (y : DataW H × List MemPlace), cs.length = size → DataW.trod enc P w base spare held n e cs = some y → ∃ a : α, cs = encA a ∧ ok a)
    (hsz : ∀ a, (encA a).length = size)
    (h : DataW.trod enc P w base spare held fuel t [v] = some x) :
    ∃ (A : Option Addr) (c : Nat) (l : List α), v = .slice A l.length c ∧ l.length ≤ c ∧ c ≤ maxLen ∧ (∀ a ∈ l, ok a) ∧ Rd w w.heap.size size A l.length (l.flatMap encA) := by
  rcases open_slice ht h with ⟨hc, _⟩ | ⟨a, len, cap, m, n, D, Pl, hc, hb, hl, hm, hmm, hx, hi⟩
  · simp at hc
    exact ⟨none, 0, [], hc, by simp, by simp [maxLen], by simp, Rd.nil⟩
  · simp at hc
    have hlm : len ≤ m := by rw [hmm]; split <;> omega
    obtain ⟨l, hll, hlq⟩ := list_of_ex (fun i b => ok b ∧ ∀ j, j < size → w.cell? (a.add (i * size + j)) = (encA b)[j]?) len (fun i him => by
      obtain ⟨cs', hcs, ht'⟩ := hi i (by omega)
      rw [hC] at hcs
      obtain ⟨_, hcl, hat⟩ := World.cells?_some hcs
      obtain ⟨b, hb1, hb2⟩ := hel n cs' _ hcl ht'
      exact ⟨b, hb2, fun j hj => by rw [← hb1, ← hat j hj, Go.Deep.add_add]⟩)
    subst hll
    refine ⟨some a, cap, l, hc, hl, hm, fun b hbm => ?_, flat_length encA size l (fun a _ => hsz a), fun hpos => ?_⟩
    · obtain ⟨i, hil, hib⟩ := List.getElem_of_mem hbm
      exact (hlq i b (by rw [List.getElem?_eq_getElem hil, hib])).1
    · have cell : ∀ j u, (l.flatMap encA)[j]? = some u → w.cell? (a.add j) = some u := by
        intro j u hu
        have hjl : j < l.length * size := by
          rw [← flat_length encA size l (fun a _ => hsz a)]
          exact (List.getElem?_eq_some_iff.1 hu).1
        have hd : j / size < l.length := (Nat.div_lt_iff_lt_mul hsize).2 hjl
        have hr : j % size < size := Nat.mod_lt _ hsize
        have hj : j = (j / size) * size + j % size := by have := Nat.div_add_mod j size; rw [Nat.mul_comm] at this; omega
        have hel' : l[j / size]? = some l[j / size] := List.getElem?_eq_getElem hd
        have h1 := (hlq _ _ hel').2 _ hr
        have h2 := flat_at encA size l (fun a _ => hsz a) (j / size) (j % size) _ hel' hr
        rw [← hj] at h1 h2
        rw [h1, ← h2, hu]
      have hl0 : 0 < (l.flatMap encA).length := hpos
      have h0 := cell 0 _ (List.getElem?_eq_getElem hl0)
      obtain ⟨b, off, spot⟩ := a
      have hspot : spot = none := by simpa [Addr.add] using World.cell?_spot h0
      subst hspot
      refine ⟨b, off, rfl, ?_, fun j u hu => ?_⟩
      · have h0' : w.cell? ⟨b, off, none⟩ = some (l.flatMap encA)[0] := by simpa [Addr.add] using h0
        rcases Nat.lt_or_ge b w.heap.size with hlt | hge
        · exact hlt
        · simp [World.cell?, Array.getElem?_eq_none hge] at h0'
      · have := cell j u hu
        unfold Addr.add at this
        split at this
        · rename_i hj; subst hj; simpa using this
        · simpa using this
end

end Go.Proofs.YtoppjcmkhhkbmaaGreat

namespace Go.Proofs.YtoppjcmkhhkbmaaGreat
open Go.RowKit

def encI (n : Int) : List Value := [.int .i64 n]
/-- the slice '.slice A l.length c' reads as the numbers l -/
def RdI (w : World) (B : Nat) (A : Option Addr) (l : List Int) : Prop := Rd w B 1 A l.length (l.flatMap encI)

theorem int_at {w : World} {B : Nat} {A : Option Addr} {l : List Int} (h : RdI w B A l) {j : Nat} (hj : j < l.length) :
    ∃ b off, A = some ⟨b, off, none⟩ ∧ b < B ∧ w.cell? ⟨b, off + j, none⟩ = some (.int .i64 l[j]) := by
  obtain ⟨b, off, hA, hb, hc⟩ := Rd.at_ h hj (by omega)
  exact ⟨b, off, hA, hb, by have := hc (j * 1 + 0) _ (flat_at encI 1 l (fun _ _ => rfl) j 0 l[j] (List.getElem?_eq_getElem hj) (by omega)); simpa using this⟩

theorem RdI.nil {w : World} {B : Nat} {A : Option Addr} : RdI w B A [] := Rd.nil
theorem RdI.more {w : World} {B B' : Nat} {A : Option Addr} {l : List Int} (h : RdI w B A l) (hB : B ≤ B') : RdI w B' A l := Rd.more h hB
theorem RdI.below {w w' : World} {B C : Nat} {A : Option Addr} {l : List Int} (h : RdI w B A l) (hb : Below C w w') (hC : B ≤ C) : RdI w' B A l := Rd.below h hb hC
theorem RdI.alloc {w : World} {B : Nat} {A : Option Addr} {l : List Int} (h : RdI w B A l) (hB : B ≤ w.heap.size) (o : Obj) : RdI (w.alloc o) B A l := Rd.alloc h hB o
theorem RdI.drewN {w : World} {B : Nat} {A : Option Addr} {l : List Int} (h : RdI w B A l) (k : Nat) : RdI (w.drewN k) B A l := h
theorem RdI.setCell {w : World} {B : Nat} {A : Option Addr} {l : List Int} (h : RdI w B A l) {p : Addr} (hB : B ≤ p.block) (u : Value) : RdI (w.setCell p u) B A l := Rd.setCell h hB u
/-- a block whose first cells are the numbers -/
theorem RdI.of_cells {w : World} {B b : Nat} {l : List Int} (hb : b < B) (h : ∀ j, (hj : j < l.length) → w.cell? ⟨b, j, none⟩ = some (.int .i64 l[j])) : RdI w B (some ⟨b, 0, none⟩) l := by
  have hl := flat_length encI 1 l (fun _ _ => rfl)
  refine ⟨hl, fun _ => ⟨b, 0, rfl, hb, fun j u hu => ?_⟩⟩
  have hj : j < l.length := by have := (List.getElem?_eq_some_iff.1 hu).1; omega
  have := flat_at encI 1 l (fun _ _ => rfl) j 0 l[j] (List.getElem?_eq_getElem hj) (by omega)
  simp at this
  rw [this] at hu
  simp [encI] at hu
  subst hu
  simpa using h j hj
theorem RdI.new {w : World} {t : TypeId} {l : List Int} {cs : Array Value} (e : cs = (l.map (Value.int .i64)).toArray) : RdI (w.alloc (.cells cs t)) (w.heap.size + 1) (some ⟨w.heap.size, 0, none⟩) l := by
  refine RdI.of_cells (by omega) fun j hj => ?_
  rw [(Blk.new w t cs).cell j, e]
  simp [hj]

end Go.Proofs.YtoppjcmkhhkbmaaGreat

namespace Go.Proofs.YtoppjcmkhhkbmaaGreat
open Go.RowKit

section
variable {w w' : World} {base : Nat} {e : TypeId} {size n : Nat} {v : Value} {xs : List Value}
theorem own_form (h : w.ownsRow base e size v n xs) : ∃ A c, v = .slice A n c ∧ n ≤ c := by
  rcases h.2 with ⟨rfl, rfl⟩ | ⟨g, cap, cur, rfl, _, _, hnc, _⟩
  · exact ⟨none, 0, rfl, Nat.le_refl _⟩
  · exact ⟨_, cap, rfl, hnc⟩
/-- what an owned row reads as -/
theorem own_rd {A : Option Addr} {c : Nat} (h : w.ownsRow base e size (.slice A n c) n xs) : Rd w w.heap.size size A n xs := by
  refine ⟨h.1, fun hp => ?_⟩
  have hn : 0 < n := by
    rcases Nat.eq_zero_or_pos n with h0 | h0
    · have := h.1; rw [h0, Nat.zero_mul] at this; omega
    · exact h0
  rcases h.2 with ⟨_, h0⟩ | ⟨g, cap, cur, hv, _, hh, hnc, _, hcur, htake⟩
  · omega
  · injection hv with hA _ _
    subst hA
    refine ⟨g, 0, rfl, (Array.getElem?_eq_some_iff.1 hh).1, fun j u hu => ?_⟩
    rw [Nat.zero_add, h.cellAt j (by have := h.1; have := (List.getElem?_eq_some_iff.1 hu).1; omega)]
    exact hu
theorem own_block {A : Option Addr} {c : Nat} (h : w.ownsRow base e size (.slice A n c) n xs) (hn : 0 < n) : ∃ g, A = some ⟨g, 0, none⟩ ∧ base ≤ g ∧ g < w.heap.size := by
  rcases h.2 with ⟨_, h0⟩ | ⟨g, cap, cur, hv, hb, hh, _⟩
  · omega
  · injection hv with hA _ _
    exact ⟨g, hA, hb, (Array.getElem?_eq_some_iff.1 hh).1⟩
theorem own_below {C : Nat} (h : w.ownsRow base e size v n xs) (hb : Below C w w') (hC : w.heap.size ≤ C) : w'.ownsRow base e size v n xs := by
  refine ⟨h.1, ?_⟩
  rcases h.2 with hn | ⟨g, cap, cur, rfl, hg, hgg, rest⟩
  · exact .inl hn
  · refine .inr ⟨g, cap, cur, rfl, hg, ?_, rest⟩
    rw [hb.block g (by have := (Array.getElem?_eq_some_iff.1 hgg).1; omega)]
    exact hgg
theorem own_blk_ne {g : Nat} {t : TypeId} {cs : Array Value} (h : w.ownsRow base e size v n xs) (hg : Blk w g t cs) (hne : e ≠ t) : some g ≠ v.ownBlock := by
  rcases h.2 with ⟨rfl, _⟩ | ⟨g', cap, cur, rfl, _, hh, _⟩
  · simp [Value.ownBlock]
  · intro he
    have : g = g' := by simpa [Value.ownBlock] using he
    subst this
    unfold Blk at hg
    rw [hg] at hh
    injection hh with hh
    injection hh with _ ht
    exact hne ht.symm
theorem own_cell {A : Option Addr} {c j : Nat} (h : w.ownsRow base e 1 (.slice A n c) n xs) (hj : j < n) : ∃ g u, A = some ⟨g, 0, none⟩ ∧ base ≤ g ∧ g < w.heap.size ∧ xs[j]? = some u ∧ w.cell? ⟨g, j, none⟩ = some u := by
  obtain ⟨g, rfl, h1, h2⟩ := own_block h (by omega)
  have hl : j < xs.length := by have := h.1; omega
  exact ⟨g, xs[j], rfl, h1, h2, List.getElem?_eq_getElem hl, by rw [h.cellAt j (by omega)]; exact List.getElem?_eq_getElem hl⟩
theorem own_drewN (h : w.ownsRow base e size v n xs) (k : Nat) : (w.drewN k).ownsRow base e size v n xs := h
end

section
variable {P : Program} (w : World)

theorem run_append_of_nil (base : Nat) (t ty e : TypeId) (i : TypeInfo) (size : Nat) (ht : P.underlying t = some (.slice e)) (hi : P.info? e = some i)
    (v : Value) (n : Nat) (xs : List Value) (hown : w.ownsRow base e size v n xs) (c : Nat) : (Builtin.append_ #[t, t] ty #[v, .slice none 0 c]).run P w = .ok v w := by
  rcases hown.2 with ⟨rfl, rfl⟩ | ⟨g, cap, cur, rfl, _, _, hnc, _⟩
  · simp [Builtin.append_, run_underlying ht, sizeOf, typeInfo, hi, Builtin.lenOf, Builtin.firstCells]
  · simp [Builtin.append_, run_underlying ht, sizeOf, typeInfo, hi, Builtin.lenOf, Builtin.firstCells, hnc, storeCells]

theorem run_append_any (base : Nat) (t ty e : TypeId) (i : TypeInfo) (z : Value) (size bytes : Nat) (ht : P.underlying t = some (.slice e)) (hi : P.info? e = some i) (hz : i.zero = some z)
    (hsize : i.size = size) (hby : i.bytes = bytes) (hzs : z.cells.size = size) (hsz : 0 < size)
    (v : Value) (n : Nat) (xs : List Value) (hown : w.ownsRow base e size v n xs)
    (B : Nat) (A : Option Addr) (m c : Nat) (news : List Value) (hr : Rd w B size A m news) (hnil : A = none → m = 0) (h1 : ∀ u ∈ news, u.oneCell' = true)
    (h63 : n + m ≤ maxLen) (hbytes : (n + m) * bytes ≤ 140737488355328) (hbase : base ≤ w.heap.size) :
    ∃ v' w', (Builtin.append_ #[t, t] ty #[v, .slice A m c]).run P w = .ok v' w' ∧ w'.ownsRow base e size v' (n + m) (xs ++ news) ∧ w.grownBy w' v.ownBlock ∧
      (v'.ownBlock = v.ownBlock ∨ v'.ownBlock = some w.heap.size) := by
  rcases A with _ | ad
  · obtain rfl := hnil rfl
    have hn : news = [] := List.eq_nil_of_length_eq_zero (by simpa using hr.1)
    subst hn
    exact ⟨v, w, run_append_of_nil w base t ty e i size ht hi v n xs hown c, by simpa using hown, World.grownBy.refl w _, .inl rfl⟩
  · have hcells : ∀ j u, news[j]? = some u → w.cell? (ad.add j) = some u := by
      intro j u hu
      obtain ⟨b, off, h, _, hc⟩ := hr.2 (by have := (List.getElem?_eq_some_iff.1 hu).1; omega)
      injection h with h
      subst h
      have := hc j u hu
      unfold Addr.add
      split
      · rename_i hj; subst hj; simpa using this
      · exact this
    obtain ⟨v', w', hrun, h2, h3, _, h5⟩ := run_append_own_at (P := P) w base t ty e i z size bytes ht hi hz hsize hby hzs hsz v n xs hown ad m c news hr.1 hcells h1 h63 hbytes hbase
    exact ⟨v', w', hrun, h2, h3, h5⟩

/-- what is known behind an append -/
def Apped (w : World) (base : Nat) (e : TypeId) (size : Nat) (A : Option Addr) (n c : Nat) (xs : List Value) (m : Nat) (news : List Value) (A' : Option Addr) (c' : Nat) (w' : World) : Prop :=
  w'.ownsRow base e size (.slice A' (n + m) c') (n + m) (xs ++ news) ∧ w.grownBy w' (Value.slice A n c).ownBlock ∧ Below base w w' ∧
    ((Value.slice A' (n + m) c').ownBlock = (Value.slice A n c).ownBlock ∨ (Value.slice A' (n + m) c').ownBlock = some w.heap.size)

theorem wp_app {o : Oper} {a : Act} {K : Act → World → Prop} {Q : Exit → Act → World → Prop} (s x : Operand) (t : TypeId)
    (ho : o.op = .call { callee := .builtin .append, args := #[s, x], argTypes := #[t, t] })
    (base : Nat) (e : TypeId) (i : TypeInfo) (z : Value) (size bytes : Nat) (ht : P.underlying t = some (.slice e)) (hi : P.info? e = some i) (hz : i.zero = some z)
    (hsize : i.size = size) (hby : i.bytes = bytes) (hzs : z.cells.size = size) (hsz : 0 < size)
    (A : Option Addr) (n c : Nat) (xs : List Value) (hs : a.eval s = .slice A n c) (hown : w.ownsRow base e size (.slice A n c) n xs)
    (B : Nat) (X : Option Addr) (m d : Nat) (news : List Value) (hx : a.eval x = .slice X m d) (hr : Rd w B size X m news) (hnil : X = none → m = 0) (h1 : ∀ u ∈ news, u.oneCell' = true)
    (h63 : n + m ≤ maxLen) (hbytes : (n + m) * bytes ≤ 140737488355328) (hbase : base ≤ w.heap.size)
    (h : ∀ A' c' w', Apped w base e size A n c xs m news A' c' w' → K (a.put o.dst (.slice A' (n + m) c')) w') : o.wp P a w K Q := by
  obtain ⟨v', w', hrun, h2, h3, h4⟩ := run_append_any (P := P) w base t o.type e i z size bytes ht hi hz hsize hby hzs hsz _ n xs hown B X m d news hr hnil h1 h63 hbytes hbase
  obtain ⟨A', c', rfl, _⟩ := own_form h2
  have hb : Below base w w' := (Below.refl base w).grown h3 hbase (fun k hk => (hown.lt k hk).1)
  unfold Oper.wp execOp
  simp only [ho, resolve, invoke, builtin, Sem.run_bind, Sem.run_pure, Result.andThen_ok, List.map_toArray, List.map_cons, List.map_nil, hs, hx, hrun]
  exact h A' c' w' ⟨h2, h3, hb, h4⟩

theorem wpList_app {ops : Array Oper} {rest : List Oper} {o : Oper} {a : Act} {Q : Exit → Act → World → Prop} (hgd : o.guard = none) (s x : Operand) (t : TypeId)
    (ho : o.op = .call { callee := .builtin .append, args := #[s, x], argTypes := #[t, t] })
    (base : Nat) (e : TypeId) (i : TypeInfo) (z : Value) (size bytes : Nat) (ht : P.underlying t = some (.slice e)) (hi : P.info? e = some i) (hz : i.zero = some z)
    (hsize : i.size = size) (hby : i.bytes = bytes) (hzs : z.cells.size = size) (hsz : 0 < size)
    (A : Option Addr) (n c : Nat) (xs : List Value) (hs : a.eval s = .slice A n c) (hown : w.ownsRow base e size (.slice A n c) n xs)
    (B : Nat) (X : Option Addr) (m d : Nat) (news : List Value) (hx : a.eval x = .slice X m d) (hr : Rd w B size X m news) (hnil : X = none → m = 0) (h1 : ∀ u ∈ news, u.oneCell' = true)
    (h63 : n + m ≤ maxLen) (hbytes : (n + m) * bytes ≤ 140737488355328) (hbase : base ≤ w.heap.size)
    (h : ∀ A' c' w', Apped w base e size A n c xs m news A' c' w' → wpList P ops Q rest (a.put o.dst (.slice A' (n + m) c')) w') : wpList P ops Q (o :: rest) a w :=
  wpList_plain hgd fun _ hK => wp_app w s x t ho base e i z size bytes ht hi hz hsize hby hzs hsz A n c xs hs hown B X m d news hx hr hnil h1 h63 hbytes hbase fun A' c' w' h2 => hK _ _ (h A' c' w' h2)

theorem step_app {ops : Array Oper} {o : Oper} {a : Act} {K : Act → World → Prop} {Q : Exit → Act → World → Prop} {E : Prop} (hgd : o.guard = none) (s x : Operand) (t : TypeId)
    (ho : o.op = .call { callee := .builtin .append, args := #[s, x], argTypes := #[t, t] })
    (base : Nat) (e : TypeId) (i : TypeInfo) (z : Value) (size bytes : Nat) (ht : P.underlying t = some (.slice e)) (hi : P.info? e = some i) (hz : i.zero = some z)
    (hsize : i.size = size) (hby : i.bytes = bytes) (hzs : z.cells.size = size) (hsz : 0 < size)
    (A : Option Addr) (n c : Nat) (xs : List Value) (hs : a.eval s = .slice A n c) (hown : w.ownsRow base e size (.slice A n c) n xs)
    (B : Nat) (X : Option Addr) (m d : Nat) (news : List Value) (hx : a.eval x = .slice X m d) (hr : Rd w B size X m news) (hnil : X = none → m = 0) (h1 : ∀ u ∈ news, u.oneCell' = true)
    (h63 : n + m ≤ maxLen) (hbytes : (n + m) * bytes ≤ 140737488355328) (hbase : base ≤ w.heap.size)
    (h : ∀ A' c' w', Apped w base e size A n c xs m news A' c' w' → K (a.put o.dst (.slice A' (n + m) c')) w') :
    if Region.wanted o (yielded ops a.tmps) = true then Oper.wp P o a w K Q else E := by
  have hw : Region.wanted o (yielded ops a.tmps) = true := by simp [Region.wanted, hgd]
  rw [if_pos hw]
  exact wp_app w s x t ho base e i z size bytes ht hi hz hsize hby hzs hsz A n c xs hs hown B X m d news hx hr hnil h1 h63 hbytes hbase h

/-- one new element, of one or more cells, out of a block just made -/
theorem rd_one (g : Nat) (t : TypeId) (cs : List Value) (hg : Blk w g t cs.toArray) : Rd w w.heap.size cs.length (some ⟨g, 0, none⟩) 1 cs := by
  refine ⟨by simp, fun _ => ⟨g, 0, rfl, hg.lt, fun j u hu => ?_⟩⟩
  rw [hg.cell (0 + j)]
  simpa using hu
end

end Go.Proofs.YtoppjcmkhhkbmaaGreat

namespace Go.Proofs.YtoppjcmkhhkbmaaGreat
open Go.RowKit

section
variable {P : Program} (w : World)

/-- what is known behind an append into spare room -/
def Roomed (w : World) (g : Nat) (e : TypeId) (n : Nat) (cur : Array Value) (news : List Value) (w' : World) : Prop :=
  Blk w' g e (cur.toList.take n ++ news ++ cur.toList.drop (n + news.length)).toArray ∧ w.grownBy w' (some g) ∧ Below g w w'

theorem run_append_blk (t ty e : TypeId) (i : TypeInfo) (ht : P.underlying t = some (.slice e)) (hi : P.info? e = some i) (hsize : i.size = 1)
    (g n cap : Nat) (cur : Array Value) (hg : Blk w g e cur) (hcur : cur.size = cap)
    (B : Nat) (X : Option Addr) (m d : Nat) (news : List Value) (hr : Rd w B 1 X m news) (hnil : X = none → m = 0) (h1 : ∀ u ∈ news, u.oneCell' = true) (hroom : n + m ≤ cap) :
    ∃ w', (Builtin.append_ #[t, t] ty #[.slice (some ⟨g, 0, none⟩) n cap, .slice X m d]).run P w = .ok (.slice (some ⟨g, 0, none⟩) (n + m) cap) w' ∧ Roomed w g e n cur news w' := by
  have hl : news.length = m := by simpa using hr.1
  rcases X with _ | ad
  · obtain rfl := hnil rfl
    obtain rfl := List.eq_nil_of_length_eq_zero hl
    refine ⟨w, ?_, ?_, World.grownBy.refl w _, Below.refl _ _⟩
    · simp [Builtin.append_, run_underlying ht, sizeOf, typeInfo, hi, Builtin.lenOf, Builtin.firstCells, (show n ≤ cap by omega), storeCells]
    · simpa using hg
  · have hcells : ∀ j u, news[j]? = some u → w.cell? (ad.add j) = some u := by
      intro j u hu
      obtain ⟨b, off, h, _, hc⟩ := hr.2 (by have := (List.getElem?_eq_some_iff.1 hu).1; omega)
      injection h with h
      subst h
      have := hc j u hu
      unfold Addr.add
      split
      · rename_i hj; subst hj; simpa using this
      · exact this
    have hrun := run_append_room (P := P) w t ty e i ht hi g n cap cur hg ad m d news (by rw [hsize]; omega) hcells h1 hroom (by rw [hsize]; omega)
    rw [hsize] at hrun
    simp only [Nat.mul_one] at hrun
    refine ⟨_, hrun, ?_, ⟨rfl, rfl, rfl, by simp, fun k _ hk => setRow_other w g k _ (fun e => hk (by rw [e]))⟩, below_setRow (Below.refl _ _) (Nat.le_refl _) _⟩
    exact setRow_heap w g cur _ e (0, 0) hg

theorem wp_room {o : Oper} {a : Act} {K : Act → World → Prop} {Q : Exit → Act → World → Prop} (s x : Operand) (t : TypeId)
    (ho : o.op = .call { callee := .builtin .append, args := #[s, x], argTypes := #[t, t] }) (e : TypeId) (i : TypeInfo) (ht : P.underlying t = some (.slice e)) (hi : P.info? e = some i) (hsize : i.size = 1)
    (g n cap : Nat) (cur : Array Value) (hs : a.eval s = .slice (some ⟨g, 0, none⟩) n cap) (hg : Blk w g e cur) (hcur : cur.size = cap)
    (B : Nat) (X : Option Addr) (m d : Nat) (news : List Value) (hx : a.eval x = .slice X m d) (hr : Rd w B 1 X m news) (hnil : X = none → m = 0) (h1 : ∀ u ∈ news, u.oneCell' = true) (hroom : n + m ≤ cap)
    (h : ∀ w', Roomed w g e n cur news w' → K (a.put o.dst (.slice (some ⟨g, 0, none⟩) (n + m) cap)) w') : o.wp P a w K Q := by
  obtain ⟨w', hrun, h2⟩ := run_append_blk (P := P) w t o.type e i ht hi hsize g n cap cur hg hcur B X m d news hr hnil h1 hroom
  unfold Oper.wp execOp
  simp only [ho, resolve, invoke, builtin, Sem.run_bind, Sem.run_pure, Result.andThen_ok, List.map_toArray, List.map_cons, List.map_nil, hs, hx, hrun]
  exact h w' h2

theorem wpList_room {ops : Array Oper} {rest : List Oper} {o : Oper} {a : Act} {Q : Exit → Act → World → Prop} (hgd : o.guard = none) (s x : Operand) (t : TypeId)
    (ho : o.op = .call { callee := .builtin .append, args := #[s, x], argTypes := #[t, t] }) (e : TypeId) (i : TypeInfo) (ht : P.underlying t = some (.slice e)) (hi : P.info? e = some i) (hsize : i.size = 1)
    (g n cap : Nat) (cur : Array Value) (hs : a.eval s = .slice (some ⟨g, 0, none⟩) n cap) (hg : Blk w g e cur) (hcur : cur.size = cap)
    (B : Nat) (X : Option Addr) (m d : Nat) (news : List Value) (hx : a.eval x = .slice X m d) (hr : Rd w B 1 X m news) (hnil : X = none → m = 0) (h1 : ∀ u ∈ news, u.oneCell' = true) (hroom : n + m ≤ cap)
    (h : ∀ w', Roomed w g e n cur news w' → wpList P ops Q rest (a.put o.dst (.slice (some ⟨g, 0, none⟩) (n + m) cap)) w') : wpList P ops Q (o :: rest) a w :=
  wpList_plain hgd fun _ hK => wp_room w s x t ho e i ht hi hsize g n cap cur hs hg hcur B X m d news hx hr hnil h1 hroom fun w' h2 => hK _ _ (h w' h2)
end

theorem own_base {w : World} {b b' : Nat} {e : TypeId} {size n : Nat} {v : Value} {xs : List Value} (h : w.ownsRow b' e size v n xs) (hb : b ≤ b') : w.ownsRow b e size v n xs := by
  refine ⟨h.1, ?_⟩
  rcases h.2 with hn | ⟨g, cap, cur, rfl, hg, rest⟩
  · exact .inl hn
  · exact .inr ⟨g, cap, cur, rfl, by omega, rest⟩
theorem Rd.grown {w w' : World} {B size n : Nat} {A : Option Addr} {xs : List Value} {row : Option Nat} (h : Rd w B size A n xs) (hg : w.grownBy w' row) (hB : B ≤ w.heap.size) (hr : ∀ g, row = some g → B ≤ g) : Rd w' B size A n xs :=
  h.keep fun b o hb => World.cell?_of_block (hg.block b (by omega) (fun e => by have := hr b e.symm; omega))
/-- cells made for a row, all the same -/
theorem made_list (v : Value) (n : Nat) (h : v.cells = #[v]) : madeCells v.cells (n * 1) = (List.replicate n v).toArray := by
  rw [h]
  apply Array.ext'
  apply List.ext_getElem
  · simp [madeCells]
  · intro i h1 h2
    simp [madeCells, Nat.mod_one]

theorem rd_two (w : World) (t : TypeId) (a b : Value) : Rd (w.alloc (.cells #[a, b] t)) (w.heap.size + 1) 1 (some ⟨w.heap.size, 0, none⟩) 2 [a, b] :=
  ⟨rfl, fun _ => ⟨w.heap.size, 0, rfl, Nat.lt_succ_self _, fun j u hu => by rw [(Blk.new w t #[a, b]).cell (0 + j), Nat.zero_add, ← hu, List.getElem?_toArray]⟩⟩
/-- a row that is made, filled, and filled to its end -/
theorem copied_blk {W w1 w2 : World} {e : TypeId} {Z Y : Obj} {n k : Nat} {z : Value} {xs ys : List Value} {cur : Array Value} (hx : xs.length = n) (hy : ys.length = k)
    (h1 : Roomed (W.alloc Z) W.heap.size e 0 (List.replicate (n + k) z).toArray xs w1)
    (hcur : cur = (List.take 0 (List.replicate (n + k) z) ++ xs ++ List.drop (0 + xs.length) (List.replicate (n + k) z)).toArray)
    (h2 : Roomed (w1.alloc Y) W.heap.size e n cur ys w2) : Blk w2 W.heap.size e (xs ++ ys).toArray ∧ Below W.heap.size W w2 := by
  refine ⟨?_, ?_⟩
  · have h := h2.1
    rw [hcur] at h
    have e1 : List.drop (n + ys.length) (xs ++ List.drop xs.length (List.replicate (n + k) z)) = [] := List.drop_eq_nil_of_le (by simp; omega)
    have e2 : List.take n (xs ++ List.drop xs.length (List.replicate (n + k) z)) = xs := by rw [← hx]; simp
    simp only [List.take_zero, List.nil_append, Nat.zero_add, e1, e2, List.append_nil] at h
    exact h
  · have b1 : Below W.heap.size W w1 := ((Below.refl _ _).alloc (Nat.le_refl _) _).trans h1.2.2
    exact (b1.alloc b1.size _).trans h2.2.2

end Go.Proofs.YtoppjcmkhhkbmaaGreat

namespace Go.Proofs.YtoppjcmkhhkbmaaGreat
open Go.RowKit

def isB (n : Int) : Prop := 0 ≤ n ∧ n ≤ 255
/-- the bytes, as cells -/
def bytesV (l : List Int) : List Value := l.map (Value.int .u8)
theorem bytesV_append (l m : List Int) : bytesV l ++ bytesV m = bytesV (l ++ m) := by simp [bytesV]
theorem bytesV_length (l : List Int) : (bytesV l).length = l.length := by simp [bytesV]

/-- what a byte of a slice of bytes reads as -/
theorem byte_at {w : World} {B : Nat} {A : Option Addr} {l : List Int} (h : Rd w B 1 A l.length (bytesV l)) {j : Nat} (hj : j < l.length) :
    ∃ b off, A = some ⟨b, off, none⟩ ∧ b < B ∧ w.cell? ⟨b, off + j, none⟩ = some (.int .u8 (l.getD j 0)) := by
  obtain ⟨b, off, hA, hb, hc⟩ := Rd.at_ h hj (by omega)
  exact ⟨b, off, hA, hb, hc j _ (by simp [bytesV, List.getD, List.getElem?_eq_getElem hj])⟩

theorem rd_nil {w : World} {B size n : Nat} {A : Option Addr} {xs : List Value} (h : Rd w B size A n xs) (hs : 0 < size) (hA : A = none) : n = 0 := by
  rcases Nat.eq_zero_or_pos n with h0 | h0
  · exact h0
  · obtain ⟨b, off, hA', _⟩ := h.at_ (k := 0) h0 hs
    rw [hA] at hA'; cases hA'
theorem own_nil {w : World} {base : Nat} {e : TypeId} {size n c : Nat} {xs : List Value} (h : w.ownsRow base e size (.slice none n c) n xs) : c = 0 := by
  rcases h.2 with ⟨h1, _⟩ | ⟨g, cap, cur, h1, _⟩
  · injection h1
  · injection h1 with h1; cases h1
theorem bytesV_cells {l : List Int} : ∀ u ∈ bytesV l, u.oneCell' = true := by intro u hu; obtain ⟨x, _, rfl⟩ := List.mem_map.1 hu; rfl

end Go.Proofs.YtoppjcmkhhkbmaaGreat

namespace Go.Proofs.YtoppjcmkhhkbmaaGreat
open Go.RowKit

/-- a token's cells -/
def encTok (t : Int × Int) : List Value := [.int .i64 t.1, .int .i64 t.2]
def okTok (t : Int × Int) : Prop := (Lit.int .i64 t.1).wf = true ∧ (Lit.int .i64 t.2).wf = true

/-- what the walk reads of token j -/
theorem tok_at {w : World} {B : Nat} {A : Option Addr} {l : List (Int × Int)} (h : Rd w B 2 A l.length (l.flatMap encTok)) {j : Nat} (hj : j < l.length) :
    ∃ b off, A = some ⟨b, off, none⟩ ∧ b < B ∧ w.cell? ⟨b, off + j * 2, none⟩ = some (.int .i64 l[j].1) ∧ w.cell? ⟨b, off + j * 2 + 1, none⟩ = some (.int .i64 l[j].2) := by
  obtain ⟨b, off, hA, hb, hc⟩ := h.at_ hj (by omega)
  have hl : ∀ a ∈ l, (encTok a).length = 2 := fun _ _ => rfl
  have hjj : l[j]? = some l[j] := List.getElem?_eq_getElem hj
  exact ⟨b, off, hA, hb, by have := hc (j * 2 + 0) _ (flat_at encTok 2 l hl j 0 l[j] hjj (by omega)); simpa using this, by have := hc (j * 2 + 1) _ (flat_at encTok 2 l hl j 1 l[j] hjj (by omega)); rw [← Nat.add_assoc] at this; exact this⟩

end Go.Proofs.YtoppjcmkhhkbmaaGreat

namespace Go.Proofs.YtoppjcmkhhkbmaaGreat
open Go.RowKit

def intsV (l : List Int) : List Value := l.map (Value.int .i64)
theorem intsV_eq (l : List Int) : l.flatMap encI = intsV l := by
  induction l with
  | nil => rfl
  | cons a l ih => rw [List.flatMap_cons, ih]; rfl
theorem intsV_length (l : List Int) : (intsV l).length = l.length := by simp [intsV]
theorem int_info : (Tryz.prog.info? 3).map (fun i => (i.zero, i.size, i.bytes)) = some (some (.int .i64 0), 1, 8) := by kernel_rfl

theorem own_rdi {w : World} {base : Nat} {A : Option Addr} {c : Nat} {o : List Int} (h : w.ownsRow base 3 1 (.slice A o.length c) o.length (intsV o)) : RdI w w.heap.size A o := by
  have := own_rd h
  unfold RdI
  rw [intsV_eq]
  exact this

end Go.Proofs.YtoppjcmkhhkbmaaGreat

namespace Go.Proofs.YtoppjcmkhhkbmaaGreat.Cd

/-- how much of 65536 a code of a length takes -/
def pw (l : Nat) : Nat := 2 ^ (16 - l)
theorem pw_pos (l : Nat) : 0 < pw l := Nat.pow_pos (by omega)
theorem pw_dvd {l n : Nat} (h : l ≤ n) : pw n ∣ pw l := Nat.pow_dvd_pow 2 (by omega)
abbrev SL := List (Nat × Nat)
def tot (l : SL) : Nat := (l.map (fun x => pw x.2)).sum
theorem tot_nil : tot [] = 0 := rfl
theorem tot_cons (x : Nat × Nat) (l : SL) : tot (x :: l) = pw x.2 + tot l := by simp [tot]
theorem tot_append (l m : SL) : tot (l ++ m) = tot l + tot m := by simp [tot]
theorem tot_same {n : Nat} : ∀ {l : SL}, (∀ x ∈ l, x.2 = n) → tot l = l.length * pw n
  | [], _ => by simp [tot]
  | x :: l, h => by
    rw [tot_cons, tot_same (fun y hy => h y (by simp [hy])), h x (by simp), List.length_cons, Nat.succ_mul]
    omega
theorem tot_dvd {n : Nat} : ∀ {l : SL}, (∀ x ∈ l, x.2 ≤ n) → pw n ∣ tot l
  | [], _ => ⟨0, by simp [tot]⟩
  | x :: l, h => by
    rw [tot_cons]
    exact (Nat.dvd_add_right (pw_dvd (h x (by simp)))).2 (tot_dvd (fun y hy => h y (by simp [hy])))
/-- what the codes below a length take -/
def low (l : SL) (n : Nat) : Nat := tot (l.filter (fun x => decide (x.2 < n)))
def rowOf (l : SL) (n : Nat) : List Nat := (l.filter (fun x => decide (x.2 = n))).map (·.1)
/-- codes, the shorter ones first -/
structure Ok (l : SL) : Prop where
  len : ∀ x ∈ l, 1 ≤ x.2 ∧ x.2 ≤ 16
  sorted : l.Pairwise (fun x y => x.2 ≤ y.2)
  kraft : tot l ≤ 65536
theorem split3 (n : Nat) : ∀ {l : SL}, l.Pairwise (fun x y => x.2 ≤ y.2) → l = l.filter (fun x => decide (x.2 < n)) ++ (l.filter (fun x => decide (x.2 = n)) ++ l.filter (fun x => decide (n < x.2)))
  | [], _ => rfl
  | x :: l, h => by
    rw [List.pairwise_cons] at h
    have ih := split3 n h.2
    rcases Nat.lt_trichotomy x.2 n with hx | hx | hx
    · rw [List.filter_cons_of_pos (by simpa using hx), List.filter_cons_of_neg (by simp; omega), List.filter_cons_of_neg (by simp; omega), List.cons_append]
      exact congrArg (x :: ·) ih
    · have e1 : l.filter (fun x => decide (x.2 < n)) = [] := List.filter_eq_nil_iff.2 fun y hy => by have := h.1 y hy; simp; omega
      rw [e1] at ih
      rw [List.filter_cons_of_neg (by simp; omega), List.filter_cons_of_pos (by simpa using hx), List.filter_cons_of_neg (by simp; omega), e1, List.nil_append, List.cons_append]
      exact congrArg (x :: ·) ih
    · have e1 : l.filter (fun x => decide (x.2 < n)) = [] := List.filter_eq_nil_iff.2 fun y hy => by have := h.1 y hy; simp; omega
      have e2 : l.filter (fun x => decide (x.2 = n)) = [] := List.filter_eq_nil_iff.2 fun y hy => by have := h.1 y hy; simp; omega
      rw [e1, e2] at ih
      rw [List.filter_cons_of_neg (by simp; omega), List.filter_cons_of_neg (by simp; omega), List.filter_cons_of_pos (by simpa using hx), e1, e2]
      exact congrArg (x :: ·) ih
theorem low_succ (l : SL) (n : Nat) : low l (n + 1) = low l n + (rowOf l n).length * pw n := by
  unfold low rowOf
  induction l with
  | nil => simp [tot]
  | cons x l ih =>
    rcases Nat.lt_trichotomy x.2 n with hx | hx | hx
    · rw [List.filter_cons_of_pos (by simp; omega), List.filter_cons_of_pos (by simpa using hx), List.filter_cons_of_neg (by simp; omega), tot_cons, tot_cons, ih]
      omega
    · rw [List.filter_cons_of_pos (by simp; omega), List.filter_cons_of_neg (by simp; omega), List.filter_cons_of_pos (by simpa using hx), tot_cons, ih, List.map_cons, List.length_cons, Nat.succ_mul, hx]
      omega
    · rw [List.filter_cons_of_neg (by simp; omega), List.filter_cons_of_neg (by simp; omega), List.filter_cons_of_neg (by simp; omega)]
      exact ih
/-- how a reading ends -/
inductive Rd where
  | sym (s n : Nat)
  | short
  | bad
end Go.Proofs.YtoppjcmkhhkbmaaGreat.Cd

namespace Go.Proofs.YtoppjcmkhhkbmaaGreat
open Cd

/-- what lengths take of 65536 -/
def kraft (l : List Int) : Int := (l.map (fun x => if 0 < x then (2 : Int) ^ (16 - x.toNat) else 0)).sum
/-- lengths in form -/
def lensB (l : List Int) : Bool := decide (l.length ≤ 512) && (l.all (fun x => decide (0 ≤ x ∧ x ≤ 16)) && decide (kraft l ≤ 65536))
theorem lensB_iff {l : List Int} : lensB l = true ↔ l.length ≤ 512 ∧ (∀ x ∈ l, 0 ≤ x ∧ x ≤ 16) ∧ kraft l ≤ 65536 := by
  unfold lensB
  simp [List.all_eq_true]
def rowF (l : List Int) (n : Nat) : List Nat := (List.range l.length).filter (fun s => l.getD s 0 == (n : Int))
def ordL (l : List Int) : List Nat := (List.range 16).flatMap (fun i => rowF l (i + 1))
def lenOf (l : List Int) (s : Nat) : Nat := (l.getD s 0).toNat
def slOf (l : List Int) : SL := (ordL l).map (fun s => (s, lenOf l s))
theorem rowF_mem {l : List Int} {n s : Nat} : s ∈ rowF l n ↔ s < l.length ∧ l.getD s 0 = (n : Int) := by
  unfold rowF
  rw [List.mem_filter, List.mem_range]
  simp
theorem ordL_mem {l : List Int} {s : Nat} : s ∈ ordL l ↔ s < l.length ∧ ∃ i, i < 16 ∧ l.getD s 0 = ((i + 1 : Nat) : Int) := by
  unfold ordL
  rw [List.mem_flatMap]
  constructor
  · rintro ⟨i, hi, h⟩
    have := rowF_mem.1 h
    exact ⟨this.1, i, List.mem_range.1 hi, this.2⟩
  · rintro ⟨h, i, hi, e⟩
    exact ⟨i, List.mem_range.2 hi, rowF_mem.2 ⟨h, e⟩⟩
theorem ordL_nodup (l : List Int) : (ordL l).Nodup := by
  unfold ordL List.Nodup
  rw [List.pairwise_flatMap]
  refine ⟨fun i _ => List.Pairwise.filter _ List.nodup_range, ?_⟩
  have hr : (List.range 16).Pairwise (· < ·) := List.pairwise_lt_range
  refine hr.imp ?_
  intro i j hij s hs t ht e
  subst e
  have h1 := (rowF_mem.1 hs).2
  have h2 := (rowF_mem.1 ht).2
  omega
theorem sl_sorted (l : List Int) : (slOf l).Pairwise (fun x y => x.2 ≤ y.2) := by
  unfold slOf ordL
  rw [List.pairwise_map, List.pairwise_flatMap]
  refine ⟨fun i _ => ?_, ?_⟩
  · rw [List.pairwise_iff_getElem]
    intro a b ha hb _
    have h1 := (rowF_mem.1 (List.getElem_mem ha)).2
    have h2 := (rowF_mem.1 (List.getElem_mem hb)).2
    unfold lenOf
    rw [h1, h2]
    exact Nat.le_refl _
  · have hr : (List.range 16).Pairwise (· < ·) := List.pairwise_lt_range
    refine hr.imp ?_
    intro i j hij s hs t ht
    have h1 := (rowF_mem.1 hs).2
    have h2 := (rowF_mem.1 ht).2
    unfold lenOf
    rw [h1, h2]
    omega
theorem rowF_snoc (l : List Int) (x : Int) (n : Nat) : rowF (l ++ [x]) n = rowF l n ++ (if x = (n : Int) then [l.length] else []) := by
  unfold rowF
  rw [List.length_append, List.length_singleton, List.range_succ, List.filter_append]
  have e1 : (List.range l.length).filter (fun s => (l ++ [x]).getD s 0 == (n : Int)) = (List.range l.length).filter (fun s => l.getD s 0 == (n : Int)) := by
    refine List.filter_congr fun s hs => ?_
    rw [List.getD_eq_getElem?_getD, List.getD_eq_getElem?_getD, List.getElem?_append_left (List.mem_range.1 hs)]
  rw [e1]
  have e2 : (l ++ [x]).getD l.length 0 = x := by rw [List.getD_eq_getElem?_getD, List.getElem?_append_right (Nat.le_refl _)]; simp
  by_cases h : x = (n : Int)
  · rw [List.filter_cons_of_pos (by rw [e2]; simp [h]), if_pos h]; rfl
  · rw [List.filter_cons_of_neg (by rw [e2]; simp [h]), if_neg h]; rfl
def sumR (f : Nat → Nat) : Nat → Nat
  | 0 => 0
  | n + 1 => sumR f n + f n
theorem sumR_add (f g : Nat → Nat) : ∀ n, sumR (fun i => f i + g i) n = sumR f n + sumR g n
  | 0 => rfl
  | n + 1 => by
    unfold sumR
    rw [sumR_add f g n]
    omega
theorem sumR_pick (g : Nat → Nat) (x : Int) : ∀ n, sumR (fun i => if x = ((i + 1 : Nat) : Int) then g (i + 1) else 0) n = if 0 < x ∧ x ≤ (n : Int) then g x.toNat else 0
  | 0 => by rw [if_neg (by omega)]; rfl
  | n + 1 => by
    unfold sumR
    rw [sumR_pick g x n]
    by_cases h : x = ((n + 1 : Nat) : Int)
    · rw [if_neg (by omega), if_pos h, if_pos (by omega), h]
      simp
    · rw [if_neg h]
      by_cases h2 : 0 < x ∧ x ≤ (n : Int)
      · rw [if_pos h2, if_pos (by omega)]
        rfl
      · rw [if_neg h2, if_neg (by omega)]
theorem tot_rows (l : List Int) : ∀ n, tot (((List.range n).flatMap (fun i => rowF l (i + 1))).map (fun s => (s, lenOf l s))) = sumR (fun i => (rowF l (i + 1)).length * pw (i + 1)) n
  | 0 => rfl
  | n + 1 => by
    rw [List.range_succ, List.flatMap_append, List.map_append, tot_append, tot_rows l n]
    rw [show sumR (fun i => (rowF l (i + 1)).length * pw (i + 1)) (n + 1) = sumR (fun i => (rowF l (i + 1)).length * pw (i + 1)) n + (rowF l (n + 1)).length * pw (n + 1) from rfl]
    congr 1
    rw [List.flatMap_cons, List.flatMap_nil, List.append_nil, tot_same (n := n + 1), List.length_map]
    · intro x hx
      obtain ⟨s, hs, rfl⟩ := List.mem_map.1 hx
      have := (rowF_mem.1 hs).2
      show lenOf l s = n + 1
      unfold lenOf
      rw [this]
      omega
theorem tot_kraft (l : List Int) (h : ∀ x ∈ l, 0 ≤ x ∧ x ≤ 16) : ((tot (slOf l) : Nat) : Int) = kraft l := by
  unfold slOf ordL
  rw [tot_rows]
  have key : ∀ k, k ≤ l.length → ((sumR (fun i => (rowF (l.take k) (i + 1)).length * pw (i + 1)) 16 : Nat) : Int) = kraft (l.take k) := by
    intro k
    induction k with
    | zero =>
      intro _
      have : ∀ m, sumR (fun i => (rowF (l.take 0) (i + 1)).length * pw (i + 1)) m = 0 := by
        intro m
        induction m with
        | zero => rfl
        | succ m ihm =>
          unfold sumR
          rw [ihm]
          simp [rowF]
      rw [this]
      rfl
    | succ k ih =>
      intro hk
      have ih := ih (by omega)
      rw [List.take_succ_eq_append_getElem (by omega)]
      obtain ⟨x, hx⟩ : ∃ x, x = l[k] := ⟨_, rfl⟩
      have hxx := h l[k] (List.getElem_mem (by omega))
      rw [← hx] at hxx ⊢
      have e : (fun i => (rowF (l.take k ++ [x]) (i + 1)).length * pw (i + 1)) = (fun i => (rowF (l.take k) (i + 1)).length * pw (i + 1) + (if x = ((i + 1 : Nat) : Int) then pw (i + 1) else 0)) := by
        funext i
        rw [rowF_snoc, List.length_append, Nat.add_mul]
        congr 1
        split
        · simp
        · simp
      rw [e, sumR_add, sumR_pick pw x 16]
      have e2 : kraft (l.take k ++ [x]) = kraft (l.take k) + (if 0 < x then (2 : Int) ^ (16 - x.toNat) else 0) := by unfold kraft; simp
      rw [e2, ← ih]
      by_cases h0 : 0 < x
      · rw [if_pos ⟨h0, hxx.2⟩, if_pos h0]
        unfold pw
        push_cast
        rfl
      · rw [if_neg (fun h1 => h0 h1.1), if_neg h0]
        rfl
  have := key l.length (Nat.le_refl _)
  rw [List.take_length] at this
  exact this
theorem sl_ok {l : List Int} (h : lensB l = true) : Ok (slOf l) := by
  obtain ⟨_, h2, h3⟩ := lensB_iff.1 h
  refine ⟨fun x hx => ?_, sl_sorted l, by have := tot_kraft l h2; omega⟩
  obtain ⟨s, hs, rfl⟩ := List.mem_map.1 hx
  obtain ⟨_, i, hi, e⟩ := ordL_mem.1 hs
  show 1 ≤ lenOf l s ∧ lenOf l s ≤ 16
  unfold lenOf
  rw [e]
  omega
/-- the codes of symbols in an order -/
def asg (l : List Int) : List Nat → Nat → Nat → List Int → List Int
  | [], _, _, cs => cs
  | s :: r, nx, la, cs => asg l r (nx * 2 ^ (lenOf l s - la) + 1) (lenOf l s) (cs.set s ((nx * 2 ^ (lenOf l s - la) : Nat) : Int))
def codesL (l : List Int) : List Int := asg l (ordL l) 0 0 (List.replicate l.length 0)
theorem asg_length (l : List Int) : ∀ (o : List Nat) (nx la : Nat) (cs : List Int), (asg l o nx la cs).length = cs.length
  | [], _, _, _ => rfl
  | s :: r, nx, la, cs => by
    rw [asg, asg_length l r]
    simp
theorem asg_keep (l : List Int) (s : Nat) : ∀ (o : List Nat) (nx la : Nat) (cs : List Int), s ∉ o → (asg l o nx la cs).getD s 0 = cs.getD s 0
  | [], _, _, _, _ => rfl
  | t :: r, nx, la, cs, h => by
    rw [asg, asg_keep l s r _ _ _ (fun hm => h (List.mem_cons_of_mem _ hm))]
    have hne : t ≠ s := fun e => h (by rw [e]; exact List.mem_cons_self)
    rw [List.getD_eq_getElem?_getD, List.getD_eq_getElem?_getD, List.getElem?_set_ne hne]
theorem asg_at (l : List Int) : ∀ (o : List Nat) (nx la tt : Nat) (cs : List Int) (m r : List Nat) (s : Nat), o = m ++ s :: r → o.Nodup → (∀ x ∈ o, x < cs.length ∧ lenOf l x ≤ 16 ∧ la ≤ lenOf l x) → o.Pairwise (fun x y => lenOf l x ≤ lenOf l y) → nx * pw la = tt → la ≤ 16 →
    (asg l o nx la cs).getD s 0 = (((tt + tot (m.map (fun s => (s, lenOf l s)))) / pw (lenOf l s) : Nat) : Int)
  | [], _, _, _, _, m, r, s, e, _, _, _, _, _ => by cases m <;> cases e
  | t :: o, nx, la, tt, cs, m, r, s, e, hnd, hb, hp, hnx, hla => by
    rw [List.nodup_cons] at hnd
    rw [List.pairwise_cons] at hp
    have hbt := hb t List.mem_cons_self
    have h2 : nx * 2 ^ (lenOf l t - la) * pw (lenOf l t) = tt := by
      rw [← hnx, Nat.mul_assoc]
      congr 1
      unfold pw
      rw [← Nat.pow_add]
      congr 1
      omega
    cases m with
    | nil =>
      injection e with e1 e2
      subst e1
      rw [asg, asg_keep l t o _ _ _ hnd.1, List.getD_eq_getElem?_getD, List.getElem?_set_self hbt.1]
      simp only [Option.getD_some, List.map_nil, tot_nil, Nat.add_zero]
      congr 1
      rw [← h2, Nat.mul_div_cancel _ (pw_pos _)]
    | cons u m =>
      injection e with e1 e2
      subst e1
      rw [asg]
      have hsb : la ≤ lenOf l t := hbt.2.2
      rw [asg_at l o _ _ (tt + pw (lenOf l t)) _ m r s e2 hnd.2 (fun x hx => ⟨by rw [List.length_set]; exact (hb x (List.mem_cons_of_mem _ hx)).1, (hb x (List.mem_cons_of_mem _ hx)).2.1, hp.1 x hx⟩) hp.2 (by rw [Nat.add_mul, h2, Nat.one_mul]) hbt.2.1]
      rw [List.map_cons, tot_cons, Nat.add_assoc]
theorem codes_at {l : List Int} (h : lensB l = true) {m r : List Nat} {s : Nat} (e : ordL l = m ++ s :: r) : (codesL l).getD s 0 = ((tot (m.map (fun s => (s, lenOf l s))) / pw (lenOf l s) : Nat) : Int) := by
  have hok := sl_ok h
  have := asg_at l (ordL l) 0 0 0 (List.replicate l.length 0) m r s e (ordL_nodup l) (fun x hx => by
    have h1 := (ordL_mem.1 hx).1
    have h2 := hok.len (x, lenOf l x) (List.mem_map.2 ⟨x, hx, rfl⟩)
    exact ⟨by simpa using h1, h2.2, Nat.zero_le _⟩) (by
      have := hok.sorted
      unfold slOf at this
      rw [List.pairwise_map] at this
      exact this) (by simp) (by omega)
  rw [Nat.zero_add] at this
  exact this
end Go.Proofs.YtoppjcmkhhkbmaaGreat

namespace Go.Proofs.YtoppjcmkhhkbmaaGreat

theorem wraps62 (n : Int) (h0 : 0 ≤ n) (h1 : n < 2 ^ 62) : IntKind.i64.wrap n = n := by rw [IntKind.wrap_i64]; omega
theorem i64_mask (i : Nat) (hi : i ≤ 62) (x : Int) (h0 : 0 ≤ x) (h1 : x < 4611686018427387904) : bits .and .i64 x (2 ^ i - 1) = x % 2 ^ i :=
  bits_mask .i64 62 (by decide) wraps62 i hi x h0 (by omega)

end Go.Proofs.YtoppjcmkhhkbmaaGreat

namespace Go.Proofs.YtoppjcmkhhkbmaaGreat
theorem shl_run {P : Program} {yk : IntKind} (x : Int) (y : Nat) (hy : y ≤ 63) (w : World) (h0 : 0 ≤ x) (h1 : x * 2 ^ y < 4611686018427387904) : (Op.shift .shl .i64 x yk (y : Int)).run P w = .ok (.int .i64 (x * 2 ^ y)) w := by
  unfold Op.shift
  rw [if_neg (by omega)]
  have e : min ((y : Int).toNat) IntKind.i64.bits = y := by
    have : IntKind.i64.bits = 64 := rfl
    rw [this]
    omega
  simp only [e]
  have h2 : (0 : Int) ≤ 2 ^ y := Int.pow_nonneg (by omega)
  have h3 : 0 ≤ x * 2 ^ y := Int.mul_nonneg h0 h2
  rw [IntWalk.i64_in _ (by omega)]
  rfl
/-- a bit of bytes -/
def bitA (bl : List Int) (i : Nat) : Int := bl.getD (i / 8) 0 / 2 ^ (i % 8) % 2
def bitsL (bl : List Int) : List Int := (List.range (8 * bl.length)).map (bitA bl)
theorem bitsL_length (bl : List Int) : (bitsL bl).length = 8 * bl.length := by simp [bitsL]
theorem bitsL_at (bl : List Int) (i : Nat) (h : i < 8 * bl.length) : (bitsL bl).getD i 0 = bitA bl i := by
  unfold bitsL
  rw [List.getD_eq_getElem?_getD, List.getElem?_eq_getElem (by simpa using h)]
  simp
def isBit (x : Int) : Prop := x = 0 ∨ x = 1
theorem getD_bit {L : List Int} (h : ∀ x ∈ L, isBit x) (i : Nat) : isBit (L.getD i 0) := by
  rcases Nat.lt_or_ge i L.length with hi | hi
  · rw [List.getD_eq_getElem?_getD, List.getElem?_eq_getElem hi]
    exact h _ (List.getElem_mem hi)
  · rw [List.getD_eq_getElem?_getD, List.getElem?_eq_none hi]
    exact .inl rfl
/-- the number of so many bits, the lowest first -/
def numL (L : List Int) (at_ : Nat) : Nat → Int
  | 0 => 0
  | n + 1 => numL L at_ n + L.getD (at_ + n) 0 * 2 ^ n
theorem numL_bd {L : List Int} (h : ∀ x ∈ L, isBit x) (at_ : Nat) : ∀ n, 0 ≤ numL L at_ n ∧ numL L at_ n < 2 ^ n
  | 0 => ⟨Int.le_refl 0, by show (0 : Int) < 1; omega⟩
  | n + 1 => by
    have ih := numL_bd h at_ n
    have hb := getD_bit h (at_ + n)
    unfold numL
    rw [Int.pow_succ]
    generalize (2 : Int) ^ n = p at *
    rcases hb with e | e <;> rw [e] <;> omega
theorem pow_mono {m n : Nat} (h : m ≤ n) : (2 : Int) ^ m ≤ 2 ^ n := by
  obtain ⟨k, rfl⟩ := Nat.exists_eq_add_of_le h
  rw [Int.pow_add]
  have h1 : (0 : Int) < 2 ^ m := Int.pow_pos (by omega)
  have h2 : (1 : Int) ≤ 2 ^ k := by have : (0 : Int) < 2 ^ k := Int.pow_pos (by omega); omega
  have := Int.mul_le_mul_of_nonneg_left h2 (Int.le_of_lt h1)
  omega
theorem numL_one (L : List Int) (at_ : Nat) : numL L at_ 1 = L.getD at_ 0 := by
  show 0 + L.getD (at_ + 0) 0 * 2 ^ 0 = _
  simp
end Go.Proofs.YtoppjcmkhhkbmaaGreat
