/-
  Slices of numbers: what a walk reads of them.
-/
import Derived.Test.YtbpdkpphhjmalaaErr
import Derived.Test.YtbpdkpphhjmalaaOpen
import Derived.Test.YtbpdkpphhjmalaaMem
namespace Go.Proofs.Ytbpdkpphhjmalaa
open Go.RowKit

def encI (n : Int) : List Value := [.int .i64 n]
def okI (n : Int) : Prop := (Lit.int .i64 n).wf = true
/-- the slice '.slice A l.length c' reads as the numbers l -/
def RdI (w : World) (B : Nat) (A : Option Addr) (l : List Int) : Prop := Rd w B 1 A l.length (l.flatMap encI)

theorem int_at {w : World} {B : Nat} {A : Option Addr} {l : List Int} (h : RdI w B A l) {j : Nat} (hj : j < l.length) :
    ∃ b off, A = some ⟨b, off, none⟩ ∧ b < B ∧ w.cell? ⟨b, off + j, none⟩ = some (.int .i64 l[j]) := by
  obtain ⟨b, off, hA, hb, hc⟩ := Rd.at_ h hj (by omega)
  exact ⟨b, off, hA, hb, by have := hc (j * 1 + 0) _ (flat_at encI 1 l (fun _ _ => rfl) j 0 l[j] (List.getElem?_eq_getElem hj) (by omega)); simpa using this⟩

theorem RdI.nil {w : World} {B : Nat} {A : Option Addr} : RdI w B A [] := Rd.nil
theorem RdI.more {w : World} {B B' : Nat} {A : Option Addr} {l : List Int} (h : RdI w B A l) (hB : B ≤ B') : RdI w B' A l := Rd.more h hB
theorem RdI.below {w w' : World} {B C : Nat} {A : Option Addr} {l : List Int} (h : RdI w B A l) (hb : Below C w w') (hC : B ≤ C) : RdI w' B A l := Rd.below h hb hC
theorem RdI.alloc {w : World} {B : Nat} {A : Option Addr} {l : List Int} (h : RdI w B A l) (hB : B ≤ w.heap.size) (o : Obj) : RdI (w.alloc o) B A l := Rd.alloc h hB o
theorem RdI.drewN {w : World} {B : Nat} {A : Option Addr} {l : List Int} (h : RdI w B A l) (k : Nat) : RdI (w.drewN k) B A l := h
theorem RdI.setCell {w : World} {B : Nat} {A : Option Addr} {l : List Int} (h : RdI w B A l) {p : Addr} (hB : B ≤ p.block) (u : Value) : RdI (w.setCell p u) B A l := Rd.setCell h hB u
/-- a block whose first cells are the numbers -/
theorem RdI.of_cells {w : World} {B b : Nat} {l : List Int} (hb : b < B) (h : ∀ j, (hj : j < l.length) → w.cell? ⟨b, j, none⟩ = some (.int .i64 l[j])) : RdI w B (some ⟨b, 0, none⟩) l := by
  have hl := flat_length encI 1 l (fun _ _ => rfl)
  refine ⟨hl, fun _ => ⟨b, 0, rfl, hb, fun j u hu => ?_⟩⟩
  have hj : j < l.length := by have := (List.getElem?_eq_some_iff.1 hu).1; omega
  have := flat_at encI 1 l (fun _ _ => rfl) j 0 l[j] (List.getElem?_eq_getElem hj) (by omega)
  simp at this
  rw [this] at hu
  simp [encI] at hu
  subst hu
  simpa using h j hj
theorem RdI.new {w : World} {t : TypeId} {l : List Int} {cs : Array Value} (e : cs = (l.map (Value.int .i64)).toArray) : RdI (w.alloc (.cells cs t)) (w.heap.size + 1) (some ⟨w.heap.size, 0, none⟩) l := by
  refine RdI.of_cells (by omega) fun j hj => ?_
  rw [(Blk.new w t cs).cell j, e]
  simp [hj]

theorem int_of {H : Type} {enc : TypeId × Value → H} {w : World} {base : Nat} {spare : Nat → Bool} {held : Bool} (n : Nat) (cs : List Value) (y : DataW H × List MemPlace) (hl : cs.length = 1)
    (h : DataW.trod enc Try.prog w base spare held n 3 cs = some y) : ∃ t : Int, cs = encI t ∧ okI t := by
  match cs, hl with
  | [v], _ =>
    obtain ⟨a, rfl, wa⟩ := leaf_int Try.underlying3 h
    exact ⟨a, rfl, wa⟩

end Go.Proofs.Ytbpdkpphhjmalaa
