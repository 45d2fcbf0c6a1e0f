/-
  slices.Chunk as an iterator: what its rounds keep.
-/
import Derived.Test.YtphhoihhmphbdaaSlc
import Derived.Test.YtphhoihhmphbdaaReg
import Derived.RangeFuncNested
import Derived.RangeFuncBound
import Derived.RangeFuncCalls
import Derived.RangeFuncLeaves
import Derived.RangeFuncFrom
import Derived.Shelf.Abstract
import Derived.Shelf.RegionOpen
import Derived.OwnWalkIn
import Derived.TacticsInMore
import Derived.LoopNIn
import Derived.LoopIn
import Derived.BigQuiet
import Derived.Deep.QuietTactic
import Derived.Deep.RegionHeld3
namespace Go.Proofs.Ytphhoihhmphbdaa
open Go.RowKit Go.Shelf

/-- what a round keeps: the two boxes that the iterator reads -/
def Kp2 (b : Nat) (W W' : World) : Prop := ∀ k, b ≤ k → k ≤ b + 1 → W'.heap[k]? = W.heap[k]?
theorem kp2_t {b : Nat} {A B C : World} (h : Kp2 b A B) (k : Kp2 b B C) : Kp2 b A C := fun i h1 h2 => (k i h1 h2).trans (h i h1 h2)
theorem kp2_b {b : Nat} {w : World} (hb : b + 1 < w.heap.size) (W : World) (l : Nat) (o o' : Obj) (hl : w.heap.size ≤ l) (h : W.heap[l]? = some o) (_ : o.isCells = false) (_ : o.isWalk = false) : Kp2 b W (W.putObj l o') := fun k _ h2 =>
  (grownBy_putObj' W l o').block k (by have := (Array.getElem?_eq_some_iff.1 h).1; omega) (by simp; omega)
theorem kp2_below {b B : Nat} {W W' : World} (h : Below B W W') (hb : b + 1 < B) : Kp2 b W W' := fun k _ h2 => h.block k (by omega)
end Go.Proofs.Ytphhoihhmphbdaa
