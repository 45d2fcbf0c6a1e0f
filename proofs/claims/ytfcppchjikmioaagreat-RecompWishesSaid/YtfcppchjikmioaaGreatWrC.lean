/-
  burnishref26.Wishes of an order that wishes say: how its list grows.
-/
import Derived.Test.YtfcppchjikmioaaGreatWrT
import Derived.Test.YtfcppchjikmioaaGreatWtF
import Derived.Test.YtfcppchjikmioaaGreatWtD
import Derived.Test.YtfcppchjikmioaaGreatOrdC
import Derived.BigRegion
import Derived.RegionTactic
import Derived.RegionCalls
namespace Go.Proofs.YtfcppchjikmioaaGreat
open Go.RowKit Go.Lib Go.Proofs.YtfcppchjikmioaaGreat.PngChecks

/-- a wish as the reference has it -/
def wiW (x : Wsh) : Wi := ⟨x.1, kdV x.2, nuV x.2, sxV x.2, blV x.2⟩
theorem wiW_M (x : Wsh) : WiM (wiW x) x := by
  obtain ⟨nm, v⟩ := x
  cases v
  · exact ⟨rfl, rfl, rfl⟩
  · exact ⟨rfl, rfl, rfl⟩
  · exact ⟨rfl, rfl, rfl⟩
def wRows (L : List Wsh) : List Value := (L.map wiW).flatMap encWi
theorem wRows_app (L : List Wsh) (x : Wsh) : wRows (L ++ [x]) = wRows L ++ encWi (wiW x) := by unfold wRows; rw [List.map_append, List.flatMap_append]; simp
/-- the list of the reference, and the order beside it -/
structure RB (W0 : World) (g1 : Nat) (o : Od) (A : Option Addr) (n c : Nat) (L : List Wsh) (w : World) : Prop where
  row : w.ownsRow W0.heap.size 25 5 (.slice A n c) n (wRows L)
  len : n = L.length
  below : Below W0.heap.size W0 w
  ord : Blk w g1 50 (odC o)
theorem RB.below' {W0 : World} {g1 : Nat} {o : Od} {A : Option Addr} {n c : Nat} {L : List Wsh} {w w' : World} (h : RB W0 g1 o A n c L w) (hb : Below w.heap.size w w') : RB W0 g1 o A n c L w' :=
  ⟨own_below h.row hb (Nat.le_refl _), h.len, h.below.trans (hb.mono h.below.size), h.ord.below hb h.ord.lt⟩
theorem RB.app {W0 : World} {g1 : Nat} {o : Od} {A A4 : Option Addr} {n c c4 : Nat} {L : List Wsh} {x : Wsh} {w w4 : World} (h : RB W0 g1 o A n c L w) (ha : Apped w W0.heap.size 25 5 A n c (wRows L) 1 (encWi (wiW x)) A4 c4 w4) : RB W0 g1 o A4 (n + 1) c4 (L ++ [x]) w4 := by
  obtain ⟨h1, h2, h3, _⟩ := ha
  rw [← wRows_app] at h1
  exact ⟨h1, by rw [h.len, List.length_append]; rfl, h.below.trans h3, h.ord.grown h2 (own_blk_ne h.row h.ord (by decide))⟩
end Go.Proofs.YtfcppchjikmioaaGreat
