/-
  DERIVED. GIVEN WITH THE SEED: THE CARDS: each row of YtlekobompjehdaaDoorRows.lean that lists a variable, with what it lists TIED to the program's text (the seventh form; the later family's looks); each row that meets fmt, with fmt's text TOLD by the authors' own Lean function (tested against real Go, not proved from fmt's source: count such statements apart). THE CARD IS WHAT COUNTS. Prove the row's statement (the work); the ties are given (YtlekobompjehdaaDoorTie.lean); close each card by the builder's one call (the guide's Derived/Test/ToyasCard.lean, 'card_holds'). Laid BY PROGRAM, IN A SANDBOX (cutbox-door.mjs). By AI agents, Wed Nov 11 2026. No macro, syntax, notation, axiom, sorry.
-/
import Derived.Test.YtlekobompjehdaaDoorRows
import GoSem.ClaimSeven
namespace Go.Proofs.YtlekobompjehdaaDoor
namespace Rows

/-- THE TIED CARD OF 'burnishlaw19.PngKept'. -/
def pngKeptCard : Claim7 := { stood := { row := pngKeptRow, standIns := [], harness := (true, "3843bab07538ffca344837218756c851d3f4ae04c87c5b5ba69795a9958d0443"), looks := false }, kinds := [], alts := [], laidByText := true, laidKinds := [.data, .pinned], laidTests := true, laidLooks := .later }
def PngKeptCardSaid : Prop := Claim7.holds Tryd.pinned (.plain (OpenSpec.ofChange pngKeptSpec)) pngKeptCard

/-- THE SECOND FORM's CARD OF 'burnishlaw19.PngKept'. -/
def pngKeptUptoCard : Claim7 := { stood := { row := pngKeptUptoRow, standIns := [], harness := (true, "3843bab07538ffca344837218756c851d3f4ae04c87c5b5ba69795a9958d0443"), looks := false }, kinds := [], alts := [], laidByText := true, laidKinds := [.data, .pinned], laidTests := true, laidLooks := .later }
def PngKeptUptoCardSaid : Prop := Claim7.holds Tryd.pinned (.plain (OpenSpec.upto pngKeptSpec)) pngKeptUptoCard
end Rows
end Go.Proofs.YtlekobompjehdaaDoor
