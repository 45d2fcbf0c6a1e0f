/-
  No cell of these rows narrows 'for every input' (looked for: loops, veiled, ifaces, maps, wideKeys, modest, calm, conditions, laid).
  DERIVED. THE GIVEN ROWS OF THIS SEAT. 3 by the template 'for every input the law returns true; each argument reads behind the call as it read before'; 0 by the template 'total and deterministic' (their statements: YtphhoihhmphbdaaTotals.lean).
  GIVEN WITH THE SEED: the statements are not yours to turn. If you find one false, say at which input.
  Laid BY PROGRAM, IN A SANDBOX (cutbox-rows.mjs): the forced cells as the released guide's own fill.sh prints them over the translation 3594c9d0bfcb6071… (all of the seat's roots in one cut). By AI agents, Wed Nov 11 2026. No macro, syntax, notation, axiom, sorry.
-/
import Derived.Test.YtphhoihhmphbdaaChecked
import GoSem.Claim
import GoSem.ClaimJoined
import GoSem.ClaimMapViews
import Derived.JoinedTies
import Derived.KernelRfl
namespace Go.Proofs.Ytphhoihhmphbdaa
/- THE CELL 'sum', in the pinned program and in every row, IS THE sha256 OF THE DUMP (.gsa) THAT YtphhoihhmphbdaaProg.lean LOADS. Nothing in Lean hashes anything: it is a label: what it is worth is what the hold of that sum in a sandbox is worth. -/
noncomputable def Try.pinned : Pinned := { name := "ytphhoihhmphbdaa", sum := "3594c9d0bfcb6071e810e32b94463e48afff0911a3bb33aaeb9da3fcaabd5109", checked := Try.checked }
namespace Rows
def none {H : Type} : Left H := { results := [], args := [] }

/-- 'burnishlaw17.RasterUnpacks': WHATEVER THE INPUT: true; the input reads as it did. -/
def rasterUnpacksSpec : ChangeSpec := { name := "rasterUnpacks", fn := fun _ => fun
  | [d1, d2] => { results := [.lit (.bool true)], args := [d1, d2] }
  | _ => none }
def rasterUnpacksRow : OpenClaim := { program := "ytphhoihhmphbdaa", sum := "3594c9d0bfcb6071e810e32b94463e48afff0911a3bb33aaeb9da3fcaabd5109", func := "burnish/burnishlaw17.RasterUnpacks", spec := "rasterUnpacks", unfollowed := true, recurses := true, plainKeys := false, apart := false }
def RasterUnpacksSaid : Prop := rasterUnpacksRow.holds Try.pinned (OpenSpec.ofChange rasterUnpacksSpec)

/-- ITS FALSE NEIGHBOUR: 'it returns false'. Refute it at one input. -/
def rasterUnpacksWrong : ChangeSpec := { name := "rasterUnpacks", fn := fun _ => fun
  | [d1, d2] => { results := [.lit (.bool false)], args := [d1, d2] }
  | _ => none }
def RasterUnpacksWrongFalsely : Prop := rasterUnpacksRow.holds Try.pinned (OpenSpec.ofChange rasterUnpacksWrong)

/-- 'burnishlaw17.RasterPacks': WHATEVER THE INPUT: true; the input reads as it did. -/
def rasterPacksSpec : ChangeSpec := { name := "rasterPacks", fn := fun _ => fun
  | [d1, d2, d3] => { results := [.lit (.bool true)], args := [d1, d2, d3] }
  | _ => none }
def rasterPacksRow : OpenClaim := { program := "ytphhoihhmphbdaa", sum := "3594c9d0bfcb6071e810e32b94463e48afff0911a3bb33aaeb9da3fcaabd5109", func := "burnish/burnishlaw17.RasterPacks", spec := "rasterPacks", unfollowed := true, recurses := true, plainKeys := false, apart := false }
def RasterPacksSaid : Prop := rasterPacksRow.holds Try.pinned (OpenSpec.ofChange rasterPacksSpec)

/-- ITS FALSE NEIGHBOUR: 'it returns false'. Refute it at one input. -/
def rasterPacksWrong : ChangeSpec := { name := "rasterPacks", fn := fun _ => fun
  | [d1, d2, d3] => { results := [.lit (.bool false)], args := [d1, d2, d3] }
  | _ => none }
def RasterPacksWrongFalsely : Prop := rasterPacksRow.holds Try.pinned (OpenSpec.ofChange rasterPacksWrong)

/-- 'burnishlaw18.ShrinkHolds': WHATEVER THE INPUT: true; the input reads as it did. -/
def shrinkHoldsSpec : ChangeSpec := { name := "shrinkHolds", fn := fun _ => fun
  | [d1, d2, d3] => { results := [.lit (.bool true)], args := [d1, d2, d3] }
  | _ => none }
def shrinkHoldsRow : OpenClaim := { program := "ytphhoihhmphbdaa", sum := "3594c9d0bfcb6071e810e32b94463e48afff0911a3bb33aaeb9da3fcaabd5109", func := "burnish/burnishlaw18.ShrinkHolds", spec := "shrinkHolds", unfollowed := true, recurses := true, plainKeys := false, apart := false }
def ShrinkHoldsSaid : Prop := shrinkHoldsRow.holds Try.pinned (OpenSpec.ofChange shrinkHoldsSpec)

/-- ITS FALSE NEIGHBOUR: 'it returns false'. Refute it at one input. -/
def shrinkHoldsWrong : ChangeSpec := { name := "shrinkHolds", fn := fun _ => fun
  | [d1, d2, d3] => { results := [.lit (.bool false)], args := [d1, d2, d3] }
  | _ => none }
def ShrinkHoldsWrongFalsely : Prop := shrinkHoldsRow.holds Try.pinned (OpenSpec.ofChange shrinkHoldsWrong)

/- THE SECOND FORM. 'bulk': how many values and letters a reading holds, each counted each time it is reached (what is shared counts as often as it is met; a slice's spare places count too). A statement '..UptoSaid' is the law's where the arguments, and the package variables that the reading takes, are together of bulk at most 1048576: NARROWER than '..Said'. Prove '..Said' where nothing that the law and all that it calls make is longer than what came in: it says more and counts as full. Else prove '..UptoSaid'. A law counts once. -/
mutual
def uptoBulk {H : Type} : DataW H → Nat
  | .lit (.string bytes) => bytes.length + 1
  | .lit _ => 1
  | .nil => 1
  | .ptr d => uptoBulk d + 1
  | .slice elems spare => uptoBulkAll elems + uptoBulkAll spare + 1
  | .agg parts => uptoBulkAll parts + 1
  | .iface _ d => uptoBulk d + 1
  | .map entries => uptoBulkEntries entries + 1
  | .held _ => 1
def uptoBulkAll {H : Type} : List (DataW H) → Nat
  | [] => 0
  | d :: r => uptoBulk d + uptoBulkAll r
def uptoBulkEntries {H : Type} : List (Lit × DataW H) → Nat
  | [] => 0
  | x :: r => uptoBulkEntry x + uptoBulkEntries r
def uptoBulkEntry {H : Type} : Lit × DataW H → Nat
  | (.string bytes, d) => bytes.length + uptoBulk d + 1
  | (_, d) => uptoBulk d + 1
 end
def uptoSmall : (H : Type) → List (DataW H) → Bool := fun _ ds => decide (uptoBulkAll ds ≤ 1048576)
def OpenSpec.upto (s : _root_.Go.ChangeSpec) : _root_.Go.OpenSpec := { _root_.Go.OpenSpec.ofChange s with cond := some uptoSmall }

/-- 'burnishlaw17.RasterUnpacks', WHERE WHAT IT READS IS OF BULK AT MOST 1048576: true; the input reads as it did. -/
def rasterUnpacksUptoRow : OpenClaim := { program := "ytphhoihhmphbdaa", sum := "3594c9d0bfcb6071e810e32b94463e48afff0911a3bb33aaeb9da3fcaabd5109", func := "burnish/burnishlaw17.RasterUnpacks", spec := "rasterUnpacks", unfollowed := true, recurses := true, plainKeys := false, apart := false, narrowed := true }
def RasterUnpacksUptoSaid : Prop := rasterUnpacksUptoRow.holds Try.pinned (OpenSpec.upto rasterUnpacksSpec)

/-- 'burnishlaw17.RasterPacks', WHERE WHAT IT READS IS OF BULK AT MOST 1048576: true; the input reads as it did. -/
def rasterPacksUptoRow : OpenClaim := { program := "ytphhoihhmphbdaa", sum := "3594c9d0bfcb6071e810e32b94463e48afff0911a3bb33aaeb9da3fcaabd5109", func := "burnish/burnishlaw17.RasterPacks", spec := "rasterPacks", unfollowed := true, recurses := true, plainKeys := false, apart := false, narrowed := true }
def RasterPacksUptoSaid : Prop := rasterPacksUptoRow.holds Try.pinned (OpenSpec.upto rasterPacksSpec)

/-- 'burnishlaw18.ShrinkHolds', WHERE WHAT IT READS IS OF BULK AT MOST 1048576: true; the input reads as it did. -/
def shrinkHoldsUptoRow : OpenClaim := { program := "ytphhoihhmphbdaa", sum := "3594c9d0bfcb6071e810e32b94463e48afff0911a3bb33aaeb9da3fcaabd5109", func := "burnish/burnishlaw18.ShrinkHolds", spec := "shrinkHolds", unfollowed := true, recurses := true, plainKeys := false, apart := false, narrowed := true }
def ShrinkHoldsUptoSaid : Prop := shrinkHoldsUptoRow.holds Try.pinned (OpenSpec.upto shrinkHoldsSpec)

end Rows
end Go.Proofs.Ytphhoihhmphbdaa
