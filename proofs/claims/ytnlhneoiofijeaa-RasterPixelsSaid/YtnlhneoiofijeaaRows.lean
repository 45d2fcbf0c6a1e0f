/-
  No cell of these rows narrows 'for every input' (looked for: loops, veiled, ifaces, maps, wideKeys, modest, calm, conditions, laid).
  DERIVED. THE GIVEN ROWS OF THIS SEAT. 11 by the template 'for every input the law returns true; each argument reads behind the call as it read before'; 0 by the template 'total and deterministic' (their statements: YtnlhneoiofijeaaTotals.lean).
  GIVEN WITH THE SEED: the statements are not yours to turn. If you find one false, say at which input.
  Laid BY PROGRAM, IN A SANDBOX (cutbox-rows.mjs): the forced cells as the released guide's own fill.sh prints them over the translation d607671a764f0b9e… (all of the seat's roots in one cut). By AI agents, Wed Nov 11 2026. No macro, syntax, notation, axiom, sorry.
-/
import Derived.Test.YtnlhneoiofijeaaChecked
import GoSem.Claim
import GoSem.ClaimJoined
import GoSem.ClaimMapViews
import Derived.JoinedTies
import Derived.KernelRfl
namespace Go.Proofs.Ytnlhneoiofijeaa
/- THE CELL 'sum', in the pinned program and in every row, IS THE sha256 OF THE DUMP (.gsa) THAT YtnlhneoiofijeaaProg.lean LOADS. Nothing in Lean hashes anything: it is a label: what it is worth is what the hold of that sum in a sandbox is worth. -/
noncomputable def Try.pinned : Pinned := { name := "ytnlhneoiofijeaa", sum := "d607671a764f0b9e2eabc57be3d1daab06ab6b45b905b8dc6d1b43c9fd0719c3", checked := Try.checked }
namespace Rows
def none {H : Type} : Left H := { results := [], args := [] }

/-- 'burnishlaw02.WishFinds': WHATEVER THE INPUT: true; the input reads as it did. -/
def wishFindsSpec : ChangeSpec := { name := "wishFinds", fn := fun _ => fun
  | [d1, d2] => { results := [.lit (.bool true)], args := [d1, d2] }
  | _ => none }
def wishFindsRow : OpenClaim := { program := "ytnlhneoiofijeaa", sum := "d607671a764f0b9e2eabc57be3d1daab06ab6b45b905b8dc6d1b43c9fd0719c3", func := "burnish/burnishlaw02.WishFinds", spec := "wishFinds", apart := false }
def WishFindsSaid : Prop := wishFindsRow.holds Try.pinned (OpenSpec.ofChange wishFindsSpec)

/-- ITS FALSE NEIGHBOUR: 'it returns false'. Refute it at one input. -/
def wishFindsWrong : ChangeSpec := { name := "wishFinds", fn := fun _ => fun
  | [d1, d2] => { results := [.lit (.bool false)], args := [d1, d2] }
  | _ => none }
def WishFindsWrongFalsely : Prop := wishFindsRow.holds Try.pinned (OpenSpec.ofChange wishFindsWrong)

/-- 'burnishlaw07.ZlibWindows': WHATEVER THE INPUT: true; the input reads as it did. -/
def zlibWindowsSpec : ChangeSpec := { name := "zlibWindows", fn := fun _ => fun
  | [d] => { results := [.lit (.bool true)], args := [d] }
  | _ => none }
def zlibWindowsRow : OpenClaim := { program := "ytnlhneoiofijeaa", sum := "d607671a764f0b9e2eabc57be3d1daab06ab6b45b905b8dc6d1b43c9fd0719c3", func := "burnish/burnishlaw07.ZlibWindows", spec := "zlibWindows", apart := false }
def ZlibWindowsSaid : Prop := zlibWindowsRow.holds Try.pinned (OpenSpec.ofChange zlibWindowsSpec)

/-- ITS FALSE NEIGHBOUR: 'it returns false'. Refute it at one input. -/
def zlibWindowsWrong : ChangeSpec := { name := "zlibWindows", fn := fun _ => fun
  | [d] => { results := [.lit (.bool false)], args := [d] }
  | _ => none }
def ZlibWindowsWrongFalsely : Prop := zlibWindowsRow.holds Try.pinned (OpenSpec.ofChange zlibWindowsWrong)

/-- 'burnishlaw19.PngChecks': WHATEVER THE INPUT: true; the input reads as it did. -/
def pngChecksSpec : ChangeSpec := { name := "pngChecks", fn := fun _ => fun
  | [d] => { results := [.lit (.bool true)], args := [d] }
  | _ => none }
def pngChecksRow : OpenClaim := { program := "ytnlhneoiofijeaa", sum := "d607671a764f0b9e2eabc57be3d1daab06ab6b45b905b8dc6d1b43c9fd0719c3", func := "burnish/burnishlaw19.PngChecks", spec := "pngChecks", apart := false }
def PngChecksSaid : Prop := pngChecksRow.holds Try.pinned (OpenSpec.ofChange pngChecksSpec)

/-- ITS FALSE NEIGHBOUR: 'it returns false'. Refute it at one input. -/
def pngChecksWrong : ChangeSpec := { name := "pngChecks", fn := fun _ => fun
  | [d] => { results := [.lit (.bool false)], args := [d] }
  | _ => none }
def PngChecksWrongFalsely : Prop := pngChecksRow.holds Try.pinned (OpenSpec.ofChange pngChecksWrong)

/-- 'burnishlaw02.WishValues': WHATEVER THE INPUT: true; the input reads as it did. -/
def wishValuesSpec : ChangeSpec := { name := "wishValues", fn := fun _ => fun
  | [d] => { results := [.lit (.bool true)], args := [d] }
  | _ => none }
def wishValuesRow : OpenClaim := { program := "ytnlhneoiofijeaa", sum := "d607671a764f0b9e2eabc57be3d1daab06ab6b45b905b8dc6d1b43c9fd0719c3", func := "burnish/burnishlaw02.WishValues", spec := "wishValues", unfollowed := true, recurses := true, apart := false }
def WishValuesSaid : Prop := wishValuesRow.holds Try.pinned (OpenSpec.ofChange wishValuesSpec)

/-- ITS FALSE NEIGHBOUR: 'it returns false'. Refute it at one input. -/
def wishValuesWrong : ChangeSpec := { name := "wishValues", fn := fun _ => fun
  | [d] => { results := [.lit (.bool false)], args := [d] }
  | _ => none }
def WishValuesWrongFalsely : Prop := wishValuesRow.holds Try.pinned (OpenSpec.ofChange wishValuesWrong)

/-- 'burnishlaw05.MergeCosts': WHATEVER THE INPUT: true; the input reads as it did. -/
def mergeCostsSpec : ChangeSpec := { name := "mergeCosts", fn := fun _ => fun
  | [d1, d2] => { results := [.lit (.bool true)], args := [d1, d2] }
  | _ => none }
def mergeCostsRow : OpenClaim := { program := "ytnlhneoiofijeaa", sum := "d607671a764f0b9e2eabc57be3d1daab06ab6b45b905b8dc6d1b43c9fd0719c3", func := "burnish/burnishlaw05.MergeCosts", spec := "mergeCosts", unfollowed := true, recurses := true, apart := false }
def MergeCostsSaid : Prop := mergeCostsRow.holds Try.pinned (OpenSpec.ofChange mergeCostsSpec)

/-- ITS FALSE NEIGHBOUR: 'it returns false'. Refute it at one input. -/
def mergeCostsWrong : ChangeSpec := { name := "mergeCosts", fn := fun _ => fun
  | [d1, d2] => { results := [.lit (.bool false)], args := [d1, d2] }
  | _ => none }
def MergeCostsWrongFalsely : Prop := mergeCostsRow.holds Try.pinned (OpenSpec.ofChange mergeCostsWrong)

/-- 'burnishlaw06.InflateBases': WHATEVER THE INPUT: true; the input reads as it did. -/
def inflateBasesSpec : ChangeSpec := { name := "inflateBases", fn := fun _ => fun
  | [d1, d2] => { results := [.lit (.bool true)], args := [d1, d2] }
  | _ => none }
def inflateBasesRow : OpenClaim := { program := "ytnlhneoiofijeaa", sum := "d607671a764f0b9e2eabc57be3d1daab06ab6b45b905b8dc6d1b43c9fd0719c3", func := "burnish/burnishlaw06.InflateBases", spec := "inflateBases", apart := false }
def InflateBasesSaid : Prop := inflateBasesRow.holds Try.pinned (OpenSpec.ofChange inflateBasesSpec)

/-- ITS FALSE NEIGHBOUR: 'it returns false'. Refute it at one input. -/
def inflateBasesWrong : ChangeSpec := { name := "inflateBases", fn := fun _ => fun
  | [d1, d2] => { results := [.lit (.bool false)], args := [d1, d2] }
  | _ => none }
def InflateBasesWrongFalsely : Prop := inflateBasesRow.holds Try.pinned (OpenSpec.ofChange inflateBasesWrong)

/-- 'burnishlaw06.InflateExpands': WHATEVER THE INPUT: true; the input reads as it did. -/
def inflateExpandsSpec : ChangeSpec := { name := "inflateExpands", fn := fun _ => fun
  | [d1, d2] => { results := [.lit (.bool true)], args := [d1, d2] }
  | _ => none }
def inflateExpandsRow : OpenClaim := { program := "ytnlhneoiofijeaa", sum := "d607671a764f0b9e2eabc57be3d1daab06ab6b45b905b8dc6d1b43c9fd0719c3", func := "burnish/burnishlaw06.InflateExpands", spec := "inflateExpands", apart := false }
def InflateExpandsSaid : Prop := inflateExpandsRow.holds Try.pinned (OpenSpec.ofChange inflateExpandsSpec)

/-- ITS FALSE NEIGHBOUR: 'it returns false'. Refute it at one input. -/
def inflateExpandsWrong : ChangeSpec := { name := "inflateExpands", fn := fun _ => fun
  | [d1, d2] => { results := [.lit (.bool false)], args := [d1, d2] }
  | _ => none }
def InflateExpandsWrongFalsely : Prop := inflateExpandsRow.holds Try.pinned (OpenSpec.ofChange inflateExpandsWrong)

/-- 'burnishlaw10.BlockRuns': WHATEVER THE INPUT: true; the input reads as it did. -/
def blockRunsSpec : ChangeSpec := { name := "blockRuns", fn := fun _ => fun
  | [d] => { results := [.lit (.bool true)], args := [d] }
  | _ => none }
def blockRunsRow : OpenClaim := { program := "ytnlhneoiofijeaa", sum := "d607671a764f0b9e2eabc57be3d1daab06ab6b45b905b8dc6d1b43c9fd0719c3", func := "burnish/burnishlaw10.BlockRuns", spec := "blockRuns", unfollowed := true, recurses := true, apart := false }
def BlockRunsSaid : Prop := blockRunsRow.holds Try.pinned (OpenSpec.ofChange blockRunsSpec)

/-- ITS FALSE NEIGHBOUR: 'it returns false'. Refute it at one input. -/
def blockRunsWrong : ChangeSpec := { name := "blockRuns", fn := fun _ => fun
  | [d] => { results := [.lit (.bool false)], args := [d] }
  | _ => none }
def BlockRunsWrongFalsely : Prop := blockRunsRow.holds Try.pinned (OpenSpec.ofChange blockRunsWrong)

/-- 'burnishlaw07.ZlibWraps': WHATEVER THE INPUT: true; the input reads as it did. -/
def zlibWrapsSpec : ChangeSpec := { name := "zlibWraps", fn := fun _ => fun
  | [d1, d2, d3] => { results := [.lit (.bool true)], args := [d1, d2, d3] }
  | _ => none }
def zlibWrapsRow : OpenClaim := { program := "ytnlhneoiofijeaa", sum := "d607671a764f0b9e2eabc57be3d1daab06ab6b45b905b8dc6d1b43c9fd0719c3", func := "burnish/burnishlaw07.ZlibWraps", spec := "zlibWraps", apart := false }
def ZlibWrapsSaid : Prop := zlibWrapsRow.holds Try.pinned (OpenSpec.ofChange zlibWrapsSpec)

/-- ITS FALSE NEIGHBOUR: 'it returns false'. Refute it at one input. -/
def zlibWrapsWrong : ChangeSpec := { name := "zlibWraps", fn := fun _ => fun
  | [d1, d2, d3] => { results := [.lit (.bool false)], args := [d1, d2, d3] }
  | _ => none }
def ZlibWrapsWrongFalsely : Prop := zlibWrapsRow.holds Try.pinned (OpenSpec.ofChange zlibWrapsWrong)

/-- 'burnishlaw10.BlockUnruns': WHATEVER THE INPUT: true; the input reads as it did. -/
def blockUnrunsSpec : ChangeSpec := { name := "blockUnruns", fn := fun _ => fun
  | [d1, d2] => { results := [.lit (.bool true)], args := [d1, d2] }
  | _ => none }
def blockUnrunsRow : OpenClaim := { program := "ytnlhneoiofijeaa", sum := "d607671a764f0b9e2eabc57be3d1daab06ab6b45b905b8dc6d1b43c9fd0719c3", func := "burnish/burnishlaw10.BlockUnruns", spec := "blockUnruns", apart := false }
def BlockUnrunsSaid : Prop := blockUnrunsRow.holds Try.pinned (OpenSpec.ofChange blockUnrunsSpec)

/-- ITS FALSE NEIGHBOUR: 'it returns false'. Refute it at one input. -/
def blockUnrunsWrong : ChangeSpec := { name := "blockUnruns", fn := fun _ => fun
  | [d1, d2] => { results := [.lit (.bool false)], args := [d1, d2] }
  | _ => none }
def BlockUnrunsWrongFalsely : Prop := blockUnrunsRow.holds Try.pinned (OpenSpec.ofChange blockUnrunsWrong)

/-- 'burnishlaw17.RasterPixels': WHATEVER THE INPUT: true; the input reads as it did. -/
def rasterPixelsSpec : ChangeSpec := { name := "rasterPixels", fn := fun _ => fun
  | [d1, d2] => { results := [.lit (.bool true)], args := [d1, d2] }
  | _ => none }
def rasterPixelsRow : OpenClaim := { program := "ytnlhneoiofijeaa", sum := "d607671a764f0b9e2eabc57be3d1daab06ab6b45b905b8dc6d1b43c9fd0719c3", func := "burnish/burnishlaw17.RasterPixels", spec := "rasterPixels", apart := false }
def RasterPixelsSaid : Prop := rasterPixelsRow.holds Try.pinned (OpenSpec.ofChange rasterPixelsSpec)

/-- ITS FALSE NEIGHBOUR: 'it returns false'. Refute it at one input. -/
def rasterPixelsWrong : ChangeSpec := { name := "rasterPixels", fn := fun _ => fun
  | [d1, d2] => { results := [.lit (.bool false)], args := [d1, d2] }
  | _ => none }
def RasterPixelsWrongFalsely : Prop := rasterPixelsRow.holds Try.pinned (OpenSpec.ofChange rasterPixelsWrong)

/- THE SECOND FORM. 'bulk': how many values and letters a reading holds, each counted each time it is reached (what is shared counts as often as it is met; a slice's spare places count too). A statement '..UptoSaid' is the law's where the arguments, and the package variables that the reading takes, are together of bulk at most 1048576: NARROWER than '..Said'. Prove '..Said' where nothing that the law and all that it calls make is longer than what came in: it says more and counts as full. Else prove '..UptoSaid'. A law counts once. -/
mutual
def uptoBulk {H : Type} : DataW H → Nat
  | .lit (.string bytes) => bytes.length + 1
  | .lit _ => 1
  | .nil => 1
  | .ptr d => uptoBulk d + 1
  | .slice elems spare => uptoBulkAll elems + uptoBulkAll spare + 1
  | .agg parts => uptoBulkAll parts + 1
  | .iface _ d => uptoBulk d + 1
  | .map entries => uptoBulkEntries entries + 1
  | .held _ => 1
def uptoBulkAll {H : Type} : List (DataW H) → Nat
  | [] => 0
  | d :: r => uptoBulk d + uptoBulkAll r
def uptoBulkEntries {H : Type} : List (Lit × DataW H) → Nat
  | [] => 0
  | x :: r => uptoBulkEntry x + uptoBulkEntries r
def uptoBulkEntry {H : Type} : Lit × DataW H → Nat
  | (.string bytes, d) => bytes.length + uptoBulk d + 1
  | (_, d) => uptoBulk d + 1
 end
def uptoSmall : (H : Type) → List (DataW H) → Bool := fun _ ds => decide (uptoBulkAll ds ≤ 1048576)
def OpenSpec.upto (s : _root_.Go.ChangeSpec) : _root_.Go.OpenSpec := { _root_.Go.OpenSpec.ofChange s with cond := some uptoSmall }

/-- 'burnishlaw02.WishFinds', WHERE WHAT IT READS IS OF BULK AT MOST 1048576: true; the input reads as it did. -/
def wishFindsUptoRow : OpenClaim := { program := "ytnlhneoiofijeaa", sum := "d607671a764f0b9e2eabc57be3d1daab06ab6b45b905b8dc6d1b43c9fd0719c3", func := "burnish/burnishlaw02.WishFinds", spec := "wishFinds", apart := false, narrowed := true }
def WishFindsUptoSaid : Prop := wishFindsUptoRow.holds Try.pinned (OpenSpec.upto wishFindsSpec)

/-- 'burnishlaw07.ZlibWindows', WHERE WHAT IT READS IS OF BULK AT MOST 1048576: true; the input reads as it did. -/
def zlibWindowsUptoRow : OpenClaim := { program := "ytnlhneoiofijeaa", sum := "d607671a764f0b9e2eabc57be3d1daab06ab6b45b905b8dc6d1b43c9fd0719c3", func := "burnish/burnishlaw07.ZlibWindows", spec := "zlibWindows", apart := false, narrowed := true }
def ZlibWindowsUptoSaid : Prop := zlibWindowsUptoRow.holds Try.pinned (OpenSpec.upto zlibWindowsSpec)

/-- 'burnishlaw19.PngChecks', WHERE WHAT IT READS IS OF BULK AT MOST 1048576: true; the input reads as it did. -/
def pngChecksUptoRow : OpenClaim := { program := "ytnlhneoiofijeaa", sum := "d607671a764f0b9e2eabc57be3d1daab06ab6b45b905b8dc6d1b43c9fd0719c3", func := "burnish/burnishlaw19.PngChecks", spec := "pngChecks", apart := false, narrowed := true }
def PngChecksUptoSaid : Prop := pngChecksUptoRow.holds Try.pinned (OpenSpec.upto pngChecksSpec)

/-- 'burnishlaw02.WishValues', WHERE WHAT IT READS IS OF BULK AT MOST 1048576: true; the input reads as it did. -/
def wishValuesUptoRow : OpenClaim := { program := "ytnlhneoiofijeaa", sum := "d607671a764f0b9e2eabc57be3d1daab06ab6b45b905b8dc6d1b43c9fd0719c3", func := "burnish/burnishlaw02.WishValues", spec := "wishValues", unfollowed := true, recurses := true, apart := false, narrowed := true }
def WishValuesUptoSaid : Prop := wishValuesUptoRow.holds Try.pinned (OpenSpec.upto wishValuesSpec)

/-- 'burnishlaw05.MergeCosts', WHERE WHAT IT READS IS OF BULK AT MOST 1048576: true; the input reads as it did. -/
def mergeCostsUptoRow : OpenClaim := { program := "ytnlhneoiofijeaa", sum := "d607671a764f0b9e2eabc57be3d1daab06ab6b45b905b8dc6d1b43c9fd0719c3", func := "burnish/burnishlaw05.MergeCosts", spec := "mergeCosts", unfollowed := true, recurses := true, apart := false, narrowed := true }
def MergeCostsUptoSaid : Prop := mergeCostsUptoRow.holds Try.pinned (OpenSpec.upto mergeCostsSpec)

/-- 'burnishlaw06.InflateBases', WHERE WHAT IT READS IS OF BULK AT MOST 1048576: true; the input reads as it did. -/
def inflateBasesUptoRow : OpenClaim := { program := "ytnlhneoiofijeaa", sum := "d607671a764f0b9e2eabc57be3d1daab06ab6b45b905b8dc6d1b43c9fd0719c3", func := "burnish/burnishlaw06.InflateBases", spec := "inflateBases", apart := false, narrowed := true }
def InflateBasesUptoSaid : Prop := inflateBasesUptoRow.holds Try.pinned (OpenSpec.upto inflateBasesSpec)

/-- 'burnishlaw06.InflateExpands', WHERE WHAT IT READS IS OF BULK AT MOST 1048576: true; the input reads as it did. -/
def inflateExpandsUptoRow : OpenClaim := { program := "ytnlhneoiofijeaa", sum := "d607671a764f0b9e2eabc57be3d1daab06ab6b45b905b8dc6d1b43c9fd0719c3", func := "burnish/burnishlaw06.InflateExpands", spec := "inflateExpands", apart := false, narrowed := true }
def InflateExpandsUptoSaid : Prop := inflateExpandsUptoRow.holds Try.pinned (OpenSpec.upto inflateExpandsSpec)

/-- 'burnishlaw10.BlockRuns', WHERE WHAT IT READS IS OF BULK AT MOST 1048576: true; the input reads as it did. -/
def blockRunsUptoRow : OpenClaim := { program := "ytnlhneoiofijeaa", sum := "d607671a764f0b9e2eabc57be3d1daab06ab6b45b905b8dc6d1b43c9fd0719c3", func := "burnish/burnishlaw10.BlockRuns", spec := "blockRuns", unfollowed := true, recurses := true, apart := false, narrowed := true }
def BlockRunsUptoSaid : Prop := blockRunsUptoRow.holds Try.pinned (OpenSpec.upto blockRunsSpec)

/-- 'burnishlaw07.ZlibWraps', WHERE WHAT IT READS IS OF BULK AT MOST 1048576: true; the input reads as it did. -/
def zlibWrapsUptoRow : OpenClaim := { program := "ytnlhneoiofijeaa", sum := "d607671a764f0b9e2eabc57be3d1daab06ab6b45b905b8dc6d1b43c9fd0719c3", func := "burnish/burnishlaw07.ZlibWraps", spec := "zlibWraps", apart := false, narrowed := true }
def ZlibWrapsUptoSaid : Prop := zlibWrapsUptoRow.holds Try.pinned (OpenSpec.upto zlibWrapsSpec)

/-- 'burnishlaw10.BlockUnruns', WHERE WHAT IT READS IS OF BULK AT MOST 1048576: true; the input reads as it did. -/
def blockUnrunsUptoRow : OpenClaim := { program := "ytnlhneoiofijeaa", sum := "d607671a764f0b9e2eabc57be3d1daab06ab6b45b905b8dc6d1b43c9fd0719c3", func := "burnish/burnishlaw10.BlockUnruns", spec := "blockUnruns", apart := false, narrowed := true }
def BlockUnrunsUptoSaid : Prop := blockUnrunsUptoRow.holds Try.pinned (OpenSpec.upto blockUnrunsSpec)

/-- 'burnishlaw17.RasterPixels', WHERE WHAT IT READS IS OF BULK AT MOST 1048576: true; the input reads as it did. -/
def rasterPixelsUptoRow : OpenClaim := { program := "ytnlhneoiofijeaa", sum := "d607671a764f0b9e2eabc57be3d1daab06ab6b45b905b8dc6d1b43c9fd0719c3", func := "burnish/burnishlaw17.RasterPixels", spec := "rasterPixels", apart := false, narrowed := true }
def RasterPixelsUptoSaid : Prop := rasterPixelsUptoRow.holds Try.pinned (OpenSpec.upto rasterPixelsSpec)

end Rows
end Go.Proofs.Ytnlhneoiofijeaa
