/-
  No cell of these rows narrows 'for every input' (looked for: loops, veiled, ifaces, maps, wideKeys, modest, calm, conditions, laid).
  DERIVED. THE GIVEN ROWS OF THIS SEAT. 8 by the template 'for every input the law returns true; each argument reads behind the call as it read before'; 0 by the template 'total and deterministic' (their statements: YtegmbjkpjglgpaaTotals.lean).
  GIVEN WITH THE SEED: the statements are not yours to turn. If you find one false, say at which input.
  Laid BY PROGRAM, IN A SANDBOX (cutbox-rows.mjs): the forced cells as the released guide's own fill.sh prints them over the translation 2bb5b7c3f642baff… (all of the seat's roots in one cut). By AI agents, Wed Nov 11 2026. No macro, syntax, notation, axiom, sorry.
-/
import Derived.Test.YtegmbjkpjglgpaaChecked
import GoSem.Claim
import GoSem.ClaimJoined
import GoSem.ClaimMapViews
import Derived.JoinedTies
import Derived.KernelRfl
namespace Go.Proofs.Ytegmbjkpjglgpaa
/- THE CELL 'sum', in the pinned program and in every row, IS THE sha256 OF THE DUMP (.gsa) THAT YtegmbjkpjglgpaaProg.lean LOADS. Nothing in Lean hashes anything: it is a label: what it is worth is what the hold of that sum in a sandbox is worth. -/
noncomputable def Try.pinned : Pinned := { name := "ytegmbjkpjglgpaa", sum := "2bb5b7c3f642baff6e891017ce26399d9abf2dffa878bbd03379742ae66f12e9", checked := Try.checked }
namespace Rows
def none {H : Type} : Left H := { results := [], args := [] }

/-- 'burnishlaw02.WishRunes': WHATEVER THE INPUT: true; the input reads as it did. -/
def wishRunesSpec : ChangeSpec := { name := "wishRunes", fn := fun _ => fun
  | [d1, d2] => { results := [.lit (.bool true)], args := [d1, d2] }
  | _ => none }
def wishRunesRow : OpenClaim := { program := "ytegmbjkpjglgpaa", sum := "2bb5b7c3f642baff6e891017ce26399d9abf2dffa878bbd03379742ae66f12e9", func := "burnish/burnishlaw02.WishRunes", spec := "wishRunes", unfollowed := true, recurses := true, apart := false }
def WishRunesSaid : Prop := wishRunesRow.holds Try.pinned (OpenSpec.ofChange wishRunesSpec)

/-- ITS FALSE NEIGHBOUR: 'it returns false'. Refute it at one input. -/
def wishRunesWrong : ChangeSpec := { name := "wishRunes", fn := fun _ => fun
  | [d1, d2] => { results := [.lit (.bool false)], args := [d1, d2] }
  | _ => none }
def WishRunesWrongFalsely : Prop := wishRunesRow.holds Try.pinned (OpenSpec.ofChange wishRunesWrong)

/-- 'burnishlaw26.RecompOrders': WHATEVER THE INPUT: true; the input reads as it did. -/
def recompOrdersSpec : ChangeSpec := { name := "recompOrders", fn := fun _ => fun
  | [d] => { results := [.lit (.bool true)], args := [d] }
  | _ => none }
def recompOrdersRow : OpenClaim := { program := "ytegmbjkpjglgpaa", sum := "2bb5b7c3f642baff6e891017ce26399d9abf2dffa878bbd03379742ae66f12e9", func := "burnish/burnishlaw26.RecompOrders", spec := "recompOrders", unfollowed := true, recurses := true, apart := false }
def RecompOrdersSaid : Prop := recompOrdersRow.holds Try.pinned (OpenSpec.ofChange recompOrdersSpec)

/-- ITS FALSE NEIGHBOUR: 'it returns false'. Refute it at one input. -/
def recompOrdersWrong : ChangeSpec := { name := "recompOrders", fn := fun _ => fun
  | [d] => { results := [.lit (.bool false)], args := [d] }
  | _ => none }
def RecompOrdersWrongFalsely : Prop := recompOrdersRow.holds Try.pinned (OpenSpec.ofChange recompOrdersWrong)

/-- 'burnishlaw06.InflateBytes': WHATEVER THE INPUT: true; the input reads as it did. -/
def inflateBytesSpec : ChangeSpec := { name := "inflateBytes", fn := fun _ => fun
  | [d1, d2] => { results := [.lit (.bool true)], args := [d1, d2] }
  | _ => none }
def inflateBytesRow : OpenClaim := { program := "ytegmbjkpjglgpaa", sum := "2bb5b7c3f642baff6e891017ce26399d9abf2dffa878bbd03379742ae66f12e9", func := "burnish/burnishlaw06.InflateBytes", spec := "inflateBytes", apart := false }
def InflateBytesSaid : Prop := inflateBytesRow.holds Try.pinned (OpenSpec.ofChange inflateBytesSpec)

/-- ITS FALSE NEIGHBOUR: 'it returns false'. Refute it at one input. -/
def inflateBytesWrong : ChangeSpec := { name := "inflateBytes", fn := fun _ => fun
  | [d1, d2] => { results := [.lit (.bool false)], args := [d1, d2] }
  | _ => none }
def InflateBytesWrongFalsely : Prop := inflateBytesRow.holds Try.pinned (OpenSpec.ofChange inflateBytesWrong)

/-- 'burnishlaw06.InflateStored': WHATEVER THE INPUT: true; the input reads as it did. -/
def inflateStoredSpec : ChangeSpec := { name := "inflateStored", fn := fun _ => fun
  | [d1, d2] => { results := [.lit (.bool true)], args := [d1, d2] }
  | _ => none }
def inflateStoredRow : OpenClaim := { program := "ytegmbjkpjglgpaa", sum := "2bb5b7c3f642baff6e891017ce26399d9abf2dffa878bbd03379742ae66f12e9", func := "burnish/burnishlaw06.InflateStored", spec := "inflateStored", apart := false }
def InflateStoredSaid : Prop := inflateStoredRow.holds Try.pinned (OpenSpec.ofChange inflateStoredSpec)

/-- ITS FALSE NEIGHBOUR: 'it returns false'. Refute it at one input. -/
def inflateStoredWrong : ChangeSpec := { name := "inflateStored", fn := fun _ => fun
  | [d1, d2] => { results := [.lit (.bool false)], args := [d1, d2] }
  | _ => none }
def InflateStoredWrongFalsely : Prop := inflateStoredRow.holds Try.pinned (OpenSpec.ofChange inflateStoredWrong)

/-- 'burnishlaw06.InflateTokens': WHATEVER THE INPUT: true; the input reads as it did. -/
def inflateTokensSpec : ChangeSpec := { name := "inflateTokens", fn := fun _ => fun
  | [d1, d2] => { results := [.lit (.bool true)], args := [d1, d2] }
  | _ => none }
def inflateTokensRow : OpenClaim := { program := "ytegmbjkpjglgpaa", sum := "2bb5b7c3f642baff6e891017ce26399d9abf2dffa878bbd03379742ae66f12e9", func := "burnish/burnishlaw06.InflateTokens", spec := "inflateTokens", apart := false }
def InflateTokensSaid : Prop := inflateTokensRow.holds Try.pinned (OpenSpec.ofChange inflateTokensSpec)

/-- ITS FALSE NEIGHBOUR: 'it returns false'. Refute it at one input. -/
def inflateTokensWrong : ChangeSpec := { name := "inflateTokens", fn := fun _ => fun
  | [d1, d2] => { results := [.lit (.bool false)], args := [d1, d2] }
  | _ => none }
def InflateTokensWrongFalsely : Prop := inflateTokensRow.holds Try.pinned (OpenSpec.ofChange inflateTokensWrong)

/-- 'burnishlaw06.InflateBehind': WHATEVER THE INPUT: true; the input reads as it did. -/
def inflateBehindSpec : ChangeSpec := { name := "inflateBehind", fn := fun _ => fun
  | [d1, d2, d3] => { results := [.lit (.bool true)], args := [d1, d2, d3] }
  | _ => none }
def inflateBehindRow : OpenClaim := { program := "ytegmbjkpjglgpaa", sum := "2bb5b7c3f642baff6e891017ce26399d9abf2dffa878bbd03379742ae66f12e9", func := "burnish/burnishlaw06.InflateBehind", spec := "inflateBehind", apart := false }
def InflateBehindSaid : Prop := inflateBehindRow.holds Try.pinned (OpenSpec.ofChange inflateBehindSpec)

/-- ITS FALSE NEIGHBOUR: 'it returns false'. Refute it at one input. -/
def inflateBehindWrong : ChangeSpec := { name := "inflateBehind", fn := fun _ => fun
  | [d1, d2, d3] => { results := [.lit (.bool false)], args := [d1, d2, d3] }
  | _ => none }
def InflateBehindWrongFalsely : Prop := inflateBehindRow.holds Try.pinned (OpenSpec.ofChange inflateBehindWrong)

/-- 'burnishlaw07.ZlibUnwraps': WHATEVER THE INPUT: true; the input reads as it did. -/
def zlibUnwrapsSpec : ChangeSpec := { name := "zlibUnwraps", fn := fun _ => fun
  | [d1, d2] => { results := [.lit (.bool true)], args := [d1, d2] }
  | _ => none }
def zlibUnwrapsRow : OpenClaim := { program := "ytegmbjkpjglgpaa", sum := "2bb5b7c3f642baff6e891017ce26399d9abf2dffa878bbd03379742ae66f12e9", func := "burnish/burnishlaw07.ZlibUnwraps", spec := "zlibUnwraps", unfollowed := true, recurses := true, apart := false }
def ZlibUnwrapsSaid : Prop := zlibUnwrapsRow.holds Try.pinned (OpenSpec.ofChange zlibUnwrapsSpec)

/-- ITS FALSE NEIGHBOUR: 'it returns false'. Refute it at one input. -/
def zlibUnwrapsWrong : ChangeSpec := { name := "zlibUnwraps", fn := fun _ => fun
  | [d1, d2] => { results := [.lit (.bool false)], args := [d1, d2] }
  | _ => none }
def ZlibUnwrapsWrongFalsely : Prop := zlibUnwrapsRow.holds Try.pinned (OpenSpec.ofChange zlibUnwrapsWrong)

/-- 'burnishlaw07.ZlibBack': WHATEVER THE INPUT: true; the input reads as it did. -/
def zlibBackSpec : ChangeSpec := { name := "zlibBack", fn := fun _ => fun
  | [d1, d2, d3] => { results := [.lit (.bool true)], args := [d1, d2, d3] }
  | _ => none }
def zlibBackRow : OpenClaim := { program := "ytegmbjkpjglgpaa", sum := "2bb5b7c3f642baff6e891017ce26399d9abf2dffa878bbd03379742ae66f12e9", func := "burnish/burnishlaw07.ZlibBack", spec := "zlibBack", unfollowed := true, recurses := true, apart := false }
def ZlibBackSaid : Prop := zlibBackRow.holds Try.pinned (OpenSpec.ofChange zlibBackSpec)

/-- ITS FALSE NEIGHBOUR: 'it returns false'. Refute it at one input. -/
def zlibBackWrong : ChangeSpec := { name := "zlibBack", fn := fun _ => fun
  | [d1, d2, d3] => { results := [.lit (.bool false)], args := [d1, d2, d3] }
  | _ => none }
def ZlibBackWrongFalsely : Prop := zlibBackRow.holds Try.pinned (OpenSpec.ofChange zlibBackWrong)

/- THE SECOND FORM. 'bulk': how many values and letters a reading holds, each counted each time it is reached (what is shared counts as often as it is met; a slice's spare places count too). A statement '..UptoSaid' is the law's where the arguments, and the package variables that the reading takes, are together of bulk at most 1048576: NARROWER than '..Said'. Prove '..Said' where nothing that the law and all that it calls make is longer than what came in: it says more and counts as full. Else prove '..UptoSaid'. A law counts once. -/
mutual
def uptoBulk {H : Type} : DataW H → Nat
  | .lit (.string bytes) => bytes.length + 1
  | .lit _ => 1
  | .nil => 1
  | .ptr d => uptoBulk d + 1
  | .slice elems spare => uptoBulkAll elems + uptoBulkAll spare + 1
  | .agg parts => uptoBulkAll parts + 1
  | .iface _ d => uptoBulk d + 1
  | .map entries => uptoBulkEntries entries + 1
  | .held _ => 1
def uptoBulkAll {H : Type} : List (DataW H) → Nat
  | [] => 0
  | d :: r => uptoBulk d + uptoBulkAll r
def uptoBulkEntries {H : Type} : List (Lit × DataW H) → Nat
  | [] => 0
  | x :: r => uptoBulkEntry x + uptoBulkEntries r
def uptoBulkEntry {H : Type} : Lit × DataW H → Nat
  | (.string bytes, d) => bytes.length + uptoBulk d + 1
  | (_, d) => uptoBulk d + 1
 end
def uptoSmall : (H : Type) → List (DataW H) → Bool := fun _ ds => decide (uptoBulkAll ds ≤ 1048576)
def OpenSpec.upto (s : _root_.Go.ChangeSpec) : _root_.Go.OpenSpec := { _root_.Go.OpenSpec.ofChange s with cond := some uptoSmall }

/-- 'burnishlaw02.WishRunes', WHERE WHAT IT READS IS OF BULK AT MOST 1048576: true; the input reads as it did. -/
def wishRunesUptoRow : OpenClaim := { program := "ytegmbjkpjglgpaa", sum := "2bb5b7c3f642baff6e891017ce26399d9abf2dffa878bbd03379742ae66f12e9", func := "burnish/burnishlaw02.WishRunes", spec := "wishRunes", unfollowed := true, recurses := true, apart := false, narrowed := true }
def WishRunesUptoSaid : Prop := wishRunesUptoRow.holds Try.pinned (OpenSpec.upto wishRunesSpec)

/-- 'burnishlaw26.RecompOrders', WHERE WHAT IT READS IS OF BULK AT MOST 1048576: true; the input reads as it did. -/
def recompOrdersUptoRow : OpenClaim := { program := "ytegmbjkpjglgpaa", sum := "2bb5b7c3f642baff6e891017ce26399d9abf2dffa878bbd03379742ae66f12e9", func := "burnish/burnishlaw26.RecompOrders", spec := "recompOrders", unfollowed := true, recurses := true, apart := false, narrowed := true }
def RecompOrdersUptoSaid : Prop := recompOrdersUptoRow.holds Try.pinned (OpenSpec.upto recompOrdersSpec)

/-- 'burnishlaw06.InflateBytes', WHERE WHAT IT READS IS OF BULK AT MOST 1048576: true; the input reads as it did. -/
def inflateBytesUptoRow : OpenClaim := { program := "ytegmbjkpjglgpaa", sum := "2bb5b7c3f642baff6e891017ce26399d9abf2dffa878bbd03379742ae66f12e9", func := "burnish/burnishlaw06.InflateBytes", spec := "inflateBytes", apart := false, narrowed := true }
def InflateBytesUptoSaid : Prop := inflateBytesUptoRow.holds Try.pinned (OpenSpec.upto inflateBytesSpec)

/-- 'burnishlaw06.InflateStored', WHERE WHAT IT READS IS OF BULK AT MOST 1048576: true; the input reads as it did. -/
def inflateStoredUptoRow : OpenClaim := { program := "ytegmbjkpjglgpaa", sum := "2bb5b7c3f642baff6e891017ce26399d9abf2dffa878bbd03379742ae66f12e9", func := "burnish/burnishlaw06.InflateStored", spec := "inflateStored", apart := false, narrowed := true }
def InflateStoredUptoSaid : Prop := inflateStoredUptoRow.holds Try.pinned (OpenSpec.upto inflateStoredSpec)

/-- 'burnishlaw06.InflateTokens', WHERE WHAT IT READS IS OF BULK AT MOST 1048576: true; the input reads as it did. -/
def inflateTokensUptoRow : OpenClaim := { program := "ytegmbjkpjglgpaa", sum := "2bb5b7c3f642baff6e891017ce26399d9abf2dffa878bbd03379742ae66f12e9", func := "burnish/burnishlaw06.InflateTokens", spec := "inflateTokens", apart := false, narrowed := true }
def InflateTokensUptoSaid : Prop := inflateTokensUptoRow.holds Try.pinned (OpenSpec.upto inflateTokensSpec)

/-- 'burnishlaw06.InflateBehind', WHERE WHAT IT READS IS OF BULK AT MOST 1048576: true; the input reads as it did. -/
def inflateBehindUptoRow : OpenClaim := { program := "ytegmbjkpjglgpaa", sum := "2bb5b7c3f642baff6e891017ce26399d9abf2dffa878bbd03379742ae66f12e9", func := "burnish/burnishlaw06.InflateBehind", spec := "inflateBehind", apart := false, narrowed := true }
def InflateBehindUptoSaid : Prop := inflateBehindUptoRow.holds Try.pinned (OpenSpec.upto inflateBehindSpec)

/-- 'burnishlaw07.ZlibUnwraps', WHERE WHAT IT READS IS OF BULK AT MOST 1048576: true; the input reads as it did. -/
def zlibUnwrapsUptoRow : OpenClaim := { program := "ytegmbjkpjglgpaa", sum := "2bb5b7c3f642baff6e891017ce26399d9abf2dffa878bbd03379742ae66f12e9", func := "burnish/burnishlaw07.ZlibUnwraps", spec := "zlibUnwraps", unfollowed := true, recurses := true, apart := false, narrowed := true }
def ZlibUnwrapsUptoSaid : Prop := zlibUnwrapsUptoRow.holds Try.pinned (OpenSpec.upto zlibUnwrapsSpec)

/-- 'burnishlaw07.ZlibBack', WHERE WHAT IT READS IS OF BULK AT MOST 1048576: true; the input reads as it did. -/
def zlibBackUptoRow : OpenClaim := { program := "ytegmbjkpjglgpaa", sum := "2bb5b7c3f642baff6e891017ce26399d9abf2dffa878bbd03379742ae66f12e9", func := "burnish/burnishlaw07.ZlibBack", spec := "zlibBack", unfollowed := true, recurses := true, apart := false, narrowed := true }
def ZlibBackUptoSaid : Prop := zlibBackUptoRow.holds Try.pinned (OpenSpec.upto zlibBackSpec)

end Rows
end Go.Proofs.Ytegmbjkpjglgpaa
