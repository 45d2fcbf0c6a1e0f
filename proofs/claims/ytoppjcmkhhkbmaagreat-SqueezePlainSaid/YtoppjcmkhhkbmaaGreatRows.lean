/-
  No cell of these rows narrows 'for every input' (looked for: loops, veiled, ifaces, maps, wideKeys, modest, calm, conditions, laid).
  DERIVED. THE GIVEN ROWS OF THIS SEAT. 6 by the template 'for every input the law returns true; each argument reads behind the call as it read before'; 0 by the template 'total and deterministic' (their statements: YtoppjcmkhhkbmaaGreatTotals.lean).
  GIVEN WITH THE SEED: the statements are not yours to turn. If you find one false, say at which input.
  Laid BY PROGRAM, IN A SANDBOX (cutbox-rows.mjs): the forced cells as the released guide's own fill.sh prints them over the translation 1fd44cf2a49827ae… (all of the seat's roots in one cut). By AI agents, Wed Nov 11 2026. No macro, syntax, notation, axiom, sorry.
-/
import Derived.Test.YtoppjcmkhhkbmaaGreatChecked
import GoSem.Claim
import GoSem.ClaimJoined
import GoSem.ClaimMapViews
import Derived.JoinedTies
import Derived.KernelRfl
namespace Go.Proofs.YtoppjcmkhhkbmaaGreat
/- THE CELL 'sum', in the pinned program and in every row, IS THE sha256 OF THE DUMP (.gsa) THAT YtoppjcmkhhkbmaaGreatProg.lean LOADS. Nothing in Lean hashes anything: it is a label: what it is worth is what the hold of that sum in a sandbox is worth. -/
noncomputable def Tryz.pinned : Pinned := { name := "ytoppjcmkhhkbmaagreat", sum := "1fd44cf2a49827ae736769d0fa79b12fd76d8a50646e1904bac67ef898d64f57", checked := Tryz.checked }
namespace Rows
def none {H : Type} : Left H := { results := [], args := [] }

/-- 'burnishlaw11.SqueezePlain': WHATEVER THE INPUT: true; the input reads as it did. -/
def squeezePlainSpec : ChangeSpec := { name := "squeezePlain", fn := fun _ => fun
  | [d] => { results := [.lit (.bool true)], args := [d] }
  | _ => none }
def squeezePlainRow : OpenClaim := { program := "ytoppjcmkhhkbmaagreat", sum := "1fd44cf2a49827ae736769d0fa79b12fd76d8a50646e1904bac67ef898d64f57", func := "burnish/burnishlaw11.SqueezePlain", spec := "squeezePlain", unfollowed := true, recurses := true, plainKeys := false, apart := false }
def SqueezePlainSaid : Prop := squeezePlainRow.holds Tryz.pinned (OpenSpec.ofChange squeezePlainSpec)

/-- ITS FALSE NEIGHBOUR: 'it returns false'. Refute it at one input. -/
def squeezePlainWrong : ChangeSpec := { name := "squeezePlain", fn := fun _ => fun
  | [d] => { results := [.lit (.bool false)], args := [d] }
  | _ => none }
def SqueezePlainWrongFalsely : Prop := squeezePlainRow.holds Tryz.pinned (OpenSpec.ofChange squeezePlainWrong)

/-- 'burnishlaw11.SqueezeBack': WHATEVER THE INPUT: true; the input reads as it did. -/
def squeezeBackSpec : ChangeSpec := { name := "squeezeBack", fn := fun _ => fun
  | [d1, d2] => { results := [.lit (.bool true)], args := [d1, d2] }
  | _ => none }
def squeezeBackRow : OpenClaim := { program := "ytoppjcmkhhkbmaagreat", sum := "1fd44cf2a49827ae736769d0fa79b12fd76d8a50646e1904bac67ef898d64f57", func := "burnish/burnishlaw11.SqueezeBack", spec := "squeezeBack", unfollowed := true, recurses := true, plainKeys := false, apart := false }
def SqueezeBackSaid : Prop := squeezeBackRow.holds Tryz.pinned (OpenSpec.ofChange squeezeBackSpec)

/-- ITS FALSE NEIGHBOUR: 'it returns false'. Refute it at one input. -/
def squeezeBackWrong : ChangeSpec := { name := "squeezeBack", fn := fun _ => fun
  | [d1, d2] => { results := [.lit (.bool false)], args := [d1, d2] }
  | _ => none }
def SqueezeBackWrongFalsely : Prop := squeezeBackRow.holds Tryz.pinned (OpenSpec.ofChange squeezeBackWrong)

/-- 'burnishlaw11.SqueezeLess': WHATEVER THE INPUT: true; the input reads as it did. -/
def squeezeLessSpec : ChangeSpec := { name := "squeezeLess", fn := fun _ => fun
  | [d1, d2] => { results := [.lit (.bool true)], args := [d1, d2] }
  | _ => none }
def squeezeLessRow : OpenClaim := { program := "ytoppjcmkhhkbmaagreat", sum := "1fd44cf2a49827ae736769d0fa79b12fd76d8a50646e1904bac67ef898d64f57", func := "burnish/burnishlaw11.SqueezeLess", spec := "squeezeLess", unfollowed := true, recurses := true, plainKeys := false, apart := false }
def SqueezeLessSaid : Prop := squeezeLessRow.holds Tryz.pinned (OpenSpec.ofChange squeezeLessSpec)

/-- ITS FALSE NEIGHBOUR: 'it returns false'. Refute it at one input. -/
def squeezeLessWrong : ChangeSpec := { name := "squeezeLess", fn := fun _ => fun
  | [d1, d2] => { results := [.lit (.bool false)], args := [d1, d2] }
  | _ => none }
def SqueezeLessWrongFalsely : Prop := squeezeLessRow.holds Tryz.pinned (OpenSpec.ofChange squeezeLessWrong)

/-- 'burnishlaw11.SqueezeSplits': WHATEVER THE INPUT: true; the input reads as it did. -/
def squeezeSplitsSpec : ChangeSpec := { name := "squeezeSplits", fn := fun _ => fun
  | [d1, d2, d3] => { results := [.lit (.bool true)], args := [d1, d2, d3] }
  | _ => none }
def squeezeSplitsRow : OpenClaim := { program := "ytoppjcmkhhkbmaagreat", sum := "1fd44cf2a49827ae736769d0fa79b12fd76d8a50646e1904bac67ef898d64f57", func := "burnish/burnishlaw11.SqueezeSplits", spec := "squeezeSplits", unfollowed := true, recurses := true, plainKeys := false, apart := false }
def SqueezeSplitsSaid : Prop := squeezeSplitsRow.holds Tryz.pinned (OpenSpec.ofChange squeezeSplitsSpec)

/-- ITS FALSE NEIGHBOUR: 'it returns false'. Refute it at one input. -/
def squeezeSplitsWrong : ChangeSpec := { name := "squeezeSplits", fn := fun _ => fun
  | [d1, d2, d3] => { results := [.lit (.bool false)], args := [d1, d2, d3] }
  | _ => none }
def SqueezeSplitsWrongFalsely : Prop := squeezeSplitsRow.holds Tryz.pinned (OpenSpec.ofChange squeezeSplitsWrong)

/-- 'burnishlaw11.SqueezeWrapped': WHATEVER THE INPUT: true; the input reads as it did. -/
def squeezeWrappedSpec : ChangeSpec := { name := "squeezeWrapped", fn := fun _ => fun
  | [d1, d2] => { results := [.lit (.bool true)], args := [d1, d2] }
  | _ => none }
def squeezeWrappedRow : OpenClaim := { program := "ytoppjcmkhhkbmaagreat", sum := "1fd44cf2a49827ae736769d0fa79b12fd76d8a50646e1904bac67ef898d64f57", func := "burnish/burnishlaw11.SqueezeWrapped", spec := "squeezeWrapped", unfollowed := true, recurses := true, plainKeys := false, apart := false }
def SqueezeWrappedSaid : Prop := squeezeWrappedRow.holds Tryz.pinned (OpenSpec.ofChange squeezeWrappedSpec)

/-- ITS FALSE NEIGHBOUR: 'it returns false'. Refute it at one input. -/
def squeezeWrappedWrong : ChangeSpec := { name := "squeezeWrapped", fn := fun _ => fun
  | [d1, d2] => { results := [.lit (.bool false)], args := [d1, d2] }
  | _ => none }
def SqueezeWrappedWrongFalsely : Prop := squeezeWrappedRow.holds Tryz.pinned (OpenSpec.ofChange squeezeWrappedWrong)

/-- 'burnishlaw11.SqueezeLimits': WHATEVER THE INPUT: true; the input reads as it did. -/
def squeezeLimitsSpec : ChangeSpec := { name := "squeezeLimits", fn := fun _ => fun
  | [d1, d2] => { results := [.lit (.bool true)], args := [d1, d2] }
  | _ => none }
def squeezeLimitsRow : OpenClaim := { program := "ytoppjcmkhhkbmaagreat", sum := "1fd44cf2a49827ae736769d0fa79b12fd76d8a50646e1904bac67ef898d64f57", func := "burnish/burnishlaw11.SqueezeLimits", spec := "squeezeLimits", unfollowed := true, recurses := true, plainKeys := false, apart := false }
def SqueezeLimitsSaid : Prop := squeezeLimitsRow.holds Tryz.pinned (OpenSpec.ofChange squeezeLimitsSpec)

/-- ITS FALSE NEIGHBOUR: 'it returns false'. Refute it at one input. -/
def squeezeLimitsWrong : ChangeSpec := { name := "squeezeLimits", fn := fun _ => fun
  | [d1, d2] => { results := [.lit (.bool false)], args := [d1, d2] }
  | _ => none }
def SqueezeLimitsWrongFalsely : Prop := squeezeLimitsRow.holds Tryz.pinned (OpenSpec.ofChange squeezeLimitsWrong)

/- THE SECOND FORM. 'bulk': how many values and letters a reading holds, each counted each time it is reached (what is shared counts as often as it is met; a slice's spare places count too). A statement '..UptoSaid' is the law's where the arguments, and the package variables that the reading takes, are together of bulk at most 1048576: NARROWER than '..Said'. Prove '..Said' where nothing that the law and all that it calls make is longer than what came in: it says more and counts as full. Else prove '..UptoSaid'. A law counts once. -/
mutual
def uptoBulk {H : Type} : DataW H → Nat
  | .lit (.string bytes) => bytes.length + 1
  | .lit _ => 1
  | .nil => 1
  | .ptr d => uptoBulk d + 1
  | .slice elems spare => uptoBulkAll elems + uptoBulkAll spare + 1
  | .agg parts => uptoBulkAll parts + 1
  | .iface _ d => uptoBulk d + 1
  | .map entries => uptoBulkEntries entries + 1
  | .held _ => 1
def uptoBulkAll {H : Type} : List (DataW H) → Nat
  | [] => 0
  | d :: r => uptoBulk d + uptoBulkAll r
def uptoBulkEntries {H : Type} : List (Lit × DataW H) → Nat
  | [] => 0
  | x :: r => uptoBulkEntry x + uptoBulkEntries r
def uptoBulkEntry {H : Type} : Lit × DataW H → Nat
  | (.string bytes, d) => bytes.length + uptoBulk d + 1
  | (_, d) => uptoBulk d + 1
 end
def uptoSmall : (H : Type) → List (DataW H) → Bool := fun _ ds => decide (uptoBulkAll ds ≤ 1048576)
def OpenSpec.upto (s : _root_.Go.ChangeSpec) : _root_.Go.OpenSpec := { _root_.Go.OpenSpec.ofChange s with cond := some uptoSmall }

/-- 'burnishlaw11.SqueezePlain', WHERE WHAT IT READS IS OF BULK AT MOST 1048576: true; the input reads as it did. -/
def squeezePlainUptoRow : OpenClaim := { program := "ytoppjcmkhhkbmaagreat", sum := "1fd44cf2a49827ae736769d0fa79b12fd76d8a50646e1904bac67ef898d64f57", func := "burnish/burnishlaw11.SqueezePlain", spec := "squeezePlain", unfollowed := true, recurses := true, plainKeys := false, apart := false, narrowed := true }
def SqueezePlainUptoSaid : Prop := squeezePlainUptoRow.holds Tryz.pinned (OpenSpec.upto squeezePlainSpec)

/-- 'burnishlaw11.SqueezeBack', WHERE WHAT IT READS IS OF BULK AT MOST 1048576: true; the input reads as it did. -/
def squeezeBackUptoRow : OpenClaim := { program := "ytoppjcmkhhkbmaagreat", sum := "1fd44cf2a49827ae736769d0fa79b12fd76d8a50646e1904bac67ef898d64f57", func := "burnish/burnishlaw11.SqueezeBack", spec := "squeezeBack", unfollowed := true, recurses := true, plainKeys := false, apart := false, narrowed := true }
def SqueezeBackUptoSaid : Prop := squeezeBackUptoRow.holds Tryz.pinned (OpenSpec.upto squeezeBackSpec)

/-- 'burnishlaw11.SqueezeLess', WHERE WHAT IT READS IS OF BULK AT MOST 1048576: true; the input reads as it did. -/
def squeezeLessUptoRow : OpenClaim := { program := "ytoppjcmkhhkbmaagreat", sum := "1fd44cf2a49827ae736769d0fa79b12fd76d8a50646e1904bac67ef898d64f57", func := "burnish/burnishlaw11.SqueezeLess", spec := "squeezeLess", unfollowed := true, recurses := true, plainKeys := false, apart := false, narrowed := true }
def SqueezeLessUptoSaid : Prop := squeezeLessUptoRow.holds Tryz.pinned (OpenSpec.upto squeezeLessSpec)

/-- 'burnishlaw11.SqueezeSplits', WHERE WHAT IT READS IS OF BULK AT MOST 1048576: true; the input reads as it did. -/
def squeezeSplitsUptoRow : OpenClaim := { program := "ytoppjcmkhhkbmaagreat", sum := "1fd44cf2a49827ae736769d0fa79b12fd76d8a50646e1904bac67ef898d64f57", func := "burnish/burnishlaw11.SqueezeSplits", spec := "squeezeSplits", unfollowed := true, recurses := true, plainKeys := false, apart := false, narrowed := true }
def SqueezeSplitsUptoSaid : Prop := squeezeSplitsUptoRow.holds Tryz.pinned (OpenSpec.upto squeezeSplitsSpec)

/-- 'burnishlaw11.SqueezeWrapped', WHERE WHAT IT READS IS OF BULK AT MOST 1048576: true; the input reads as it did. -/
def squeezeWrappedUptoRow : OpenClaim := { program := "ytoppjcmkhhkbmaagreat", sum := "1fd44cf2a49827ae736769d0fa79b12fd76d8a50646e1904bac67ef898d64f57", func := "burnish/burnishlaw11.SqueezeWrapped", spec := "squeezeWrapped", unfollowed := true, recurses := true, plainKeys := false, apart := false, narrowed := true }
def SqueezeWrappedUptoSaid : Prop := squeezeWrappedUptoRow.holds Tryz.pinned (OpenSpec.upto squeezeWrappedSpec)

/-- 'burnishlaw11.SqueezeLimits', WHERE WHAT IT READS IS OF BULK AT MOST 1048576: true; the input reads as it did. -/
def squeezeLimitsUptoRow : OpenClaim := { program := "ytoppjcmkhhkbmaagreat", sum := "1fd44cf2a49827ae736769d0fa79b12fd76d8a50646e1904bac67ef898d64f57", func := "burnish/burnishlaw11.SqueezeLimits", spec := "squeezeLimits", unfollowed := true, recurses := true, plainKeys := false, apart := false, narrowed := true }
def SqueezeLimitsUptoSaid : Prop := squeezeLimitsUptoRow.holds Tryz.pinned (OpenSpec.upto squeezeLimitsSpec)

end Rows
end Go.Proofs.YtoppjcmkhhkbmaaGreat
