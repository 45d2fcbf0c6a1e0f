/-
  What unpacking has in memory: the work, its reader, its tokens, its books; what turns nothing of it.
-/
import Derived.Test.YthhllollhjpheaaInfM
namespace Go.Proofs.Ythhllollhjpheaa
open Go.RowKit
/-- the work's cells -/
def workCs (gr : Nat) (most size : Int) (T : Option Addr) (n tc : Nat) (lp dp : Value) : Array Value := #[.pointer (some ⟨gr, 0, none⟩), .int .i64 most, .int .i64 size, .slice T n tc, lp, dp]
/-- what the unpacking is bound to -/
structure Ev where
  B : Nat
  W0 : World
  g : Nat
  gr : Nat
  A : Option Addr
  c : Nat
  bl : List Int
  most : Int
  xb : List (Nat × Array Value)
/-- what stays where it was -/
def Frm (v : Ev) (w : World) : Prop := Below v.B v.W0 w ∧ ∀ x ∈ v.xb, Blk w x.1 3 x.2
/-- a block of ints more that stays -/
def Ev.more (v : Ev) (x : Nat × Array Value) : Ev := { v with xb := x :: v.xb }
end Go.Proofs.Ythhllollhjpheaa
