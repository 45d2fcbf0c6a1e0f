/-
  Small functions: burnishnum.Num and Is (an error as its number), png.within. Each as what it returns for every input.
-/
import Derived.Test.YtbpdkpphhjmalaaBase
import Derived.WalkLawsBesides
import Derived.WalkSpells
import Derived.Deep.QuietTactic
import Derived.BigQuiet
import Derived.Outline
namespace Go.Proofs.Ytbpdkpphhjmalaa
open Go.RowKit

theorem num_nil (w : World) : Calls Try.prog 73 #[.nilIface] w fun e w' => e = .returned (.int .i64 0) ∧ w = w' := by
  go_enter Try.func73, Try.ntmps73
  go_wp2
  go_ret
  exact ⟨rfl, rfl⟩

set_option maxRecDepth 100000 in
theorem num_no (n : Int) (hn : 1 ≤ n) (w : World) : Calls Try.prog 73 #[.iface 56 (.int .i64 n)] w fun e w' => e = .returned (.int .i64 n) ∧ w = w' := by
  have h0 : (n == 0) = false := by simp; omega
  have ta : ∀ w : World, (Instr.typeAssert (.iface 56 (.int .i64 n)) 52 56 true).run Try.prog w = .ok (.tuple #[.int .i64 n, .bool true]) w := fun _ => by kernel_rfl
  go_enter Try.func73, Try.ntmps73
  go_wp2
  go_ret
  exact ⟨rfl, rfl⟩

theorem is_nil (k : Int) (w : World) : Calls Try.prog 32 #[.nilIface, .int .i64 k] w fun e w' => e = .returned (.bool (0 == k)) ∧ w = w' := by
  go_enter Try.func32, Try.ntmps32
  go_wp2_with (go_at_call 73; refine (num_nil _).mono ?_; rintro e w' ⟨rfl, rfl⟩)
  go_ret
  exact ⟨rfl, rfl⟩

theorem is_no (n k : Int) (hn : 1 ≤ n) (w : World) : Calls Try.prog 32 #[.iface 56 (.int .i64 n), .int .i64 k] w fun e w' => e = .returned (.bool (n == k)) ∧ w = w' := by
  go_enter Try.func32, Try.ntmps32
  go_wp2_with (go_at_call 73; refine (num_no n hn _).mono ?_; rintro e w' ⟨rfl, rfl⟩)
  go_ret
  exact ⟨rfl, rfl⟩

end Go.Proofs.Ytbpdkpphhjmalaa
