/-
  Wishes: burnishlaw02.value, is and wishes; wish.Find.
-/
import Derived.Test.YtnlhneoiofijeaaOwn
import Derived.BigRegion
import Derived.Deep.RegionLaw
namespace Go.Proofs.Ytnlhneoiofijeaa
open Go.RowKit

/-- a wish of the document's: name, kind, number, text, truth -/
structure Wi where
  nm : ByteArray
  kind : Int
  n : Int
  s : ByteArray
  b : Bool
def encWi (w : Wi) : List Value := [.string w.nm, .int .i64 w.kind, .int .i64 w.n, .string w.s, .bool w.b]
def valv (w : Wi) : Value := if w.kind = 1 then .iface 3 (.int .i64 w.n) else if w.kind = 2 then .iface 9 (.string w.s) else if w.kind = 3 then .iface 4 (.bool w.b) else .iface 21 (.int .i32 7)
def encAw (w : Wi) : List Value := [.string w.nm, valv w]

theorem value_any (w : Wi) (W : World) : Calls Try.prog 22 #[.agg #[.string w.nm, .int .i64 w.kind, .int .i64 w.n, .string w.s, .bool w.b]] W fun e w' => e = .returned (valv w) ∧ Below W.heap.size W w' := by
  obtain ⟨nm, kind, n, s, b⟩ := w
  unfold valv
  simp only
  by_cases h1 : kind = 1
  · subst h1
    go_enter Try.func22, Try.ntmps22
    go_wp2
    go_ret
    exact ⟨rfl, (Below.refl _ _).alloc (Nat.le_refl _) _⟩
  · have e1 : (kind == 1) = false := by rw [beq_eq_false_iff_ne]; exact h1
    rw [if_neg h1]
    by_cases h2 : kind = 2
    · subst h2
      clear h1 e1
      go_enter Try.func22, Try.ntmps22
      go_wp2
      go_ret
      exact ⟨rfl, (Below.refl _ _).alloc (Nat.le_refl _) _⟩
    · have e2 : (kind == 2) = false := by rw [beq_eq_false_iff_ne]; exact h2
      rw [if_neg h2]
      by_cases h3 : kind = 3
      · subst h3
        clear h1 e1 h2 e2
        go_enter Try.func22, Try.ntmps22
        go_wp2
        go_ret
        exact ⟨rfl, (Below.refl _ _).alloc (Nat.le_refl _) _⟩
      · have e3 : (kind == 3) = false := by rw [beq_eq_false_iff_ne]; exact h3
        rw [if_neg h3]
        clear h1 h2 h3
        go_enter Try.func22, Try.ntmps22
        go_wp2
        go_ret
        exact ⟨rfl, (Below.refl _ _).alloc (Nat.le_refl _) _⟩

/-- is: a value says what its own wish does -/
theorem is_own (w : Wi) (hk : w.kind = 1 ∨ w.kind = 2 ∨ w.kind = 3) (W : World) : Calls Try.prog 15 #[valv w, .agg #[.string w.nm, .int .i64 w.kind, .int .i64 w.n, .string w.s, .bool w.b]] W fun e w' => e = .returned (.bool true) ∧ Below W.heap.size W w' := by
  obtain ⟨nm, kind, n, s, b⟩ := w
  simp only at hk
  rcases hk with rfl | rfl | rfl
  · have a1 : ∀ w : World, (Instr.typeAssert (.iface 3 (.int .i64 n)) 23 3 true).run Try.prog w = .ok (.tuple #[.int .i64 n, .bool true]) w := fun _ => by kernel_rfl
    have a2 : ∀ w : World, (Instr.typeAssert (.iface 3 (.int .i64 n)) 23 9 true).run Try.prog w = .ok (.tuple #[.string ByteArray.empty, .bool false]) w := fun _ => by kernel_rfl
    have a3 : ∀ w : World, (Instr.typeAssert (.iface 3 (.int .i64 n)) 23 4 true).run Try.prog w = .ok (.tuple #[.bool false, .bool false]) w := fun _ => by kernel_rfl
    show Calls _ _ #[.iface 3 (.int .i64 n), _] _ _
    go_enter Try.func15, Try.ntmps15
    go_wp2
    go_ret
    exact ⟨ret_bool (by first | rfl | simp), (Below.refl _ _).alloc (Nat.le_refl _) _⟩
  · have a1 : ∀ w : World, (Instr.typeAssert (.iface 9 (.string s)) 23 3 true).run Try.prog w = .ok (.tuple #[.int .i64 0, .bool false]) w := fun _ => by kernel_rfl
    have a2 : ∀ w : World, (Instr.typeAssert (.iface 9 (.string s)) 23 9 true).run Try.prog w = .ok (.tuple #[.string s, .bool true]) w := fun _ => by kernel_rfl
    have a3 : ∀ w : World, (Instr.typeAssert (.iface 9 (.string s)) 23 4 true).run Try.prog w = .ok (.tuple #[.bool false, .bool false]) w := fun _ => by kernel_rfl
    show Calls _ _ #[.iface 9 (.string s), _] _ _
    go_enter Try.func15, Try.ntmps15
    go_wp2
    go_ret
    exact ⟨ret_bool (by first | rfl | simp), (Below.refl _ _).alloc (Nat.le_refl _) _⟩
  · have a1 : ∀ w : World, (Instr.typeAssert (.iface 4 (.bool b)) 23 3 true).run Try.prog w = .ok (.tuple #[.int .i64 0, .bool false]) w := fun _ => by kernel_rfl
    have a2 : ∀ w : World, (Instr.typeAssert (.iface 4 (.bool b)) 23 9 true).run Try.prog w = .ok (.tuple #[.string ByteArray.empty, .bool false]) w := fun _ => by kernel_rfl
    have a3 : ∀ w : World, (Instr.typeAssert (.iface 4 (.bool b)) 23 4 true).run Try.prog w = .ok (.tuple #[.bool b, .bool true]) w := fun _ => by kernel_rfl
    show Calls _ _ #[.iface 4 (.bool b), _] _ _
    go_enter Try.func15, Try.ntmps15
    go_wp2
    go_ret
    exact ⟨ret_bool (by first | rfl | simp), (Below.refl _ _).alloc (Nat.le_refl _) _⟩

end Go.Proofs.Ytnlhneoiofijeaa
