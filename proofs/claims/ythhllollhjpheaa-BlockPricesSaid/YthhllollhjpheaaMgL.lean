/-
  burnishlaw05's helpers: alive, used; burnishref04.Free.
-/
import Derived.Test.YthhllollhjpheaaMgF
namespace Go.Proofs.Ythhllollhjpheaa
open Go.RowKit Mg

theorem ex_a : bestLs (itemsOf [1, 1, 2, 4]) 2 4 = [3, 3, 2, 1] := by decide
theorem ex_b : bestLs (itemsOf [1, 1, 2, 4]) 1 4 = [2, 2, 2, 2] := by decide
theorem ex_l : (itemsOf [1, 1, 2, 4]).length = 4 := by decide
/-- the chapter's examples -/
theorem ex_any (A : Option Addr) (c K : Nat) (W : World) (hk : 1 ≤ K ∧ K ≤ 15) (h : RdI W W.heap.size A [1, 1, 2, 4]) :
    Calls Try.prog 64 #[.slice A 4 c, .int .i64 ((K + 1 : Nat) : Int)] W fun e w' => ∃ A' c', e = .returned (.tuple #[.slice A' 4 c', .nilIface]) ∧ w'.ownsRow W.heap.size 3 1 (.slice A' 4 c') 4 (intsV (bestLs (itemsOf [1, 1, 2, 4]) K 4)) ∧ Below W.heap.size W w' :=
  lengths_best A c [1, 1, 2, 4] W K h (by decide) hk.2 (by
    rw [ex_l]
    have := Nat.pow_le_pow_right (n := 2) (by omega) (show 2 ≤ K + 1 by omega)
    exact this)
theorem own_rdi' {w : World} {base n c : Nat} {A : Option Addr} {o : List Int} (h : w.ownsRow base 3 1 (.slice A n c) n (intsV o)) (hn : n = o.length) : RdI w w.heap.size A o := by
  subst hn
  exact own_rdi h
theorem used_stepL (l : List Int) (j : Nat) : (itemsTo l (j + 1)).length = (itemsTo l j).length + if 0 < l.getD j 0 then 1 else 0 := by
  show (if 0 < l.getD j 0 then itemsTo l j ++ [⟨l.getD j 0, [j]⟩] else itemsTo l j).length = _
  split <;> simp
/-- what lengths take up -/
def tk (l : List Int) (s : Nat) : Nat := if 0 < l.getD s 0 then 2 ^ (16 - (l.getD s 0).toNat) else 0
theorem tk_le (l : List Int) (s : Nat) : tk l s ≤ 65536 := by
  unfold tk
  split
  · exact pow_le16 (by omega)
  · omega
theorem SN_tk_le (l : List Int) : ∀ n, SN n (tk l) ≤ n * 65536
  | 0 => Nat.le_refl _
  | n + 1 => by
    have := SN_tk_le l n
    have := tk_le l n
    simp only [SN]
    omega
theorem half_powL {k : Nat} (h : k < 16) : 2 ^ (16 - k) = 2 * 2 ^ (16 - (k + 1)) := by
  rw [show 16 - k = 16 - (k + 1) + 1 by omega, Nat.pow_succ, Nat.mul_comm]
end Go.Proofs.Ythhllollhjpheaa
