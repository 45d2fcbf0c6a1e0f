/-
  (*canon.Book).Read: a symbol by the rows of a book.
-/
import Derived.Test.YthhllollhjpheaaCanA
import Derived.Test.YthhllollhjpheaaRdr
namespace Go.Proofs.Ythhllollhjpheaa
open Go.RowKit

def FN (l : List Int) (n : Nat) : Nat := (fstC (codesL l) (selN l (ordL l) n)).toNat
theorem selN_rowOf (l : List Int) (n : Nat) : selN l (ordL l) n = Cd.rowOf (slOf l) n := by
  unfold selN Cd.rowOf slOf
  rw [List.filter_map, List.map_map]
  have e : ((fun x : Nat × Nat => x.1) ∘ fun s => (s, lenOf l s)) = id := rfl
  rw [e, List.map_id]
  refine List.filter_congr fun s _ => ?_
  show (lenOf l s == n) = decide (lenOf l s = n)
  rw [Bool.eq_iff_iff, beq_iff_eq, decide_eq_true_eq]
theorem fst_nat {l : List Int} (hl : lensB l = true) (n : Nat) (h1 : 1 ≤ n) (h16 : n ≤ 16) : fstC (codesL l) (selN l (ordL l) n) = ((FN l n : Nat) : Int) ∧ FN l n ≤ 65536 ∧ (selN l (ordL l) n ≠ [] → FN l n = Cd.low (slOf l) n / Cd.pw n) := by
  have hr : selN l (ordL l) n = rowF l n := (selN_rowOf l n).trans (rowOf_sl l n h1 h16)
  unfold FN
  rw [hr]
  cases e : rowF l n with
  | nil => exact ⟨rfl, by simp [fstC], fun h => absurd rfl h⟩
  | cons s r =>
    have h2 := first_at hl h1 h16 e
    have h3 : Cd.low (slOf l) n ≤ 65536 := by
      have := Cd.low_mono (slOf l) (show n ≤ 17 by omega)
      rw [Cd.low_top (sl_ok hl)] at this
      exact Nat.le_trans this (sl_ok hl).kraft
    have h4 : Cd.low (slOf l) n / Cd.pw n ≤ Cd.low (slOf l) n := Nat.div_le_self _ _
    have e2 : fstC (codesL l) (s :: r) = ((Cd.low (slOf l) n / Cd.pw n : Nat) : Int) := h2
    rw [e2]
    generalize Cd.low (slOf l) n / Cd.pw n = q at *
    exact ⟨by simp, by simp; omega, fun _ => by simp⟩
def btF (L : List Int) (k : Nat) (i : Nat) : Nat := (L.getD (k + i) 0).toNat
theorem btF_le {L : List Int} (h : ∀ x ∈ L, isBit x) (k i : Nat) : btF L k i ≤ 1 ∧ ((btF L k i : Nat) : Int) = L.getD (k + i) 0 := by
  unfold btF
  rcases getD_bit h (k + i) with e | e <;> rw [e] <;> exact ⟨by decide, by decide⟩
/-- a symbol read by a book's rows -/
def rdB (l : List Int) (ln cd : Nat) (L : List Int) (k : Nat) (f n c o : Nat) : Cd.Rd := Cd.rdP (FN l) (fun n => selN l (ordL l) n) ln cd (btF L k) (L.length - k) f n c o
theorem below_alloc1 (w : World) (o : Obj) : Below w.heap.size w (w.alloc o) := (Below.refl _ _).alloc (Nat.le_refl _) o
end Go.Proofs.Ythhllollhjpheaa
