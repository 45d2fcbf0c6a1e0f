/-
  Tokens: their cells.
-/
import Derived.Test.YtbpdkpphhjmalaaOpen
import Derived.Test.YtbpdkpphhjmalaaMem
namespace Go.Proofs.Ytbpdkpphhjmalaa
open Go.RowKit

/-- a token's cells -/
def encTok (t : Int × Int) : List Value := [.int .i64 t.1, .int .i64 t.2]
def okTok (t : Int × Int) : Prop := (Lit.int .i64 t.1).wf = true ∧ (Lit.int .i64 t.2).wf = true

/-- what the walk reads of token j -/
theorem tok_at {w : World} {B : Nat} {A : Option Addr} {l : List (Int × Int)} (h : Rd w B 2 A l.length (l.flatMap encTok)) {j : Nat} (hj : j < l.length) :
    ∃ b off, A = some ⟨b, off, none⟩ ∧ b < B ∧ w.cell? ⟨b, off + j * 2, none⟩ = some (.int .i64 l[j].1) ∧ w.cell? ⟨b, off + j * 2 + 1, none⟩ = some (.int .i64 l[j].2) := by
  obtain ⟨b, off, hA, hb, hc⟩ := h.at_ hj (by omega)
  have hl : ∀ a ∈ l, (encTok a).length = 2 := fun _ _ => rfl
  have hjj : l[j]? = some l[j] := List.getElem?_eq_getElem hj
  exact ⟨b, off, hA, hb, by have := hc (j * 2 + 0) _ (flat_at encTok 2 l hl j 0 l[j] hjj (by omega)); simpa using this, by have := hc (j * 2 + 1) _ (flat_at encTok 2 l hl j 1 l[j] hjj (by omega)); rw [← Nat.add_assoc] at this; exact this⟩

end Go.Proofs.Ytbpdkpphhjmalaa
