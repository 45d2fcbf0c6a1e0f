/-
  Parameters of a law, opened: rows of bytes, the empty ones without room.
-/
import Derived.Test.YtegmbjkpjglgpaaOpensB
namespace Go.Proofs.Ytegmbjkpjglgpaa
open Go.ChangeShapes Go.WideShapes Go.ChangeAt Go.RowKit

set_option maxRecDepth 100000 in
theorem open_bytes2 {H : Type} {enc : TypeId × Value → H} {w : World} {v : Value} {x : DataW H} {ps : List MemPlace} {r : Reach} {b0 : Nat}
    (hv : Value.okWide Try.prog w r b0 42 v) (h : DataW.Trod enc Try.prog w 0 (fun _ => true) true 42 v x ps) :
    ∃ (A : Option Addr) (c : Nat) (l : List Int), v = .slice A l.length c ∧ l.length ≤ c ∧ c ≤ maxLen ∧ (∀ a ∈ l, isB a) ∧ Rd w w.heap.size 1 A l.length (bytesV l) ∧ (A = none → c = 0) := by
  obtain ⟨A, c, l, e, h1, h2, h3, h4⟩ := open_bytes' hv h
  refine ⟨A, c, l, e, h1, h2, h3, h4, fun hA => ?_⟩
  obtain ⟨fuel, hf⟩ := h
  subst e
  have hf2 : DataW.trod enc Try.prog w 0 (fun _ => true) true fuel 42 [.slice A l.length c] = some (x, ps) := by simpa [Value.cells] using hf
  rcases Go.Deep.open_slice Try.underlying42 hf2 with ⟨hc, _⟩ | ⟨a, len, cap, m, n, D, Pl, hc, _⟩
  · simp at hc
    exact hc.2.2
  · simp at hc
    rw [hA] at hc
    cases hc.1
end Go.Proofs.Ytegmbjkpjglgpaa
