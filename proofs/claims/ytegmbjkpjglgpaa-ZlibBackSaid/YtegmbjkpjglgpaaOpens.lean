/-
  Parameters of a law, opened: rows of ints and of bytes.
-/
import Derived.Test.YtegmbjkpjglgpaaBase
namespace Go.Proofs.Ytegmbjkpjglgpaa
open Go.ChangeShapes Go.WideShapes Go.ChangeAt Go.RowKit

set_option maxRecDepth 100000 in
theorem open_ints' {H : Type} {enc : TypeId × Value → H} {w : World} {v : Value} {x : DataW H} {ps : List MemPlace} {r : Reach} {b0 : Nat}
    (hv : Value.okWide Try.prog w r b0 53 v) (h : DataW.Trod enc Try.prog w 0 (fun _ => true) true 53 v x ps) :
    ∃ (A : Option Addr) (c : Nat) (l : List Int), v = .slice A l.length c ∧ l.length ≤ c ∧ c ≤ maxLen ∧ (∀ a ∈ l, okI a) ∧ RdI w w.heap.size A l := by
  obtain ⟨fuel, hf⟩ := h
  obtain ⟨A, n, m, rfl⟩ := okWide_slice Try.underlying53 hv
  obtain ⟨A, c, l, e, hlc, hcm, hok, hr⟩ := open_slice_of encI okI 1 (by omega) Try.underlying53 (by kernel_rfl) int_of (fun _ => rfl) (by simpa [Value.cells] using hf)
  exact ⟨A, c, l, e, hlc, hcm, hok, hr⟩
end Go.Proofs.Ytegmbjkpjglgpaa
