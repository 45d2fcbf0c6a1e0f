/-
  Slices of bytes as strings.
-/
import Derived.Test.YtphhoihhmphbdaaBase
import Derived.Laws.BytesArg
namespace Go.Proofs.Ytphhoihhmphbdaa
open Go.RowKit

theorem conv_bytes {w : World} {B : Nat} {A : Option Addr} {l : List Int} {c : Nat} (h : Rd w B 1 A l.length (bytesV l)) :
    (Go.convert 28 9 (.slice A l.length c)).run Try.prog w = .ok (.string (strOfNums l)) w := by
  by_cases hl : l = []
  · subst hl
    cases A with
    | none => exact run_convert_bytes_nil w _ _ Try.underlying28 Try.underlying5 0 c _ Try.underlying9
    | some a =>
      rw [run_convert_bytes_string w _ _ _ _ _ _ Try.underlying28 Try.underlying5 Try.underlying9]
      rfl
  · have hpos : 0 < l.length := List.length_pos_iff.2 hl
    obtain ⟨b, off, rfl, _, hc⟩ := Rd.at_ h hpos (by omega)
    exact run_convert_bytes_arg w _ _ Try.underlying28 Try.underlying5 b off _ c l rfl (fun i hi => hc i _ (by simp [bytesV, List.getD, List.getElem?_eq_getElem hi])) _ Try.underlying9
end Go.Proofs.Ytphhoihhmphbdaa
