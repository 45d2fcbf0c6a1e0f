/-
  Parameters of a law, opened: rows of bytes.
  Parameters of a law, opened: rows of bytes, the empty ones without room.
-/
import Derived.Test.YthhllollhjpheaaExpPlain
namespace Go.Proofs.Ythhllollhjpheaa
open Go.ChangeShapes Go.WideShapes Go.ChangeAt Go.RowKit

def encB (n : Int) : List Value := [.int .u8 n]
theorem encB_eq (l : List Int) : l.flatMap encB = bytesV l := by
  induction l with
  | nil => rfl
  | cons a l ih => rw [List.flatMap_cons, ih]; rfl
theorem byte_of {H : Type} {enc : TypeId × Value → H} {w : World} {base : Nat} {spare : Nat → Bool} {held : Bool} (n : Nat) (cs : List Value) (y : DataW H × List MemPlace) (hl : cs.length = 1)
    (h : DataW.trod enc Try.prog w base spare held n 5 cs = some y) : ∃ t : Int, cs = encB t ∧ isB t := by
  match cs, hl with
  | [v], _ =>
    obtain ⟨a, rfl, wa⟩ := leaf_int Try.underlying5 h
    refine ⟨a, rfl, ?_⟩
    simp [Lit.wf, IntKind.min, IntKind.max, IntKind.signed, IntKind.bits] at wa
    unfold isB
    omega

set_option maxRecDepth 100000 in
theorem open_bytes' {H : Type} {enc : TypeId × Value → H} {w : World} {v : Value} {x : DataW H} {ps : List MemPlace} {r : Reach} {b0 : Nat}
    (hv : Value.okWide Try.prog w r b0 22 v) (h : DataW.Trod enc Try.prog w 0 (fun _ => true) true 22 v x ps) :
    ∃ (A : Option Addr) (c : Nat) (l : List Int), v = .slice A l.length c ∧ l.length ≤ c ∧ c ≤ maxLen ∧ (∀ a ∈ l, isB a) ∧ Rd w w.heap.size 1 A l.length (bytesV l) := by
  obtain ⟨fuel, hf⟩ := h
  obtain ⟨A, n, m, rfl⟩ := okWide_slice Try.underlying22 hv
  obtain ⟨A, c, l, e, hlc, hcm, hok, hr⟩ := open_slice_of encB isB 1 (by omega) Try.underlying22 (by kernel_rfl) byte_of (fun _ => rfl) (by simpa [Value.cells] using hf)
  rw [encB_eq] at hr
  exact ⟨A, c, l, e, hlc, hcm, hok, hr⟩
end Go.Proofs.Ythhllollhjpheaa

namespace Go.Proofs.Ythhllollhjpheaa
open Go.ChangeShapes Go.WideShapes Go.ChangeAt Go.RowKit

set_option maxRecDepth 100000 in
theorem open_bytes2 {H : Type} {enc : TypeId × Value → H} {w : World} {v : Value} {x : DataW H} {ps : List MemPlace} {r : Reach} {b0 : Nat}
    (hv : Value.okWide Try.prog w r b0 22 v) (h : DataW.Trod enc Try.prog w 0 (fun _ => true) true 22 v x ps) :
    ∃ (A : Option Addr) (c : Nat) (l : List Int), v = .slice A l.length c ∧ l.length ≤ c ∧ c ≤ maxLen ∧ (∀ a ∈ l, isB a) ∧ Rd w w.heap.size 1 A l.length (bytesV l) ∧ (A = none → c = 0) := by
  obtain ⟨A, c, l, e, h1, h2, h3, h4⟩ := open_bytes' hv h
  refine ⟨A, c, l, e, h1, h2, h3, h4, fun hA => ?_⟩
  obtain ⟨fuel, hf⟩ := h
  subst e
  have hf2 : DataW.trod enc Try.prog w 0 (fun _ => true) true fuel 22 [.slice A l.length c] = some (x, ps) := by simpa [Value.cells] using hf
  rcases Go.Deep.open_slice Try.underlying22 hf2 with ⟨hc, _⟩ | ⟨a, len, cap, m, n, D, Pl, hc, _⟩
  · simp at hc
    exact hc.2.2
  · simp at hc
    rw [hA] at hc
    cases hc.1
end Go.Proofs.Ythhllollhjpheaa
