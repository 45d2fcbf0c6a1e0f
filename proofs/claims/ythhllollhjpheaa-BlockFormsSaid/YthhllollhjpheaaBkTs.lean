/-
  Slices that a writer does not turn.
-/
import Derived.Test.YthhllollhjpheaaBkWr
namespace Go.Proofs.Ythhllollhjpheaa
open Go.RowKit
/-- what lies below the writer -/
theorem TextS.of_rd {w : World} {g base c size n B : Nat} {s : Bool} {A X : Option Addr} {L : List Int} {xs : List Value} (h : Rd w B size X n xs) (hB : B ≤ base) (hw : WrS w g s A c base L) (hs : base ≤ w.heap.size) : TextS w g A X xs := by
  by_cases h0 : xs = []
  · exact .inl h0
  · obtain ⟨b, off, e, hb, hc⟩ := h.2 (List.length_pos_iff.2 h0)
    have hgb := hw.gb
    exact .inr ⟨b, off, e, by omega, by omega, fun a ha => by have := (hw.far a ha).1; omega, hc⟩
/-- a row made behind the writer -/
theorem TextS.of_own {w : World} {g B c n size : Nat} {t : TypeId} {A X : Option Addr} {xs : List Value} (h : w.ownsRow B t size (.slice X n c) n xs) (hs : 0 < size) (hg : g < B) (hA : ∀ a, A = some a → a.block < B) : TextS w g A X xs := by
  by_cases h0 : n = 0
  · left
    have h1 := (own_rd h).1
    rw [h0, Nat.zero_mul] at h1
    exact List.eq_nil_of_length_eq_zero h1
  · obtain ⟨b, off, e, hb, hc⟩ := (own_rd h).2 (by rw [(own_rd h).1]; exact Nat.mul_pos (by omega) hs)
    obtain ⟨b', e', hb', _⟩ := own_block h (by omega)
    rw [e] at e'
    injection e' with e'
    injection e' with e'
    subst e'
    exact .inr ⟨b, off, e, hb, by omega, fun a ha => by have := hA a ha; omega, hc⟩
end Go.Proofs.Ythhllollhjpheaa
