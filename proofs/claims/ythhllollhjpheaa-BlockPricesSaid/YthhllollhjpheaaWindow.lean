/-
  zlib.Window: the least window of any tokens.
-/
import Derived.Test.YthhllollhjpheaaBase
namespace Go.Proofs.Ythhllollhjpheaa
open Go.RowKit

def farStep (m : Int) (t : Int × Int) : Int := if 0 < t.1 then (if m < t.2 then t.2 else m) else m
def far (l : List (Int × Int)) : Int := l.foldl farStep 0
theorem far_take (l : List (Int × Int)) (j : Nat) (hj : j < l.length) : far (l.take (j + 1)) = farStep (far (l.take j)) l[j] := by
  unfold far
  rw [List.take_succ_eq_append_getElem hj, List.foldl_append]; rfl

def IsWin (v : Int) : Prop := v = 256 ∨ v = 512 ∨ v = 1024 ∨ v = 2048 ∨ v = 4096 ∨ v = 8192 ∨ v = 16384 ∨ v = 32768
/-- v is the least window for distances up to m -/
def Win (v m : Int) : Prop := IsWin v ∧ (v = 32768 ∨ m ≤ v) ∧ (v = 256 ∨ v / 2 < m)
/-- y comes of the window x by doubling, as long as the token (tl, td) reaches beyond it -/
def Mid (x tl td y : Int) : Prop := (IsWin x → IsWin y) ∧ 0 ≤ y ∧ x ≤ y ∧ (y = x ∨ (0 < tl ∧ y / 2 < td))
theorem Mid.start (x tl td : Int) (hx : 256 ≤ x) : Mid x tl td x := ⟨id, by omega, by omega, .inl rfl⟩
theorem Mid.half {x tl td y : Int} (h : Mid x tl td y) (hw : IsWin x) (hy : y < 32768) : y ≤ 16384 := by
  have := h.1 hw
  unfold IsWin at this; omega
theorem Mid.step {x tl td y : Int} (h : Mid x tl td y) (g1 : 0 < tl) (g2 : y < td) (g3 : y < 32768) : Mid x tl td (2 * y) := by
  obtain ⟨h1, h0, h2, h3⟩ := h
  refine ⟨fun hx => ?_, by omega, ?_, .inr ⟨g1, by omega⟩⟩
  · have := h1 hx
    unfold IsWin at *; omega
  · omega
theorem Win.next {x m tl td y : Int} (h : Win x m) (hm : Mid x tl td y) (hgo : ¬ (0 < tl ∧ y < td ∧ y < 32768)) : Win y (farStep m (tl, td)) := by
  obtain ⟨w1, w2, w3⟩ := h
  obtain ⟨h1, h0, h2, h3⟩ := hm
  have hy := h1 w1
  have hyb : 256 ≤ y ∧ y ≤ 32768 := by unfold IsWin at hy; omega
  refine ⟨hy, ?_, ?_⟩ <;> unfold farStep <;> simp only <;> (repeat' split) <;> omega
def SomeWin (m : Int) (W : World) (e : Ending) (w' : World) : Prop := ∃ v : Int, Win v m ∧ e = .returned (.int .i64 v) ∧ Below W.heap.size W w'

end Go.Proofs.Ythhllollhjpheaa
