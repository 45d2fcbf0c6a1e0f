/-
  burnishlaw18.two, large; opening a raster that came in.
-/
import Derived.Test.YtphhoihhmphbdaaShG
import Derived.Test.YtphhoihhmphbdaaRlaw
namespace Go.Proofs.Ytphhoihhmphbdaa
open Go.RowKit

def twoPx : List Px := [(0, 0, 0, 65535), (65535, 65535, 65535, 65535)]
def TwoEnd (W : World) (e : Ending) (w' : World) : Prop := ∃ A, e = .returned (.agg #[.int .i64 2, .int .i64 1, .slice A 2 2]) ∧ RdP w' w'.heap.size A twoPx ∧ Below W.heap.size W w'
theorem two_any (W : World) : Calls Try.prog 62 #[] W (TwoEnd W) := by
  have Hx := hid (Blk.new (W.alloc (.cells #[.int .i64 2, .int .i64 1, .slice (some ⟨W.heap.size + 1, 0, none⟩) 2 2] 33)) 62 #[.int .i64 0, .int .i64 0, .int .i64 0, .int .i64 65535, .int .i64 65535, .int .i64 65535, .int .i64 65535, .int .i64 65535])
  rw [World.size_alloc] at Hx
  go_enter Try.func62, Try.ntmps62
  go_wp2
  refine bodyPost_ret (v := .agg #[.int .i64 2, .int .i64 1, .slice (some ⟨W.heap.size + 1, 0, none⟩) 2 2]) (by simp [results, Try.results62, go_sem]) rfl ⟨_, rfl, ?_, ?_⟩
  · exact own_rdp (own_blk_full (base := 0) (n := 2) (size := 4) Hx.out (Nat.zero_le _) (by simp [maxLen]) rfl)
  · exact ((Below.refl _ _).alloc (Nat.le_refl _) _).alloc (by simp) _
def largeR (n : Nat) : Bool := decide (500 < n)
theorem large18_any (x y : Int) (PA : Option Addr) (n pc : Nat) (W : World) : Calls Try.prog 24 #[.agg #[.int .i64 x, .int .i64 y, .slice PA n pc]] W fun e w' => e = .returned (.bool (largeR n)) ∧ Below W.heap.size W w' := by
  have Hw := hid (rcw_start x y PA n pc W)
  by_cases h : 500 < n
  · have d : decide ((500 : Int) < (n : Int)) = true := decide_eq_true (by omega)
    have Hl := hid (show largeR n = true from decide_eq_true h)
    clear h
    go_enter Try.func24, Try.ntmps24
    go_wp2
    go_ret
    exact ⟨by rw [Hl.out]; first | done | rfl, Hw.out.2⟩
  · have d : decide ((500 : Int) < (n : Int)) = false := decide_eq_false (by omega)
    have Hl := hid (show largeR n = false from decide_eq_false h)
    clear h
    go_enter Try.func24, Try.ntmps24
    go_wp2
    go_ret
    exact ⟨by rw [Hl.out]; first | done | rfl, Hw.out.2⟩

end Go.Proofs.Ytphhoihhmphbdaa

namespace Go.Proofs.Ytphhoihhmphbdaa
open Go.ChangeShapes Go.WideShapes Go.ChangeAt Go.RowKit Go.Deep

theorem list3 {α : Type} {l : List α} (h : l.length = 3) : ∃ a b c, l = [a, b, c] := by
  match l, h with
  | [a, b, c], _ => exact ⟨a, b, c, rfl⟩
set_option maxRecDepth 100000 in
/-- a raster that came in -/
theorem open_ras {H : Type} {enc : TypeId × Value → H} {w : World} {v : Value} {x : DataW H} {ps : List MemPlace} {r : Reach} {b0 : Nat}
    (hv : Value.okWide Try.prog w r b0 33 v) (h : DataW.Trod enc Try.prog w 0 (fun _ => true) true 33 v x ps) :
    ∃ (x y : Int) (PR : Option Addr) (pr : Nat) (px : List Px), v = .agg #[.int .i64 x, .int .i64 y, .slice PR px.length pr] ∧ RdP w w.heap.size PR px := by
  obtain ⟨cs, e, hl, L⟩ := open_agg 1 Try.underlying33 (by kernel_rfl) hv h
  obtain ⟨_, _, u0, e0, t0⟩ := L 0 3 (by kernel_rfl)
  obtain ⟨x0, rfl, _⟩ := leaf_int Try.underlying3 t0
  obtain ⟨_, _, u1, e1, t1⟩ := L 1 3 (by kernel_rfl)
  obtain ⟨x1, rfl, _⟩ := leaf_int Try.underlying3 t1
  obtain ⟨_, _, u2, e2, t2⟩ := L 2 24 (by kernel_rfl)
  obtain ⟨PA, pc, pal, f2, _, _, _, hp⟩ := open_slice_of encP (fun _ => True) 4 (by omega) Try.underlying24 (by kernel_rfl) px_of (fun _ => rfl) t2
  rw [show (leaves Try.prog (1 + 1) 33).length = 3 by kernel_rfl] at hl
  obtain ⟨c0, c1, c2, rfl⟩ := list3 hl
  simp at e0 e1 e2
  subst e0 e1 e2 f2
  exact ⟨x0, x1, PA, pc, pal, e, hp⟩

end Go.Proofs.Ytphhoihhmphbdaa

