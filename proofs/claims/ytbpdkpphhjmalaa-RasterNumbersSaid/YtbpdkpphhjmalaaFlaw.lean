/-
  Words of the laws over forms: opening a form that came in; a form of the call's own.
-/
import Derived.Test.YtbpdkpphhjmalaaRform
namespace Go.Proofs.Ytbpdkpphhjmalaa
open Go.ChangeShapes Go.WideShapes Go.ChangeAt Go.RowKit Go.Deep

theorem large_not {f : Fm} (h : largeB f = false) : f.pal.length ≤ 1000000 ∧ f.key.length ≤ 1000000 := by
  unfold largeB at h
  simp at h
  omega

theorem list4 {α : Type} {l : List α} (h : l.length = 4) : ∃ a b c d, l = [a, b, c, d] := by
  match l, h with
  | [a, b, c, d], _ => exact ⟨a, b, c, d, rfl⟩
theorem list7 {α : Type} {l : List α} (h : l.length = 7) : ∃ a b c d e f g, l = [a, b, c, d, e, f, g] := by
  match l, h with
  | [a, b, c, d, e, f, g], _ => exact ⟨a, b, c, d, e, f, g, rfl⟩
theorem px_of {H : Type} {enc : TypeId × Value → H} {w : World} {base : Nat} {spare : Nat → Bool} {held : Bool} (n : Nat) (cs : List Value) (y : DataW H × List MemPlace) (hl : cs.length = 4)
    (h : DataW.trod enc Try.prog w base spare held n 29 cs = some y) : ∃ t : Px, cs = encP t ∧ True := by
  have L := leaf_at 1 29 n cs y (by kernel_rfl) (by rw [hl]; kernel_rfl) h
  obtain ⟨_, _, u0, e0, t0⟩ := L 0 3 (by kernel_rfl)
  obtain ⟨_, _, u1, e1, t1⟩ := L 1 3 (by kernel_rfl)
  obtain ⟨_, _, u2, e2, t2⟩ := L 2 3 (by kernel_rfl)
  obtain ⟨_, _, u3, e3, t3⟩ := L 3 3 (by kernel_rfl)
  obtain ⟨x0, rfl, _⟩ := leaf_int Try.underlying3 t0
  obtain ⟨x1, rfl, _⟩ := leaf_int Try.underlying3 t1
  obtain ⟨x2, rfl, _⟩ := leaf_int Try.underlying3 t2
  obtain ⟨x3, rfl, _⟩ := leaf_int Try.underlying3 t3
  obtain ⟨c0, c1, c2, c3, rfl⟩ := list4 hl
  simp at e0 e1 e2 e3
  subst e0 e1 e2 e3
  exact ⟨(x0, x1, x2, x3), rfl, trivial⟩


set_option maxRecDepth 100000 in
/-- a form that came in -/
theorem open_form {H : Type} {enc : TypeId × Value → H} {w : World} {v : Value} {x : DataW H} {ps : List MemPlace} {r : Reach} {b0 : Nat}
    (hv : Value.okWide Try.prog w r b0 27 v) (h : DataW.Trod enc Try.prog w 0 (fun _ => true) true 27 v x ps) :
    ∃ (f : Fm) (PA KA : Option Addr) (pc kc : Nat), v = .agg #[.int .i64 f.w, .int .i64 f.h, .int .i64 f.d, .int .i64 f.c, .int .i64 f.l, .slice PA f.pal.length pc, .slice KA f.key.length kc] ∧ RdP w w.heap.size PA f.pal ∧ RdI w w.heap.size KA f.key := by
  obtain ⟨cs, e, hl, L⟩ := open_agg 1 Try.underlying27 (by kernel_rfl) hv h
  obtain ⟨_, _, u0, e0, t0⟩ := L 0 3 (by kernel_rfl)
  obtain ⟨x0, rfl, _⟩ := leaf_int Try.underlying3 t0
  obtain ⟨_, _, u1, e1, t1⟩ := L 1 3 (by kernel_rfl)
  obtain ⟨x1, rfl, _⟩ := leaf_int Try.underlying3 t1
  obtain ⟨_, _, u2, e2, t2⟩ := L 2 3 (by kernel_rfl)
  obtain ⟨x2, rfl, _⟩ := leaf_int Try.underlying3 t2
  obtain ⟨_, _, u3, e3, t3⟩ := L 3 3 (by kernel_rfl)
  obtain ⟨x3, rfl, _⟩ := leaf_int Try.underlying3 t3
  obtain ⟨_, _, u4, e4, t4⟩ := L 4 3 (by kernel_rfl)
  obtain ⟨x4, rfl, _⟩ := leaf_int Try.underlying3 t4
  obtain ⟨_, _, u5, e5, t5⟩ := L 5 24 (by kernel_rfl)
  obtain ⟨PA, pc, pal, f5, _, _, _, hp⟩ := open_slice_of encP (fun _ => True) 4 (by omega) Try.underlying24 (by kernel_rfl) px_of (fun _ => rfl) t5
  obtain ⟨_, _, u6, e6, t6⟩ := L 6 25 (by kernel_rfl)
  obtain ⟨KA, kc, key, f6, _, _, _, hk⟩ := open_slice_of encI okI 1 (by omega) Try.underlying25 (by kernel_rfl) int_of (fun _ => rfl) t6
  rw [show (leaves Try.prog (1 + 1) 27).length = 7 by kernel_rfl] at hl
  obtain ⟨c0, c1, c2, c3, c4, c5, c6, rfl⟩ := list7 hl
  simp at e0 e1 e2 e3 e4 e5 e6
  subst e0 e1 e2 e3 e4 e5 e6 f5 f6
  exact ⟨⟨x0, x1, x2, x3, x4, pal, key⟩, PA, KA, pc, kc, e, hp, hk⟩
set_option maxRecDepth 100000 in
/-- a pixel that came in -/
theorem open_px {H : Type} {enc : TypeId × Value → H} {w : World} {v : Value} {x : DataW H} {ps : List MemPlace} {r : Reach} {b0 : Nat}
    (hv : Value.okWide Try.prog w r b0 29 v) (h : DataW.Trod enc Try.prog w 0 (fun _ => true) true 29 v x ps) :
    ∃ a0 a1 a2 a3 : Int, v = .agg #[.int .i64 a0, .int .i64 a1, .int .i64 a2, .int .i64 a3] := by
  obtain ⟨cs, e, hl, L⟩ := open_agg 1 Try.underlying29 (by kernel_rfl) hv h
  obtain ⟨_, _, u0, e0, t0⟩ := L 0 3 (by kernel_rfl)
  obtain ⟨x0, rfl, _⟩ := leaf_int Try.underlying3 t0
  obtain ⟨_, _, u1, e1, t1⟩ := L 1 3 (by kernel_rfl)
  obtain ⟨x1, rfl, _⟩ := leaf_int Try.underlying3 t1
  obtain ⟨_, _, u2, e2, t2⟩ := L 2 3 (by kernel_rfl)
  obtain ⟨x2, rfl, _⟩ := leaf_int Try.underlying3 t2
  obtain ⟨_, _, u3, e3, t3⟩ := L 3 3 (by kernel_rfl)
  obtain ⟨x3, rfl, _⟩ := leaf_int Try.underlying3 t3
  rw [show (leaves Try.prog (1 + 1) 29).length = 4 by kernel_rfl] at hl
  obtain ⟨c0, c1, c2, c3, rfl⟩ := list4 hl
  simp at e0 e1 e2 e3
  subst e0 e1 e2 e3
  exact ⟨x0, x1, x2, x3, e⟩

end Go.Proofs.Ytbpdkpphhjmalaa
