/-
  RecompWishes: for every order the law returns true: which wishes say any order, and that the order comes back from them. No condition.
-/
import Derived.Test.YtfcppchjikmioaaGreatWrF
namespace Go.Proofs.YtfcppchjikmioaaGreat.RecompWishes
open Go.ChangeShapes Go.WideShapes Go.ChangeAt Go.RowKit Go.Proofs.YtfcppchjikmioaaGreat

theorem list11 {α : Type} {l : List α} (h : l.length = 11) : ∃ a b c d e f g h i j k, l = [a, b, c, d, e, f, g, h, i, j, k] := by
  match l, h with
  | [a, b, c, d, e, f, g, h, i, j, k], _ => exact ⟨a, b, c, d, e, f, g, h, i, j, k, rfl⟩

set_option maxRecDepth 100000 in
theorem lifted (os : Os) (started : os.Started) (H : Type) (enc : TypeId × Value → H) :
    ReturnsInHanded {} Tryz.checked os 5 .any (Rows.recompWishesSpec.pre6 enc Tryz.prog Tryz.f5 Rows.recompWishesRow.domain false) (Rows.recompWishesSpec.post enc Tryz.prog Tryz.f5 false true false false) :=
  law_lifted own laidOut started (by kernel_rfl) Tryz.func5 rfl rfl Tryz.underlying4
    (by rw [Tryz.params5]; intro t ht; simp at ht; rcases ht with rfl <;> exact ⟨by kernel_rfl, of_decide_eq_true (by kernel_rfl)⟩)
    (by
      intro ds h
      match ds, h with
      | [_], _ => exact ⟨rfl, rfl, rfl⟩)
    (ChangeSpec.witness6 (enc := enc) (C := Tryz.checked) false ⟨#[], #[.agg #[.int .i64 0, .bool false, .bool false, .int .i64 0, .int .i64 0, .int .i64 0, .int .i64 0, .bool false, .int .i64 0, .int .i64 0, .int .i64 0]], []⟩ 8 (by kernel_rfl) (by kernel_rfl) (by kernel_rfl) (by kernel_rfl))
    (by
      intro W base args ds ps hval0 hA0
      have hval : ∀ (j : Nat) t v, Tryz.f5.params[j]? = some t → args[j]? = some v → Value.okWide Tryz.prog W .any base t v := hval0
      have hA : DataW.TrodAll enc Tryz.prog W 0 (fun _ => true) true Tryz.f5.params.toList args.toList ds ps := hA0
      clear hval0 hA0
      rw [Tryz.params5] at hA hval
      obtain ⟨v0, vs0, d0, ds0, p0, q0, hargs, rfl, rfl, h0, r0⟩ := trodAll_cons hA
      obtain ⟨rfl, rfl, rfl⟩ := trodAll_nil r0
      obtain rfl : args = #[v0] := by cases args; simp_all
      obtain ⟨cs, e, hl, L⟩ := open_agg 0 Tryz.underlying50 (by kernel_rfl) (hval 0 50 v0 rfl rfl) h0
      obtain ⟨_, _, u0, e0, t0⟩ := L 0 3 (by kernel_rfl)
      obtain ⟨x0, rfl, _⟩ := leaf_int Tryz.underlying3 t0
      obtain ⟨_, _, u1, e1, t1⟩ := L 1 4 (by kernel_rfl)
      obtain ⟨x1, rfl⟩ := leaf_bool Tryz.underlying4 t1
      obtain ⟨_, _, u2, e2, t2⟩ := L 2 4 (by kernel_rfl)
      obtain ⟨x2, rfl⟩ := leaf_bool Tryz.underlying4 t2
      obtain ⟨_, _, u3, e3, t3⟩ := L 3 3 (by kernel_rfl)
      obtain ⟨x3, rfl, _⟩ := leaf_int Tryz.underlying3 t3
      obtain ⟨_, _, u4, e4, t4⟩ := L 4 3 (by kernel_rfl)
      obtain ⟨x4, rfl, _⟩ := leaf_int Tryz.underlying3 t4
      obtain ⟨_, _, u5, e5, t5⟩ := L 5 3 (by kernel_rfl)
      obtain ⟨x5, rfl, _⟩ := leaf_int Tryz.underlying3 t5
      obtain ⟨_, _, u6, e6, t6⟩ := L 6 3 (by kernel_rfl)
      obtain ⟨x6, rfl, _⟩ := leaf_int Tryz.underlying3 t6
      obtain ⟨_, _, u7, e7, t7⟩ := L 7 4 (by kernel_rfl)
      obtain ⟨x7, rfl⟩ := leaf_bool Tryz.underlying4 t7
      obtain ⟨_, _, u8, e8, t8⟩ := L 8 3 (by kernel_rfl)
      obtain ⟨x8, rfl, _⟩ := leaf_int Tryz.underlying3 t8
      obtain ⟨_, _, u9, e9, t9⟩ := L 9 3 (by kernel_rfl)
      obtain ⟨x9, rfl, _⟩ := leaf_int Tryz.underlying3 t9
      obtain ⟨_, _, u10, e10, t10⟩ := L 10 3 (by kernel_rfl)
      obtain ⟨x10, rfl, _⟩ := leaf_int Tryz.underlying3 t10
      rw [show (leaves Tryz.prog (0 + 1) 50).length = 11 by kernel_rfl] at hl
      obtain ⟨c0, c1, c2, c3, c4, c5, c6, c7, c8, c9, c10, rfl⟩ := list11 hl
      simp at e0 e1 e2 e3 e4 e5 e6 e7 e8 e9 e10
      subst e0 e1 e2 e3 e4 e5 e6 e7 e8 e9 e10
      rw [e]
      exact wishes_law ⟨x0, x1, x2, x3, x4, x5, x6, x7, x8, x9, x10⟩ W)

theorem over : Rows.recompWishesRow.holds Tryz.pinned (OpenSpec.ofChange Rows.recompWishesSpec) :=
  OpenClaim.holds_of_wide 5 Tryz.f5 rfl rfl rfl rfl rfl rfl rfl ⟨rfl, rfl, rfl, rfl, rfl⟩ rfl rfl rfl rfl rfl (by kernel_rfl) Tryz.func5 (by kernel_rfl)
    (of_decide_eq_true (by kernel_rfl)) (by unfold Func.isWrapper; first | (rw [if_pos (by decide +kernel)]; kernel_rfl) | (rw [if_neg (by decide +kernel)]; exact ⟨rfl, rfl⟩))
    (fun os started H enc _ => lifted os started H enc)

theorem proved : Rows.RecompWishesSaid := over
#print axioms proved
end Go.Proofs.YtfcppchjikmioaaGreat.RecompWishes
