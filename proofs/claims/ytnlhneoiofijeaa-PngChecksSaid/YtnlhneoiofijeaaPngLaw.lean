/-
  PngChecks: for every order the law returns true: png.Check answers no error just where the document calls the order good, else ErrWish. No condition.
-/
import Derived.Test.YtnlhneoiofijeaaPngGood
import Derived.Test.YtnlhneoiofijeaaMem
import Derived.Test.YtnlhneoiofijeaaOpen
namespace Go.Proofs.Ytnlhneoiofijeaa.PngChecks
open Go.RowKit Go.Proofs.Ytnlhneoiofijeaa Go.ChangeShapes Go.WideShapes Go.ChangeAt

theorem check8 (W : World) : Calls Try.prog 18 #[ordv 8 false false 0 0 0 0 false 0 0 0] W fun e w' => e = .returned (.iface 47 (.int .i64 1)) ∧ Below W.heap.size W w' :=
  check_near 8 false false 0 0 0 0 false 0 0 0 (.inr (.inl (by omega))) W

/-- what the law asks of Check and Good at one order -/
def Both (ev : Value) (g : Bool) (v : Value) : Prop := (∀ W, Calls Try.prog 18 #[v] W fun e w' => e = .returned ev ∧ Below W.heap.size W w') ∧ (∀ W, Calls Try.prog 19 #[v] W fun e w' => e = .returned (.bool g) ∧ Below W.heap.size W w')

set_option maxRecDepth 100000 in
set_option maxHeartbeats 4000000 in
theorem law_yes (t : Int) (p c : Bool) (x y w h : Int) (b : Bool) (f r l : Int) (hb : Both .nilIface true (ordv t p c x y w h b f r l)) (W : World) :
    Calls Try.prog 5 #[ordv t p c x y w h b f r l] W fun e w' => e = .returned (.bool true) ∧ Below W.heap.size W w' := by
  have Hb := hid hb
  clear hb
  go_enter Try.func5, Try.ntmps5
  go_wp2_with fail
  refine (Hb.out.1 _).mono ?_
  rintro e w1 ⟨rfl, hb1⟩
  have k1 := (Blk.new W 41 #[.int .i64 t, .bool p, .bool c, .int .i64 x, .int .i64 y, .int .i64 w, .int .i64 h, .bool b, .int .i64 f, .int .i64 r, .int .i64 l]).below hb1 (by simp)
  have B1 := hid (((Below.refl W.heap.size W).alloc (Nat.le_refl _) _).trans (hb1.mono (by simp)))
  clear hb1
  go_wp2_with fail
  refine (check8 _).mono ?_
  rintro e w2 ⟨rfl, hb2⟩
  have k2 := k1.below hb2 k1.lt
  have B2 := hid (B1.out.trans (hb2.mono B1.out.size))
  clear hb2 k1
  have K := k2.cell
  have q0 := K 0
  have q1 := K 1
  have q2 := K 2
  have q3 := K 3
  have q4 := K 4
  have q5 := K 5
  have q6 := K 6
  have q7 := K 7
  have q8 := K 8
  have q9 := K 9
  have q10 := K 10
  clear K
  have K2 := hid k2
  clear k2
  simp only [List.getElem?_toArray, List.getElem?_cons_zero, List.getElem?_cons_succ] at q0 q1 q2 q3 q4 q5 q6 q7 q8 q9 q10
  go_wp2_with fail
  refine (Hb.out.2 _).mono ?_
  rintro e w3 ⟨rfl, hb3⟩
  have B3 := hid (B2.out.trans (hb3.mono B2.out.size))
  clear hb3
  go_wp2_with fail
  go_ret
  exact ⟨rfl, B3.out⟩

set_option maxRecDepth 100000 in
set_option maxHeartbeats 4000000 in
theorem law_no (t : Int) (p c : Bool) (x y w h : Int) (b : Bool) (f r l : Int) (hb : Both (.iface 47 (.int .i64 1)) false (ordv t p c x y w h b f r l)) (W : World) :
    Calls Try.prog 5 #[ordv t p c x y w h b f r l] W fun e w' => e = .returned (.bool true) ∧ Below W.heap.size W w' := by
  have Hb := hid hb
  clear hb
  go_enter Try.func5, Try.ntmps5
  go_wp2_with fail
  refine (Hb.out.1 _).mono ?_
  rintro e w1 ⟨rfl, hb1⟩
  have k1 := (Blk.new W 41 #[.int .i64 t, .bool p, .bool c, .int .i64 x, .int .i64 y, .int .i64 w, .int .i64 h, .bool b, .int .i64 f, .int .i64 r, .int .i64 l]).below hb1 (by simp)
  have B1 := hid (((Below.refl W.heap.size W).alloc (Nat.le_refl _) _).trans (hb1.mono (by simp)))
  clear hb1
  go_wp2_with fail
  refine (check8 _).mono ?_
  rintro e w2 ⟨rfl, hb2⟩
  have k2 := k1.below hb2 k1.lt
  have B2 := hid (B1.out.trans (hb2.mono B1.out.size))
  clear hb2 k1
  have K := k2.cell
  have q0 := K 0
  have q1 := K 1
  have q2 := K 2
  have q3 := K 3
  have q4 := K 4
  have q5 := K 5
  have q6 := K 6
  have q7 := K 7
  have q8 := K 8
  have q9 := K 9
  have q10 := K 10
  clear K
  have K2 := hid k2
  clear k2
  simp only [List.getElem?_toArray, List.getElem?_cons_zero, List.getElem?_cons_succ] at q0 q1 q2 q3 q4 q5 q6 q7 q8 q9 q10
  go_wp2_with fail
  refine (Hb.out.2 _).mono ?_
  rintro e w3 ⟨rfl, hb3⟩
  have k3 := K2.out.below hb3 K2.out.lt
  have B3 := hid (B2.out.trans (hb3.mono B2.out.size))
  clear hb3 q0 q1 q2 q3 q4 q5 q6 q7 q8 q9 q10
  have K := k3.cell
  have q0 := K 0
  have q1 := K 1
  have q2 := K 2
  have q3 := K 3
  have q4 := K 4
  have q5 := K 5
  have q6 := K 6
  have q7 := K 7
  have q8 := K 8
  have q9 := K 9
  have q10 := K 10
  clear K
  have K3 := hid k3
  clear k3
  simp only [List.getElem?_toArray, List.getElem?_cons_zero, List.getElem?_cons_succ] at q0 q1 q2 q3 q4 q5 q6 q7 q8 q9 q10
  go_wp2_with fail
  refine (Hb.out.2 _).mono ?_
  rintro e w4 ⟨rfl, hb4⟩
  have B4 := hid (B3.out.trans (hb4.mono B3.out.size))
  clear hb4
  go_wp2_with fail
  refine (is_no 1 1 (by omega) _).mono ?_
  rintro e w5 ⟨rfl, rfl⟩
  go_wp2_with fail
  go_ret
  exact ⟨rfl, B4.out⟩

theorem walk (t : Int) (p c : Bool) (x y w h : Int) (b : Bool) (f r l : Int) (W : World) :
    Calls Try.prog 5 #[ordv t p c x y w h b f r l] W fun e w' => e = .returned (.bool true) ∧ Below W.heap.size W w' := by
  by_cases hf : Fine t c x y w h f r l
  · exact law_yes t p c x y w h b f r l ⟨check_yes t p c x y w h b f r l hf, good_yes t p c x y w h b f r l hf⟩ W
  · refine law_no t p c x y w h b f r l ⟨?_, good_no t p c x y w h b f r l hf⟩ W
    rcases not_fine hf with h1 | ⟨t0, t7, f0, f2, r0, r1, l0, l1, hb⟩
    · exact check_near t p c x y w h b f r l h1
    · exact check_far t p c x y w h b f r l t0 t7 f0 f2 r0 r1 l0 l1 hb
theorem list11 {α : Type} {l : List α} (h : l.length = 11) : ∃ a b c d e f g h i j k, l = [a, b, c, d, e, f, g, h, i, j, k] := by
  match l, h with
  | [a, b, c, d, e, f, g, h, i, j, k], _ => exact ⟨a, b, c, d, e, f, g, h, i, j, k, rfl⟩

set_option maxRecDepth 100000 in
theorem lifted (os : Os) (started : os.Started) (H : Type) (enc : TypeId × Value → H) :
    ReturnsInHanded {} Try.checked os 5 .any (Rows.pngChecksSpec.pre6 enc Try.prog Try.f5 Rows.pngChecksRow.domain false) (Rows.pngChecksSpec.post enc Try.prog Try.f5 false true false false) :=
  law_lifted own laidOut started (by kernel_rfl) Try.func5 rfl rfl Try.underlying4
    (by rw [Try.params5]; intro t ht; simp at ht; rcases ht with rfl <;> exact ⟨by kernel_rfl, of_decide_eq_true (by kernel_rfl)⟩)
    (by
      intro ds h
      match ds, h with
      | [_], _ => exact ⟨rfl, rfl, rfl⟩)
    (ChangeSpec.witness6 (enc := enc) (C := Try.checked) false ⟨#[], #[.agg #[.int .i64 0, .bool false, .bool false, .int .i64 0, .int .i64 0, .int .i64 0, .int .i64 0, .bool false, .int .i64 0, .int .i64 0, .int .i64 0]], []⟩ 8 (by kernel_rfl) (by kernel_rfl) (by kernel_rfl) (by kernel_rfl))
    (by
      intro W base args ds ps hval0 hA0
      have hval : ∀ (j : Nat) t v, Try.f5.params[j]? = some t → args[j]? = some v → Value.okWide Try.prog W .any base t v := hval0
      have hA : DataW.TrodAll enc Try.prog W 0 (fun _ => true) true Try.f5.params.toList args.toList ds ps := hA0
      clear hval0 hA0
      rw [Try.params5] at hA hval
      obtain ⟨v0, vs0, d0, ds0, p0, q0, hargs, rfl, rfl, h0, r0⟩ := trodAll_cons hA
      obtain ⟨rfl, rfl, rfl⟩ := trodAll_nil r0
      obtain rfl : args = #[v0] := by cases args; simp_all
      obtain ⟨cs, e, hl, L⟩ := open_agg 0 Try.underlying41 (by kernel_rfl) (hval 0 41 v0 rfl rfl) h0
      obtain ⟨_, _, u0, e0, t0⟩ := L 0 3 (by kernel_rfl)
      obtain ⟨x0, rfl, _⟩ := leaf_int Try.underlying3 t0
      obtain ⟨_, _, u1, e1, t1⟩ := L 1 4 (by kernel_rfl)
      obtain ⟨x1, rfl⟩ := leaf_bool Try.underlying4 t1
      obtain ⟨_, _, u2, e2, t2⟩ := L 2 4 (by kernel_rfl)
      obtain ⟨x2, rfl⟩ := leaf_bool Try.underlying4 t2
      obtain ⟨_, _, u3, e3, t3⟩ := L 3 3 (by kernel_rfl)
      obtain ⟨x3, rfl, _⟩ := leaf_int Try.underlying3 t3
      obtain ⟨_, _, u4, e4, t4⟩ := L 4 3 (by kernel_rfl)
      obtain ⟨x4, rfl, _⟩ := leaf_int Try.underlying3 t4
      obtain ⟨_, _, u5, e5, t5⟩ := L 5 3 (by kernel_rfl)
      obtain ⟨x5, rfl, _⟩ := leaf_int Try.underlying3 t5
      obtain ⟨_, _, u6, e6, t6⟩ := L 6 3 (by kernel_rfl)
      obtain ⟨x6, rfl, _⟩ := leaf_int Try.underlying3 t6
      obtain ⟨_, _, u7, e7, t7⟩ := L 7 4 (by kernel_rfl)
      obtain ⟨x7, rfl⟩ := leaf_bool Try.underlying4 t7
      obtain ⟨_, _, u8, e8, t8⟩ := L 8 3 (by kernel_rfl)
      obtain ⟨x8, rfl, _⟩ := leaf_int Try.underlying3 t8
      obtain ⟨_, _, u9, e9, t9⟩ := L 9 3 (by kernel_rfl)
      obtain ⟨x9, rfl, _⟩ := leaf_int Try.underlying3 t9
      obtain ⟨_, _, u10, e10, t10⟩ := L 10 3 (by kernel_rfl)
      obtain ⟨x10, rfl, _⟩ := leaf_int Try.underlying3 t10
      rw [show (leaves Try.prog (0 + 1) 41).length = 11 by kernel_rfl] at hl
      obtain ⟨c0, c1, c2, c3, c4, c5, c6, c7, c8, c9, c10, rfl⟩ := list11 hl
      simp at e0 e1 e2 e3 e4 e5 e6 e7 e8 e9 e10
      subst e0 e1 e2 e3 e4 e5 e6 e7 e8 e9 e10
      rw [e]
      exact walk x0 x1 x2 x3 x4 x5 x6 x7 x8 x9 x10 W)

theorem over : Rows.pngChecksRow.holds Try.pinned (OpenSpec.ofChange Rows.pngChecksSpec) :=
  OpenClaim.holds_of_wide 5 Try.f5 rfl rfl rfl rfl rfl rfl rfl ⟨rfl, rfl, rfl, rfl, rfl⟩ rfl rfl rfl rfl rfl (by kernel_rfl) Try.func5 (by kernel_rfl)
    (of_decide_eq_true (by kernel_rfl)) (by unfold Func.isWrapper; first | (rw [if_pos (by decide +kernel)]; kernel_rfl) | (rw [if_neg (by decide +kernel)]; exact ⟨rfl, rfl⟩))
    (fun os started H enc _ => lifted os started H enc)

theorem proved : Rows.PngChecksSaid := over
#print axioms proved
end Go.Proofs.Ytnlhneoiofijeaa.PngChecks
