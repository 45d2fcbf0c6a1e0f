/-
  WishValues: for every wish the law returns true. No condition.
-/
import Derived.Test.YtnlhneoiofijeaaWishMust
namespace Go.Proofs.Ytnlhneoiofijeaa.WishValues
open Go.ChangeShapes Go.WideShapes Go.ChangeAt Go.RowKit Go.Proofs.Ytnlhneoiofijeaa

theorem number_any (T : TypeId) (u : Value) (n : Int) (b : Bool) (ta : ∀ w : World, (Instr.typeAssert (.iface T u) 23 3 true).run Try.prog w = .ok (.tuple #[.int .i64 n, .bool b]) w) (W : World) :
    Calls Try.prog 21 #[.iface T u] W fun e w' => e = .returned (.tuple #[.int .i64 n, .bool b]) ∧ w' = W := by
  go_enter Try.func21, Try.ntmps21
  go_wp2
  go_ret2
  exact ⟨rfl, rfl⟩
theorem word_any (T : TypeId) (u : Value) (n : ByteArray) (b : Bool) (ta : ∀ w : World, (Instr.typeAssert (.iface T u) 23 9 true).run Try.prog w = .ok (.tuple #[.string n, .bool b]) w) (W : World) :
    Calls Try.prog 23 #[.iface T u] W fun e w' => e = .returned (.tuple #[.string n, .bool b]) ∧ w' = W := by
  go_enter Try.func23, Try.ntmps23
  go_wp2
  go_ret2
  exact ⟨rfl, rfl⟩
theorem truth_any (T : TypeId) (u : Value) (n : Bool) (b : Bool) (ta : ∀ w : World, (Instr.typeAssert (.iface T u) 23 4 true).run Try.prog w = .ok (.tuple #[.bool n, .bool b]) w) (W : World) :
    Calls Try.prog 24 #[.iface T u] W fun e w' => e = .returned (.tuple #[.bool n, .bool b]) ∧ w' = W := by
  go_enter Try.func24, Try.ntmps24
  go_wp2
  go_ret2
  exact ⟨rfl, rfl⟩

def Tells (T : TypeId) (u : Value) (n : Int) (a : Bool) (s : ByteArray) (b : Bool) (t : Bool) (c : Bool) : Prop :=
  (∀ w : World, (Instr.typeAssert (.iface T u) 23 3 true).run Try.prog w = .ok (.tuple #[.int .i64 n, .bool a]) w) ∧
  (∀ w : World, (Instr.typeAssert (.iface T u) 23 9 true).run Try.prog w = .ok (.tuple #[.string s, .bool b]) w) ∧
  (∀ w : World, (Instr.typeAssert (.iface T u) 23 4 true).run Try.prog w = .ok (.tuple #[.bool t, .bool c]) w)
theorem tells_int (n : Int) : Tells 3 (.int .i64 n) n true ByteArray.empty false false false := ⟨fun _ => by kernel_rfl, fun _ => by kernel_rfl, fun _ => by kernel_rfl⟩
theorem tells_string (s : ByteArray) : Tells 9 (.string s) 0 false s true false false := ⟨fun _ => by kernel_rfl, fun _ => by kernel_rfl, fun _ => by kernel_rfl⟩
theorem tells_bool (b : Bool) : Tells 4 (.bool b) 0 false ByteArray.empty false b true := ⟨fun _ => by kernel_rfl, fun _ => by kernel_rfl, fun _ => by kernel_rfl⟩
theorem tells_int32 (n : Int) : Tells 21 (.int .i32 n) 0 false ByteArray.empty false false false := ⟨fun _ => by kernel_rfl, fun _ => by kernel_rfl, fun _ => by kernel_rfl⟩

def MustIs (T : TypeId) (u : Value) (m : Int) (fell : Bool) : Prop :=
  ∀ W : World, Calls Try.prog 25 #[.iface T u] W fun e w' => e = .returned (.tuple #[.int .i64 m, .bool fell]) ∧ Below W.heap.size W w'

theorem list5 {α : Type} {l : List α} (h : l.length = 5) : ∃ a b c d e, l = [a, b, c, d, e] := by
  match l, h with
  | [a, b, c, d, e], _ => exact ⟨a, b, c, d, e, rfl⟩

set_option maxRecDepth 100000 in
set_option maxHeartbeats 4000000 in
theorem walk_one (nm : ByteArray) (n : Int) (s : ByteArray) (b : Bool) (W : World) :
    Calls Try.prog 6 #[.agg #[.string nm, .int .i64 1, .int .i64 n, .string s, .bool b]] W fun e w' => e = .returned (.bool true) ∧ Below W.heap.size W w' := by
  have Hv : Hid (∀ W, Calls Try.prog 22 #[.agg #[.string nm, .int .i64 1, .int .i64 n, .string s, .bool b]] W fun e w' => e = .returned (.iface 3 (.int .i64 n)) ∧ Below W.heap.size W w') := by
    have h := fun W => value_any ⟨nm, 1, n, s, b⟩ W
    simp only [valv, if_pos] at h
    exact hid h
  have Ht := hid (tells_int n)
  have Hm := hid ((fun W => must_int n W : MustIs 3 (.int .i64 n) n false))
  have B1 := hid ((Below.refl W.heap.size W).alloc (Nat.le_refl _) (.cells #[.string nm, .int .i64 1, .int .i64 n, .string s, .bool b] 31))
  have K1 := hid (Blk.new W 31 #[.string nm, .int .i64 1, .int .i64 n, .string s, .bool b])
  go_enter Try.func6, Try.ntmps6
  go_wp2_with fail
  refine (number_any _ _ 5 true (tells_int 5).1 _).mono ?_
  rintro e w1 ⟨rfl, rfl⟩
  go_wp2_with fail
  refine (Hv.out _).mono ?_
  rintro e w2 ⟨rfl, hb2⟩
  have K2 := hid (Blk.below K1.out hb2 (by simp))
  have B2 := hid (B1.out.trans (hb2.mono (by simp)))
  have hs2 : W.heap.size < w2.heap.size := by have := hb2.size; simp at this; omega
  have r1 := K2.out.cell 1
  have r2 := K2.out.cell 2
  have r3 := K2.out.cell 3
  have r4 := K2.out.cell 4
  simp only [List.getElem?_toArray, List.getElem?_cons_zero, List.getElem?_cons_succ] at r1 r2 r3 r4
  clear hb2
  go_wp2_with fail
  refine (number_any _ _ _ _ Ht.out.1 _).mono ?_
  rintro e w3 ⟨rfl, rfl⟩
  go_wp2_with fail
  refine (word_any _ _ _ _ Ht.out.2.1 _).mono ?_
  rintro e w4 ⟨rfl, rfl⟩
  go_wp2_with fail
  refine (truth_any _ _ _ _ Ht.out.2.2 _).mono ?_
  rintro e w5 ⟨rfl, rfl⟩
  go_wp2_with fail
  refine (Hm.out _).mono ?_
  rintro e w6 ⟨rfl, hb6⟩
  have K6 := hid (Blk.below K2.out hb6 hs2)
  have B6 := hid (B2.out.trans (hb6.mono (Nat.le_of_lt hs2)))
  clear hb6 r1 r2 r3 r4
  have r1 := K6.out.cell 1
  have r2 := K6.out.cell 2
  simp only [List.getElem?_toArray, List.getElem?_cons_zero, List.getElem?_cons_succ] at r1 r2
  go_wp2_with fail
  go_ret
  exact ⟨ret_bool (by first | rfl | simp [n1]), B6.out⟩

set_option maxRecDepth 100000 in
set_option maxHeartbeats 4000000 in
theorem walk_two (nm : ByteArray) (n : Int) (s : ByteArray) (b : Bool) (W : World) :
    Calls Try.prog 6 #[.agg #[.string nm, .int .i64 2, .int .i64 n, .string s, .bool b]] W fun e w' => e = .returned (.bool true) ∧ Below W.heap.size W w' := by
  have Hv : Hid (∀ W, Calls Try.prog 22 #[.agg #[.string nm, .int .i64 2, .int .i64 n, .string s, .bool b]] W fun e w' => e = .returned (.iface 9 (.string s)) ∧ Below W.heap.size W w') := by
    have h := fun W => value_any ⟨nm, 2, n, s, b⟩ W
    simp only [valv, if_pos, show ¬ (2 : Int) = 1 by omega] at h
    exact hid h
  have Ht := hid (tells_string s)
  have Hm := hid ((fun W => must_fell _ _ (fails_string s) W : MustIs 9 (.string s) 0 true))
  have B1 := hid ((Below.refl W.heap.size W).alloc (Nat.le_refl _) (.cells #[.string nm, .int .i64 2, .int .i64 n, .string s, .bool b] 31))
  have K1 := hid (Blk.new W 31 #[.string nm, .int .i64 2, .int .i64 n, .string s, .bool b])
  go_enter Try.func6, Try.ntmps6
  go_wp2_with fail
  refine (number_any _ _ 5 true (tells_int 5).1 _).mono ?_
  rintro e w1 ⟨rfl, rfl⟩
  go_wp2_with fail
  refine (Hv.out _).mono ?_
  rintro e w2 ⟨rfl, hb2⟩
  have K2 := hid (Blk.below K1.out hb2 (by simp))
  have B2 := hid (B1.out.trans (hb2.mono (by simp)))
  have hs2 : W.heap.size < w2.heap.size := by have := hb2.size; simp at this; omega
  have r1 := K2.out.cell 1
  have r2 := K2.out.cell 2
  have r3 := K2.out.cell 3
  have r4 := K2.out.cell 4
  simp only [List.getElem?_toArray, List.getElem?_cons_zero, List.getElem?_cons_succ] at r1 r2 r3 r4
  clear hb2
  go_wp2_with fail
  refine (number_any _ _ _ _ Ht.out.1 _).mono ?_
  rintro e w3 ⟨rfl, rfl⟩
  go_wp2_with fail
  refine (word_any _ _ _ _ Ht.out.2.1 _).mono ?_
  rintro e w4 ⟨rfl, rfl⟩
  go_wp2_with fail
  refine (truth_any _ _ _ _ Ht.out.2.2 _).mono ?_
  rintro e w5 ⟨rfl, rfl⟩
  go_wp2_with fail
  refine (Hm.out _).mono ?_
  rintro e w6 ⟨rfl, hb6⟩
  have K6 := hid (Blk.below K2.out hb6 hs2)
  have B6 := hid (B2.out.trans (hb6.mono (Nat.le_of_lt hs2)))
  clear hb6 r1 r2 r3 r4
  have r1 := K6.out.cell 1
  have r2 := K6.out.cell 2
  simp only [List.getElem?_toArray, List.getElem?_cons_zero, List.getElem?_cons_succ] at r1 r2
  go_wp2_with fail
  go_ret
  exact ⟨ret_bool (by first | rfl | simp [n1]), B6.out⟩

set_option maxRecDepth 100000 in
set_option maxHeartbeats 4000000 in
theorem walk_three (nm : ByteArray) (n : Int) (s : ByteArray) (b : Bool) (W : World) :
    Calls Try.prog 6 #[.agg #[.string nm, .int .i64 3, .int .i64 n, .string s, .bool b]] W fun e w' => e = .returned (.bool true) ∧ Below W.heap.size W w' := by
  have Hv : Hid (∀ W, Calls Try.prog 22 #[.agg #[.string nm, .int .i64 3, .int .i64 n, .string s, .bool b]] W fun e w' => e = .returned (.iface 4 (.bool b)) ∧ Below W.heap.size W w') := by
    have h := fun W => value_any ⟨nm, 3, n, s, b⟩ W
    simp only [valv, if_pos, show ¬ (3 : Int) = 1 by omega, show ¬ (3 : Int) = 2 by omega] at h
    exact hid h
  have Ht := hid (tells_bool b)
  have Hm := hid ((fun W => must_fell _ _ (fails_bool b) W : MustIs 4 (.bool b) 0 true))
  have B1 := hid ((Below.refl W.heap.size W).alloc (Nat.le_refl _) (.cells #[.string nm, .int .i64 3, .int .i64 n, .string s, .bool b] 31))
  have K1 := hid (Blk.new W 31 #[.string nm, .int .i64 3, .int .i64 n, .string s, .bool b])
  go_enter Try.func6, Try.ntmps6
  go_wp2_with fail
  refine (number_any _ _ 5 true (tells_int 5).1 _).mono ?_
  rintro e w1 ⟨rfl, rfl⟩
  go_wp2_with fail
  refine (Hv.out _).mono ?_
  rintro e w2 ⟨rfl, hb2⟩
  have K2 := hid (Blk.below K1.out hb2 (by simp))
  have B2 := hid (B1.out.trans (hb2.mono (by simp)))
  have hs2 : W.heap.size < w2.heap.size := by have := hb2.size; simp at this; omega
  have r1 := K2.out.cell 1
  have r2 := K2.out.cell 2
  have r3 := K2.out.cell 3
  have r4 := K2.out.cell 4
  simp only [List.getElem?_toArray, List.getElem?_cons_zero, List.getElem?_cons_succ] at r1 r2 r3 r4
  clear hb2
  go_wp2_with fail
  refine (number_any _ _ _ _ Ht.out.1 _).mono ?_
  rintro e w3 ⟨rfl, rfl⟩
  go_wp2_with fail
  refine (word_any _ _ _ _ Ht.out.2.1 _).mono ?_
  rintro e w4 ⟨rfl, rfl⟩
  go_wp2_with fail
  refine (truth_any _ _ _ _ Ht.out.2.2 _).mono ?_
  rintro e w5 ⟨rfl, rfl⟩
  go_wp2_with fail
  refine (Hm.out _).mono ?_
  rintro e w6 ⟨rfl, hb6⟩
  have K6 := hid (Blk.below K2.out hb6 hs2)
  have B6 := hid (B2.out.trans (hb6.mono (Nat.le_of_lt hs2)))
  clear hb6 r1 r2 r3 r4
  have r1 := K6.out.cell 1
  have r2 := K6.out.cell 2
  simp only [List.getElem?_toArray, List.getElem?_cons_zero, List.getElem?_cons_succ] at r1 r2
  go_wp2_with fail
  go_ret
  exact ⟨ret_bool (by first | rfl | simp [n1]), B6.out⟩

set_option maxRecDepth 100000 in
set_option maxHeartbeats 4000000 in
theorem walk_other (nm : ByteArray) (kind : Int) (n : Int) (s : ByteArray) (b : Bool) (h1 : (kind == 1) = false) (h2 : (kind == 2) = false) (h3 : (kind == 3) = false) (W : World) :
    Calls Try.prog 6 #[.agg #[.string nm, .int .i64 kind, .int .i64 n, .string s, .bool b]] W fun e w' => e = .returned (.bool true) ∧ Below W.heap.size W w' := by
  have Hv : Hid (∀ W, Calls Try.prog 22 #[.agg #[.string nm, .int .i64 kind, .int .i64 n, .string s, .bool b]] W fun e w' => e = .returned (.iface 21 (.int .i32 7)) ∧ Below W.heap.size W w') := by
    have h := fun W => value_any ⟨nm, kind, n, s, b⟩ W
    simp only [valv, if_neg (beq_eq_false_iff_ne.1 h1), if_neg (beq_eq_false_iff_ne.1 h2), if_neg (beq_eq_false_iff_ne.1 h3)] at h
    exact hid h
  have n1 : ¬ kind = 1 := beq_eq_false_iff_ne.1 h1
  have n2 : ¬ kind = 2 := beq_eq_false_iff_ne.1 h2
  have n3 : ¬ kind = 3 := beq_eq_false_iff_ne.1 h3
  have d1 : decide (kind = 1) = false := decide_eq_false n1
  have d2 : decide (kind = 2) = false := decide_eq_false n2
  have d3 : decide (kind = 3) = false := decide_eq_false n3
  have Ht := hid (tells_int32 7)
  have Hm := hid ((fun W => must_fell _ _ (fails_int32 7) W : MustIs 21 (.int .i32 7) 0 true))
  have B1 := hid ((Below.refl W.heap.size W).alloc (Nat.le_refl _) (.cells #[.string nm, .int .i64 kind, .int .i64 n, .string s, .bool b] 31))
  have K1 := hid (Blk.new W 31 #[.string nm, .int .i64 kind, .int .i64 n, .string s, .bool b])
  go_enter Try.func6, Try.ntmps6
  go_wp2_with fail
  refine (number_any _ _ 5 true (tells_int 5).1 _).mono ?_
  rintro e w1 ⟨rfl, rfl⟩
  go_wp2_with fail
  refine (Hv.out _).mono ?_
  rintro e w2 ⟨rfl, hb2⟩
  have K2 := hid (Blk.below K1.out hb2 (by simp))
  have B2 := hid (B1.out.trans (hb2.mono (by simp)))
  have hs2 : W.heap.size < w2.heap.size := by have := hb2.size; simp at this; omega
  have r1 := K2.out.cell 1
  have r2 := K2.out.cell 2
  have r3 := K2.out.cell 3
  have r4 := K2.out.cell 4
  simp only [List.getElem?_toArray, List.getElem?_cons_zero, List.getElem?_cons_succ] at r1 r2 r3 r4
  clear hb2
  go_wp2_with fail
  refine (number_any _ _ _ _ Ht.out.1 _).mono ?_
  rintro e w3 ⟨rfl, rfl⟩
  go_wp2_with fail
  refine (word_any _ _ _ _ Ht.out.2.1 _).mono ?_
  rintro e w4 ⟨rfl, rfl⟩
  go_wp2_with fail
  refine (truth_any _ _ _ _ Ht.out.2.2 _).mono ?_
  rintro e w5 ⟨rfl, rfl⟩
  go_wp2_with fail
  refine (Hm.out _).mono ?_
  rintro e w6 ⟨rfl, hb6⟩
  have K6 := hid (Blk.below K2.out hb6 hs2)
  have B6 := hid (B2.out.trans (hb6.mono (Nat.le_of_lt hs2)))
  clear hb6 r1 r2 r3 r4
  have r1 := K6.out.cell 1
  have r2 := K6.out.cell 2
  simp only [List.getElem?_toArray, List.getElem?_cons_zero, List.getElem?_cons_succ] at r1 r2
  go_wp2_with fail
  go_ret
  exact ⟨ret_bool (by first | rfl | simp [n1]), B6.out⟩

theorem walk (nm : ByteArray) (kind n : Int) (s : ByteArray) (b : Bool) (W : World) :
    Calls Try.prog 6 #[.agg #[.string nm, .int .i64 kind, .int .i64 n, .string s, .bool b]] W fun e w' => e = .returned (.bool true) ∧ Below W.heap.size W w' := by
  by_cases k1 : kind = 1
  · subst k1; exact walk_one nm n s b W
  · by_cases k2 : kind = 2
    · subst k2; exact walk_two nm n s b W
    · by_cases k3 : kind = 3
      · subst k3; exact walk_three nm n s b W
      · exact walk_other nm kind n s b (beq_eq_false_iff_ne.2 k1) (beq_eq_false_iff_ne.2 k2) (beq_eq_false_iff_ne.2 k3) W

set_option maxRecDepth 100000 in
theorem lifted (os : Os) (started : os.Started) (H : Type) (enc : TypeId × Value → H) :
    ReturnsInHanded {} Try.checked os 6 .any (Rows.wishValuesSpec.pre6 enc Try.prog Try.f6 Rows.wishValuesRow.domain false) (Rows.wishValuesSpec.post enc Try.prog Try.f6 false true false false) :=
  law_lifted own laidOut started (by kernel_rfl) Try.func6 rfl rfl Try.underlying4
    (by rw [Try.params6]; intro t ht; simp at ht; rcases ht with rfl <;> exact ⟨by kernel_rfl, of_decide_eq_true (by kernel_rfl)⟩)
    (by
      intro ds h
      match ds, h with
      | [_], _ => exact ⟨rfl, rfl, rfl⟩)
    (ChangeSpec.witness6 (enc := enc) (C := Try.checked) false ⟨#[], #[.agg #[.string ByteArray.empty, .int .i64 0, .int .i64 0, .string ByteArray.empty, .bool false]], []⟩ 8 (by kernel_rfl) (by kernel_rfl) (by kernel_rfl) (by kernel_rfl))
    (by
      intro W base args ds ps hval0 hA0
      have hval : ∀ (j : Nat) t v, Try.f6.params[j]? = some t → args[j]? = some v → Value.okWide Try.prog W .any base t v := hval0
      have hA : DataW.TrodAll enc Try.prog W 0 (fun _ => true) true Try.f6.params.toList args.toList ds ps := hA0
      clear hval0 hA0
      rw [Try.params6] at hA hval
      obtain ⟨v0, vs0, d0, ds0, p0, q0, hargs, rfl, rfl, h0, r0⟩ := trodAll_cons hA
      obtain ⟨rfl, rfl, rfl⟩ := trodAll_nil r0
      obtain rfl : args = #[v0] := by cases args; simp_all
      obtain ⟨cs, e, hl, L⟩ := open_agg 0 Try.underlying31 (by kernel_rfl) (hval 0 31 v0 rfl rfl) h0
      obtain ⟨_, _, u0, e0, t0⟩ := L 0 9 (by kernel_rfl)
      obtain ⟨x0, rfl, _⟩ := leaf_string Try.underlying9 t0
      obtain ⟨_, _, u1, e1, t1⟩ := L 1 3 (by kernel_rfl)
      obtain ⟨x1, rfl, _⟩ := leaf_int Try.underlying3 t1
      obtain ⟨_, _, u2, e2, t2⟩ := L 2 3 (by kernel_rfl)
      obtain ⟨x2, rfl, _⟩ := leaf_int Try.underlying3 t2
      obtain ⟨_, _, u3, e3, t3⟩ := L 3 9 (by kernel_rfl)
      obtain ⟨x3, rfl, _⟩ := leaf_string Try.underlying9 t3
      obtain ⟨_, _, u4, e4, t4⟩ := L 4 4 (by kernel_rfl)
      obtain ⟨x4, rfl⟩ := leaf_bool Try.underlying4 t4
      rw [show (leaves Try.prog (0 + 1) 31).length = 5 by kernel_rfl] at hl
      obtain ⟨c0, c1, c2, c3, c4, rfl⟩ := list5 hl
      simp at e0 e1 e2 e3 e4
      subst e0 e1 e2 e3 e4
      rw [e]
      exact walk x0 x1 x2 x3 x4 W)

theorem over : Rows.wishValuesRow.holds Try.pinned (OpenSpec.ofChange Rows.wishValuesSpec) :=
  OpenClaim.holds_of_wide 6 Try.f6 rfl rfl rfl rfl rfl rfl rfl ⟨rfl, rfl, rfl, rfl, rfl⟩ rfl rfl rfl rfl rfl (by kernel_rfl) Try.func6 (by kernel_rfl)
    (of_decide_eq_true (by kernel_rfl)) (by unfold Func.isWrapper; first | (rw [if_pos (by decide +kernel)]; kernel_rfl) | (rw [if_neg (by decide +kernel)]; exact ⟨rfl, rfl⟩))
    (fun os started H enc _ => lifted os started H enc)

theorem proved : Rows.WishValuesSaid := over
#print axioms proved
end Go.Proofs.Ytnlhneoiofijeaa.WishValues
