/-
  ShrinkSizes: for every form the law returns true. No condition.
-/
import Derived.Test.YtbpdkpphhjmalaaL18B
import Derived.Test.YtbpdkpphhjmalaaL18A
import Derived.Test.YtbpdkpphhjmalaaRefD
namespace Go.Proofs.Ytbpdkpphhjmalaa.ShrinkSizes
open Go.ChangeShapes Go.WideShapes Go.ChangeAt Go.RowKit Go.Proofs.Ytbpdkpphhjmalaa

set_option maxRecDepth 100000 in
set_option maxHeartbeats 4000000 in
theorem walk (f : Fm) (PA KA : Option Addr) (pc kc : Nat) (W : World) (hp : RdP W W.heap.size PA f.pal) (hk : RdI W W.heap.size KA f.key) :
    Calls Try.prog 14 #[.agg #[.int .i64 f.w, .int .i64 f.h, .int .i64 f.d, .int .i64 f.c, .int .i64 f.l, .slice PA f.pal.length pc, .slice KA f.key.length kc]] W fun e w' => e = .returned (.bool true) ∧ Below W.heap.size W w' := by
  have Hp := hid hp
  have Hk := hid hk
  have Hw := hid (rbw_start f PA KA pc kc W)
  clear hp hk
  go_enter Try.func14, Try.ntmps14
  go_wp2_with fail
  refine (alive18_any _).mono ?_
  rintro e w1 ⟨rfl, hb⟩
  have Hw1 := hid (Hw.out.below hb)
  have q0 := Hw1.out.1.cell 0
  have q1 := Hw1.out.1.cell 1
  have q2 := Hw1.out.1.cell 2
  have q3 := Hw1.out.1.cell 3
  have q4 := Hw1.out.1.cell 4
  have q5 := Hw1.out.1.cell 5
  have q6 := Hw1.out.1.cell 6
  simp only [List.getElem?_toArray, List.getElem?_cons_zero, List.getElem?_cons_succ] at q0 q1 q2 q3 q4 q5 q6
  clear hb Hw
  by_cases h1 : 400 < f.pal.length
  · have d1 : decide ((400 : Int) < (f.pal.length : Int)) = true := decide_eq_true (by omega)
    clear h1
    go_wp2
    go_ret
    exact ⟨rfl, Hw1.out.2⟩
  have d1 : decide ((400 : Int) < (f.pal.length : Int)) = false := decide_eq_false (by omega)
  by_cases h2 : 50 < f.key.length
  · have d2 : decide ((50 : Int) < (f.key.length : Int)) = true := decide_eq_true (by omega)
    clear h1 h2
    go_wp2
    go_ret
    exact ⟨rfl, Hw1.out.2⟩
  have d2 : decide ((50 : Int) < (f.key.length : Int)) = false := decide_eq_false (by omega)
  have hpm : f.pal.length ≤ 1000000 := by omega
  have hkm : f.key.length ≤ 1000000 := by omega
  clear h1 h2
  go_wp2_with fail
  refine (good_form f PA KA pc kc _ (Hw1.out.rdp Hp.out) (Hw1.out.rdi Hk.out) hpm hkm).mono ?_
  rintro e w2 ⟨rfl, hb⟩
  have Hw2 := hid (Hw1.out.below hb)
  clear q0 q1 q2 q3 q4 q5 q6
  have q0 := Hw2.out.1.cell 0
  have q1 := Hw2.out.1.cell 1
  have q2 := Hw2.out.1.cell 2
  have q3 := Hw2.out.1.cell 3
  have q4 := Hw2.out.1.cell 4
  have q5 := Hw2.out.1.cell 5
  have q6 := Hw2.out.1.cell 6
  simp only [List.getElem?_toArray, List.getElem?_cons_zero, List.getElem?_cons_succ] at q0 q1 q2 q3 q4 q5 q6
  clear hb Hw1 d1 d2
  cases hf : formOk f
  · have Hs := hid (show sizeM f = 0 by unfold sizeM; rw [hf, if_neg (by simp)])
    clear hf
    go_wp2_with fail
    refine (size_f f PA KA pc kc _ (Hw2.out.rdp Hp.out) (Hw2.out.rdi Hk.out) hpm hkm).mono ?_
    rintro e w3 ⟨rfl, hb⟩
    have Hw3 := hid (Hw2.out.below hb)
    rw [Hs.out]
    clear hb
    go_wp2
    go_ret
    exact ⟨rfl, Hw3.out.2⟩
  · have Hf := hid hf
    have Hs := hid (rsize_eq hf)
    clear hf
    go_wp2_with fail
    refine (rsize18_any f PA KA pc kc _ Hf.out (Hw2.out.rdp Hp.out) hpm hkm).mono ?_
    rintro e w3 ⟨rfl, hb⟩
    have Hw3 := hid (Hw2.out.below hb)
    clear q0 q1 q2 q3 q4 q5 q6
    have q0 := Hw3.out.1.cell 0
    have q1 := Hw3.out.1.cell 1
    have q2 := Hw3.out.1.cell 2
    have q3 := Hw3.out.1.cell 3
    have q4 := Hw3.out.1.cell 4
    have q5 := Hw3.out.1.cell 5
    have q6 := Hw3.out.1.cell 6
    simp only [List.getElem?_toArray, List.getElem?_cons_zero, List.getElem?_cons_succ] at q0 q1 q2 q3 q4 q5 q6
    clear hb Hw2
    go_wp2_with fail
    refine (size_f f PA KA pc kc _ (Hw3.out.rdp Hp.out) (Hw3.out.rdi Hk.out) hpm hkm).mono ?_
    rintro e w4 ⟨rfl, hb⟩
    have Hw4 := hid (Hw3.out.below hb)
    rw [Hs.out]
    clear hb
    go_wp2
    go_ret
    exact ⟨by simp, Hw4.out.2⟩

set_option maxRecDepth 100000 in
theorem lifted (os : Os) (started : os.Started) (H : Type) (enc : TypeId × Value → H) :
    ReturnsInHanded {} Try.checked os 14 .any (Rows.shrinkSizesSpec.pre6 enc Try.prog Try.f14 Rows.shrinkSizesRow.domain false) (Rows.shrinkSizesSpec.post enc Try.prog Try.f14 false true false false) :=
  law_lifted own laidOut started (by kernel_rfl) Try.func14 rfl rfl Try.underlying4
    (by rw [Try.params14]; intro t ht; simp at ht; rcases ht with rfl <;> exact ⟨by kernel_rfl, of_decide_eq_true (by kernel_rfl)⟩)
    (by
      intro ds h
      match ds, h with
      | [_], _ => exact ⟨rfl, rfl, rfl⟩)
    (ChangeSpec.witness6 (enc := enc) (C := Try.checked) false ⟨#[], #[.agg #[.int .i64 0, .int .i64 0, .int .i64 0, .int .i64 0, .int .i64 0, .slice none 0 0, .slice none 0 0]], []⟩ 8 (by kernel_rfl) (by kernel_rfl) (by kernel_rfl) (by kernel_rfl))
    (by
      intro W base args ds ps hval0 hA0
      have hval : ∀ (j : Nat) t v, Try.f14.params[j]? = some t → args[j]? = some v → Value.okWide Try.prog W .any base t v := hval0
      have hA : DataW.TrodAll enc Try.prog W 0 (fun _ => true) true Try.f14.params.toList args.toList ds ps := hA0
      clear hval0 hA0
      rw [Try.params14] at hA hval
      obtain ⟨v0, vs0, d0, ds0, p0, q0, hargs, rfl, rfl, h0, r0⟩ := trodAll_cons hA
      obtain ⟨rfl, rfl, rfl⟩ := trodAll_nil r0
      obtain rfl : args = #[v0] := by cases args; simp_all
      obtain ⟨f0, PA0, KA0, pc0, kc0, rfl, hp0, hk0⟩ := open_form (hval 0 27 v0 rfl rfl) h0
      exact walk f0 PA0 KA0 pc0 kc0 W hp0 hk0)

theorem over : Rows.shrinkSizesRow.holds Try.pinned (OpenSpec.ofChange Rows.shrinkSizesSpec) :=
  OpenClaim.holds_of_wide 14 Try.f14 rfl rfl rfl rfl rfl rfl rfl ⟨rfl, rfl, rfl, rfl, rfl⟩ rfl rfl rfl rfl rfl (by kernel_rfl) Try.func14 (by kernel_rfl)
    (of_decide_eq_true (by kernel_rfl)) (by unfold Func.isWrapper; first | (rw [if_pos (by decide +kernel)]; kernel_rfl) | (rw [if_neg (by decide +kernel)]; exact ⟨rfl, rfl⟩))
    (fun os started H enc _ => lifted os started H enc)

theorem proved : Rows.ShrinkSizesSaid := over
#print axioms proved
end Go.Proofs.Ytbpdkpphhjmalaa.ShrinkSizes
