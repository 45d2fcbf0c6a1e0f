/-
  ZlibBack: for every packed bytes, every number and every bytes behind the law returns true: what is wrapped is unwrapped, and refused with another sum. No condition.
-/
import Derived.Test.YtegmbjkpjglgpaaZuH
import Derived.Test.YtegmbjkpjglgpaaOpens
import Derived.Test.YtegmbjkpjglgpaaOpensB
namespace Go.Proofs.Ytegmbjkpjglgpaa.ZlibBack
open Go.ChangeShapes Go.WideShapes Go.ChangeAt Go.RowKit Go.Proofs.Ytegmbjkpjglgpaa

set_option maxRecDepth 100000 in
theorem lifted (os : Os) (started : os.Started) (H : Type) (enc : TypeId × Value → H) :
    ReturnsInHanded {} Try.checked os 10 .any (Rows.zlibBackSpec.pre6 enc Try.prog Try.f10 Rows.zlibBackRow.domain false) (Rows.zlibBackSpec.post enc Try.prog Try.f10 false true false false) :=
  law_lifted own laidOut started (by kernel_rfl) Try.func10 rfl rfl Try.underlying4
    (by rw [Try.params10]; intro t ht; simp at ht; rcases ht with rfl | rfl | rfl <;> exact ⟨by kernel_rfl, of_decide_eq_true (by kernel_rfl)⟩)
    (by
      intro ds h
      match ds, h with
      | [_, _, _], _ => exact ⟨rfl, rfl, rfl⟩)
    (ChangeSpec.witness6 (enc := enc) (C := Try.checked) false ⟨#[], #[.slice none 0 0, .int .i64 0, .slice none 0 0], []⟩ 8 (by kernel_rfl) (by kernel_rfl) (by kernel_rfl) (by kernel_rfl))
    (by
      intro W base args ds ps hval0 hA0
      have hval : ∀ (j : Nat) t v, Try.f10.params[j]? = some t → args[j]? = some v → Value.okWide Try.prog W .any base t v := hval0
      have hA : DataW.TrodAll enc Try.prog W 0 (fun _ => true) true Try.f10.params.toList args.toList ds ps := hA0
      clear hval0 hA0
      rw [Try.params10] at hA hval
      obtain ⟨v0, vs0, d0, ds0, p0, q0, hargs, rfl, rfl, h0, r0⟩ := trodAll_cons hA
      obtain ⟨v1, vs1, d1, ds1, p1, q1, rfl, rfl, rfl, h1, r1⟩ := trodAll_cons r0
      obtain ⟨v2, vs2, d2, ds2, p2, q2, rfl, rfl, rfl, h2, r2⟩ := trodAll_cons r1
      obtain ⟨rfl, rfl, rfl⟩ := trodAll_nil r2
      obtain rfl : args = #[v0, v1, v2] := by cases args; simp_all
      obtain ⟨A0, c0, l0, rfl, hc0, hm0, hok0, hr0, hz0⟩ := open_bytes2 (hval 0 42 v0 rfl rfl) h0
      obtain ⟨a1, rfl, rfl, rfl, w1⟩ := open_int Try.underlying3 (hval 1 3 v1 rfl rfl) h1
      obtain ⟨A2, c2, l2, rfl, hc2, hm2, hok2, hr2, hz2⟩ := open_bytes2 (hval 2 42 v2 rfl rfl) h2
      exact back_law A0 A2 c0 c2 l0 l2 a1 _ hr0 hr2 hok0 hok2 hz0 hc0)

theorem over : Rows.zlibBackRow.holds Try.pinned (OpenSpec.ofChange Rows.zlibBackSpec) :=
  OpenClaim.holds_of_wide 10 Try.f10 rfl rfl rfl rfl rfl rfl rfl ⟨rfl, rfl, rfl, rfl, rfl⟩ rfl rfl rfl rfl rfl (by kernel_rfl) Try.func10 (by kernel_rfl)
    (of_decide_eq_true (by kernel_rfl)) (by unfold Func.isWrapper; first | (rw [if_pos (by decide +kernel)]; kernel_rfl) | (rw [if_neg (by decide +kernel)]; exact ⟨rfl, rfl⟩))
    (fun os started H enc _ => lifted os started H enc)

theorem proved : Rows.ZlibBackSaid := over
#print axioms proved
end Go.Proofs.Ytegmbjkpjglgpaa.ZlibBack
