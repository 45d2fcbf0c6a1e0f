/-
  ZlibUnwraps: for every bytes and every most the law returns true: what is unwrapped is what the document says, or the same thing goes wrong first. No condition.
-/
import Derived.Test.YtegmbjkpjglgpaaZuF
import Derived.Test.YtegmbjkpjglgpaaOpens
import Derived.Test.YtegmbjkpjglgpaaOpensB
namespace Go.Proofs.Ytegmbjkpjglgpaa.ZlibUnwraps
open Go.ChangeShapes Go.WideShapes Go.ChangeAt Go.RowKit Go.Proofs.Ytegmbjkpjglgpaa

set_option maxRecDepth 100000 in
theorem lifted (os : Os) (started : os.Started) (H : Type) (enc : TypeId × Value → H) :
    ReturnsInHanded {} Try.checked os 9 .any (Rows.zlibUnwrapsSpec.pre6 enc Try.prog Try.f9 Rows.zlibUnwrapsRow.domain false) (Rows.zlibUnwrapsSpec.post enc Try.prog Try.f9 false true false false) :=
  law_lifted own laidOut started (by kernel_rfl) Try.func9 rfl rfl Try.underlying4
    (by rw [Try.params9]; intro t ht; simp at ht; rcases ht with rfl | rfl <;> exact ⟨by kernel_rfl, of_decide_eq_true (by kernel_rfl)⟩)
    (by
      intro ds h
      match ds, h with
      | [_, _], _ => exact ⟨rfl, rfl, rfl⟩)
    (ChangeSpec.witness6 (enc := enc) (C := Try.checked) false ⟨#[], #[.slice none 0 0, .int .i64 0], []⟩ 8 (by kernel_rfl) (by kernel_rfl) (by kernel_rfl) (by kernel_rfl))
    (by
      intro W base args ds ps hval0 hA0
      have hval : ∀ (j : Nat) t v, Try.f9.params[j]? = some t → args[j]? = some v → Value.okWide Try.prog W .any base t v := hval0
      have hA : DataW.TrodAll enc Try.prog W 0 (fun _ => true) true Try.f9.params.toList args.toList ds ps := hA0
      clear hval0 hA0
      rw [Try.params9] at hA hval
      obtain ⟨v0, vs0, d0, ds0, p0, q0, hargs, rfl, rfl, h0, r0⟩ := trodAll_cons hA
      obtain ⟨v1, vs1, d1, ds1, p1, q1, rfl, rfl, rfl, h1, r1⟩ := trodAll_cons r0
      obtain ⟨rfl, rfl, rfl⟩ := trodAll_nil r1
      obtain rfl : args = #[v0, v1] := by cases args; simp_all
      obtain ⟨A0, c0, l0, rfl, hc0, hm0, hok0, hr0, hz0⟩ := open_bytes2 (hval 0 42 v0 rfl rfl) h0
      obtain ⟨a1, rfl, rfl, rfl, w1⟩ := open_int Try.underlying3 (hval 1 3 v1 rfl rfl) h1
      exact unwraps_law A0 c0 l0 a1 _ hr0 hok0 hz0 hc0)

theorem over : Rows.zlibUnwrapsRow.holds Try.pinned (OpenSpec.ofChange Rows.zlibUnwrapsSpec) :=
  OpenClaim.holds_of_wide 9 Try.f9 rfl rfl rfl rfl rfl rfl rfl ⟨rfl, rfl, rfl, rfl, rfl⟩ rfl rfl rfl rfl rfl (by kernel_rfl) Try.func9 (by kernel_rfl)
    (of_decide_eq_true (by kernel_rfl)) (by unfold Func.isWrapper; first | (rw [if_pos (by decide +kernel)]; kernel_rfl) | (rw [if_neg (by decide +kernel)]; exact ⟨rfl, rfl⟩))
    (fun os started H enc _ => lifted os started H enc)

theorem proved : Rows.ZlibUnwrapsSaid := over
#print axioms proved
end Go.Proofs.Ytegmbjkpjglgpaa.ZlibUnwraps
