/-
  SqueezePlain: for every bytes the law returns true: the packed form of one byte is the six bytes that it names; Plain and Fixed write the very bytes that the document writes, the text is kept, and the bytes lie apart from it. No condition.
-/
import Derived.Test.YtoppjcmkhhkbmaaGreatSqueezePlainx24
namespace Go.Proofs.YtoppjcmkhhkbmaaGreat.SqueezePlain
open Go.ChangeShapes Go.WideShapes Go.ChangeAt Go.RowKit Go.Proofs.YtoppjcmkhhkbmaaGreat

set_option maxRecDepth 100000 in
theorem lifted (os : Os) (started : os.Started) (H : Type) (enc : TypeId × Value → H) :
    ReturnsInHanded {} Tryz.checked os 3 .any (Rows.squeezePlainSpec.pre6 enc Tryz.prog Tryz.f3 Rows.squeezePlainRow.domain false) (Rows.squeezePlainSpec.post enc Tryz.prog Tryz.f3 false true false false) :=
  law_lifted own laidOut started (by kernel_rfl) Tryz.func3 rfl rfl Tryz.underlying4
    (by rw [Tryz.params3]; intro t ht; simp at ht; rcases ht with rfl <;> exact ⟨by kernel_rfl, of_decide_eq_true (by kernel_rfl)⟩)
    (by
      intro ds h
      match ds, h with
      | [_], _ => exact ⟨rfl, rfl, rfl⟩)
    (ChangeSpec.witness6 (enc := enc) (C := Tryz.checked) false ⟨#[], #[.slice none 0 0], []⟩ 8 (by kernel_rfl) (by kernel_rfl) (by kernel_rfl) (by kernel_rfl))
    (by
      intro W base args ds ps hval0 hA0
      have hval : ∀ (j : Nat) t v, Tryz.f3.params[j]? = some t → args[j]? = some v → Value.okWide Tryz.prog W .any base t v := hval0
      have hA : DataW.TrodAll enc Tryz.prog W 0 (fun _ => true) true Tryz.f3.params.toList args.toList ds ps := hA0
      clear hval0 hA0
      rw [Tryz.params3] at hA hval
      obtain ⟨v0, vs0, d0, ds0, p0, q0, hargs, rfl, rfl, h0, r0⟩ := trodAll_cons hA
      obtain ⟨rfl, rfl, rfl⟩ := trodAll_nil r0
      obtain rfl : args = #[v0] := by cases args; simp_all
      obtain ⟨A0, c0, l0, rfl, hc0, hm0, hok0, hr0, hz0⟩ := open_bytes2 (hval 0 22 v0 rfl rfl) h0
      exact plain_lawz A0 c0 l0 _ hr0 hc0 hz0 hok0)

theorem over : Rows.squeezePlainRow.holds Tryz.pinned (OpenSpec.ofChange Rows.squeezePlainSpec) :=
  OpenClaim.holds_of_wide 3 Tryz.f3 rfl rfl rfl rfl rfl rfl rfl ⟨rfl, rfl, rfl, rfl, rfl⟩ rfl rfl rfl rfl rfl (by kernel_rfl) Tryz.func3 (by kernel_rfl)
    (of_decide_eq_true (by kernel_rfl)) (by unfold Func.isWrapper; first | (rw [if_pos (by decide +kernel)]; kernel_rfl) | (rw [if_neg (by decide +kernel)]; exact ⟨rfl, rfl⟩))
    (fun os started H enc _ => lifted os started H enc)

theorem proved : Rows.SqueezePlainSaid := over
#print axioms proved
end Go.Proofs.YtoppjcmkhhkbmaaGreat.SqueezePlain
