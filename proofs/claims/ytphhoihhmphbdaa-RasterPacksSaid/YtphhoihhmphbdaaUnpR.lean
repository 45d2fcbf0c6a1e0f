/-
  burnishref17.pixelBytes, Unpack: walked.
  The passes counted as the reference counts them: by seven numbers, some of them empty. Plain.
-/
import Derived.Test.YtphhoihhmphbdaaUnpB
import Derived.Test.YtphhoihhmphbdaaRefD
import Derived.Test.YtphhoihhmphbdaaSpdR
import Derived.Test.YtphhoihhmphbdaaSamR
import Derived.Test.YtphhoihhmphbdaaFilR
import Derived.Test.YtphhoihhmphbdaaRlaw
import Derived.Test.YtphhoihhmphbdaaUnpM
namespace Go.Proofs.Ytphhoihhmphbdaa
open Go.RowKit Go.Shelf
attribute [local go_sem] Oper.semAt_some

set_option maxRecDepth 100000 in
set_option maxHeartbeats 4000000 in
theorem rwhole_any (w h d c l : Int) (hd : deepOk d) (W : World) : Calls Try.prog 50 #[.agg #[.int .i64 w, .int .i64 h, .int .i64 d, .int .i64 c, .int .i64 l]] W fun e w' => e = .returned (.int .i64 (whM d c)) ∧ Below W.heap.size W w' := by
  have K0 := hid (Blk.new W 23 #[.int .i64 w, .int .i64 h, .int .i64 d, .int .i64 c, .int .i64 l])
  have B0 := hid ((Below.refl W.heap.size W).alloc (Nat.le_refl _) (.cells #[.int .i64 w, .int .i64 h, .int .i64 d, .int .i64 c, .int .i64 l] 23))
  have hc := chan_bd c
  have hdb := deep_bd hd
  obtain ⟨k, hk⟩ : ∃ k, k = chan c * d := ⟨_, rfl⟩
  have hk1 : k ≤ 64 := by rw [hk]; exact Int.mul_le_mul hc.2 hdb.2 (by omega) (by omega)
  have hk0 : 0 ≤ k := by rw [hk]; exact Int.mul_nonneg hc.1 (by omega)
  have hke : chan c * d = k := hk.symm
  have HW := hid (show whM d c = if k / 8 < 1 then 1 else k / 8 from by unfold whM; rw [← hk])
  have ht : k.tdiv 8 = k / 8 := Int.tdiv_eq_ediv_of_nonneg hk0
  have CH := hid (fun w => refChannels_any c w)
  generalize chan c = ch at *
  obtain ⟨w0, hw0⟩ : ∃ w0, w0 = W.alloc (.cells #[.int .i64 w, .int .i64 h, .int .i64 d, .int .i64 c, .int .i64 l] 23) := ⟨_, rfl⟩
  have hg0 : W.heap.size < w0.heap.size := by rw [hw0]; simp
  rw [← hw0] at K0 B0
  have Hw0 := hid hw0
  clear hw0 hk hd hdb hc
  go_enter Try.func50, Try.ntmps50
  go_upto_region 1 with (fail)
  rw [← Hw0.out]
  refine free_lit (S := World) (fun i => i == 2)
    (fun x i => [.pointer (some ⟨W.heap.size, 3, none⟩), .int .i64 c, .int .i64 ch, .pointer (some ⟨W.heap.size, 2, none⟩), .int .i64 d, .int .i64 k, .int .i64 (k / 8), .int .i64 (k / 8)].getD i undef)
    (fun x => x) (fun k x => match k with | 0 => x = w0.drew | 1 => Below w0.drew.heap.size w0.drew x | _ => False)
    (fun i => if i ≤ 2 then 0 else if i ≤ 4 then 0 else 1) (fun i => 1) (fun _ => false) (fun _ => false) ?af ?ab 1 (w0.drew) (by kernel_rfl) (by kernel_rfl) (by kernel_rfl) (by kernel_rfl) (by kernel_rfl) (by kernel_rfl) (by kernel_rfl) rfl rfl ?haf ?hab ?hy ?hQ
  case haf =>
    intro x
    simp only [actOf, dstAt, List.length_cons, List.length_nil, Nat.reduceAdd, List.getElem?_cons_zero, List.getElem?_cons_succ, Option.bind_some, if_true, List.getD_cons_zero, List.getD_cons_succ, Act.put, List.setIfInBounds_toArray, List.set_cons_zero, List.set_cons_succ]
    rfl
  case hab =>
    intro x
    simp only [actOf, dstAt, List.length_cons, List.length_nil, Nat.reduceAdd, List.getElem?_cons_zero, List.getElem?_cons_succ, Option.bind_some, Bool.not_false, if_true, List.getD_cons_zero, List.getD_cons_succ, Act.put, List.setIfInBounds_toArray, List.set_cons_zero, List.set_cons_succ]
    rfl
  case hy =>
    intro k2 x hR
    have hb : Below w0.heap.size w0 x := by
      match k2, hR with
      | 0, h => rw [show x = w0.drew from h]; exact (Below.refl _ _).drew
      | 1, h => exact (Below.refl _ _).drew.trans h
    have hD2 := (K0.out.below hb K0.out.lt).cell 2
    have hD3 := (K0.out.below hb K0.out.lt).cell 3
    simp only [List.getElem?_toArray, List.getElem?_cons_zero, List.getElem?_cons_succ] at hD2 hD3
    simp only [AllY]
    refine ⟨?_, ?_, ?_, ?_, ?_, ?_, ?_, ?_, trivial⟩
    case refine_3 =>
      intro hk
      obtain rfl : k2 = 0 := hk
      obtain rfl : x = w0.drew := hR
      refine .inr (.inr ⟨48, #[.int .i64 c], w0.drew, by simp [go_sem, Act.eval], ?_⟩)
      refine (CH.out w0.drew).mono ?_
      rintro e w5 ⟨rfl, hb5⟩
      exact ⟨_, rfl, w5, hb5, rfl, rfl, fun i hi hd hn => rfl⟩
    case refine_6 => exact fun _ _ => .inl (by simp [execOp, go_sem, Act.eval, hke]; exact IntWalk.i64_in _ (by omega))
    case refine_7 => exact fun _ _ => .inl (by simp [execOp, go_sem, Act.eval, ht]; exact IntWalk.i64_in _ (by omega))
    all_goals exact fun _ _ => .inl (by simp [execOp, go_sem, Act.eval, hD2, hD3])
  case hQ =>
    intro u2 hR
    have Hb2 := hid (B0.out.trans (((Below.refl w0.heap.size w0).drew.trans hR).mono B0.out.size))
    show Exit.then _ _ .normal _ u2
    clear hR
    go_wp2_with fail
    all_goals
      go_ret
      refine ⟨ret_int ?_, Hb2.out⟩
      rw [HW.out]
      split <;> omega
end Go.Proofs.Ytphhoihhmphbdaa

namespace Go.Proofs.Ytphhoihhmphbdaa
open Go.RowKit

/-- how many passes have come ahead of number p -/
def cntI (f : Fm) (p : Nat) : Nat := (ppre f.w f.h f.l p).length
theorem cnt_zero (f : Fm) : cntI f 0 = 0 := by
  unfold cntI ppre
  split <;> rfl
theorem cnt_no (f : Fm) (w1 : 1 ≤ f.w) {p : Nat} (h : ¬ 0 < (sizeR f.w f.h f.l p).1) : cntI f (p + 1) = cntI f p := by
  unfold cntI
  rw [ppre_next f.w f.h f.l p w1, if_neg h, List.append_nil]
theorem cnt_yes (f : Fm) (w1 : 1 ≤ f.w) {p : Nat} (h : 0 < (sizeR f.w f.h f.l p).1) : cntI f (p + 1) = cntI f p + 1 := by
  unfold cntI
  rw [ppre_next f.w f.h f.l p w1, if_pos h, List.length_append]
  rfl
theorem ppre_more (w h l : Int) (w1 : 1 ≤ w) (p : Nat) : ∀ d, ∃ t, ppre w h l (p + d) = ppre w h l p ++ t
  | 0 => ⟨[], by rw [List.append_nil]; rfl⟩
  | d + 1 => by
    obtain ⟨t, ht⟩ := ppre_more w h l w1 p d
    rw [← Nat.add_assoc, ppre_next w h l (p + d) w1, ht]
    exact ⟨_, List.append_assoc _ _ _⟩
theorem cnt_pass (f : Fm) (w1 : 1 ≤ f.w) {p : Nat} (hp : p < 7) (h : 0 < (sizeR f.w f.h f.l p).1) : cntI f p < passN f ∧ passI f.w f.h f.l (cntI f p) = (p, sizeR f.w f.h f.l p) := by
  obtain ⟨t, ht⟩ := ppre_more f.w f.h f.l w1 (p + 1) (6 - p)
  rw [show p + 1 + (6 - p) = 7 by omega, ppre_7, ppre_next f.w f.h f.l p w1, if_pos h] at ht
  constructor
  · unfold cntI passN
    rw [ht, List.length_append, List.length_append, List.length_cons]
    omega
  · unfold cntI passI
    rw [ht, List.append_assoc, List.getD_eq_getElem?_getD, List.getElem?_append_right (Nat.le_refl _), Nat.sub_self]
    rfl
theorem cnt_all (f : Fm) : cntI f 7 = passN f := by
  unfold cntI passN
  rw [ppre_7]
theorem cnt_cols (f : Fm) (hh : headErr f.w f.h f.d f.c f.l = 0) {p : Nat} (hp : p < 7) (h : 0 < (sizeR f.w f.h f.l p).1) : sizeR f.w f.h f.l p = (((colsI f (cntI f p) : Nat) : Int), ((rowsI f (cntI f p) : Nat) : Int)) := by
  obtain ⟨h1, h2⟩ := cnt_pass f (headErr_bnd hh).1 hp h
  have h3 := (pass_pos f hh h1).1
  rw [h2] at h3
  exact h3
end Go.Proofs.Ytphhoihhmphbdaa
