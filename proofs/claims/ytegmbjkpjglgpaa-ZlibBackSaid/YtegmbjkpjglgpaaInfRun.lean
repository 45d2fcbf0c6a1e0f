/-
  inflate.run: all blocks.
-/
import Derived.Test.YtegmbjkpjglgpaaInfBlk
import Derived.Test.YtegmbjkpjglgpaaInfSc
namespace Go.Proofs.Ytegmbjkpjglgpaa
open Go.RowKit

/-- how the run ends -/
def RunEnd (bl : List Int) (most : Int) (W : World) (e : Ending) (w' : World) : Prop :=
  match infM (bitsL bl) most with
  | .error k => e = .returned (.tuple #[.pointer none, .iface 40 (.int .i64 k)]) ∧ Below W.heap.size W w'
  | .ok s2 => ∃ v lp dp bs, v.B = W.heap.size ∧ v.W0 = W ∧ v.bl = bl ∧ v.most = most ∧ e = .returned (.tuple #[.pointer (some ⟨v.g, 0, none⟩), .nilIface]) ∧ St v w' s2 lp dp bs
theorem runEnd_err {bl : List Int} {most : Int} {W : World} {e : Ending} {w' : World} {k : Int} (h : infM (bitsL bl) most = .error k) (he : e = .returned (.tuple #[.pointer none, .iface 40 (.int .i64 k)])) (hb : Below W.heap.size W w') : RunEnd bl most W e w' := by
  unfold RunEnd; rw [h]; exact ⟨he, hb⟩
set_option maxRecDepth 100000 in
set_option maxHeartbeats 4000000 in
theorem run_any (A : Option Addr) (c : Nat) (bl : List Int) (most : Int) (W : World) (hr : Rd W W.heap.size 1 A bl.length (bytesV bl)) (hc : A = none → c = 0) (hb : ∀ x ∈ bl, isB x) (hm : bl.length ≤ 10000000) :
    Calls Try.prog 48 #[.slice A bl.length c, .int .i64 most] W (RunEnd bl most W) := by
  have NR := hid (newReader_any A c bl W hr hc hb hm)
  obtain ⟨L, hL⟩ : ∃ L, L = bl.length := ⟨_, rfl⟩
  rw [← hL] at NR ⊢
  clear hr hc hb hm hL
  by_cases h1 : most < 0
  · have d1 : decide (most < 0) = true := decide_eq_true h1
    have HE := hid (show infM (bitsL bl) most = .error 7 by unfold infM; rw [if_pos (.inl h1)])
    clear h1 NR
    go_enter Try.func48, Try.ntmps48
    go_wp2_with fail
    go_ret2
    exact runEnd_err HE.out rfl (Below.refl _ _)
  · by_cases h2 : 4194304 < most
    · have d1 : decide (most < 0) = false := decide_eq_false h1
      have d2 : decide (4194304 < most) = true := decide_eq_true h2
      have HE := hid (show infM (bitsL bl) most = .error 7 by unfold infM; rw [if_pos (.inr h2)])
      clear h1 h2 NR
      go_enter Try.func48, Try.ntmps48
      go_wp2_with fail
      go_ret2
      exact runEnd_err HE.out rfl (Below.refl _ _)
    · have d1 : decide (most < 0) = false := decide_eq_false h1
      have d2 : decide (4194304 < most) = false := decide_eq_false h2
      obtain ⟨N, hN⟩ : ∃ N, N = (bitsL bl).length := ⟨_, rfl⟩
      have HN := hid hN
      have HE := hid (show infM (bitsL bl) most = runM (bitsL bl) most (N + 1) ⟨0, 0, []⟩ by unfold infM; rw [if_neg (by omega), hN])
      clear hN
      go_enter Try.func48, Try.ntmps48
      go_wp2_with fail
      refine NR.out.mono ?_
      rintro e w1 ⟨gr, A1, c1, rfl, hgr, hR, hb1⟩
      go_wp2_with fail
      have hz1 := hb1.size
      obtain ⟨v, hv⟩ : ∃ v : Ev, v = ⟨W.heap.size, W, w1.heap.size, gr, A1, c1, bl, most, []⟩ := ⟨_, rfl⟩
      have S1 : St v (w1.alloc (.cells #[.pointer (some ⟨gr, 0, none⟩), .int .i64 most, .int .i64 0, .slice none 0 0, .pointer none, .pointer none] 99)) ⟨0, 0, []⟩ (.pointer none) (.pointer none) [] := by
        rw [hv]
        exact ⟨⟨none, 0, Blk.new w1 _ _, World.ownsRow_nil _ _ _ _⟩, hR.below (below_alloc1 _ _), (fun x hx => by cases hx), hz1, hgr, hb1.trans ((below_alloc1 w1 _).mono hz1), ⟨by decide, by show (0 : Int) ≤ most; omega, by show most ≤ 4194304; omega, by show ((0 : Nat) : Int) ≤ 0; decide⟩, (fun x hx => by cases hx)⟩
      have S1 := hid S1
      have e1 : w1.heap.size = v.g := by rw [hv]
      have e2 : v.gr = gr := by rw [hv]
      have e3 : v.most = most ∧ v.bl = bl ∧ v.B = W.heap.size ∧ v.W0 = W := by rw [hv]; exact ⟨rfl, rfl, rfl, rfl⟩
      have E3 := hid e3
      have hgl : v.g < (w1.alloc (.cells #[.pointer (some ⟨gr, 0, none⟩), .int .i64 most, .int .i64 0, .slice none 0 0, .pointer none, .pointer none] 99)).heap.size := by rw [← e1]; simp
      rw [e1]
      generalize w1.alloc (.cells #[.pointer (some ⟨gr, 0, none⟩), .int .i64 most, .int .i64 0, .slice none 0 0, .pointer none, .pointer none] 99) = w2 at *
      clear hv hR hb1 hgr hz1 e1 e2 e3 NR h1 h2 hgl
      go_loopw [7, 8] (fun _ _ wr => ∃ (sj : Sk) (f : Nat) (lp dp : Value) (bs : List (Nat × BM)), Hid (N + 1 ≤ f + sj.k) ∧ Hid (infM (bitsL bl) most = runM (bitsL bl) most f sj) ∧ Hid (St v wr sj lp dp bs)) (fun _ _ wr => N + 1 - kOf v.gr wr)
      case atStart => exact ⟨⟨0, 0, []⟩, N + 1, _, _, _, hid (by omega), HE, S1⟩
      clear S1 HE
      case round =>
        obtain ⟨sj, f, lp, dp, bs, Hk, He, S⟩ := hrel
        have hkN : sj.k ≤ N := by rw [HN.out, bitsL_length, ← E3.out.2.1]; exact S.out.rd.at_
        obtain ⟨f1, hf1⟩ : ∃ f1, f = f1 + 1 := ⟨f - 1, by have := Hk.out; omega⟩
        have Hf1 := hid hf1
        have Hm := hid (kOf_st S.out)
        have HkN := hid hkN
        have BK0 := block_any v sj lp dp bs wr S.out
        rw [E3.out.1, E3.out.2.1] at BK0
        have BK1 := hid BK0
        clear hf1 hkN BK0
        go_wp2_with fail
        refine BK1.out.mono ?_
        intro e w3 hB
        cases hbm : blockM (bitsL bl) most sj with
        | error ke =>
          rw [hbm] at hB
          obtain ⟨⟨b, rfl⟩, hb3⟩ := hB
          have HE := hid (show infM (bitsL bl) most = .error ke by rw [He.out, Hf1.out, runM, hbm])
          have B3 := hid hb3
          clear hbm hb3
          go_wp2_with fail
          go_ret2
          exact runEnd_err HE.out rfl (by have := B3.out; rw [E3.out.2.2.1, E3.out.2.2.2] at this; exact this)
        | ok bk =>
          obtain ⟨last, s2⟩ := bk
          have hk2 := blockM_k hbm
          rw [hbm] at hB
          obtain ⟨rfl, lp2, dp2, bs2, hS3⟩ := hB
          have S3 := hid hS3
          have Hk2 := hid hk2
          cases last with
          | true =>
            have HE := hid (show infM (bitsL bl) most = .ok s2 by rw [He.out, Hf1.out, runM, hbm])
            clear hbm hS3 hk2
            go_wp2_with fail
            go_ret2
            unfold RunEnd
            rw [HE.out]
            exact ⟨v, lp2, dp2, bs2, E3.out.2.2.1, E3.out.2.2.2, E3.out.2.1, E3.out.1, rfl, S3.out⟩
          | false =>
            have HE := hid (show infM (bitsL bl) most = runM (bitsL bl) most f1 s2 by rw [He.out, Hf1.out, runM, hbm])
            clear hbm hS3 hk2
            go_wp2_with fail
            exact ⟨⟨s2, f1, lp2, dp2, bs2, hid (by have := Hk.out; have := Hf1.out; have := Hk2.out; omega), HE, S3⟩, by rw [Hm.out, kOf_st S3.out]; have := Hk2.out; have := HkN.out; omega⟩
end Go.Proofs.Ytegmbjkpjglgpaa
