/-
  BlockBest: for every case the law returns true: the best block is of the tokens, and its bits are no more than those of any kind. No condition.
-/
import Derived.Test.YthhllollhjpheaaBkBe
import Derived.Test.YthhllollhjpheaaBkLw
import Derived.Test.YthhllollhjpheaaBkOp
namespace Go.Proofs.Ythhllollhjpheaa.BlockBest
open Go.ChangeShapes Go.WideShapes Go.ChangeAt Go.RowKit Go.Proofs.Ythhllollhjpheaa
set_option maxRecDepth 100000 in
set_option maxHeartbeats 8000000 in
theorem walk (A X : Option Addr) (ca cx : Nat) (b : List Int) (l : List (Int × Int)) (kind : Int) (last : Bool) (W : World) (ha : Rd W W.heap.size 1 A b.length (bytesV b)) (hx : Rd W W.heap.size 2 X l.length (l.flatMap encTok)) (hB : ∀ x ∈ b, isB x) (hok : ∀ t ∈ l, okTok t) (hzx : X = none → cx = 0) :
    Calls Try.prog 4 #[.agg #[.slice A b.length ca, .slice X l.length cx, .int .i64 kind, .bool last]] W fun e w' => e = .returned (.bool true) ∧ Below W.heap.size W w' := by
  have hal := ((Below.refl W.heap.size W).alloc (Nat.le_refl _) (.cells #[.slice A b.length ca, .slice X l.length cx, .int .i64 kind, .bool last] 25))
  have ZB := hid (Blk.new W 25 #[.slice A b.length ca, .slice X l.length cx, .int .i64 kind, .bool last])
  have Hb := hid hal
  have Ha := hid ha
  have Hx := hid hx
  have HB := hid hB
  have Hok := hid hok
  have Hzx := hid hzx
  clear ha hx hB hal hok hzx
  go_enter Try.func4, Try.ntmps4
  go_upto_region 1 with (fail)
  generalize W.alloc (.cells #[.slice A b.length ca, .slice X l.length cx, .int .i64 kind, .bool last] 25) = w0 at *
  obtain ⟨g, hg⟩ : ∃ g, g = W.heap.size := ⟨_, rfl⟩
  rw [← hg] at ZB ⊢
  clear hg
  go_wp2_with fail
  refine (alive10 w0).mono ?_
  rintro e w1 ⟨rfl, hb1⟩
  have B1 := hid (Hb.out.trans (hb1.mono Hb.out.size))
  have Z1 := hid (ZB.out.below hb1 ZB.out.lt)
  clear hb1 Hb ZB
  have q0 := Z1.out.cell 0
  have q1 := Z1.out.cell 1
  have q2 := Z1.out.cell 2
  have q3 := Z1.out.cell 3
  simp only [List.getElem?_toArray, List.getElem?_cons_zero, List.getElem?_cons_succ] at q0 q1 q2 q3
  have hq := Z1.out.lt
  have TX := hid (text_any A X ca cx b l kind last w1 (rd_up Ha.out B1.out) (rd_up Hx.out B1.out) HB.out)
  go_wp2_with fail
  refine TX.out.mono ?_
  rintro e w2 ⟨he, hb2⟩
  have B2 := hid (B1.out.trans (hb2.mono B1.out.size))
  have Z2 := hid (Z1.out.below hb2 Z1.out.lt)
  clear hb2 B1 Z1 TX q0 q1 q2 q3 hq
  by_cases hc : b.length ≤ 1000 ∧ l.length ≤ 300 ∧ cRes b l = 0
  case neg =>
    rw [if_neg hc] at he
    subst he
    go_wp2_with fail
    go_ret
    exact ⟨rfl, B2.out⟩
  rw [if_pos hc] at he
  obtain ⟨A2, c2, rfl, hr2, hn2⟩ := he
  obtain ⟨hc1, hc2, hc3⟩ := hc
  have hlen := (cTxt_len hc3).1
  have HF := hid (cTxt_fit hc3)
  have HTB := hid (cTxt_isB hc3)
  generalize cTxt b l = T at *
  have R2 := hid hr2
  have N2 := hid hn2
  clear hr2 hn2 hc3
  have q0 := Z2.out.cell 0
  have q1 := Z2.out.cell 1
  have q2 := Z2.out.cell 2
  have q3 := Z2.out.cell 3
  simp only [List.getElem?_toArray, List.getElem?_cons_zero, List.getElem?_cons_succ] at q0 q1 q2 q3
  have hq := Z2.out.lt
  have hm : l.length ≤ 1000000 := by omega
  have hm2 : T.length ≤ 1000000 := by omega
  have BE := hid (best10_any X A2 cx c2 l T w2 (rd_up Hx.out B2.out) R2.out Hzx.out N2.out hm hm2 Hok.out HTB.out)
  go_wp2_with fail
  refine BE.out.mono ?_
  rintro e w3 ⟨he, hb3⟩
  rw [if_pos HF.out] at he
  obtain ⟨A3, c3, A4, c4, rfl, o3, o4⟩ := he
  have B3 := hid (B2.out.trans (hb3.mono B2.out.size))
  have Z3 := hid (Z2.out.below hb3 Z2.out.lt)
  have R3 := hid (rd_up R2.out hb3)
  have O3 := hid o3
  have O4 := hid o4
  have hbm := bestS_min (l := l) (text := T) 3 (bestS_good HF.out)
  clear hb3 o3 o4 B2 Z2 R2 BE q0 q1 q2 q3 hq
  obtain ⟨⟨kn, hk1, hk2, hk3, hk4⟩, hmin⟩ := hbm
  rw [hk2]
  have Hk3 := hid hk3
  have Hmin := hid (fun k (h : k < 3) => hmin k h (by
    unfold blkGood
    rw [HF.out, Bool.true_and, Bool.and_eq_true, decide_eq_true_iff, decide_eq_true_iff]
    exact ⟨by omega, fun _ => by omega⟩))
  rw [hk4, hk2] at Hmin
  clear hk2 hk3 hk4 hmin
  have hal := ((Below.refl w3.heap.size w3).alloc (Nat.le_refl _) (.cells #[.int .i64 (kn : Int), .slice A3 l.length c3, .slice A4 T.length c4] 28))
  have Y4 := hid (Blk.new w3 28 #[.int .i64 (kn : Int), .slice A3 l.length c3, .slice A4 T.length c4])
  have B4 := hid (B3.out.trans (hal.mono B3.out.size))
  have Z4 := hid (Z3.out.below hal Z3.out.lt)
  have R4 := hid (rd_up R3.out hal)
  have O34 := hid (rd_up (own_rd O3.out) hal)
  have O44 := hid (rd_up (own_rd O4.out) hal)
  clear hal B3 Z3 R3 O3 O4
  go_upto_region 7 with (fail)
  generalize w3.alloc (.cells #[.int .i64 (kn : Int), .slice A3 l.length c3, .slice A4 T.length c4] 28) = w4 at *
  obtain ⟨gx, hgx⟩ : ∃ g, g = w3.heap.size := ⟨_, rfl⟩
  rw [← hgx] at Y4 ⊢
  clear hgx
  have q0 := Z4.out.cell 0
  have q1 := Z4.out.cell 1
  have q2 := Z4.out.cell 2
  have q3 := Z4.out.cell 3
  simp only [List.getElem?_toArray, List.getElem?_cons_zero, List.getElem?_cons_succ] at q0 q1 q2 q3
  have hq := Z4.out.lt
  have y0 := Y4.out.cell 0
  have y1 := Y4.out.cell 1
  have y2 := Y4.out.cell 2
  simp only [List.getElem?_toArray, List.getElem?_cons_zero, List.getElem?_cons_succ] at y0 y1 y2
  have hy := Y4.out.lt
  have TR := hid (tokens_reflK A3 X c3 cx l w4 _ O34.out (rd_up Hx.out B4.out) (by omega))
  go_wp2_with fail
  refine TR.out.mono ?_
  rintro e w5 ⟨rfl, nd, hw5⟩
  have b5 : Below w4.heap.size w4 w5 := by rw [hw5]; exact below_drewN (Below.refl _ _) nd
  clear hw5
  have B5 := hid (B4.out.trans (b5.mono B4.out.size))
  have Z5 := hid (Z4.out.below b5 Z4.out.lt)
  have Y5 := hid (Y4.out.below b5 Y4.out.lt)
  have R5 := hid (rd_up R4.out b5)
  have O35 := hid (rd_up O34.out b5)
  have O45 := hid (rd_up O44.out b5)
  clear b5 B4 Z4 Y4 R4 O34 O44 TR q0 q1 q2 q3 hq y0 y1 y2 hy
  have y0 := Y5.out.cell 0
  have y1 := Y5.out.cell 1
  have y2 := Y5.out.cell 2
  simp only [List.getElem?_toArray, List.getElem?_cons_zero, List.getElem?_cons_succ] at y0 y1 y2
  have hy := Y5.out.lt
  have SR := hid (same_refl A4 A2 c4 c2 T w5 w5.heap.size O45.out R5.out)
  go_wp2_with fail
  refine SR.out.mono ?_
  rintro e w6 ⟨rfl, rfl⟩
  have BT := hid (bits10_any A3 A4 c3 c4 (kn : Int) l T w5 O35.out O45.out hm hm2 Hok.out HTB.out true Hk3.out)
  go_wp2_with fail
  refine BT.out.mono ?_
  rintro e w7 ⟨rfl, b7⟩
  have B7 := hid (B5.out.trans (b7.mono B5.out.size))
  have Z7 := hid (Z5.out.below b7 Z5.out.lt)
  have Y7 := hid (Y5.out.below b7 Y5.out.lt)
  have R7 := hid (rd_up R5.out b7)
  clear b7 B5 Z5 Y5 R5 O35 O45 SR BT y0 y1 y2 hy
  obtain ⟨nb, hnb⟩ : ∃ nb, nb = bitsM (kn : Int) l T := ⟨_, rfl⟩
  rw [← hnb] at Hmin ⊢
  clear hnb
  go_wp2_with fail
  go_loopw [51] (fun i wr => ∃ j : Nat, j ≤ 3 ∧ i = .int .i64 (j : Int) ∧ Hid (Blk wr g 25 #[.slice A b.length ca, .slice X l.length cx, .int .i64 kind, .bool last]) ∧ Hid (Blk wr gx 28 #[.int .i64 (kn : Int), .slice A3 l.length c3, .slice A4 T.length c4]) ∧ Hid (Rd wr wr.heap.size 1 A2 T.length (bytesV T)) ∧ Hid (Below W.heap.size W wr)) (fun i _ => 3 - (intOf i).toNat)
  case atStart => exact ⟨0, by omega, rfl, Z7, Y7, R7, B7⟩
  case round =>
    obtain ⟨j, hj, rfl, HZ, HY, HR, HW⟩ := hrel
    by_cases hlt : j < 3
    · have d0 : decide (j < 3) = true := decide_eq_true hlt
      have q0 := HZ.out.cell 0
      have q1 := HZ.out.cell 1
      have q2 := HZ.out.cell 2
      have q3 := HZ.out.cell 3
      simp only [List.getElem?_toArray, List.getElem?_cons_zero, List.getElem?_cons_succ] at q0 q1 q2 q3
      have hq := HZ.out.lt
      have hg3 : blkGood (j : Int) l T = true := by
        unfold blkGood
        rw [HF.out, Bool.true_and, Bool.and_eq_true, decide_eq_true_iff, decide_eq_true_iff]
        exact ⟨by omega, fun _ => by omega⟩
      have BJ := hid (bits10_any X A2 cx c2 (j : Int) l T wr (rd_up Hx.out HW.out) HR.out hm hm2 Hok.out HTB.out true hg3)
      have hmj := Hmin.out j hlt
      clear hg3
      obtain ⟨mj, hmj2⟩ : ∃ m, m = bitsM (j : Int) l T := ⟨_, rfl⟩
      rw [← hmj2] at BJ hmj
      clear hmj2
      go_wp2_with fail
      refine BJ.out.mono ?_
      rintro e w8 ⟨rfl, b8⟩
      have HW8 := hid (HW.out.trans (b8.mono HW.out.size))
      have HZ8 := hid (HZ.out.below b8 HZ.out.lt)
      have HY8 := hid (HY.out.below b8 HY.out.lt)
      have HR8 := hid (rd_up HR.out b8)
      clear b8 BJ HZ HY HR HW q0 q1 q2 q3 hq
      have y0 := HY8.out.cell 0
      have y1 := HY8.out.cell 1
      have y2 := HY8.out.cell 2
      simp only [List.getElem?_toArray, List.getElem?_cons_zero, List.getElem?_cons_succ] at y0 y1 y2
      have hy := HY8.out.lt
      have n1 : ¬ mj < nb := by omega
      have e1 : decide (mj < nb) = false := decide_eq_false n1
      by_cases heq : mj = nb
      · have n2 : ¬ (j : Int) < (kn : Int) := by omega
        have n3 : ¬ j < kn := by omega
        have e2 : decide ((j : Int) < (kn : Int)) = false := decide_eq_false n2
        have e3 : decide (j < kn) = false := decide_eq_false n3
        clear hmj
        go_wp2_with fail
        go_roundw
        case rel => exact ⟨j + 1, by omega, by go_num, HZ8, HY8, HR8, HW8⟩
        case measure => simp [intOf]; omega
      · clear hmj
        go_wp2_with fail
        go_roundw
        case rel => exact ⟨j + 1, by omega, by go_num, HZ8, HY8, HR8, HW8⟩
        case measure => simp [intOf]; omega
    · obtain rfl : j = 3 := by omega
      go_wp2_with fail
      go_ret
      exact ⟨rfl, HW.out⟩
set_option maxRecDepth 100000
set_option maxRecDepth 100000 in
theorem lifted (os : Os) (started : os.Started) (H : Type) (enc : TypeId × Value → H) :
    ReturnsInHanded {} Try.checked os 4 .any (Rows.blockBestSpec.pre6 enc Try.prog Try.f4 Rows.blockBestRow.domain false) (Rows.blockBestSpec.post enc Try.prog Try.f4 false true false false) :=
  law_lifted own laidOut started (by kernel_rfl) Try.func4 rfl rfl Try.underlying4
    (by rw [Try.params4]; intro t ht; simp at ht; rcases ht with rfl <;> exact ⟨by kernel_rfl, of_decide_eq_true (by kernel_rfl)⟩)
    (by
      intro ds h
      match ds, h with
      | [_], _ => exact ⟨rfl, rfl, rfl⟩)
    (ChangeSpec.witness6 (enc := enc) (C := Try.checked) false ⟨#[], #[.agg #[.slice none 0 0, .slice none 0 0, .int .i64 0, .bool false]], []⟩ 8 (by kernel_rfl) (by kernel_rfl) (by kernel_rfl) (by kernel_rfl))
    (by
      intro W base args ds ps hval0 hA0
      have hval : ∀ (j : Nat) t v, Try.f4.params[j]? = some t → args[j]? = some v → Value.okWide Try.prog W .any base t v := hval0
      have hA : DataW.TrodAll enc Try.prog W 0 (fun _ => true) true Try.f4.params.toList args.toList ds ps := hA0
      clear hval0 hA0
      rw [Try.params4] at hA hval
      obtain ⟨v0, vs0, d0, ds0, p0, q0, hargs, rfl, rfl, h0, r0⟩ := trodAll_cons hA
      obtain ⟨rfl, rfl, rfl⟩ := trodAll_nil r0
      obtain rfl : args = #[v0] := by cases args; simp_all
      obtain ⟨A0, ca0, b0, X0, cx0, l0, kind0, last0, rfl, hB0, hr0, hz0, hok0, hx0, hzx0, hk0⟩ := open_case (hval 0 25 v0 rfl rfl) h0
      exact walk A0 X0 ca0 cx0 b0 l0 kind0 last0 W hr0 hx0 hB0 hok0 hzx0)

theorem over : Rows.blockBestRow.holds Try.pinned (OpenSpec.ofChange Rows.blockBestSpec) :=
  OpenClaim.holds_of_wide 4 Try.f4 rfl rfl rfl rfl rfl rfl rfl ⟨rfl, rfl, rfl, rfl, rfl⟩ rfl rfl rfl rfl rfl (by kernel_rfl) Try.func4 (by kernel_rfl)
    (of_decide_eq_true (by kernel_rfl)) (by unfold Func.isWrapper; first | (rw [if_pos (by decide +kernel)]; kernel_rfl) | (rw [if_neg (by decide +kernel)]; exact ⟨rfl, rfl⟩))
    (fun os started H enc _ => lifted os started H enc)

theorem proved : Rows.BlockBestSaid := over
#print axioms proved
end Go.Proofs.Ythhllollhjpheaa.BlockBest
