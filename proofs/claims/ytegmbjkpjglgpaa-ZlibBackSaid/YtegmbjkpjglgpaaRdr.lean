/-
  bits.Reader: made, asked, read, in the low order.
-/
import Derived.Test.YtegmbjkpjglgpaaBits
import Derived.Test.YtegmbjkpjglgpaaPut
import Derived.Deep.DeepCutAuto
import Derived.Deep.CutRange
import Derived.Deep.CutBlock
import Derived.Deep.RegionHeld3
import Derived.BigRegion
import Derived.Laws.Cover4
namespace Go.Proofs.Ytegmbjkpjglgpaa
open Go.RowKit

/-- a reader in memory, in the low order, so many bits read -/
structure BR (w : World) (g : Nat) (A : Option Addr) (c : Nat) (bl : List Int) (k : Nat) : Prop where
  blk : Blk w g 149 #[.bool false, .slice A bl.length c, .int .i64 (k : Int)]
  row : w.ownsRow 0 5 1 (.slice A bl.length c) bl.length (bytesV bl)
  ok : ∀ x ∈ bl, isB x
  len : bl.length ≤ 10000000
  at_ : k ≤ 8 * bl.length
theorem gr_set1 {w w0 : World} {g : Nat} (h : w0.grownBy w (some g)) (i : Nat) (u : Value) : w0.grownBy (w.setCell ⟨g, i, none⟩ u) (some g) :=
  ⟨h.os, h.tape, h.output, by simpa using h.size, fun k hk hr => (Below.heap_setCell w ⟨g, i, none⟩ u k (fun e => hr (by rw [e]))).trans (h.block k hk hr)⟩
theorem gr_below1 {w w' w0 : World} {r : Option Nat} (h : w0.grownBy w r) (hb : Below w.heap.size w w') : w0.grownBy w' r :=
  ⟨hb.os.trans h.os, hb.tape.trans h.tape, hb.output.trans h.output, Nat.le_trans h.size hb.size, fun k hk hr => (hb.block k (by have := h.size; omega)).trans (h.block k hk hr)⟩
theorem gr_trans1 {w w' w0 : World} {r : Option Nat} (h : w0.grownBy w r) (h' : w.grownBy w' r) : w0.grownBy w' r :=
  ⟨h'.os.trans h.os, h'.tape.trans h.tape, h'.output.trans h.output, Nat.le_trans h.size h'.size, fun k hk hr => (h'.block k (by have := h.size; omega) hr).trans (h.block k hk hr)⟩
theorem BR.ne {w : World} {g : Nat} {A : Option Addr} {c : Nat} {bl : List Int} {k : Nat} (h : BR w g A c bl k) : (Value.slice A bl.length c).ownBlock = none ∨ (Value.slice A bl.length c).ownBlock ≠ some g :=
  .inr (fun e => own_blk_ne h.row h.blk (by decide) e.symm)
theorem BR.below {w w' : World} {g : Nat} {A : Option Addr} {c : Nat} {bl : List Int} {k : Nat} (h : BR w g A c bl k) (hb : Below w.heap.size w w') : BR w' g A c bl k :=
  ⟨h.blk.below hb h.blk.lt, own_below h.row hb (Nat.le_refl _), h.ok, h.len, h.at_⟩
theorem BR.turn {w w' : World} {g : Nat} {A : Option Addr} {c : Nat} {bl : List Int} {k j : Nat} (h : BR w g A c bl k) (hg : w.grownBy w' (some g)) (hb : Blk w' g 149 #[.bool false, .slice A bl.length c, .int .i64 (j : Int)]) (hj : j ≤ 8 * bl.length) : BR w' g A c bl j :=
  ⟨hb, h.row.kept hg h.ne, h.ok, h.len, hj⟩
theorem shift_any (k : Nat) (W : World) : Calls Try.prog 145 #[.bool false, .int .i64 (k : Int)] W fun e w' => e = .returned (.int .i64 ((k % 8 : Nat) : Int)) ∧ w' = W := by
  go_enter Try.func145, Try.ntmps145
  go_wp2
  go_ret
  exact ⟨ret_int (by omega), rfl⟩
theorem pick_any (k n : Nat) (W : World) : Calls Try.prog 146 #[.bool false, .int .i64 (k : Int), .int .i64 (n : Int)] W fun e w' => e = .returned (.int .i64 (k : Int)) ∧ W = w' := by
  go_enter Try.func146, Try.ntmps146
  go_wp2
  go_ret
  exact ⟨rfl, rfl⟩
theorem counted_any (n : Nat) (hn : n ≤ 32) (W : World) : Calls Try.prog 143 #[.int .i64 (n : Int)] W fun e w' => e = .returned (.bool true) ∧ W = w' := by
  have d1 : decide ((0 : Int) ≤ (n : Int)) = true := decide_eq_true (by omega)
  go_enter Try.func143, Try.ntmps143
  go_wp2
  go_ret
  exact ⟨ret_bool (by simp; omega), rfl⟩
theorem left_any (g : Nat) (A : Option Addr) (c : Nat) (bl : List Int) (k : Nat) (W : World) (h : BR W g A c bl k) : Calls Try.prog 144 #[.pointer (some ⟨g, 0, none⟩)] W fun e w' => e = .returned (.int .i64 (8 * (bl.length : Int) - (k : Int))) ∧ Below W.heap.size W w' := by
  have q0 := h.blk.cell 0
  have q1 := h.blk.cell 1
  have q2 := h.blk.cell 2
  simp only [List.getElem?_toArray, List.getElem?_cons_zero, List.getElem?_cons_succ] at q0 q1 q2
  have hl := h.len
  have ha := h.at_
  have hgw := h.blk.lt
  obtain ⟨n, hn⟩ : ∃ n, n = bl.length := ⟨_, rfl⟩
  rw [← hn] at q1 hl ha ⊢
  clear h hn
  go_enter Try.func144, Try.ntmps144
  go_upto_region 3 with (fail)
  go_quiet (fail)
  go_wp2
  go_ret
  exact ⟨ret_int (by have : IntKind.i64.wrap (8 * (n : Int)) = 8 * (n : Int) := IntWalk.i64_in _ (by omega); first | (rw [this, IntWalk.i64_in _ (by omega)]) | rfl), below_drewN (Below.refl _ _) _⟩
theorem at_any (g : Nat) (A : Option Addr) (c : Nat) (bl : List Int) (k : Nat) (W : World) (h : BR W g A c bl k) : Calls Try.prog 50 #[.pointer (some ⟨g, 0, none⟩)] W fun e w' => e = .returned (.int .i64 (k : Int)) ∧ w' = W := by
  have q0 := h.blk.cell 0
  have q1 := h.blk.cell 1
  have q2 := h.blk.cell 2
  simp only [List.getElem?_toArray, List.getElem?_cons_zero, List.getElem?_cons_succ] at q0 q1 q2
  have hgw := h.blk.lt
  clear h
  go_enter Try.func50, Try.ntmps50
  go_wp2
  go_ret
  exact ⟨rfl, rfl⟩
theorem align_any (g : Nat) (A : Option Addr) (c : Nat) (bl : List Int) (k : Nat) (W : World) (h : BR W g A c bl k) : Calls Try.prog 130 #[.pointer (some ⟨g, 0, none⟩)] W fun e w' => e = .returned (.tuple #[]) ∧ BR w' g A c bl ((k + 7) / 8 * 8) ∧ W.grownBy w' (some g) := by
  have H := hid h
  have q0 := h.blk.cell 0
  have q1 := h.blk.cell 1
  have q2 := h.blk.cell 2
  simp only [List.getElem?_toArray, List.getElem?_cons_zero, List.getElem?_cons_succ] at q0 q1 q2
  have fz := fun o => h.blk.frozen o
  have hgw := h.blk.lt
  have hl := h.len
  have ha := h.at_
  have ht : wrap64 ((k : Int) + 7) = (k : Int) + 7 := by unfold wrap64; omega
  clear h
  go_enter Try.func130, Try.ntmps130
  go_wp2
  go_end0
  have hb := H.out.blk.set_ 2 (.int .i64 ((((k + 7) / 8 * 8 : Nat)) : Int))
  have e : ((k : Int) + 8 - 1) / 8 * 8 = (((k + 7) / 8 * 8 : Nat) : Int) := by omega
  rw [e]
  exact ⟨rfl, H.out.turn (gr_set1 (World.grownBy.refl _ _) _ _) hb (by omega), gr_set1 (World.grownBy.refl _ _) _ _⟩
set_option maxRecDepth 100000 in
set_option maxHeartbeats 4000000 in
theorem take_ok (g : Nat) (A : Option Addr) (c : Nat) (bl : List Int) (k n : Nat) (hn : n ≤ 32) (W : World) (h : BR W g A c bl k) (hk : k + n ≤ 8 * bl.length) : Calls Try.prog 129 #[.pointer (some ⟨g, 0, none⟩), .int .i64 (n : Int)] W fun e w' => e = .returned (.tuple #[.int .i64 (numL (bitsL bl) k n), .nilIface]) ∧ BR w' g A c bl (k + n) ∧ W.grownBy w' (some g) := by
  have H := hid h
  obtain ⟨Ln, hLn⟩ : ∃ Ln, Ln = bl.length := ⟨_, rfl⟩
  have HLn := hid hLn
  have hll := h.len
  rw [← hLn] at hk hll
  clear h hLn
  go_enter Try.func129, Try.ntmps129
  go_wp2_with fail
  refine (counted_any n hn _).mono ?_
  rintro e w1 ⟨rfl, rfl⟩
  go_wp2_with fail
  refine (left_any g A c bl k _ H.out).mono ?_
  rintro e w2 ⟨rfl, hb2⟩
  rw [← HLn.out]
  have H2 := hid (H.out.below hb2)
  have G2 := hid (gr_below1 (World.grownBy.refl W (some g)) hb2)
  have d1 : decide (8 * (Ln : Int) - (k : Int) < (n : Int)) = false := decide_eq_false (by omega)
  clear hb2
  go_upto_region 6 with (fail)
  go_wp2_with fail
  go_loopw [6, 23] (fun v i wr => ∃ j : Nat, j ≤ n ∧ v = .int .i64 (numL (bitsL bl) k j) ∧ i = .int .i64 (j : Int) ∧ Hid (BR wr g A c bl (k + j)) ∧ Hid (W.grownBy wr (some g))) (fun _ i _ => n - (intOf i).toNat)
  case atStart => exact ⟨0, by omega, rfl, rfl, H2, G2⟩
  case round =>
    obtain ⟨j, hj, rfl, rfl, M, G⟩ := hrel
    by_cases hlt : j < n
    · have d2 : decide (j < n) = true := decide_eq_true hlt
      have q0 := M.out.blk.cell 0
      have q1 := M.out.blk.cell 1
      have q2 := M.out.blk.cell 2
      simp only [List.getElem?_toArray, List.getElem?_cons_zero, List.getElem?_cons_succ] at q0 q1 q2
      have hgw := M.out.blk.lt
      obtain ⟨kj, hkj⟩ : ∃ kj, kj = k + j := ⟨_, rfl⟩
      rw [← hkj] at q2
      rw [← HLn.out] at q1
      obtain ⟨qk, hqk⟩ : ∃ qk, qk = kj / 8 := ⟨_, rfl⟩
      have hkl : qk < Ln := by omega
      obtain ⟨b, off, hA, hbb, hcl⟩ := byte_at (own_rd M.out.row) (j := qk) (by rw [← HLn.out]; exact hkl)
      subst hA
      obtain ⟨v, hvv⟩ : ∃ v, v = bl.getD qk 0 := ⟨_, rfl⟩
      rw [← hvv] at hcl
      have tq : (kj : Int).tdiv 8 = (qk : Int) := by rw [Int.tdiv_eq_ediv_of_nonneg (by omega)]; omega
      have tq2 : (kj : Int) / 8 = (qk : Int) := by omega
      have Hkj := hid hkj
      have Hqk := hid hqk
      have Hvv := hid hvv
      clear hkj hvv hqk
      go_upto_region 9 with (fail)
      go_quiet ((go_at_call 145; exact Calls.quiet_of_same (shift_any _ _)))
      have hv0 : isB v := by
        rw [Hvv.out]
        have : qk < bl.length := by rw [← HLn.out]; exact hkl
        rw [List.getD_eq_getElem?_getD, List.getElem?_eq_getElem this]
        exact M.out.ok _ (List.getElem_mem this)
      have hbit : bits .and .i64 (wrap64 v / 2 ^ (kj % 8)) 1 = (bitsL bl).getD (k + j) 0 := by
        have h1 : wrap64 v = v := by unfold wrap64; unfold isB at hv0; omega
        have h2 : (0 : Int) < 2 ^ (kj % 8) := Int.pow_pos (by omega)
        have h3 : 0 ≤ v / 2 ^ (kj % 8) := Int.ediv_nonneg hv0.1 (Int.le_of_lt h2)
        have h4 : v / 2 ^ (kj % 8) ≤ v := Int.ediv_le_self _ hv0.1
        have h5 := i64_mask 1 (by omega) (v / 2 ^ (kj % 8)) h3 (by unfold isB at hv0; omega)
        rw [h1, show (1 : Int) = 2 ^ 1 - 1 from rfl, h5, bitsL_at _ _ (by rw [← HLn.out]; omega), ← Hkj.out, Hvv.out, Hqk.out]
        rfl
      rw [hbit]
      obtain ⟨bv, hbv⟩ : ∃ bv, bv = (bitsL bl).getD (k + j) 0 := ⟨_, rfl⟩
      have hb01 : isBit bv := by rw [hbv]; exact getD_bit (bitsL_bit bl) _
      have hj2 := num_join (bitsL_bit bl) k j (by omega)
      rw [← hbv] at hj2 ⊢
      have M1 := hid (M.out.below (below_drewN (Below.refl _ _) nq))
      have G1 := hid (gr_below1 G.out (below_drewN (Below.refl _ _) nq))
      obtain ⟨x, hx⟩ : ∃ x, x = numL (bitsL bl) k j := ⟨_, rfl⟩
      rw [← hx] at hj2 ⊢
      have Hj2 := hid hj2
      have hp31 := pow_mono (show j ≤ 31 by omega)
      have hp0 : (0 : Int) < 2 ^ j := Int.pow_pos (by omega)
      have hbb2 : 0 ≤ bv * 2 ^ j ∧ bv * 2 ^ j ≤ 2147483648 := by
        have : (2 : Int) ^ 31 = 2147483648 := by decide
        rcases hb01 with e | e <;> rw [e] <;> omega
      have hwr : IntKind.i64.wrap (bv * 2 ^ j) = bv * 2 ^ j := IntWalk.i64_in _ (by omega)
      have hwr2 : wrap64 (bv * 2 ^ j) = bv * 2 ^ j := by unfold wrap64; omega
      generalize wr.drewN nq = w3 at *
      clear q0 q1 q2 hcl hbit hv0 hbv hj2 hx hb01 M G tq tq2 hp31 hp0
      have q0 := M1.out.blk.cell 0
      have q1 := M1.out.blk.cell 1
      have q2 := M1.out.blk.cell 2
      simp only [List.getElem?_toArray, List.getElem?_cons_zero, List.getElem?_cons_succ] at q0 q1 q2
      have hgw := M1.out.blk.lt
      have fz := fun o => M1.out.blk.frozen o
      obtain ⟨kk, hkk⟩ : ∃ kk, kk = k + j := ⟨_, rfl⟩
      obtain ⟨k1, hk1⟩ : ∃ k1, k1 = kk + 1 := ⟨_, rfl⟩
      rw [← HLn.out] at q1
      rw [← hkk] at q2
      have tk : wrap64 (k1 : Int) = (k1 : Int) := by unfold wrap64; omega
      have tk2 : (kk : Int) + 1 = (k1 : Int) := by omega
      have Hkk := hid hkk
      have Hk1 := hid hk1
      clear hkk hk1
      go_wp2_with fail
      refine (pick_any j n _).mono ?_
      rintro e w4 ⟨rfl, rfl⟩
      go_wp2_with fail
      have hb4 := M1.out.blk.set_ 2 (.int .i64 (k1 : Int))
      have hM4 := M1.out.turn (j := k1) (gr_set1 (World.grownBy.refl w3 (some g)) 2 (.int .i64 (k1 : Int))) hb4 (by rw [← HLn.out]; have := Hk1.out; have := Hkk.out; omega)
      have e4 : k1 = k + (j + 1) := by have := Hk1.out; have := Hkk.out; omega
      refine ⟨⟨j + 1, by omega, by rw [Hj2.out], by go_num, hid ?_, hid (gr_set1 G1.out _ _)⟩, by simp [intOf]; omega⟩
      rw [e4] at hM4 ⊢
      exact hM4
    · obtain rfl : j = n := by omega
      go_wp2_with fail
      go_ret2
      exact ⟨rfl, M.out, G.out⟩
theorem take_end (g : Nat) (A : Option Addr) (c : Nat) (bl : List Int) (k n : Nat) (hn : n ≤ 32) (W : World) (h : BR W g A c bl k) (hk : 8 * bl.length < k + n) : Calls Try.prog 129 #[.pointer (some ⟨g, 0, none⟩), .int .i64 (n : Int)] W fun e w' => e = .returned (.tuple #[.int .i64 0, .iface 40 (.int .i64 8)]) ∧ BR w' g A c bl k ∧ W.grownBy w' (some g) := by
  have H := hid h
  obtain ⟨Ln, hLn⟩ : ∃ Ln, Ln = bl.length := ⟨_, rfl⟩
  have HLn := hid hLn
  have hll := h.len
  rw [← hLn] at hk hll
  clear h hLn
  go_enter Try.func129, Try.ntmps129
  go_wp2_with fail
  refine (counted_any n hn _).mono ?_
  rintro e w1 ⟨rfl, rfl⟩
  go_wp2_with fail
  refine (left_any g A c bl k _ H.out).mono ?_
  rintro e w2 ⟨rfl, hb2⟩
  rw [← HLn.out]
  have H2 := hid (H.out.below hb2)
  have G2 := hid (gr_below1 (World.grownBy.refl W (some g)) hb2)
  have d1 : decide (8 * (Ln : Int) - (k : Int) < (n : Int)) = true := decide_eq_true (by omega)
  clear hb2
  go_wp2_with fail
  go_ret2
  exact ⟨rfl, H2.out, G2.out⟩
/-- a reader of bytes, made -/
def NewEnd (bl : List Int) (W : World) (e : Ending) (w' : World) : Prop := ∃ g A c, e = .returned (.pointer (some ⟨g, 0, none⟩)) ∧ W.heap.size ≤ g ∧ BR w' g A c bl 0 ∧ Below W.heap.size W w'
theorem newReader_any (A : Option Addr) (c : Nat) (bl : List Int) (W : World) (hr : Rd W W.heap.size 1 A bl.length (bytesV bl)) (hc : A = none → c = 0) (hb : ∀ x ∈ bl, isB x) (hm : bl.length ≤ 10000000) : Calls Try.prog 88 #[.slice A bl.length c, .bool false] W (NewEnd bl W) := by
  have CL := hid (clone_any A c bl W hr hc hm)
  clear hr hc
  go_enter Try.func88, Try.ntmps88
  go_wp2_with fail
  refine (CL.out).mono ?_
  rintro e w1 ⟨A1, c1, rfl, ho, hb1⟩
  have O := hid ho
  have B := hid hb1
  clear ho hb1 CL
  go_wp2_with fail
  go_ret
  have hbA := (Below.refl w1.heap.size w1).alloc (Nat.le_refl _) (.cells #[.bool false, .slice A1 bl.length c1, .int .i64 0] 149)
  exact ⟨w1.heap.size, A1, c1, rfl, B.out.size, ⟨Blk.new w1 149 #[.bool false, .slice A1 bl.length c1, .int .i64 0], own_base (own_below O.out hbA (Nat.le_refl _)) (Nat.zero_le _), hb, hm, Nat.zero_le _⟩, B.out.trans (hbA.mono B.out.size)⟩
end Go.Proofs.Ytegmbjkpjglgpaa
