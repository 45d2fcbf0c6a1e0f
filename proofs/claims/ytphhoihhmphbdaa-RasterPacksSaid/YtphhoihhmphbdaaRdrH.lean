/-
  bits.Reader: what both orders share.
  bits.Reader in the high order: made, asked, read.
-/
import Derived.Test.YtphhoihhmphbdaaBits
import Derived.Test.YtphhoihhmphbdaaPut
import Derived.Deep.DeepCutAuto
import Derived.Deep.CutRange
import Derived.Deep.CutBlock
import Derived.Deep.RegionHeld3
import Derived.BigRegion
import Derived.Laws.Cover4
namespace Go.Proofs.Ytphhoihhmphbdaa
open Go.RowKit

theorem gr_set1 {w w0 : World} {g : Nat} (h : w0.grownBy w (some g)) (i : Nat) (u : Value) : w0.grownBy (w.setCell ⟨g, i, none⟩ u) (some g) :=
  ⟨h.os, h.tape, h.output, by simpa using h.size, fun k hk hr => (Below.heap_setCell w ⟨g, i, none⟩ u k (fun e => hr (by rw [e]))).trans (h.block k hk hr)⟩
theorem gr_below1 {w w' w0 : World} {r : Option Nat} (h : w0.grownBy w r) (hb : Below w.heap.size w w') : w0.grownBy w' r :=
  ⟨hb.os.trans h.os, hb.tape.trans h.tape, hb.output.trans h.output, Nat.le_trans h.size hb.size, fun k hk hr => (hb.block k (by have := h.size; omega)).trans (h.block k hk hr)⟩
theorem gr_trans1 {w w' w0 : World} {r : Option Nat} (h : w0.grownBy w r) (h' : w.grownBy w' r) : w0.grownBy w' r :=
  ⟨h'.os.trans h.os, h'.tape.trans h.tape, h'.output.trans h.output, Nat.le_trans h.size h'.size, fun k hk hr => (h'.block k (by have := h.size; omega) hr).trans (h.block k hk hr)⟩
theorem counted_any (n : Nat) (hn : n ≤ 32) (W : World) : Calls Try.prog 122 #[.int .i64 (n : Int)] W fun e w' => e = .returned (.bool true) ∧ W = w' := by
  have d1 : decide ((0 : Int) ≤ (n : Int)) = true := decide_eq_true (by omega)
  go_enter Try.func122, Try.ntmps122
  go_wp2
  go_ret
  exact ⟨ret_bool (by simp; omega), rfl⟩
end Go.Proofs.Ytphhoihhmphbdaa

namespace Go.Proofs.Ytphhoihhmphbdaa
open Go.RowKit

/-- a bit of bytes, the highest first -/
def bitH (bl : List Int) (i : Nat) : Int := bl.getD (i / 8) 0 / 2 ^ (7 - i % 8) % 2
def bitsH (bl : List Int) : List Int := (List.range (8 * bl.length)).map (bitH bl)
theorem bitsH_length (bl : List Int) : (bitsH bl).length = 8 * bl.length := by simp [bitsH]
theorem bitsH_at (bl : List Int) (i : Nat) (h : i < 8 * bl.length) : (bitsH bl).getD i 0 = bitH bl i := by
  unfold bitsH
  rw [List.getD_eq_getElem?_getD, List.getElem?_eq_getElem (by simpa using h)]
  simp
theorem bitH_bit (bl : List Int) (i : Nat) : isBit (bitH bl i) := by unfold bitH isBit; omega
theorem bitsH_bit (bl : List Int) : ∀ x ∈ bitsH bl, isBit x := by
  intro x hx
  obtain ⟨i, _, rfl⟩ := List.mem_map.1 hx
  exact bitH_bit bl i
/-- the number of so many bits, the highest first -/
def numH (L : List Int) (at_ : Nat) : Nat → Int
  | 0 => 0
  | n + 1 => 2 * numH L at_ n + L.getD (at_ + n) 0
theorem numH_bd {L : List Int} (h : ∀ x ∈ L, isBit x) (at_ : Nat) : ∀ n, 0 ≤ numH L at_ n ∧ numH L at_ n < 2 ^ n
  | 0 => ⟨Int.le_refl 0, by show (0 : Int) < 1; omega⟩
  | n + 1 => by
    have ih := numH_bd h at_ n
    have hb := getD_bit h (at_ + n)
    unfold numH
    rw [Int.pow_succ]
    generalize (2 : Int) ^ n = p at *
    rcases hb with e | e <;> rw [e] <;> omega
/-- a number of n bits of which j are read -/
def accH (L : List Int) (at_ n j : Nat) : Int := numH L at_ j * 2 ^ (n - j)
theorem accH_zero (L : List Int) (at_ n : Nat) : accH L at_ n 0 = 0 := by unfold accH numH; omega
theorem accH_full (L : List Int) (at_ n : Nat) : accH L at_ n n = numH L at_ n := by unfold accH; rw [Nat.sub_self]; omega
theorem acc_join {L : List Int} (h : ∀ x ∈ L, isBit x) (at_ n j p : Nat) (hp : p + j + 1 = n) (hn : n ≤ 32) : bits .or .i64 (accH L at_ n j) (L.getD (at_ + j) 0 * 2 ^ p) = accH L at_ n (j + 1) ∧ 0 ≤ accH L at_ n j ∧ accH L at_ n j ≤ 4294967296 := by
  have h1 := numH_bd h at_ j
  have h2 := getD_bit h (at_ + j)
  have e1 : n - j = p + 1 := by omega
  have e2 : n - (j + 1) = p := by omega
  have h5 : (0 : Int) < 2 ^ p := Int.pow_pos (by omega)
  have h6 : (0 : Int) < 2 ^ j := Int.pow_pos (by omega)
  have h7 : (2 : Int) ^ j * 2 ^ (p + 1) = 2 ^ n := by rw [← Int.pow_add]; congr 1; omega
  have h8 := pow_mono hn
  have h9 : (2 : Int) ^ 32 = 4294967296 := by decide
  have h10 : (0 : Int) < 2 ^ (p + 1) := Int.pow_pos (by omega)
  have hx : accH L at_ n j = numH L at_ j * 2 ^ (p + 1) := by unfold accH; rw [e1]
  have hlt : numH L at_ j * 2 ^ (p + 1) ≤ 2 ^ j * 2 ^ (p + 1) := Int.mul_le_mul_of_nonneg_right (Int.le_of_lt h1.2) (Int.le_of_lt h10)
  have h0 : 0 ≤ numH L at_ j * 2 ^ (p + 1) := Int.mul_nonneg h1.1 (Int.le_of_lt h10)
  refine ⟨?_, by omega, by omega⟩
  have hm : numH L at_ j * 2 ^ (p + 1) % 2 ^ (p + 1) = 0 := Int.mul_emod_left _ _
  have hb : 0 ≤ L.getD (at_ + j) 0 * 2 ^ p ∧ L.getD (at_ + j) 0 * 2 ^ p < 2 ^ (p + 1) := by rw [Int.pow_succ]; rcases h2 with e | e <;> rw [e] <;> omega
  have hp1 := pow_mono (show p + 1 ≤ 32 by omega)
  rw [hx, i64_join (p + 1) _ _ h0 hm (by omega) hb.1 hb.2 (by omega)]
  unfold accH
  rw [e2, show numH L at_ (j + 1) = 2 * numH L at_ j + L.getD (at_ + j) 0 from rfl, Int.pow_succ, Int.add_mul]
  congr 1
  rw [Int.mul_assoc 2, Int.mul_left_comm 2, Int.mul_comm 2]
/-- a reader in memory, in the high order, so many bits read -/
structure BRH (w : World) (g : Nat) (A : Option Addr) (c : Nat) (bl : List Int) (k : Nat) : Prop where
  blk : Blk w g 166 #[.bool true, .slice A bl.length c, .int .i64 (k : Int)]
  row : w.ownsRow 0 5 1 (.slice A bl.length c) bl.length (bytesV bl)
  ok : ∀ x ∈ bl, isB x
  len : bl.length ≤ 10000000
  at_ : k ≤ 8 * bl.length
theorem BRH.ne {w : World} {g : Nat} {A : Option Addr} {c : Nat} {bl : List Int} {k : Nat} (h : BRH w g A c bl k) : (Value.slice A bl.length c).ownBlock = none ∨ (Value.slice A bl.length c).ownBlock ≠ some g :=
  .inr (fun e => own_blk_ne h.row h.blk (by decide) e.symm)
theorem BRH.below {w w' : World} {g : Nat} {A : Option Addr} {c : Nat} {bl : List Int} {k : Nat} (h : BRH w g A c bl k) (hb : Below w.heap.size w w') : BRH w' g A c bl k :=
  ⟨h.blk.below hb h.blk.lt, own_below h.row hb (Nat.le_refl _), h.ok, h.len, h.at_⟩
theorem BRH.turn {w w' : World} {g : Nat} {A : Option Addr} {c : Nat} {bl : List Int} {k j : Nat} (h : BRH w g A c bl k) (hg : w.grownBy w' (some g)) (hb : Blk w' g 166 #[.bool true, .slice A bl.length c, .int .i64 (j : Int)]) (hj : j ≤ 8 * bl.length) : BRH w' g A c bl j :=
  ⟨hb, h.row.kept hg h.ne, h.ok, h.len, hj⟩
theorem shiftH_any (k sh : Nat) (hs : sh + k % 8 = 7) (W : World) : Calls Try.prog 124 #[.bool true, .int .i64 (k : Int)] W fun e w' => e = .returned (.int .i64 (sh : Int)) ∧ w' = W := by
  have Hs := hid hs
  clear hs
  go_enter Try.func124, Try.ntmps124
  go_wp2
  go_ret
  exact ⟨ret_int (by have := Hs.out; omega), rfl⟩
theorem pickH_any (k n p : Nat) (hp : p + k + 1 = n) (hn : n ≤ 64) (W : World) : Calls Try.prog 125 #[.bool true, .int .i64 (k : Int), .int .i64 (n : Int)] W fun e w' => e = .returned (.int .i64 (p : Int)) ∧ W = w' := by
  have Hp := hid hp
  have e1 : wrap64 ((n : Int) - 1) = (n : Int) - 1 := by unfold wrap64; omega
  have e2 : wrap64 ((n : Int) - 1 - (k : Int)) = (n : Int) - 1 - (k : Int) := by unfold wrap64; omega
  clear hp
  go_enter Try.func125, Try.ntmps125
  go_wp2
  go_ret
  exact ⟨ret_int (by have := Hp.out; omega), rfl⟩
theorem leftH_any (g : Nat) (A : Option Addr) (c : Nat) (bl : List Int) (k : Nat) (W : World) (h : BRH W g A c bl k) : Calls Try.prog 123 #[.pointer (some ⟨g, 0, none⟩)] W fun e w' => e = .returned (.int .i64 (8 * (bl.length : Int) - (k : Int))) ∧ Below W.heap.size W w' := by
  have q0 := h.blk.cell 0
  have q1 := h.blk.cell 1
  have q2 := h.blk.cell 2
  simp only [List.getElem?_toArray, List.getElem?_cons_zero, List.getElem?_cons_succ] at q0 q1 q2
  have hl := h.len
  have ha := h.at_
  have hgw := h.blk.lt
  obtain ⟨n, hn⟩ : ∃ n, n = bl.length := ⟨_, rfl⟩
  rw [← hn] at q1 hl ha ⊢
  clear h hn
  go_enter Try.func123, Try.ntmps123
  go_upto_region 3 with (fail)
  go_quiet (fail)
  go_wp2
  go_ret
  exact ⟨ret_int (by have : IntKind.i64.wrap (8 * (n : Int)) = 8 * (n : Int) := IntWalk.i64_in _ (by omega); first | (rw [this, IntWalk.i64_in _ (by omega)]) | rfl), below_drewN (Below.refl _ _) _⟩
set_option maxRecDepth 100000 in
set_option maxHeartbeats 4000000 in
theorem takeH_ok (g : Nat) (A : Option Addr) (c : Nat) (bl : List Int) (k n : Nat) (hn : n ≤ 32) (W : World) (h : BRH W g A c bl k) (hk : k + n ≤ 8 * bl.length) : Calls Try.prog 86 #[.pointer (some ⟨g, 0, none⟩), .int .i64 (n : Int)] W fun e w' => e = .returned (.tuple #[.int .i64 (numH (bitsH bl) k n), .nilIface]) ∧ BRH w' g A c bl (k + n) ∧ W.grownBy w' (some g) := by
  have H := hid h
  obtain ⟨Ln, hLn⟩ : ∃ Ln, Ln = bl.length := ⟨_, rfl⟩
  have HLn := hid hLn
  have hll := h.len
  rw [← hLn] at hk hll
  clear h hLn
  go_enter Try.func86, Try.ntmps86
  go_wp2_with fail
  refine (counted_any n hn _).mono ?_
  rintro e w1 ⟨rfl, rfl⟩
  go_wp2_with fail
  refine (leftH_any g A c bl k _ H.out).mono ?_
  rintro e w2 ⟨rfl, hb2⟩
  rw [← HLn.out]
  have H2 := hid (H.out.below hb2)
  have G2 := hid (gr_below1 (World.grownBy.refl W (some g)) hb2)
  have d1 : decide (8 * (Ln : Int) - (k : Int) < (n : Int)) = false := decide_eq_false (by omega)
  clear hb2
  go_upto_region 6 with (fail)
  go_wp2_with fail
  go_loopw [6, 23] (fun v i wr => ∃ j : Nat, j ≤ n ∧ v = .int .i64 (accH (bitsH bl) k n j) ∧ i = .int .i64 (j : Int) ∧ Hid (BRH wr g A c bl (k + j)) ∧ Hid (W.grownBy wr (some g))) (fun _ i _ => n - (intOf i).toNat)
  case atStart => exact ⟨0, by omega, by rw [accH_zero], rfl, H2, G2⟩
  case round =>
    obtain ⟨j, hj, rfl, rfl, M, G⟩ := hrel
    by_cases hlt : j < n
    · have d2 : decide (j < n) = true := decide_eq_true hlt
      have q0 := M.out.blk.cell 0
      have q1 := M.out.blk.cell 1
      have q2 := M.out.blk.cell 2
      simp only [List.getElem?_toArray, List.getElem?_cons_zero, List.getElem?_cons_succ] at q0 q1 q2
      have hgw := M.out.blk.lt
      obtain ⟨kj, hkj⟩ : ∃ kj, kj = k + j := ⟨_, rfl⟩
      rw [← hkj] at q2
      rw [← HLn.out] at q1
      obtain ⟨qk, hqk⟩ : ∃ qk, qk = kj / 8 := ⟨_, rfl⟩
      have hkl : qk < Ln := by omega
      obtain ⟨b, off, hA, hbb, hcl⟩ := byte_at (own_rd M.out.row) (j := qk) (by rw [← HLn.out]; exact hkl)
      subst hA
      obtain ⟨v, hvv⟩ : ∃ v, v = bl.getD qk 0 := ⟨_, rfl⟩
      rw [← hvv] at hcl
      have tq : (kj : Int).tdiv 8 = (qk : Int) := by rw [Int.tdiv_eq_ediv_of_nonneg (by omega)]; omega
      have tq2 : (kj : Int) / 8 = (qk : Int) := by omega
      obtain ⟨sh, hsh⟩ : ∃ sh, sh + kj % 8 = 7 := ⟨7 - kj % 8, by omega⟩
      have hsh7 : sh ≤ 7 := by omega
      have Hsh := hid hsh
      have Hkj := hid hkj
      have Hqk := hid hqk
      have Hvv := hid hvv
      clear hkj hvv hqk hsh
      go_upto_region 9 with (fail)
      go_quiet ((go_at_call 124; exact Calls.quiet_of_same (shiftH_any _ sh Hsh.out _)))
      have hv0 : isB v := by
        rw [Hvv.out]
        have : qk < bl.length := by rw [← HLn.out]; exact hkl
        rw [List.getD_eq_getElem?_getD, List.getElem?_eq_getElem this]
        exact M.out.ok _ (List.getElem_mem this)
      have hbit : bits .and .i64 (wrap64 v / 2 ^ sh) 1 = (bitsH bl).getD (k + j) 0 := by
        have h1 : wrap64 v = v := by unfold wrap64; unfold isB at hv0; omega
        have h2 : (0 : Int) < 2 ^ sh := Int.pow_pos (by omega)
        have h3 : 0 ≤ v / 2 ^ sh := Int.ediv_nonneg hv0.1 (Int.le_of_lt h2)
        have h4 : v / 2 ^ sh ≤ v := Int.ediv_le_self _ hv0.1
        have h5 := i64_mask 1 (by omega) (v / 2 ^ sh) h3 (by unfold isB at hv0; omega)
        have h6 : 7 - kj % 8 = sh := by have := Hsh.out; omega
        rw [h1, show (1 : Int) = 2 ^ 1 - 1 from rfl, h5, bitsH_at _ _ (by rw [← HLn.out]; omega), ← Hkj.out]
        unfold bitH
        rw [h6, Hvv.out, Hqk.out]
        rfl
      rw [hbit]
      obtain ⟨bv, hbv⟩ : ∃ bv, bv = (bitsH bl).getD (k + j) 0 := ⟨_, rfl⟩
      have hb01 : isBit bv := by rw [hbv]; exact getD_bit (bitsH_bit bl) _
      obtain ⟨pk, hpk⟩ : ∃ pk, pk + j + 1 = n := ⟨n - j - 1, by omega⟩
      obtain ⟨hj2, hx0, hx1⟩ := acc_join (bitsH_bit bl) k n j pk hpk hn
      rw [← hbv] at hj2 ⊢
      have M1 := hid (M.out.below (below_drewN (Below.refl _ _) nq))
      have G1 := hid (gr_below1 G.out (below_drewN (Below.refl _ _) nq))
      obtain ⟨x, hx⟩ : ∃ x, x = accH (bitsH bl) k n j := ⟨_, rfl⟩
      rw [← hx] at hj2 hx0 hx1 ⊢
      have Hpk := hid hpk
      have hpk31 : pk ≤ 31 := by omega
      have Hj2 := hid hj2
      have hp31 := pow_mono (show pk ≤ 31 by omega)
      have hp0 : (0 : Int) < 2 ^ pk := Int.pow_pos (by omega)
      have hbb2 : 0 ≤ bv * 2 ^ pk ∧ bv * 2 ^ pk ≤ 2147483648 := by
        have : (2 : Int) ^ 31 = 2147483648 := by decide
        rcases hb01 with e | e <;> rw [e] <;> omega
      have hwr : IntKind.i64.wrap (bv * 2 ^ pk) = bv * 2 ^ pk := IntWalk.i64_in _ (by omega)
      have hwr2 : wrap64 (bv * 2 ^ pk) = bv * 2 ^ pk := by unfold wrap64; omega
      generalize wr.drewN nq = w3 at *
      clear q0 q1 q2 hcl hbit hv0 hbv hj2 hx hb01 M G tq tq2 hp31 hp0 hpk
      have q0 := M1.out.blk.cell 0
      have q1 := M1.out.blk.cell 1
      have q2 := M1.out.blk.cell 2
      simp only [List.getElem?_toArray, List.getElem?_cons_zero, List.getElem?_cons_succ] at q0 q1 q2
      have hgw := M1.out.blk.lt
      have fz := fun o => M1.out.blk.frozen o
      obtain ⟨kk, hkk⟩ : ∃ kk, kk = k + j := ⟨_, rfl⟩
      obtain ⟨k1, hk1⟩ : ∃ k1, k1 = kk + 1 := ⟨_, rfl⟩
      rw [← HLn.out] at q1
      rw [← hkk] at q2
      have tk : wrap64 (k1 : Int) = (k1 : Int) := by unfold wrap64; omega
      have tk2 : (kk : Int) + 1 = (k1 : Int) := by omega
      have Hkk := hid hkk
      have Hk1 := hid hk1
      clear hkk hk1
      go_wp2_with fail
      refine (pickH_any j n pk Hpk.out (by omega) _).mono ?_
      rintro e w4 ⟨rfl, rfl⟩
      go_wp2_with fail
      have hb4 := M1.out.blk.set_ 2 (.int .i64 (k1 : Int))
      have hM4 := M1.out.turn (j := k1) (gr_set1 (World.grownBy.refl w3 (some g)) 2 (.int .i64 (k1 : Int))) hb4 (by rw [← HLn.out]; have := Hk1.out; have := Hkk.out; omega)
      have e4 : k1 = k + (j + 1) := by have := Hk1.out; have := Hkk.out; omega
      refine ⟨⟨j + 1, by omega, by rw [Hj2.out], by go_num, hid ?_, hid (gr_set1 G1.out _ _)⟩, by simp [intOf]; omega⟩
      rw [e4] at hM4 ⊢
      exact hM4
    · obtain rfl : j = n := by omega
      rw [accH_full]
      go_wp2_with fail
      go_ret2
      exact ⟨rfl, M.out, G.out⟩
theorem takeH_end (g : Nat) (A : Option Addr) (c : Nat) (bl : List Int) (k n : Nat) (hn : n ≤ 32) (W : World) (h : BRH W g A c bl k) (hk : 8 * bl.length < k + n) : Calls Try.prog 86 #[.pointer (some ⟨g, 0, none⟩), .int .i64 (n : Int)] W fun e w' => e = .returned (.tuple #[.int .i64 0, .iface 42 (.int .i64 8)]) ∧ BRH w' g A c bl k ∧ W.grownBy w' (some g) := by
  have H := hid h
  obtain ⟨Ln, hLn⟩ : ∃ Ln, Ln = bl.length := ⟨_, rfl⟩
  have HLn := hid hLn
  have hll := h.len
  rw [← hLn] at hk hll
  clear h hLn
  go_enter Try.func86, Try.ntmps86
  go_wp2_with fail
  refine (counted_any n hn _).mono ?_
  rintro e w1 ⟨rfl, rfl⟩
  go_wp2_with fail
  refine (leftH_any g A c bl k _ H.out).mono ?_
  rintro e w2 ⟨rfl, hb2⟩
  rw [← HLn.out]
  have H2 := hid (H.out.below hb2)
  have G2 := hid (gr_below1 (World.grownBy.refl W (some g)) hb2)
  have d1 : decide (8 * (Ln : Int) - (k : Int) < (n : Int)) = true := decide_eq_true (by omega)
  clear hb2
  go_wp2_with fail
  go_ret2
  exact ⟨rfl, H2.out, G2.out⟩
/-- a reader of bytes, made -/
def NewEndH (bl : List Int) (W : World) (e : Ending) (w' : World) : Prop := ∃ g A c, e = .returned (.pointer (some ⟨g, 0, none⟩)) ∧ W.heap.size ≤ g ∧ BRH w' g A c bl 0 ∧ Below W.heap.size W w'
theorem newReaderH_any (A : Option Addr) (c : Nat) (bl : List Int) (W : World) (hr : Rd W W.heap.size 1 A bl.length (bytesV bl)) (hc : A = none → c = 0) (hb : ∀ x ∈ bl, isB x) (hm : bl.length ≤ 10000000) : Calls Try.prog 85 #[.slice A bl.length c, .bool true] W (NewEndH bl W) := by
  have CL := hid (clone_any A c bl W hr hc hm)
  clear hr hc
  go_enter Try.func85, Try.ntmps85
  go_wp2_with fail
  refine (CL.out).mono ?_
  rintro e w1 ⟨A1, c1, rfl, ho, hb1⟩
  have O := hid ho
  have B := hid hb1
  clear ho hb1 CL
  go_wp2_with fail
  go_ret
  have hbA := (Below.refl w1.heap.size w1).alloc (Nat.le_refl _) (.cells #[.bool true, .slice A1 bl.length c1, .int .i64 0] 166)
  exact ⟨w1.heap.size, A1, c1, rfl, B.out.size, ⟨Blk.new w1 166 #[.bool true, .slice A1 bl.length c1, .int .i64 0], own_base (own_below O.out hbA (Nat.le_refl _)) (Nat.zero_le _), hb, hm, Nat.zero_le _⟩, B.out.trans (hbA.mono B.out.size)⟩
end Go.Proofs.Ytphhoihhmphbdaa
