/-
  bits.Reader: what both orders share.
  bits.Reader in the high order: made, asked, read.
  bits.Reader: made, asked, read, in the low order.
-/
import Derived.Test.YthhllollhjpheaaBits
import Derived.Test.YthhllollhjpheaaPut
import Derived.Deep.DeepCutAuto
import Derived.Deep.CutRange
import Derived.Deep.CutBlock
import Derived.Deep.RegionHeld3
import Derived.BigRegion
import Derived.Laws.Cover4
namespace Go.Proofs.Ythhllollhjpheaa
open Go.RowKit

theorem gr_set1 {w w0 : World} {g : Nat} (h : w0.grownBy w (some g)) (i : Nat) (u : Value) : w0.grownBy (w.setCell ⟨g, i, none⟩ u) (some g) :=
  ⟨h.os, h.tape, h.output, by simpa using h.size, fun k hk hr => (Below.heap_setCell w ⟨g, i, none⟩ u k (fun e => hr (by rw [e]))).trans (h.block k hk hr)⟩
theorem gr_below1 {w w' w0 : World} {r : Option Nat} (h : w0.grownBy w r) (hb : Below w.heap.size w w') : w0.grownBy w' r :=
  ⟨hb.os.trans h.os, hb.tape.trans h.tape, hb.output.trans h.output, Nat.le_trans h.size hb.size, fun k hk hr => (hb.block k (by have := h.size; omega)).trans (h.block k hk hr)⟩
theorem gr_trans1 {w w' w0 : World} {r : Option Nat} (h : w0.grownBy w r) (h' : w.grownBy w' r) : w0.grownBy w' r :=
  ⟨h'.os.trans h.os, h'.tape.trans h.tape, h'.output.trans h.output, Nat.le_trans h.size h'.size, fun k hk hr => (h'.block k (by have := h.size; omega) hr).trans (h.block k hk hr)⟩
theorem counted_any (n : Nat) (hn : n ≤ 32) (W : World) : Calls Try.prog 72 #[.int .i64 (n : Int)] W fun e w' => e = .returned (.bool true) ∧ W = w' := by
  have d1 : decide ((0 : Int) ≤ (n : Int)) = true := decide_eq_true (by omega)
  go_enter Try.func72, Try.ntmps72
  go_wp2
  go_ret
  exact ⟨ret_bool (by simp; omega), rfl⟩
end Go.Proofs.Ythhllollhjpheaa

namespace Go.Proofs.Ythhllollhjpheaa
open Go.RowKit

/-- a bit of bytes, the highest first -/
def bitH (bl : List Int) (i : Nat) : Int := bl.getD (i / 8) 0 / 2 ^ (7 - i % 8) % 2
def bitsH (bl : List Int) : List Int := (List.range (8 * bl.length)).map (bitH bl)
theorem bitsH_length (bl : List Int) : (bitsH bl).length = 8 * bl.length := by simp [bitsH]
theorem bitsH_at (bl : List Int) (i : Nat) (h : i < 8 * bl.length) : (bitsH bl).getD i 0 = bitH bl i := by
  unfold bitsH
  rw [List.getD_eq_getElem?_getD, List.getElem?_eq_getElem (by simpa using h)]
  simp
theorem bitH_bit (bl : List Int) (i : Nat) : isBit (bitH bl i) := by unfold bitH isBit; omega
theorem bitsH_bit (bl : List Int) : ∀ x ∈ bitsH bl, isBit x := by
  intro x hx
  obtain ⟨i, _, rfl⟩ := List.mem_map.1 hx
  exact bitH_bit bl i
/-- the number of so many bits, the highest first -/
def numH (L : List Int) (at_ : Nat) : Nat → Int
  | 0 => 0
  | n + 1 => 2 * numH L at_ n + L.getD (at_ + n) 0
theorem numH_bd {L : List Int} (h : ∀ x ∈ L, isBit x) (at_ : Nat) : ∀ n, 0 ≤ numH L at_ n ∧ numH L at_ n < 2 ^ n
  | 0 => ⟨Int.le_refl 0, by show (0 : Int) < 1; omega⟩
  | n + 1 => by
    have ih := numH_bd h at_ n
    have hb := getD_bit h (at_ + n)
    unfold numH
    rw [Int.pow_succ]
    generalize (2 : Int) ^ n = p at *
    rcases hb with e | e <;> rw [e] <;> omega
/-- a number of n bits of which j are read -/
def accH (L : List Int) (at_ n j : Nat) : Int := numH L at_ j * 2 ^ (n - j)
theorem accH_zero (L : List Int) (at_ n : Nat) : accH L at_ n 0 = 0 := by unfold accH numH; omega
theorem accH_full (L : List Int) (at_ n : Nat) : accH L at_ n n = numH L at_ n := by unfold accH; rw [Nat.sub_self]; omega
theorem acc_join {L : List Int} (h : ∀ x ∈ L, isBit x) (at_ n j p : Nat) (hp : p + j + 1 = n) (hn : n ≤ 32) : bits .or .i64 (accH L at_ n j) (L.getD (at_ + j) 0 * 2 ^ p) = accH L at_ n (j + 1) ∧ 0 ≤ accH L at_ n j ∧ accH L at_ n j ≤ 4294967296 := by
  have h1 := numH_bd h at_ j
  have h2 := getD_bit h (at_ + j)
  have e1 : n - j = p + 1 := by omega
  have e2 : n - (j + 1) = p := by omega
  have h5 : (0 : Int) < 2 ^ p := Int.pow_pos (by omega)
  have h6 : (0 : Int) < 2 ^ j := Int.pow_pos (by omega)
  have h7 : (2 : Int) ^ j * 2 ^ (p + 1) = 2 ^ n := by rw [← Int.pow_add]; congr 1; omega
  have h8 := pow_mono hn
  have h9 : (2 : Int) ^ 32 = 4294967296 := by decide
  have h10 : (0 : Int) < 2 ^ (p + 1) := Int.pow_pos (by omega)
  have hx : accH L at_ n j = numH L at_ j * 2 ^ (p + 1) := by unfold accH; rw [e1]
  have hlt : numH L at_ j * 2 ^ (p + 1) ≤ 2 ^ j * 2 ^ (p + 1) := Int.mul_le_mul_of_nonneg_right (Int.le_of_lt h1.2) (Int.le_of_lt h10)
  have h0 : 0 ≤ numH L at_ j * 2 ^ (p + 1) := Int.mul_nonneg h1.1 (Int.le_of_lt h10)
  refine ⟨?_, by omega, by omega⟩
  have hm : numH L at_ j * 2 ^ (p + 1) % 2 ^ (p + 1) = 0 := Int.mul_emod_left _ _
  have hb : 0 ≤ L.getD (at_ + j) 0 * 2 ^ p ∧ L.getD (at_ + j) 0 * 2 ^ p < 2 ^ (p + 1) := by rw [Int.pow_succ]; rcases h2 with e | e <;> rw [e] <;> omega
  have hp1 := pow_mono (show p + 1 ≤ 32 by omega)
  rw [hx, i64_join (p + 1) _ _ h0 hm (by omega) hb.1 hb.2 (by omega)]
  unfold accH
  rw [e2, show numH L at_ (j + 1) = 2 * numH L at_ j + L.getD (at_ + j) 0 from rfl, Int.pow_succ, Int.add_mul]
  congr 1
  rw [Int.mul_assoc 2, Int.mul_left_comm 2, Int.mul_comm 2]
theorem shiftH_any (k sh : Nat) (hs : sh + k % 8 = 7) (W : World) : Calls Try.prog 83 #[.bool true, .int .i64 (k : Int)] W fun e w' => e = .returned (.int .i64 (sh : Int)) ∧ w' = W := by
  have Hs := hid hs
  clear hs
  go_enter Try.func83, Try.ntmps83
  go_wp2
  go_ret
  exact ⟨ret_int (by have := Hs.out; omega), rfl⟩
theorem pickH_any (k n p : Nat) (hp : p + k + 1 = n) (hn : n ≤ 64) (W : World) : Calls Try.prog 73 #[.bool true, .int .i64 (k : Int), .int .i64 (n : Int)] W fun e w' => e = .returned (.int .i64 (p : Int)) ∧ W = w' := by
  have Hp := hid hp
  have e1 : wrap64 ((n : Int) - 1) = (n : Int) - 1 := by unfold wrap64; omega
  have e2 : wrap64 ((n : Int) - 1 - (k : Int)) = (n : Int) - 1 - (k : Int) := by unfold wrap64; omega
  clear hp
  go_enter Try.func73, Try.ntmps73
  go_wp2
  go_ret
  exact ⟨ret_int (by have := Hp.out; omega), rfl⟩
end Go.Proofs.Ythhllollhjpheaa

namespace Go.Proofs.Ythhllollhjpheaa
open Go.RowKit
theorem shift_any (k : Nat) (W : World) : Calls Try.prog 83 #[.bool false, .int .i64 (k : Int)] W fun e w' => e = .returned (.int .i64 ((k % 8 : Nat) : Int)) ∧ w' = W := by
  go_enter Try.func83, Try.ntmps83
  go_wp2
  go_ret
  exact ⟨ret_int (by omega), rfl⟩
theorem pick_any (k n : Nat) (W : World) : Calls Try.prog 73 #[.bool false, .int .i64 (k : Int), .int .i64 (n : Int)] W fun e w' => e = .returned (.int .i64 (k : Int)) ∧ W = w' := by
  go_enter Try.func73, Try.ntmps73
  go_wp2
  go_ret
  exact ⟨rfl, rfl⟩
end Go.Proofs.Ythhllollhjpheaa
