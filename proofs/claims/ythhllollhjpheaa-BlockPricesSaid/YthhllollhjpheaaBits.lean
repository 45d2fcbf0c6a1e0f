/-
  'or' and 'and' on ints that are not negative.
  Bits of bytes, the lowest first; numbers of bits; shifts.
-/
import Derived.Test.YthhllollhjpheaaBase
import Derived.Laws.BitsLemmas
import Derived.IntWalk
namespace Go.Proofs.Ythhllollhjpheaa

theorem wraps62 (n : Int) (h0 : 0 ≤ n) (h1 : n < 2 ^ 62) : IntKind.i64.wrap n = n := by rw [IntKind.wrap_i64]; omega
/-- the lower bits of one, the upper of the other -/
theorem i64_join (i : Nat) (x y : Int) (h0 : 0 ≤ x) (hx : x % 2 ^ i = 0) (h1 : x < 4611686018427387904) (y0 : 0 ≤ y) (hy : y < 2 ^ i) (y1 : y < 4611686018427387904) : bits .or .i64 x y = x + y :=
  bits_join .i64 62 (by decide) wraps62 i x y h0 hx (by omega) y0 hy (by omega)
theorem i64_mask (i : Nat) (hi : i ≤ 62) (x : Int) (h0 : 0 ≤ x) (h1 : x < 4611686018427387904) : bits .and .i64 x (2 ^ i - 1) = x % 2 ^ i :=
  bits_mask .i64 62 (by decide) wraps62 i hi x h0 (by omega)

end Go.Proofs.Ythhllollhjpheaa

namespace Go.Proofs.Ythhllollhjpheaa

theorem shr_run {P : Program} {yk : IntKind} (x : Int) (y : Nat) (hy : y ≤ 63) (w : World) : (Op.shift .shr .i64 x yk (y : Int)).run P w = .ok (.int .i64 (x / 2 ^ y)) w := by
  unfold Op.shift
  rw [if_neg (by omega)]
  have e : min ((y : Int).toNat) IntKind.i64.bits = y := by
    have : IntKind.i64.bits = 64 := rfl
    rw [this]
    omega
  simp only [e]
  have h2 : (0 : Int) ≤ 2 ^ y := Int.pow_nonneg (by omega)
  rw [Int.fdiv_eq_ediv_of_nonneg _ h2]
  rfl
theorem shl_run {P : Program} {yk : IntKind} (x : Int) (y : Nat) (hy : y ≤ 63) (w : World) (h0 : 0 ≤ x) (h1 : x * 2 ^ y < 4611686018427387904) : (Op.shift .shl .i64 x yk (y : Int)).run P w = .ok (.int .i64 (x * 2 ^ y)) w := by
  unfold Op.shift
  rw [if_neg (by omega)]
  have e : min ((y : Int).toNat) IntKind.i64.bits = y := by
    have : IntKind.i64.bits = 64 := rfl
    rw [this]
    omega
  simp only [e]
  have h2 : (0 : Int) ≤ 2 ^ y := Int.pow_nonneg (by omega)
  have h3 : 0 ≤ x * 2 ^ y := Int.mul_nonneg h0 h2
  rw [IntWalk.i64_in _ (by omega)]
  rfl
/-- a bit of bytes -/
def bitA (bl : List Int) (i : Nat) : Int := bl.getD (i / 8) 0 / 2 ^ (i % 8) % 2
def bitsL (bl : List Int) : List Int := (List.range (8 * bl.length)).map (bitA bl)
theorem bitsL_length (bl : List Int) : (bitsL bl).length = 8 * bl.length := by simp [bitsL]
theorem bitsL_at (bl : List Int) (i : Nat) (h : i < 8 * bl.length) : (bitsL bl).getD i 0 = bitA bl i := by
  unfold bitsL
  rw [List.getD_eq_getElem?_getD, List.getElem?_eq_getElem (by simpa using h)]
  simp
def isBit (x : Int) : Prop := x = 0 ∨ x = 1
theorem bitA_bit (bl : List Int) (i : Nat) : isBit (bitA bl i) := by unfold bitA isBit; omega
theorem bitsL_bit (bl : List Int) : ∀ x ∈ bitsL bl, isBit x := by
  intro x hx
  obtain ⟨i, _, rfl⟩ := List.mem_map.1 hx
  exact bitA_bit bl i
theorem getD_bit {L : List Int} (h : ∀ x ∈ L, isBit x) (i : Nat) : isBit (L.getD i 0) := by
  rcases Nat.lt_or_ge i L.length with hi | hi
  · rw [List.getD_eq_getElem?_getD, List.getElem?_eq_getElem hi]
    exact h _ (List.getElem_mem hi)
  · rw [List.getD_eq_getElem?_getD, List.getElem?_eq_none hi]
    exact .inl rfl
/-- the number of so many bits, the lowest first -/
def numL (L : List Int) (at_ : Nat) : Nat → Int
  | 0 => 0
  | n + 1 => numL L at_ n + L.getD (at_ + n) 0 * 2 ^ n
theorem numL_bd {L : List Int} (h : ∀ x ∈ L, isBit x) (at_ : Nat) : ∀ n, 0 ≤ numL L at_ n ∧ numL L at_ n < 2 ^ n
  | 0 => ⟨Int.le_refl 0, by show (0 : Int) < 1; omega⟩
  | n + 1 => by
    have ih := numL_bd h at_ n
    have hb := getD_bit h (at_ + n)
    unfold numL
    rw [Int.pow_succ]
    generalize (2 : Int) ^ n = p at *
    rcases hb with e | e <;> rw [e] <;> omega
theorem pow_mono {m n : Nat} (h : m ≤ n) : (2 : Int) ^ m ≤ 2 ^ n := by
  obtain ⟨k, rfl⟩ := Nat.exists_eq_add_of_le h
  rw [Int.pow_add]
  have h1 : (0 : Int) < 2 ^ m := Int.pow_pos (by omega)
  have h2 : (1 : Int) ≤ 2 ^ k := by have : (0 : Int) < 2 ^ k := Int.pow_pos (by omega); omega
  have := Int.mul_le_mul_of_nonneg_left h2 (Int.le_of_lt h1)
  omega
theorem num_join {L : List Int} (h : ∀ x ∈ L, isBit x) (at_ n : Nat) (hn : n < 32) : bits .or .i64 (numL L at_ n) (L.getD (at_ + n) 0 * 2 ^ n) = numL L at_ (n + 1) := by
  have h1 := numL_bd h at_ n
  have h2 := getD_bit h (at_ + n)
  have h3 := pow_mono (show n ≤ 31 by omega)
  have h4 : (2 : Int) ^ 31 = 2147483648 := by decide
  have h5 : (0 : Int) < 2 ^ n := Int.pow_pos (by omega)
  have e1 : ∀ x y : Int, bits .or .i64 x y = bits .or .i64 y x := fun x y => by
    unfold bits
    dsimp only
    rw [BitVec.or_comm]
  have e2 : numL L at_ (n + 1) = L.getD (at_ + n) 0 * 2 ^ n + numL L at_ n := by
    show numL L at_ n + L.getD (at_ + n) 0 * 2 ^ n = _
    omega
  rw [e1, e2]
  have h6 : L.getD (at_ + n) 0 * 2 ^ n % 2 ^ n = 0 := Int.mul_emod_left _ _
  rw [h4] at h3
  have h7 : 0 ≤ L.getD (at_ + n) 0 * 2 ^ n ∧ L.getD (at_ + n) 0 * 2 ^ n ≤ 2 ^ n := by rcases h2 with e | e <;> rw [e] <;> omega
  exact i64_join n _ _ h7.1 h6 (by omega) h1.1 h1.2 (by omega)
/-- reading a number: its value and the place behind it -/
def tkL (L : List Int) (at_ n : Nat) : Except Int (Int × Nat) := if L.length < at_ + n then .error 8 else .ok (numL L at_ n, at_ + n)
theorem numL_one (L : List Int) (at_ : Nat) : numL L at_ 1 = L.getD at_ 0 := by
  show 0 + L.getD (at_ + 0) 0 * 2 ^ 0 = _
  simp
end Go.Proofs.Ythhllollhjpheaa
