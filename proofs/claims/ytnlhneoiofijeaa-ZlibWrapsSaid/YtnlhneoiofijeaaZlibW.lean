/-
  burnishref07.Head, burnishref01.Number of four bytes, burnishref07.Wrap; zlib.Wrap.
-/
import Derived.Test.YtnlhneoiofijeaaSums
import Derived.Test.YtnlhneoiofijeaaCatB
import Derived.Deep.DeepCutAuto
import Derived.Deep.CutRange
import Derived.Deep.CutBlock
namespace Go.Proofs.Ytnlhneoiofijeaa
open Go.RowKit

theorem pow_bd : ∀ j : Nat, j ≤ 7 → (1 : Int) ≤ 2 ^ j ∧ (2 : Int) ^ j ≤ 128 := by decide
/-- what burnishref07.Head says of two bytes -/
def headN (a b : Int) : Int × Int := if a % 16 ≠ 8 ∨ 7 < a / 16 ∨ (256 * a + b) % 31 ≠ 0 then (0, 2) else if b / 32 % 2 = 1 then (0, 3) else (256 * 2 ^ (a / 16).toNat, 0)
def HeadEnd (r : Int × Int) (W : World) (e : Ending) (w' : World) : Prop := e = .returned (.tuple #[.int .i64 r.1, .int .i64 r.2]) ∧ W = w'
set_option maxHeartbeats 1000000 in
theorem refHead_any (a b : Int) (a0 : 0 ≤ a) (a1 : a ≤ 255) (b0 : 0 ≤ b) (b1 : b ≤ 255) (W : World) : Calls Try.prog 74 #[.int .u8 a, .int .u8 b] W (HeadEnd (headN a b) W) := by
  by_cases h1 : a % 16 = 8
  · by_cases h2 : 7 < a / 16
    · have Hh := hid (show headN a b = (0, 2) by unfold headN; rw [if_pos (.inr (.inl h2))])
      go_enter Try.func74, Try.ntmps74
      go_wp2
      go_ret2
      exact ⟨by rw [Hh.out]; rfl, rfl⟩
    · by_cases h3 : (256 * a + b) % 31 = 0
      · by_cases h4 : b / 32 % 2 = 1
        · have Hh := hid (show headN a b = (0, 3) by unfold headN; rw [if_neg (by omega), if_pos h4])
          go_enter Try.func74, Try.ntmps74
          go_wp2
          go_ret2
          exact ⟨by rw [Hh.out]; rfl, rfl⟩
        · have Hh := hid (show headN a b = (256 * 2 ^ (a / 16).toNat, 0) by unfold headN; rw [if_neg (by omega), if_neg h4])
          have h5 : (b / 32 % 2 == 1) = false := beq_eq_false_iff_ne.2 h4
          obtain ⟨w, hw⟩ := Int.eq_ofNat_of_zero_le (show 0 ≤ a / 16 by omega)
          have hw7 : w ≤ 7 := by omega
          have d7 : decide ((7 : Int) < (w : Int)) = false := decide_eq_false (by omega)
          clear h4
          go_enter Try.func74, Try.ntmps74
          go_wp2
          go_loop [7, 8] (fun nv i => ∃ j : Nat, j ≤ w ∧ i = .int .i64 j ∧ nv = .int .i64 (256 * 2 ^ j)) (fun _ i => w - (intOf i).toNat)
          case atStart => exact ⟨0, by omega, rfl, rfl⟩
          case round =>
            obtain ⟨j, hj, rfl, rfl⟩ := hrel
            by_cases hlt : j < w
            · obtain ⟨p1, p2⟩ := pow_bd j (by omega)
              have Hs := hid (show (2 : Int) ^ (j + 1) = 2 * 2 ^ j by rw [Int.pow_succ]; omega)
              generalize (2 : Int) ^ j = p at *
              go_wp2
              go_round
              case rel => exact ⟨j + 1, by omega, by go_num, by rw [Hs.out]; congr 1; omega⟩
              case measure => simp [intOf]; omega
            · have e : j = w := by omega
              subst e
              have Hj := hid (show (a / 16).toNat = j by omega)
              go_wp2
              go_ret2
              exact ⟨by rw [Hh.out, Hj.out]; rfl, rfl⟩
      · have Hh := hid (show headN a b = (0, 2) by unfold headN; rw [if_pos (.inr (.inr h3))])
        have h4 : ((256 * a + b) % 31 != 0) = true := bne_iff_ne.2 h3
        clear h3
        go_enter Try.func74, Try.ntmps74
        go_wp2
        go_ret2
        exact ⟨by rw [Hh.out]; rfl, rfl⟩
  · have Hh := hid (show headN a b = (0, 2) by unfold headN; rw [if_pos (.inl h1)])
    have h4 : (a % 16 != 8) = true := bne_iff_ne.2 h1
    clear h1
    go_enter Try.func74, Try.ntmps74
    go_wp2
    go_ret2
    exact ⟨by rw [Hh.out]; rfl, rfl⟩

/-- what burnishref01.Number of four bytes ends in -/
def NumEnd (n : Int) (W : World) (e : Ending) (w' : World) : Prop :=
  (if n < 0 ∨ 256 ^ 4 ≤ n then e = .returned (.tuple #[.slice none 0 0, .int .i64 7])
  else ∃ A c, e = .returned (.tuple #[.slice A 4 c, .int .i64 0]) ∧ w'.ownsRow W.heap.size 5 1 (.slice A 4 c) 4 (bytesV (be 4 n))) ∧ Below W.heap.size W w'
theorem be_drop (s k : Nat) (n : Int) (h : k < s) : [n / 256 ^ k % 256] ++ (be s n).drop (s - k) = (be s n).drop (s - (k + 1)) := by
  have hl := be_length s n
  rw [List.drop_eq_getElem_cons (show s - (k + 1) < (be s n).length by omega), show s - (k + 1) + 1 = s - k by omega]
  simp only [be, List.getElem_map, List.getElem_range, List.singleton_append]
  rw [show s - 1 - (s - (k + 1)) = k by omega]

set_option maxRecDepth 100000 in
set_option maxHeartbeats 2000000 in
theorem refNumber_any (n : Int) (hn : n ≤ 9223372036854775807) (W : World) : Calls Try.prog 75 #[.int .i64 4, .int .i64 n] W (NumEnd n W) := by
  by_cases h0 : n < 0
  · have Hif := hid (show n < 0 ∨ (256 : Int) ^ 4 ≤ n from .inl h0)
    go_enter Try.func75, Try.ntmps75
    go_wp2
    refine wp_loop_rounds 1 ?_
    rw [rounds_succ]
    go_wp2
    go_ret2
    exact ⟨by rw [if_pos Hif.out]; rfl, Below.refl _ _⟩
  · obtain ⟨i0, hi0, hz0, hz1, hz2⟩ := info_parts u8_info
    have Hi0 := hid hi0
    have Hz0 := hid hz0
    have Hz1 := hid hz1
    have Hz2 := hid hz2
    clear hi0 hz0 hz1 hz2
    go_enter Try.func75, Try.ntmps75
    go_wp2
    go_loopw [6, 7, 8] (fun ov kv i wr => ∃ (k : Nat) (A' : Option Addr) (c' : Nat), k ≤ 4 ∧ i = .int .i64 k ∧ kv = .int .i64 (n / 256 ^ k) ∧ ov = .slice A' k c' ∧ wr.ownsRow W.heap.size 5 1 (.slice A' k c') k (bytesV ((be 4 n).drop (4 - k))) ∧ Below W.heap.size W wr) (fun _ _ i _ => 4 - (intOf i).toNat)
    case atStart => exact ⟨0, none, 0, by omega, rfl, by simp, rfl, by rw [List.drop_eq_nil_of_le (by rw [be_length]; omega)]; exact World.ownsRow_nil W W.heap.size 5 1, Below.refl _ _⟩
    case round =>
      obtain ⟨k, A', c', hk, rfl, rfl, rfl, hown, hb⟩ := hrel
      have Hown := hid hown
      have Hb := hid hb
      have hsz := hb.size
      clear hown hb
      by_cases hlt : k < 4
      · have Hx := hid (show [Value.int .u8 (n / 256 ^ k % 256)] ++ bytesV ((be 4 n).drop (4 - k)) = bytesV ((be 4 n).drop (4 - (k + 1))) by rw [← be_drop 4 k n hlt]; simp [bytesV])
        have Hn := hid (show n / 256 ^ (k + 1) = n / 256 ^ k / 256 by rw [Int.pow_succ, Int.ediv_ediv_of_nonneg (Int.pow_nonneg (by omega))])
        have hk0 : 0 ≤ n / 256 ^ k := Int.ediv_nonneg (by omega) (Int.pow_nonneg (by omega))
        have hk1 : n / 256 ^ k ≤ 9223372036854775807 := Int.le_trans (Int.ediv_le_self _ (by omega)) hn
        generalize n / 256 ^ k = x at *
        have hw : IntKind.u8.wrap (x % 256) = x % 256 := by rw [IntKind.wrap_u8]; omega
        go_wp2_with (at_builtin; refine wpList_app _ rfl _ _ _ rfl W.heap.size 5 i0 (.int .u8 0) 1 1 Try.underlying68 Hi0.out Hz0.out Hz1.out Hz2.out rfl (by omega) _ 1 1 [.int .u8 (x % 256)] rfl (World.ownsRow_lit wr #[.int .u8 (x % 256)] 1 hsz (by simp [maxLen]) rfl) _ A' k c' _ rfl ((own_rd Hown.out).alloc (Nat.le_refl _) _) (fun h => rd_nil (own_rd Hown.out) (by omega) h) bytesV_cells (by simp only [maxLen]; omega) (by omega) (by simp; omega) ?_; rintro A4 c4 w4 ⟨hown4, hgr4, hb4, _⟩)
        go_roundw
        case rel => exact ⟨k + 1, A4, c4, by omega, by go_num, by rw [Hn.out], by rw [Nat.add_comm], by rw [← Hx.out, Nat.add_comm k 1]; exact hown4, (Hb.out.alloc hsz _).trans hb4⟩
        case measure => simp [intOf]; omega
      · have e : k = 4 := by omega
        subst e
        by_cases h1 : 4294967296 ≤ n
        · have Hif := hid (show n < 0 ∨ (256 : Int) ^ 4 ≤ n from .inr (by omega))
          have hq2 : (n / 256 ^ 4 != 0) = true := bne_iff_ne.2 (by omega)
          go_wp2
          go_ret2
          exact ⟨by rw [if_pos Hif.out]; rfl, Hb.out⟩
        · have Hif := hid (show ¬ (n < 0 ∨ (256 : Int) ^ 4 ≤ n) by omega)
          have hq2 : (n / 256 ^ 4 != 0) = false := by rw [bne_eq_false_iff_eq]; omega
          go_wp2
          go_ret2
          exact ⟨by rw [if_neg Hif.out]; exact ⟨A', c', rfl, Hown.out⟩, Hb.out⟩

end Go.Proofs.Ytnlhneoiofijeaa
