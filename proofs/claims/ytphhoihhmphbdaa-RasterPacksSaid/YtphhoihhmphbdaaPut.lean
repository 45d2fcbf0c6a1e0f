/-
  What the program's table says of bytes.
  sums.Put of four bytes, slices.Clone of bytes.
-/
import Derived.Test.YtphhoihhmphbdaaBase
namespace Go.Proofs.Ytphhoihhmphbdaa
theorem u8_info : (Try.prog.info? 5).map (fun i => (i.zero, i.size, i.bytes)) = some (some (.int .u8 0), 1, 1) := by kernel_rfl
end Go.Proofs.Ytphhoihhmphbdaa

namespace Go.Proofs.Ytphhoihhmphbdaa
open Go.RowKit

/-- a number's bytes, the first the highest -/
def be (s : Nat) (n : Int) : List Int := (List.range s).map fun i => n / 256 ^ (s - 1 - i) % 256
theorem be_isB (s : Nat) (n : Int) : ∀ x ∈ be s n, isB x := by
  intro x hx
  obtain ⟨i, _, rfl⟩ := List.mem_map.1 hx
  unfold isB; omega
theorem be_length (s : Nat) (n : Int) : (be s n).length = s := by simp [be]

theorem sized_any (n : Int) (W : World) : Calls Try.prog 142 #[.int .i64 n] W fun e w' => e = .returned (.bool (decide (1 ≤ n ∧ n ≤ 4))) ∧ W = w' := by
  by_cases h : 1 ≤ n
  · go_enter Try.func142, Try.ntmps142
    go_wp2
    go_ret
    exact ⟨ret_bool (by simp; omega), rfl⟩
  · go_enter Try.func142, Try.ntmps142
    go_wp2
    go_ret
    exact ⟨ret_bool (by simp; omega), rfl⟩

/-- what slices.Clone of bytes hands back -/
def ClonedB (l : List Int) (W : World) (e : Ending) (w' : World) : Prop :=
  ∃ A c, e = .returned (.slice A l.length c) ∧ w'.ownsRow W.heap.size 5 1 (.slice A l.length c) l.length (bytesV l) ∧ Below W.heap.size W w'
theorem empty_own (w : World) (t : TypeId) (size : Nat) : (w.alloc (.cells #[] t)).ownsRow w.heap.size t size (.slice (some ⟨w.heap.size, 0, none⟩) 0 0) 0 [] :=
  ⟨by simp, .inr ⟨w.heap.size, 0, #[], rfl, Nat.le_refl _, Blk.new w t #[], Nat.le_refl _, by simp [maxLen], by simp, by simp⟩⟩

set_option maxRecDepth 100000 in
set_option maxHeartbeats 1000000 in
theorem clone_any (A : Option Addr) (c : Nat) (l : List Int) (W : World) (hr : Rd W W.heap.size 1 A l.length (bytesV l)) (hc : A = none → c = 0) (hm : l.length ≤ 10000000) :
    Calls Try.prog 121 #[.slice A l.length c] W (ClonedB l W) := by
  cases A with
  | none =>
    obtain rfl := hc rfl
    have hl := rd_nil hr (by omega) rfl
    obtain rfl := List.eq_nil_of_length_eq_zero hl
    have hq := fun w => Lib.run_eql_slice_nil (P := Try.prog) w 28 5 none 0 0 0 0 Try.underlying28
    go_enter Try.func121, Try.ntmps121
    go_wp2
    go_ret
    exact ⟨none, 0, rfl, World.ownsRow_nil _ _ _ _, Below.refl _ _⟩
  | some ad =>
    obtain ⟨i0, hi0, hz0, hz1, hz2⟩ := info_parts u8_info
    have Hi0 := hid hi0
    have Hz0 := hid hz0
    have Hz1 := hid hz1
    have Hz2 := hid hz2
    have Hr := hid hr
    clear hi0 hz0 hz1 hz2 hr hc
    have hq := fun w => Lib.run_eql_slice_nil (P := Try.prog) w 28 5 ad l.length c 0 0 Try.underlying28
    go_enter Try.func121, Try.ntmps121
    go_wp2_with (at_builtin; refine wpList_app _ rfl _ _ _ rfl W.heap.size 5 i0 (.int .u8 0) 1 1 Try.underlying28 Hi0.out Hz0.out Hz1.out Hz2.out rfl (by omega) _ 0 0 [] rfl (empty_own W _ 1) W.heap.size _ l.length c (bytesV l) rfl (Hr.out.alloc (Nat.le_refl _) _) (by simp) bytesV_cells (by simp only [maxLen]; omega) (by omega) (by simp) ?_; rintro A3 c3 w3 ⟨hown3, hgr3, hb3, _⟩)
    go_ret
    refine ⟨A3, c3, by simp, by simpa using hown3, ((Below.refl _ _).alloc (Nat.le_refl _) _).trans hb3⟩

/-- what sums.Put of four bytes ends in -/
def PutEnd (s : Nat) (l : List Int) (n : Int) (W : World) (e : Ending) (w' : World) : Prop :=
  (if n < 0 ∨ 256 ^ s ≤ n then e = .returned (.tuple #[.slice none 0 0, .iface 42 (.int .i64 7)])
  else ∃ A c, e = .returned (.tuple #[.slice A (l.length + s) c, .nilIface]) ∧ w'.ownsRow W.heap.size 5 1 (.slice A (l.length + s) c) (l.length + s) (bytesV (l ++ be s n))) ∧ Below W.heap.size W w'

theorem be_take (s k : Nat) (n : Int) (h : k < s) : (be s n).take (k + 1) = (be s n).take k ++ [n / 256 ^ (s - 1 - k) % 256] := by
  rw [List.take_succ_eq_append_getElem (by rw [be_length]; exact h)]
  simp [be]

set_option maxRecDepth 100000 in
set_option maxHeartbeats 2000000 in
theorem put4_any (A : Option Addr) (c : Nat) (l : List Int) (n : Int) (W : World) (hr : Rd W W.heap.size 1 A l.length (bytesV l)) (hc : A = none → c = 0) (hm : l.length ≤ 10000000) :
    Calls Try.prog 141 #[.slice A l.length c, .int .i64 4, .int .i64 n] W (PutEnd 4 l n W) := by
  have Hcl := hid (clone_any A c l W hr hc hm)
  clear hr hc
  by_cases h0 : n < 0
  · go_enter Try.func141, Try.ntmps141
    go_wp2_with fail
    refine (sized_any 4 _).mono ?_
    rintro e w1 ⟨rfl, rfl⟩
    go_wp2_with fail
    go_ret2
    exact ⟨by rw [if_pos (.inl h0)]; rfl, Below.refl _ _⟩
  · by_cases h1 : 4294967296 ≤ n
    · have Hif := hid (show n < 0 ∨ (256 : Int) ^ 4 ≤ n from .inr (by omega))
      have hq : ¬ n / 4294967296 = 0 := by omega
      have hq2 : (n / 4294967296 != 0) = true := bne_iff_ne.2 hq
      have hq3 : decide (n < 0) = false := decide_eq_false h0
      clear hq
      go_enter Try.func141, Try.ntmps141
      go_wp2_with fail
      refine (sized_any 4 _).mono ?_
      rintro e w1 ⟨rfl, rfl⟩
      go_wp2_with fail
      go_ret2
      exact ⟨by rw [if_pos Hif.out]; rfl, Below.refl _ _⟩
    · have Hif := hid (show ¬ (n < 0 ∨ (256 : Int) ^ 4 ≤ n) by omega)
      have hq : n / 4294967296 = 0 := by omega
      have hq3 : decide (n < 0) = false := decide_eq_false h0
      obtain ⟨i0, hi0, hz0, hz1, hz2⟩ := info_parts u8_info
      have Hi0 := hid hi0
      have Hz0 := hid hz0
      have Hz1 := hid hz1
      have Hz2 := hid hz2
      clear hi0 hz0 hz1 hz2
      go_enter Try.func141, Try.ntmps141
      go_wp2_with fail
      refine (sized_any 4 _).mono ?_
      rintro e w1 ⟨rfl, rfl⟩
      go_wp2_with fail
      refine Hcl.out.mono ?_
      rintro e w2 ⟨A2, c2, rfl, hown2, hb2⟩
      have Hown2 := hid hown2
      have Hb2 := hid hb2
      clear Hcl hq hown2 hb2
      go_wp2_with fail
      go_loopw [8, 9] (fun bv i wr => ∃ (k : Nat) (A' : Option Addr) (c' : Nat), k ≤ 4 ∧ i = .int .i64 (3 - k) ∧ bv = .slice A' (l.length + k) c' ∧ wr.ownsRow W.heap.size 5 1 (.slice A' (l.length + k) c') (l.length + k) (bytesV (l ++ (be 4 n).take k)) ∧ Below W.heap.size W wr) (fun _ i _ => (intOf i + 1).toNat)
      case atStart => exact ⟨0, A2, c2, by omega, rfl, rfl, by simpa using Hown2.out, Hb2.out⟩
      case round =>
        obtain ⟨k, A', c', hk, rfl, rfl, hown, hb⟩ := hrel
        have Hown := hid hown
        have Hb := hid hb
        have hsz := hb.size
        clear hown hb
        have hk5 : k = 0 ∨ k = 1 ∨ k = 2 ∨ k = 3 ∨ k = 4 := by omega
        rcases hk5 with rfl | rfl | rfl | rfl | rfl
        · have hw : IntKind.u8.wrap (n / 16777216) = n / 16777216 % 256 := by rw [IntKind.wrap_u8]
          have Hx := hid (show bytesV (l ++ (be 4 n).take 0) ++ [.int .u8 (n / 16777216 % 256)] = bytesV (l ++ (be 4 n).take (0 + 1)) by rw [be_take 4 0 n (by omega), ← List.append_assoc]; simp [bytesV])
          go_wp2_with (at_builtin; refine wpList_app _ rfl _ _ _ rfl W.heap.size 5 i0 (.int .u8 0) 1 1 Try.underlying28 Hi0.out Hz0.out Hz1.out Hz2.out rfl (by omega) A' l.length c' _ rfl (Hown.out.alloc _) _ _ 1 1 [.int .u8 (n / 16777216 % 256)] rfl (rd_one _ _ _ _ (Blk.new _ _ _)) (by simp) (by simp [Value.oneCell']) (by simp only [maxLen]; omega) (by omega) (by simp; omega) ?_; rintro A4 c4 w4 ⟨hown4, hgr4, hb4, _⟩)
          go_roundw
          case rel => exact ⟨0 + 1, A4, c4, by omega, by go_num, rfl, by rw [← Hx.out]; exact hown4, (Hb.out.alloc hsz _).trans hb4⟩
          case measure => simp [intOf]
        · have hw : IntKind.u8.wrap (n / 65536) = n / 65536 % 256 := by rw [IntKind.wrap_u8]
          have Hx := hid (show bytesV (l ++ (be 4 n).take 1) ++ [.int .u8 (n / 65536 % 256)] = bytesV (l ++ (be 4 n).take (1 + 1)) by rw [be_take 4 1 n (by omega), ← List.append_assoc]; simp [bytesV])
          go_wp2_with (at_builtin; refine wpList_app _ rfl _ _ _ rfl W.heap.size 5 i0 (.int .u8 0) 1 1 Try.underlying28 Hi0.out Hz0.out Hz1.out Hz2.out rfl (by omega) A' (l.length + 1) c' _ rfl (Hown.out.alloc _) _ _ 1 1 [.int .u8 (n / 65536 % 256)] rfl (rd_one _ _ _ _ (Blk.new _ _ _)) (by simp) (by simp [Value.oneCell']) (by simp only [maxLen]; omega) (by omega) (by simp; omega) ?_; rintro A4 c4 w4 ⟨hown4, hgr4, hb4, _⟩)
          go_roundw
          case rel => exact ⟨1 + 1, A4, c4, by omega, by go_num, rfl, by rw [← Hx.out]; exact hown4, (Hb.out.alloc hsz _).trans hb4⟩
          case measure => simp [intOf]
        · have hw : IntKind.u8.wrap (n / 256) = n / 256 % 256 := by rw [IntKind.wrap_u8]
          have Hx := hid (show bytesV (l ++ (be 4 n).take 2) ++ [.int .u8 (n / 256 % 256)] = bytesV (l ++ (be 4 n).take (2 + 1)) by rw [be_take 4 2 n (by omega), ← List.append_assoc]; simp [bytesV])
          go_wp2_with (at_builtin; refine wpList_app _ rfl _ _ _ rfl W.heap.size 5 i0 (.int .u8 0) 1 1 Try.underlying28 Hi0.out Hz0.out Hz1.out Hz2.out rfl (by omega) A' (l.length + 2) c' _ rfl (Hown.out.alloc _) _ _ 1 1 [.int .u8 (n / 256 % 256)] rfl (rd_one _ _ _ _ (Blk.new _ _ _)) (by simp) (by simp [Value.oneCell']) (by simp only [maxLen]; omega) (by omega) (by simp; omega) ?_; rintro A4 c4 w4 ⟨hown4, hgr4, hb4, _⟩)
          go_roundw
          case rel => exact ⟨2 + 1, A4, c4, by omega, by go_num, rfl, by rw [← Hx.out]; exact hown4, (Hb.out.alloc hsz _).trans hb4⟩
          case measure => simp [intOf]
        · have hw : IntKind.u8.wrap (n) = n % 256 := by rw [IntKind.wrap_u8]
          have Hx := hid (show bytesV (l ++ (be 4 n).take 3) ++ [.int .u8 (n % 256)] = bytesV (l ++ (be 4 n).take (3 + 1)) by rw [be_take 4 3 n (by omega), ← List.append_assoc]; simp [bytesV])
          go_wp2_with (at_builtin; refine wpList_app _ rfl _ _ _ rfl W.heap.size 5 i0 (.int .u8 0) 1 1 Try.underlying28 Hi0.out Hz0.out Hz1.out Hz2.out rfl (by omega) A' (l.length + 3) c' _ rfl (Hown.out.alloc _) _ _ 1 1 [.int .u8 (n % 256)] rfl (rd_one _ _ _ _ (Blk.new _ _ _)) (by simp) (by simp [Value.oneCell']) (by simp only [maxLen]; omega) (by omega) (by simp; omega) ?_; rintro A4 c4 w4 ⟨hown4, hgr4, hb4, _⟩)
          go_roundw
          case rel => exact ⟨3 + 1, A4, c4, by omega, by go_num, rfl, by rw [← Hx.out]; exact hown4, (Hb.out.alloc hsz _).trans hb4⟩
          case measure => simp [intOf]
        · go_wp2
          go_ret2
          refine ⟨?_, Hb.out⟩
          rw [if_neg Hif.out]
          refine ⟨A', c', rfl, ?_⟩
          have h := Hown.out
          rw [List.take_of_length_le (by rw [be_length]; omega)] at h
          exact h

end Go.Proofs.Ytphhoihhmphbdaa
