/-
  filter: foretelling, a byte of a row, a row unfiltered.
-/
import Derived.Test.YtphhoihhmphbdaaPut
import Derived.Deep.RegionHeld3
import Derived.BigRegion
import Derived.Deep.DeepCutAuto
import Derived.Deep.CutRange
import Derived.IntWalk
namespace Go.Proofs.Ytphhoihhmphbdaa
open Go.RowKit

/-- how far two numbers are apart -/
def apM (a b : Int) : Int := if a - b < b - a then b - a else a - b
def paethM (a b c : Int) : Int := if apM (a + b - c) a ≤ apM (a + b - c) b ∧ apM (a + b - c) a ≤ apM (a + b - c) c then a else if apM (a + b - c) b ≤ apM (a + b - c) c then b else c
/-- what is foretold of a byte -/
def foreM (k a b c : Int) : Int := if k = 1 then a else if k = 2 then b else if k = 3 then (a + b) / 2 else if k = 4 then paethM a b c else 0
theorem paeth_isB {a b c : Int} (ha : isB a) (hb : isB b) (hc : isB c) : isB (paethM a b c) := by
  unfold paethM
  split
  · exact ha
  · split
    · exact hb
    · exact hc
theorem fore_isB (k : Int) {a b c : Int} (ha : isB a) (hb : isB b) (hc : isB c) : isB (foreM k a b c) := by
  unfold foreM
  split
  · exact ha
  · split
    · exact hb
    · split
      · unfold isB at *; omega
      · split
        · exact paeth_isB ha hb hc
        · exact ⟨Int.le_refl 0, by omega⟩
theorem apart_any (a b : Int) (h1 : -1000 ≤ a) (h2 : a ≤ 1000) (h3 : -1000 ≤ b) (h4 : b ≤ 1000) (W : World) : Calls Try.prog 138 #[.int .i64 a, .int .i64 b] W fun e w' => e = .returned (.int .i64 (apM a b)) ∧ W = w' := by
  have e1 : wrap64 (a - b) = a - b := by unfold wrap64; omega
  have e2 : wrap64 (b - a) = b - a := by unfold wrap64; omega
  go_enter Try.func138, Try.ntmps138
  go_wp2
  all_goals
    go_ret
    exact ⟨ret_int (by unfold apM; split <;> omega), rfl⟩
set_option maxRecDepth 100000 in
set_option maxHeartbeats 4000000 in
theorem foretell_any (k a b c : Int) (ha : isB a) (hb : isB b) (hc : isB c) (W : World) : Calls Try.prog 118 #[.int .i64 k, .int .u8 a, .int .u8 b, .int .u8 c] W fun e w' => e = .returned (.int .u8 (foreM k a b c)) ∧ W = w' := by
  have Ha := hid ha
  have Hb := hid hb
  have Hc := hid hc
  have a1 : wrap64 a = a := by unfold wrap64; unfold isB at ha; omega
  have b1 : wrap64 b = b := by unfold wrap64; unfold isB at hb; omega
  have c1 : wrap64 c = c := by unfold wrap64; unfold isB at hc; omega
  unfold isB at ha hb hc
  by_cases k1 : k = 1
  · subst k1
    go_enter Try.func118, Try.ntmps118
    go_wp2
    go_ret
    exact ⟨rfl, rfl⟩
  by_cases k2 : k = 2
  · subst k2
    go_enter Try.func118, Try.ntmps118
    go_wp2
    go_ret
    exact ⟨rfl, rfl⟩
  by_cases k3 : k = 3
  · subst k3
    have s1 : wrap64 (a + b) = a + b := by unfold wrap64; omega
    have s2 : (a + b).tdiv 2 = (a + b) / 2 := Int.tdiv_eq_ediv_of_nonneg (by omega)
    have s3 : wrap64 ((a + b) / 2) = (a + b) / 2 := by unfold wrap64; omega
    have s4 : IntKind.u8.wrap ((a + b) / 2) = (a + b) / 2 := by rw [IntKind.wrap_u8]; omega
    go_enter Try.func118, Try.ntmps118
    go_wp2
    go_ret
    exact ⟨ret_int rfl, rfl⟩
  by_cases k4 : k = 4
  · subst k4
    have s1 : wrap64 (a + b) = a + b := by unfold wrap64; omega
    have s2 : wrap64 (a + b - c) = a + b - c := by unfold wrap64; omega
    have P1 := hid (fun w => apart_any (a + b - c) a (by omega) (by omega) (by omega) (by omega) w)
    have P2 := hid (fun w => apart_any (a + b - c) b (by omega) (by omega) (by omega) (by omega) w)
    have P3 := hid (fun w => apart_any (a + b - c) c (by omega) (by omega) (by omega) (by omega) w)
    have HF := hid (show foreM 4 a b c = if apM (a + b - c) a ≤ apM (a + b - c) b ∧ apM (a + b - c) a ≤ apM (a + b - c) c then a else if apM (a + b - c) b ≤ apM (a + b - c) c then b else c from rfl)
    generalize apM (a + b - c) a = da at *
    generalize apM (a + b - c) b = db at *
    generalize apM (a + b - c) c = dc at *
    clear k1 k2 k3
    by_cases q1 : da ≤ db
    · by_cases q2 : da ≤ dc
      · have HG := hid (show foreM 4 a b c = a from by rw [HF.out, if_pos ⟨q1, q2⟩])
        clear HF
        go_enter Try.func118, Try.ntmps118
        go_wp2_with (go_at_call 138; first | ((with_reducible refine (P1.out _).mono ?_); rintro e w5 ⟨rfl, rfl⟩) | ((with_reducible refine (P2.out _).mono ?_); rintro e w5 ⟨rfl, rfl⟩) | ((with_reducible refine (P3.out _).mono ?_); rintro e w5 ⟨rfl, rfl⟩))
        go_ret
        exact ⟨ret_int HG.out.symm, rfl⟩
      · have q4 : ¬ (da ≤ db ∧ da ≤ dc) := fun h => q2 h.2
        by_cases q3 : db ≤ dc
        · exact absurd (Int.le_trans q1 q3) q2
        · have HG := hid (show foreM 4 a b c = c from by rw [HF.out, if_neg q4, if_neg q3])
          clear HF q4
          go_enter Try.func118, Try.ntmps118
          go_wp2_with (go_at_call 138; first | ((with_reducible refine (P1.out _).mono ?_); rintro e w5 ⟨rfl, rfl⟩) | ((with_reducible refine (P2.out _).mono ?_); rintro e w5 ⟨rfl, rfl⟩) | ((with_reducible refine (P3.out _).mono ?_); rintro e w5 ⟨rfl, rfl⟩))
          go_ret
          exact ⟨ret_int HG.out.symm, rfl⟩
    · have q4 : ¬ (da ≤ db ∧ da ≤ dc) := fun h => q1 h.1
      by_cases q3 : db ≤ dc
      · have HG := hid (show foreM 4 a b c = b from by rw [HF.out, if_neg q4, if_pos q3])
        clear HF q4
        go_enter Try.func118, Try.ntmps118
        go_wp2_with (go_at_call 138; first | ((with_reducible refine (P1.out _).mono ?_); rintro e w5 ⟨rfl, rfl⟩) | ((with_reducible refine (P2.out _).mono ?_); rintro e w5 ⟨rfl, rfl⟩) | ((with_reducible refine (P3.out _).mono ?_); rintro e w5 ⟨rfl, rfl⟩))
        go_ret
        exact ⟨ret_int HG.out.symm, rfl⟩
      · have HG := hid (show foreM 4 a b c = c from by rw [HF.out, if_neg q4, if_neg q3])
        clear HF q4
        go_enter Try.func118, Try.ntmps118
        go_wp2_with (go_at_call 138; first | ((with_reducible refine (P1.out _).mono ?_); rintro e w5 ⟨rfl, rfl⟩) | ((with_reducible refine (P2.out _).mono ?_); rintro e w5 ⟨rfl, rfl⟩) | ((with_reducible refine (P3.out _).mono ?_); rintro e w5 ⟨rfl, rfl⟩))
        go_ret
        exact ⟨ret_int HG.out.symm, rfl⟩
  have Hk := hid (show foreM k a b c = 0 from by unfold foreM; rw [if_neg k1, if_neg k2, if_neg k3, if_neg k4])
  go_enter Try.func118, Try.ntmps118
  go_wp2
  go_ret
  exact ⟨ret_int Hk.out.symm, rfl⟩
/-- a byte of a row; 0 ahead of it, and of no row -/
def atM (l : List Int) (i : Int) : Int := if i < 0 then 0 else l.getD i.toNat 0
theorem atM_isB {l : List Int} (h : ∀ x ∈ l, isB x) (i : Int) : isB (atM l i) := by
  unfold atM
  split
  · exact ⟨Int.le_refl 0, by omega⟩
  · rw [List.getD_eq_getElem?_getD]
    cases hk : l[i.toNat]? with
    | none => exact ⟨Int.le_refl 0, by simp⟩
    | some x => exact h x (List.mem_of_getElem? hk)
set_option maxRecDepth 100000 in
theorem fat_any (A : Option Addr) (c n : Nat) (l : List Int) (i : Int) (W : World) (B : Nat) (hn : n = l.length) (hr : Rd W B 1 A l.length (bytesV l)) : Calls Try.prog 119 #[.slice A n c, .int .i64 i] W fun e w' => e = .returned (.int .u8 (atM l i)) ∧ W = w' := by
  subst hn
  by_cases h0 : i < 0
  · have Hv := hid (show atM l i = 0 from if_pos h0)
    clear hr
    go_enter Try.func119, Try.ntmps119
    go_wp2
    go_ret
    exact ⟨ret_int Hv.out.symm, rfl⟩
  · obtain ⟨j, rfl⟩ : ∃ j : Nat, i = (j : Int) := ⟨i.toNat, by omega⟩
    by_cases hj : j < l.length
    · obtain ⟨b, off, hA, hbb, hcl⟩ := byte_at hr hj
      subst hA
      have Hv := hid (show atM l (j : Int) = l.getD j 0 from by unfold atM; rw [if_neg h0, Int.toNat_natCast])
      generalize l.getD j 0 = v at *
      generalize l.length = n at *
      clear hr h0
      go_enter Try.func119, Try.ntmps119
      go_wp2
      go_ret
      exact ⟨ret_int Hv.out.symm, rfl⟩
    · have Hv := hid (show atM l (j : Int) = 0 from by unfold atM; rw [if_neg h0, Int.toNat_natCast, List.getD_eq_getElem?_getD, List.getElem?_eq_none (by omega)]; rfl)
      generalize l.length = n at *
      clear hr h0
      go_enter Try.func119, Try.ntmps119
      go_wp2
      go_ret
      exact ⟨ret_int Hv.out.symm, rfl⟩
set_option maxRecDepth 100000 in
theorem fck_any (k bpp : Int) (A AA : Option Addr) (c ca n m : Nat) (k0 : 0 ≤ k) (k4 : k ≤ 4) (b1 : 1 ≤ bpp) (b8 : bpp ≤ 8) (hm : m = 0 ∨ m = n) (W : World) : Calls Try.prog 117 #[.int .i64 k, .slice A n c, .slice AA m ca, .int .i64 bpp] W fun e w' => e = .returned .nilIface ∧ W = w' := by
  rcases hm with rfl | rfl
  · skip
    go_enter Try.func117, Try.ntmps117
    go_wp2
    all_goals
      go_ret
      exact ⟨rfl, rfl⟩
  · skip
    go_enter Try.func117, Try.ntmps117
    go_wp2
    all_goals
      go_ret
      exact ⟨rfl, rfl⟩
/-- so many bytes of a row unfiltered -/
def unfN (k bpp : Int) (row ahead : List Int) : Nat → List Int
  | 0 => []
  | j + 1 => unfN k bpp row ahead j ++ [(row.getD j 0 + foreM k (atM (unfN k bpp row ahead j) ((j : Int) - bpp)) (atM ahead (j : Int)) (atM ahead ((j : Int) - bpp))) % 256]
theorem unfN_len (k bpp : Int) (row ahead : List Int) : ∀ j, (unfN k bpp row ahead j).length = j
  | 0 => rfl
  | j + 1 => by rw [unfN, List.length_append, unfN_len k bpp row ahead j]; rfl
theorem unfN_isB (k bpp : Int) (row ahead : List Int) : ∀ j, ∀ x ∈ unfN k bpp row ahead j, isB x
  | 0, x, hx => by cases hx
  | j + 1, x, hx => by
    rw [unfN] at hx
    rcases List.mem_append.1 hx with hx | hx
    · exact unfN_isB k bpp row ahead j x hx
    · rcases List.mem_singleton.1 hx with rfl
      unfold isB; omega
/-- a slice of bytes made with room for so many -/
theorem room_bytes (n : Nat) (hn : n ≤ 100000000) : ∀ w : World, (Instr.makeSlice 28 (.int .i64 0) (.int .i64 (n : Int))).run Try.prog w = .ok (.slice (some ⟨w.heap.size, 0, none⟩) 0 n) (w.alloc (.cells (bytesV (List.replicate n 0)).toArray 5)) := by
  intro w
  obtain ⟨i0, hi0, hz0, hz1, hz2⟩ := info_parts u8_info
  have h := run_make (P := Try.prog) w 28 5 i0 (.int .u8 0) Try.underlying28 hi0 hz0 .i64 .i64 0 (n : Int) (Int.le_refl _) (by omega) (by rw [hz2]; omega) (by omega)
  rw [hz1, made_list _ _ rfl] at h
  rw [show bytesV (List.replicate n 0) = List.replicate n (Value.int .u8 0) from by simp [bytesV]]
  exact h
theorem room_own (w : World) (n : Nat) (hn : n ≤ 100000000) : (w.alloc (.cells (bytesV (List.replicate n 0)).toArray 5)).ownsRow w.heap.size 5 1 (.slice (some ⟨w.heap.size, 0, none⟩) 0 n) 0 [] :=
  ⟨by simp, .inr ⟨w.heap.size, n, _, rfl, Nat.le_refl _, Blk.new w 5 _, Nat.zero_le _, by simp only [maxLen]; omega, by simp [bytesV], by simp⟩⟩
end Go.Proofs.Ytphhoihhmphbdaa
