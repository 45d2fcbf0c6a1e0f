/-
  burnishref02.ends, step, closed, known.
-/
import Derived.Test.YtegmbjkpjglgpaaWpQ
namespace Go.Proofs.Ytegmbjkpjglgpaa
open Go.RowKit Go.Lib

theorem rsmall_any (c : Int) (W : World) : Calls Try.prog 113 #[.int .i32 c] W fun e w' => e = .returned (.bool (isSm c)) ∧ W = w' := by
  unfold isSm
  by_cases h1 : 97 ≤ c
  · have d1 : decide (97 ≤ c) = true := decide_eq_true h1
    go_enter Try.func113, Try.ntmps113
    go_wp2
    go_ret
    exact ⟨ret_bool (by first | rfl | (rw [d1]; rfl)), rfl⟩
  · have d1 : decide (97 ≤ c) = false := decide_eq_false h1
    go_enter Try.func113, Try.ntmps113
    go_wp2
    go_ret
    exact ⟨ret_bool (by first | rfl | (rw [d1]; rfl)), rfl⟩
theorem rdigit_any (c : Int) (W : World) : Calls Try.prog 114 #[.int .i32 c] W fun e w' => e = .returned (.bool (isDg c)) ∧ W = w' := by
  unfold isDg
  by_cases h1 : 48 ≤ c
  · have d1 : decide (48 ≤ c) = true := decide_eq_true h1
    go_enter Try.func114, Try.ntmps114
    go_wp2
    go_ret
    exact ⟨ret_bool (by first | rfl | (rw [d1]; rfl)), rfl⟩
  · have d1 : decide (48 ≤ c) = false := decide_eq_false h1
    go_enter Try.func114, Try.ntmps114
    go_wp2
    go_ret
    exact ⟨ret_bool (by first | rfl | (rw [d1]; rfl)), rfl⟩
theorem rends_any (st : Nat) (h : st ≤ 9) (W : World) : Calls Try.prog 87 #[.int .i64 (st : Int)] W fun e w' => e = .returned (.bool (endsS st)) ∧ W = w' := by
  rcases (show st = 0 ∨ st = 1 ∨ st = 2 ∨ st = 3 ∨ st = 4 ∨ st = 5 ∨ st = 6 ∨ st = 7 ∨ st = 8 ∨ st = 9 by omega) with rfl | rfl | rfl | rfl | rfl | rfl | rfl | rfl | rfl | rfl
  all_goals
    go_enter Try.func87, Try.ntmps87
    go_wp2
    go_ret
    exact ⟨rfl, rfl⟩
/-- what is known of a rune -/
structure Rf (c : Int) (s d : Bool) : Prop where
  s : isSm c = s
  d : isDg c = d
theorem ne_b {c k : Int} (h : c ≠ k) : (c == k) = false := by rw [beq_eq_false_iff_ne]; exact h
theorem ne_bn {c k : Int} (h : c ≠ k) : (c != k) = true := by rw [bne_iff_ne]; exact h
def StEnd (v : Int) (W : World) (e : Ending) (w' : World) : Prop := e = .returned (.int .i64 v) ∧ W = w' 
theorem step0_0 (c n : Int) (W : World) (hs : isSm c = true) (_hd : isDg c = false) (q44 : c ≠ 44) (q61 : c ≠ 61) : Calls Try.prog 84 #[.int .i64 0, .int .i32 c, .int .i64 n] W (StEnd (stepS 0 c n) W) := by
  have he : endsS 0 = false := rfl
  have hv := hid (show stepS 0 c n = 1 from by unfold stepS; simp [*])
  have e44 := ne_b q44
  have e61 := ne_b q61
  have f44 := ne_bn q44
  have f61 := ne_bn q61
  clear q44 q61
  go_enter Try.func84, Try.ntmps84
  go_wp2_with (first
      | (go_at_call 113; refine (rsmall_any _ _).mono ?_; rintro e w' ⟨rfl, rfl⟩; rw [hs])
      | (go_at_call 114; refine (rdigit_any _ _).mono ?_; rintro e w' ⟨rfl, rfl⟩; rw [hd])
      | (go_at_call 87; refine (rends_any 0 (by decide) _).mono ?_; rintro e w' ⟨rfl, rfl⟩; rw [he]))
  go_ret
  exact ⟨ret_int hv.out.symm, rfl⟩
theorem step0_1 (n : Int) (W : World) : Calls Try.prog 84 #[.int .i64 0, .int .i32 44, .int .i64 n] W (StEnd (stepS 0 44 n) W) := by
  have hs : isSm 44 = false := rfl
  have hd : isDg 44 = false := rfl
  have he : endsS 0 = false := rfl
  have hv := hid (show stepS 0 44 n = -1 from by unfold stepS; simp [*])
  go_enter Try.func84, Try.ntmps84
  go_wp2_with (first
      | (go_at_call 113; refine (rsmall_any _ _).mono ?_; rintro e w' ⟨rfl, rfl⟩; rw [hs])
      | (go_at_call 114; refine (rdigit_any _ _).mono ?_; rintro e w' ⟨rfl, rfl⟩; rw [hd])
      | (go_at_call 87; refine (rends_any 0 (by decide) _).mono ?_; rintro e w' ⟨rfl, rfl⟩; rw [he]))
  go_ret
  exact ⟨ret_int hv.out.symm, rfl⟩
theorem step0_2 (c n : Int) (W : World) (hs : isSm c = false) (q61 : c ≠ 61) (q44 : c ≠ 44) : Calls Try.prog 84 #[.int .i64 0, .int .i32 c, .int .i64 n] W (StEnd (stepS 0 c n) W) := by
  have he : endsS 0 = false := rfl
  have hv := hid (show stepS 0 c n = -1 from by unfold stepS; simp [*])
  have e61 := ne_b q61
  have e44 := ne_b q44
  have f61 := ne_bn q61
  have f44 := ne_bn q44
  clear q61 q44
  go_enter Try.func84, Try.ntmps84
  go_wp2_with (first
      | (go_at_call 113; refine (rsmall_any _ _).mono ?_; rintro e w' ⟨rfl, rfl⟩; rw [hs])
      | (go_at_call 114; refine (rdigit_any _ _).mono ?_; rintro e w' ⟨rfl, rfl⟩; rw [hd])
      | (go_at_call 87; refine (rends_any 0 (by decide) _).mono ?_; rintro e w' ⟨rfl, rfl⟩; rw [he]))
  go_ret
  exact ⟨ret_int hv.out.symm, rfl⟩
theorem step0_3 (n : Int) (W : World) : Calls Try.prog 84 #[.int .i64 0, .int .i32 61, .int .i64 n] W (StEnd (stepS 0 61 n) W) := by
  have hs : isSm 61 = false := rfl
  have hd : isDg 61 = false := rfl
  have he : endsS 0 = false := rfl
  have hv := hid (show stepS 0 61 n = -1 from by unfold stepS; simp [*])
  go_enter Try.func84, Try.ntmps84
  go_wp2_with (first
      | (go_at_call 113; refine (rsmall_any _ _).mono ?_; rintro e w' ⟨rfl, rfl⟩; rw [hs])
      | (go_at_call 114; refine (rdigit_any _ _).mono ?_; rintro e w' ⟨rfl, rfl⟩; rw [hd])
      | (go_at_call 87; refine (rends_any 0 (by decide) _).mono ?_; rintro e w' ⟨rfl, rfl⟩; rw [he]))
  go_ret
  exact ⟨ret_int hv.out.symm, rfl⟩
theorem step1_0 (c n : Int) (W : World) (hs : isSm c = true) (_hd : isDg c = false) (q44 : c ≠ 44) (q61 : c ≠ 61) (hn : n < 16) : Calls Try.prog 84 #[.int .i64 1, .int .i32 c, .int .i64 n] W (StEnd (stepS 1 c n) W) := by
  have he : endsS 1 = true := rfl
  have hv := hid (show stepS 1 c n = 1 from by unfold stepS; simp [*])
  have e44 := ne_b q44
  have e61 := ne_b q61
  have f44 := ne_bn q44
  have f61 := ne_bn q61
  have dn : decide (n < 16) = true := decide_eq_true hn
  clear q44 q61 hn
  go_enter Try.func84, Try.ntmps84
  go_wp2_with (first
      | (go_at_call 113; refine (rsmall_any _ _).mono ?_; rintro e w' ⟨rfl, rfl⟩; rw [hs])
      | (go_at_call 114; refine (rdigit_any _ _).mono ?_; rintro e w' ⟨rfl, rfl⟩; rw [hd])
      | (go_at_call 87; refine (rends_any 1 (by decide) _).mono ?_; rintro e w' ⟨rfl, rfl⟩; rw [he]))
  go_ret
  exact ⟨ret_int hv.out.symm, rfl⟩
theorem step1_1 (c n : Int) (W : World) (hs : isSm c = true) (_hd : isDg c = false) (q44 : c ≠ 44) (q61 : c ≠ 61) (hn : ¬ n < 16) : Calls Try.prog 84 #[.int .i64 1, .int .i32 c, .int .i64 n] W (StEnd (stepS 1 c n) W) := by
  have he : endsS 1 = true := rfl
  have hv := hid (show stepS 1 c n = -1 from by unfold stepS; simp [*])
  have e44 := ne_b q44
  have e61 := ne_b q61
  have f44 := ne_bn q44
  have f61 := ne_bn q61
  have dn : decide (n < 16) = false := decide_eq_false hn
  clear q44 q61 hn
  go_enter Try.func84, Try.ntmps84
  go_wp2_with (first
      | (go_at_call 113; refine (rsmall_any _ _).mono ?_; rintro e w' ⟨rfl, rfl⟩; rw [hs])
      | (go_at_call 114; refine (rdigit_any _ _).mono ?_; rintro e w' ⟨rfl, rfl⟩; rw [hd])
      | (go_at_call 87; refine (rends_any 1 (by decide) _).mono ?_; rintro e w' ⟨rfl, rfl⟩; rw [he]))
  go_ret
  exact ⟨ret_int hv.out.symm, rfl⟩
theorem step1_2 (n : Int) (W : World) : Calls Try.prog 84 #[.int .i64 1, .int .i32 61, .int .i64 n] W (StEnd (stepS 1 61 n) W) := by
  have hs : isSm 61 = false := rfl
  have hd : isDg 61 = false := rfl
  have he : endsS 1 = true := rfl
  have hv := hid (show stepS 1 61 n = 2 from by unfold stepS; simp [*])
  go_enter Try.func84, Try.ntmps84
  go_wp2_with (first
      | (go_at_call 113; refine (rsmall_any _ _).mono ?_; rintro e w' ⟨rfl, rfl⟩; rw [hs])
      | (go_at_call 114; refine (rdigit_any _ _).mono ?_; rintro e w' ⟨rfl, rfl⟩; rw [hd])
      | (go_at_call 87; refine (rends_any 1 (by decide) _).mono ?_; rintro e w' ⟨rfl, rfl⟩; rw [he]))
  go_ret
  exact ⟨ret_int hv.out.symm, rfl⟩
theorem step1_3 (n : Int) (W : World) : Calls Try.prog 84 #[.int .i64 1, .int .i32 44, .int .i64 n] W (StEnd (stepS 1 44 n) W) := by
  have hs : isSm 44 = false := rfl
  have hd : isDg 44 = false := rfl
  have he : endsS 1 = true := rfl
  have hv := hid (show stepS 1 44 n = 0 from by unfold stepS; simp [*])
  go_enter Try.func84, Try.ntmps84
  go_wp2_with (first
      | (go_at_call 113; refine (rsmall_any _ _).mono ?_; rintro e w' ⟨rfl, rfl⟩; rw [hs])
      | (go_at_call 114; refine (rdigit_any _ _).mono ?_; rintro e w' ⟨rfl, rfl⟩; rw [hd])
      | (go_at_call 87; refine (rends_any 1 (by decide) _).mono ?_; rintro e w' ⟨rfl, rfl⟩; rw [he]))
  go_ret
  exact ⟨ret_int hv.out.symm, rfl⟩
theorem step1_4 (c n : Int) (W : World) (hs : isSm c = false) (q61 : c ≠ 61) (q44 : c ≠ 44) : Calls Try.prog 84 #[.int .i64 1, .int .i32 c, .int .i64 n] W (StEnd (stepS 1 c n) W) := by
  have he : endsS 1 = true := rfl
  have hv := hid (show stepS 1 c n = -1 from by unfold stepS; simp [*])
  have e61 := ne_b q61
  have e44 := ne_b q44
  have f61 := ne_bn q61
  have f44 := ne_bn q44
  clear q61 q44
  go_enter Try.func84, Try.ntmps84
  go_wp2_with (first
      | (go_at_call 113; refine (rsmall_any _ _).mono ?_; rintro e w' ⟨rfl, rfl⟩; rw [hs])
      | (go_at_call 114; refine (rdigit_any _ _).mono ?_; rintro e w' ⟨rfl, rfl⟩; rw [hd])
      | (go_at_call 87; refine (rends_any 1 (by decide) _).mono ?_; rintro e w' ⟨rfl, rfl⟩; rw [he]))
  go_ret
  exact ⟨ret_int hv.out.symm, rfl⟩
theorem step2_0 (c n : Int) (W : World) (hs : isSm c = true) (_hd : isDg c = false) (q44 : c ≠ 44) (q61 : c ≠ 61) : Calls Try.prog 84 #[.int .i64 2, .int .i32 c, .int .i64 n] W (StEnd (stepS 2 c n) W) := by
  have he : endsS 2 = false := rfl
  have hv := hid (show stepS 2 c n = 3 from by unfold stepS; simp [*])
  have e44 := ne_b q44
  have e61 := ne_b q61
  have f44 := ne_bn q44
  have f61 := ne_bn q61
  clear q44 q61
  go_enter Try.func84, Try.ntmps84
  go_wp2_with (first
      | (go_at_call 113; refine (rsmall_any _ _).mono ?_; rintro e w' ⟨rfl, rfl⟩; rw [hs])
      | (go_at_call 114; refine (rdigit_any _ _).mono ?_; rintro e w' ⟨rfl, rfl⟩; rw [hd])
      | (go_at_call 87; refine (rends_any 2 (by decide) _).mono ?_; rintro e w' ⟨rfl, rfl⟩; rw [he]))
  go_ret
  exact ⟨ret_int hv.out.symm, rfl⟩
theorem step2_1 (n : Int) (W : World) : Calls Try.prog 84 #[.int .i64 2, .int .i32 45, .int .i64 n] W (StEnd (stepS 2 45 n) W) := by
  have hs : isSm 45 = false := rfl
  have hd : isDg 45 = false := rfl
  have he : endsS 2 = false := rfl
  have hv := hid (show stepS 2 45 n = 4 from by unfold stepS; simp [*])
  go_enter Try.func84, Try.ntmps84
  go_wp2_with (first
      | (go_at_call 113; refine (rsmall_any _ _).mono ?_; rintro e w' ⟨rfl, rfl⟩; rw [hs])
      | (go_at_call 114; refine (rdigit_any _ _).mono ?_; rintro e w' ⟨rfl, rfl⟩; rw [hd])
      | (go_at_call 87; refine (rends_any 2 (by decide) _).mono ?_; rintro e w' ⟨rfl, rfl⟩; rw [he]))
  go_ret
  exact ⟨ret_int hv.out.symm, rfl⟩
theorem step2_2 (n : Int) (W : World) : Calls Try.prog 84 #[.int .i64 2, .int .i32 48, .int .i64 n] W (StEnd (stepS 2 48 n) W) := by
  have hs : isSm 48 = false := rfl
  have hd : isDg 48 = true := rfl
  have he : endsS 2 = false := rfl
  have hv := hid (show stepS 2 48 n = 5 from by unfold stepS; simp [*])
  go_enter Try.func84, Try.ntmps84
  go_wp2_with (first
      | (go_at_call 113; refine (rsmall_any _ _).mono ?_; rintro e w' ⟨rfl, rfl⟩; rw [hs])
      | (go_at_call 114; refine (rdigit_any _ _).mono ?_; rintro e w' ⟨rfl, rfl⟩; rw [hd])
      | (go_at_call 87; refine (rends_any 2 (by decide) _).mono ?_; rintro e w' ⟨rfl, rfl⟩; rw [he]))
  go_ret
  exact ⟨ret_int hv.out.symm, rfl⟩
theorem step2_3 (c n : Int) (W : World) (hs : isSm c = false) (hd : isDg c = true) (q48 : c ≠ 48) (q45 : c ≠ 45) : Calls Try.prog 84 #[.int .i64 2, .int .i32 c, .int .i64 n] W (StEnd (stepS 2 c n) W) := by
  have he : endsS 2 = false := rfl
  have hv := hid (show stepS 2 c n = 6 from by unfold stepS; simp [*])
  have e48 := ne_b q48
  have e45 := ne_b q45
  have f48 := ne_bn q48
  have f45 := ne_bn q45
  clear q48 q45
  go_enter Try.func84, Try.ntmps84
  go_wp2_with (first
      | (go_at_call 113; refine (rsmall_any _ _).mono ?_; rintro e w' ⟨rfl, rfl⟩; rw [hs])
      | (go_at_call 114; refine (rdigit_any _ _).mono ?_; rintro e w' ⟨rfl, rfl⟩; rw [hd])
      | (go_at_call 87; refine (rends_any 2 (by decide) _).mono ?_; rintro e w' ⟨rfl, rfl⟩; rw [he]))
  go_ret
  exact ⟨ret_int hv.out.symm, rfl⟩
theorem step2_4 (n : Int) (W : World) : Calls Try.prog 84 #[.int .i64 2, .int .i32 34, .int .i64 n] W (StEnd (stepS 2 34 n) W) := by
  have hs : isSm 34 = false := rfl
  have hd : isDg 34 = false := rfl
  have he : endsS 2 = false := rfl
  have hv := hid (show stepS 2 34 n = 7 from by unfold stepS; simp [*])
  go_enter Try.func84, Try.ntmps84
  go_wp2_with (first
      | (go_at_call 113; refine (rsmall_any _ _).mono ?_; rintro e w' ⟨rfl, rfl⟩; rw [hs])
      | (go_at_call 114; refine (rdigit_any _ _).mono ?_; rintro e w' ⟨rfl, rfl⟩; rw [hd])
      | (go_at_call 87; refine (rends_any 2 (by decide) _).mono ?_; rintro e w' ⟨rfl, rfl⟩; rw [he]))
  go_ret
  exact ⟨ret_int hv.out.symm, rfl⟩
theorem step2_5 (n : Int) (W : World) : Calls Try.prog 84 #[.int .i64 2, .int .i32 44, .int .i64 n] W (StEnd (stepS 2 44 n) W) := by
  have hs : isSm 44 = false := rfl
  have hd : isDg 44 = false := rfl
  have he : endsS 2 = false := rfl
  have hv := hid (show stepS 2 44 n = -1 from by unfold stepS; simp [*])
  go_enter Try.func84, Try.ntmps84
  go_wp2_with (first
      | (go_at_call 113; refine (rsmall_any _ _).mono ?_; rintro e w' ⟨rfl, rfl⟩; rw [hs])
      | (go_at_call 114; refine (rdigit_any _ _).mono ?_; rintro e w' ⟨rfl, rfl⟩; rw [hd])
      | (go_at_call 87; refine (rends_any 2 (by decide) _).mono ?_; rintro e w' ⟨rfl, rfl⟩; rw [he]))
  go_ret
  exact ⟨ret_int hv.out.symm, rfl⟩
theorem step2_6 (c n : Int) (W : World) (hs : isSm c = false) (hd : isDg c = false) (q45 : c ≠ 45) (q48 : c ≠ 48) (q34 : c ≠ 34) (q44 : c ≠ 44) : Calls Try.prog 84 #[.int .i64 2, .int .i32 c, .int .i64 n] W (StEnd (stepS 2 c n) W) := by
  have he : endsS 2 = false := rfl
  have hv := hid (show stepS 2 c n = -1 from by unfold stepS; simp [*])
  have e45 := ne_b q45
  have e48 := ne_b q48
  have e34 := ne_b q34
  have e44 := ne_b q44
  have f45 := ne_bn q45
  have f48 := ne_bn q48
  have f34 := ne_bn q34
  have f44 := ne_bn q44
  clear q45 q48 q34 q44
  go_enter Try.func84, Try.ntmps84
  go_wp2_with (first
      | (go_at_call 113; refine (rsmall_any _ _).mono ?_; rintro e w' ⟨rfl, rfl⟩; rw [hs])
      | (go_at_call 114; refine (rdigit_any _ _).mono ?_; rintro e w' ⟨rfl, rfl⟩; rw [hd])
      | (go_at_call 87; refine (rends_any 2 (by decide) _).mono ?_; rintro e w' ⟨rfl, rfl⟩; rw [he]))
  go_ret
  exact ⟨ret_int hv.out.symm, rfl⟩
theorem step3_0 (c n : Int) (W : World) (hs : isSm c = true) (_hd : isDg c = false) (q44 : c ≠ 44) (q61 : c ≠ 61) (hn : n < 16) : Calls Try.prog 84 #[.int .i64 3, .int .i32 c, .int .i64 n] W (StEnd (stepS 3 c n) W) := by
  have he : endsS 3 = true := rfl
  have hv := hid (show stepS 3 c n = 3 from by unfold stepS; simp [*])
  have e44 := ne_b q44
  have e61 := ne_b q61
  have f44 := ne_bn q44
  have f61 := ne_bn q61
  have dn : decide (n < 16) = true := decide_eq_true hn
  clear q44 q61 hn
  go_enter Try.func84, Try.ntmps84
  go_wp2_with (first
      | (go_at_call 113; refine (rsmall_any _ _).mono ?_; rintro e w' ⟨rfl, rfl⟩; rw [hs])
      | (go_at_call 114; refine (rdigit_any _ _).mono ?_; rintro e w' ⟨rfl, rfl⟩; rw [hd])
      | (go_at_call 87; refine (rends_any 3 (by decide) _).mono ?_; rintro e w' ⟨rfl, rfl⟩; rw [he]))
  go_ret
  exact ⟨ret_int hv.out.symm, rfl⟩
theorem step3_1 (c n : Int) (W : World) (hs : isSm c = true) (_hd : isDg c = false) (q44 : c ≠ 44) (q61 : c ≠ 61) (hn : ¬ n < 16) : Calls Try.prog 84 #[.int .i64 3, .int .i32 c, .int .i64 n] W (StEnd (stepS 3 c n) W) := by
  have he : endsS 3 = true := rfl
  have hv := hid (show stepS 3 c n = -1 from by unfold stepS; simp [*])
  have e44 := ne_b q44
  have e61 := ne_b q61
  have f44 := ne_bn q44
  have f61 := ne_bn q61
  have dn : decide (n < 16) = false := decide_eq_false hn
  clear q44 q61 hn
  go_enter Try.func84, Try.ntmps84
  go_wp2_with (first
      | (go_at_call 113; refine (rsmall_any _ _).mono ?_; rintro e w' ⟨rfl, rfl⟩; rw [hs])
      | (go_at_call 114; refine (rdigit_any _ _).mono ?_; rintro e w' ⟨rfl, rfl⟩; rw [hd])
      | (go_at_call 87; refine (rends_any 3 (by decide) _).mono ?_; rintro e w' ⟨rfl, rfl⟩; rw [he]))
  go_ret
  exact ⟨ret_int hv.out.symm, rfl⟩
theorem step3_2 (n : Int) (W : World) : Calls Try.prog 84 #[.int .i64 3, .int .i32 44, .int .i64 n] W (StEnd (stepS 3 44 n) W) := by
  have hs : isSm 44 = false := rfl
  have hd : isDg 44 = false := rfl
  have he : endsS 3 = true := rfl
  have hv := hid (show stepS 3 44 n = 0 from by unfold stepS; simp [*])
  go_enter Try.func84, Try.ntmps84
  go_wp2_with (first
      | (go_at_call 113; refine (rsmall_any _ _).mono ?_; rintro e w' ⟨rfl, rfl⟩; rw [hs])
      | (go_at_call 114; refine (rdigit_any _ _).mono ?_; rintro e w' ⟨rfl, rfl⟩; rw [hd])
      | (go_at_call 87; refine (rends_any 3 (by decide) _).mono ?_; rintro e w' ⟨rfl, rfl⟩; rw [he]))
  go_ret
  exact ⟨ret_int hv.out.symm, rfl⟩
theorem step3_3 (c n : Int) (W : World) (hs : isSm c = false) (q61 : c ≠ 61) (q44 : c ≠ 44) : Calls Try.prog 84 #[.int .i64 3, .int .i32 c, .int .i64 n] W (StEnd (stepS 3 c n) W) := by
  have he : endsS 3 = true := rfl
  have hv := hid (show stepS 3 c n = -1 from by unfold stepS; simp [*])
  have e61 := ne_b q61
  have e44 := ne_b q44
  have f61 := ne_bn q61
  have f44 := ne_bn q44
  clear q61 q44
  go_enter Try.func84, Try.ntmps84
  go_wp2_with (first
      | (go_at_call 113; refine (rsmall_any _ _).mono ?_; rintro e w' ⟨rfl, rfl⟩; rw [hs])
      | (go_at_call 114; refine (rdigit_any _ _).mono ?_; rintro e w' ⟨rfl, rfl⟩; rw [hd])
      | (go_at_call 87; refine (rends_any 3 (by decide) _).mono ?_; rintro e w' ⟨rfl, rfl⟩; rw [he]))
  go_ret
  exact ⟨ret_int hv.out.symm, rfl⟩
theorem step3_4 (n : Int) (W : World) : Calls Try.prog 84 #[.int .i64 3, .int .i32 61, .int .i64 n] W (StEnd (stepS 3 61 n) W) := by
  have hs : isSm 61 = false := rfl
  have hd : isDg 61 = false := rfl
  have he : endsS 3 = true := rfl
  have hv := hid (show stepS 3 61 n = -1 from by unfold stepS; simp [*])
  go_enter Try.func84, Try.ntmps84
  go_wp2_with (first
      | (go_at_call 113; refine (rsmall_any _ _).mono ?_; rintro e w' ⟨rfl, rfl⟩; rw [hs])
      | (go_at_call 114; refine (rdigit_any _ _).mono ?_; rintro e w' ⟨rfl, rfl⟩; rw [hd])
      | (go_at_call 87; refine (rends_any 3 (by decide) _).mono ?_; rintro e w' ⟨rfl, rfl⟩; rw [he]))
  go_ret
  exact ⟨ret_int hv.out.symm, rfl⟩
theorem step4_0 (c n : Int) (W : World) (hs : isSm c = false) (hd : isDg c = true) (q48 : c ≠ 48) (q45 : c ≠ 45) : Calls Try.prog 84 #[.int .i64 4, .int .i32 c, .int .i64 n] W (StEnd (stepS 4 c n) W) := by
  have he : endsS 4 = false := rfl
  have hv := hid (show stepS 4 c n = 6 from by unfold stepS; simp [*])
  have e48 := ne_b q48
  have e45 := ne_b q45
  have f48 := ne_bn q48
  have f45 := ne_bn q45
  clear q48 q45
  go_enter Try.func84, Try.ntmps84
  go_wp2_with (first
      | (go_at_call 113; refine (rsmall_any _ _).mono ?_; rintro e w' ⟨rfl, rfl⟩; rw [hs])
      | (go_at_call 114; refine (rdigit_any _ _).mono ?_; rintro e w' ⟨rfl, rfl⟩; rw [hd])
      | (go_at_call 87; refine (rends_any 4 (by decide) _).mono ?_; rintro e w' ⟨rfl, rfl⟩; rw [he]))
  go_ret
  exact ⟨ret_int hv.out.symm, rfl⟩
theorem step4_1 (n : Int) (W : World) : Calls Try.prog 84 #[.int .i64 4, .int .i32 48, .int .i64 n] W (StEnd (stepS 4 48 n) W) := by
  have hs : isSm 48 = false := rfl
  have hd : isDg 48 = true := rfl
  have he : endsS 4 = false := rfl
  have hv := hid (show stepS 4 48 n = -1 from by unfold stepS; simp [*])
  go_enter Try.func84, Try.ntmps84
  go_wp2_with (first
      | (go_at_call 113; refine (rsmall_any _ _).mono ?_; rintro e w' ⟨rfl, rfl⟩; rw [hs])
      | (go_at_call 114; refine (rdigit_any _ _).mono ?_; rintro e w' ⟨rfl, rfl⟩; rw [hd])
      | (go_at_call 87; refine (rends_any 4 (by decide) _).mono ?_; rintro e w' ⟨rfl, rfl⟩; rw [he]))
  go_ret
  exact ⟨ret_int hv.out.symm, rfl⟩
theorem step4_2 (n : Int) (W : World) : Calls Try.prog 84 #[.int .i64 4, .int .i32 44, .int .i64 n] W (StEnd (stepS 4 44 n) W) := by
  have hs : isSm 44 = false := rfl
  have hd : isDg 44 = false := rfl
  have he : endsS 4 = false := rfl
  have hv := hid (show stepS 4 44 n = -1 from by unfold stepS; simp [*])
  go_enter Try.func84, Try.ntmps84
  go_wp2_with (first
      | (go_at_call 113; refine (rsmall_any _ _).mono ?_; rintro e w' ⟨rfl, rfl⟩; rw [hs])
      | (go_at_call 114; refine (rdigit_any _ _).mono ?_; rintro e w' ⟨rfl, rfl⟩; rw [hd])
      | (go_at_call 87; refine (rends_any 4 (by decide) _).mono ?_; rintro e w' ⟨rfl, rfl⟩; rw [he]))
  go_ret
  exact ⟨ret_int hv.out.symm, rfl⟩
theorem step4_3 (c n : Int) (W : World) (hd : isDg c = false) (q44 : c ≠ 44) : Calls Try.prog 84 #[.int .i64 4, .int .i32 c, .int .i64 n] W (StEnd (stepS 4 c n) W) := by
  have he : endsS 4 = false := rfl
  have hv := hid (show stepS 4 c n = -1 from by unfold stepS; simp [*])
  have e44 := ne_b q44
  have f44 := ne_bn q44
  clear q44
  go_enter Try.func84, Try.ntmps84
  go_wp2_with (first
      | (go_at_call 113; refine (rsmall_any _ _).mono ?_; rintro e w' ⟨rfl, rfl⟩; rw [hs])
      | (go_at_call 114; refine (rdigit_any _ _).mono ?_; rintro e w' ⟨rfl, rfl⟩; rw [hd])
      | (go_at_call 87; refine (rends_any 4 (by decide) _).mono ?_; rintro e w' ⟨rfl, rfl⟩; rw [he]))
  go_ret
  exact ⟨ret_int hv.out.symm, rfl⟩
theorem step5_0 (n : Int) (W : World) : Calls Try.prog 84 #[.int .i64 5, .int .i32 44, .int .i64 n] W (StEnd (stepS 5 44 n) W) := by
  have hs : isSm 44 = false := rfl
  have hd : isDg 44 = false := rfl
  have he : endsS 5 = true := rfl
  have hv := hid (show stepS 5 44 n = 0 from by unfold stepS; simp [*])
  go_enter Try.func84, Try.ntmps84
  go_wp2_with (first
      | (go_at_call 113; refine (rsmall_any _ _).mono ?_; rintro e w' ⟨rfl, rfl⟩; rw [hs])
      | (go_at_call 114; refine (rdigit_any _ _).mono ?_; rintro e w' ⟨rfl, rfl⟩; rw [hd])
      | (go_at_call 87; refine (rends_any 5 (by decide) _).mono ?_; rintro e w' ⟨rfl, rfl⟩; rw [he]))
  go_ret
  exact ⟨ret_int hv.out.symm, rfl⟩
theorem step5_1 (c n : Int) (W : World) (q44 : c ≠ 44) : Calls Try.prog 84 #[.int .i64 5, .int .i32 c, .int .i64 n] W (StEnd (stepS 5 c n) W) := by
  have he : endsS 5 = true := rfl
  have hv := hid (show stepS 5 c n = -1 from by unfold stepS; simp [*])
  have e44 := ne_b q44
  have f44 := ne_bn q44
  clear q44
  go_enter Try.func84, Try.ntmps84
  go_wp2_with (first
      | (go_at_call 113; refine (rsmall_any _ _).mono ?_; rintro e w' ⟨rfl, rfl⟩; rw [hs])
      | (go_at_call 114; refine (rdigit_any _ _).mono ?_; rintro e w' ⟨rfl, rfl⟩; rw [hd])
      | (go_at_call 87; refine (rends_any 5 (by decide) _).mono ?_; rintro e w' ⟨rfl, rfl⟩; rw [he]))
  go_ret
  exact ⟨ret_int hv.out.symm, rfl⟩
theorem step6_0 (c n : Int) (W : World) (hs : isSm c = false) (hd : isDg c = true) (q44 : c ≠ 44) (h0 : 0 ≤ n) (h1 : n ≤ 999999999) (c0 : 48 ≤ c) (c1 : c ≤ 57) (hn : 10 * n + (c - 48) ≤ 999999999) : Calls Try.prog 84 #[.int .i64 6, .int .i32 c, .int .i64 n] W (StEnd (stepS 6 c n) W) := by
  have he : endsS 6 = true := rfl
  have hv := hid (show stepS 6 c n = 6 from by unfold stepS; simp [*])
  have e44 := ne_b q44
  have f44 := ne_bn q44
  have dn : decide (10 * n + (c - 48) ≤ 999999999) = true := decide_eq_true hn
  clear q44 hn
  go_enter Try.func84, Try.ntmps84
  go_wp2_with (first
      | (go_at_call 113; refine (rsmall_any _ _).mono ?_; rintro e w' ⟨rfl, rfl⟩; rw [hs])
      | (go_at_call 114; refine (rdigit_any _ _).mono ?_; rintro e w' ⟨rfl, rfl⟩; rw [hd])
      | (go_at_call 87; refine (rends_any 6 (by decide) _).mono ?_; rintro e w' ⟨rfl, rfl⟩; rw [he]))
  go_ret
  exact ⟨ret_int hv.out.symm, rfl⟩
theorem step6_1 (c n : Int) (W : World) (hs : isSm c = false) (hd : isDg c = true) (q44 : c ≠ 44) (h0 : 0 ≤ n) (h1 : n ≤ 999999999) (c0 : 48 ≤ c) (c1 : c ≤ 57) (hn : ¬ 10 * n + (c - 48) ≤ 999999999) : Calls Try.prog 84 #[.int .i64 6, .int .i32 c, .int .i64 n] W (StEnd (stepS 6 c n) W) := by
  have he : endsS 6 = true := rfl
  have hv := hid (show stepS 6 c n = -1 from by unfold stepS; simp [*])
  have e44 := ne_b q44
  have f44 := ne_bn q44
  have dn : decide (10 * n + (c - 48) ≤ 999999999) = false := decide_eq_false hn
  clear q44 hn
  go_enter Try.func84, Try.ntmps84
  go_wp2_with (first
      | (go_at_call 113; refine (rsmall_any _ _).mono ?_; rintro e w' ⟨rfl, rfl⟩; rw [hs])
      | (go_at_call 114; refine (rdigit_any _ _).mono ?_; rintro e w' ⟨rfl, rfl⟩; rw [hd])
      | (go_at_call 87; refine (rends_any 6 (by decide) _).mono ?_; rintro e w' ⟨rfl, rfl⟩; rw [he]))
  go_ret
  exact ⟨ret_int hv.out.symm, rfl⟩
theorem step6_2 (n : Int) (W : World) : Calls Try.prog 84 #[.int .i64 6, .int .i32 44, .int .i64 n] W (StEnd (stepS 6 44 n) W) := by
  have hs : isSm 44 = false := rfl
  have hd : isDg 44 = false := rfl
  have he : endsS 6 = true := rfl
  have hv := hid (show stepS 6 44 n = 0 from by unfold stepS; simp [*])
  go_enter Try.func84, Try.ntmps84
  go_wp2_with (first
      | (go_at_call 113; refine (rsmall_any _ _).mono ?_; rintro e w' ⟨rfl, rfl⟩; rw [hs])
      | (go_at_call 114; refine (rdigit_any _ _).mono ?_; rintro e w' ⟨rfl, rfl⟩; rw [hd])
      | (go_at_call 87; refine (rends_any 6 (by decide) _).mono ?_; rintro e w' ⟨rfl, rfl⟩; rw [he]))
  go_ret
  exact ⟨ret_int hv.out.symm, rfl⟩
theorem step6_3 (c n : Int) (W : World) (hd : isDg c = false) (q44 : c ≠ 44) : Calls Try.prog 84 #[.int .i64 6, .int .i32 c, .int .i64 n] W (StEnd (stepS 6 c n) W) := by
  have he : endsS 6 = true := rfl
  have hv := hid (show stepS 6 c n = -1 from by unfold stepS; simp [*])
  have e44 := ne_b q44
  have f44 := ne_bn q44
  clear q44
  go_enter Try.func84, Try.ntmps84
  go_wp2_with (first
      | (go_at_call 113; refine (rsmall_any _ _).mono ?_; rintro e w' ⟨rfl, rfl⟩; rw [hs])
      | (go_at_call 114; refine (rdigit_any _ _).mono ?_; rintro e w' ⟨rfl, rfl⟩; rw [hd])
      | (go_at_call 87; refine (rends_any 6 (by decide) _).mono ?_; rintro e w' ⟨rfl, rfl⟩; rw [he]))
  go_ret
  exact ⟨ret_int hv.out.symm, rfl⟩
theorem step7_0 (n : Int) (W : World) : Calls Try.prog 84 #[.int .i64 7, .int .i32 34, .int .i64 n] W (StEnd (stepS 7 34 n) W) := by
  have hs : isSm 34 = false := rfl
  have hd : isDg 34 = false := rfl
  have he : endsS 7 = false := rfl
  have hv := hid (show stepS 7 34 n = 9 from by unfold stepS; simp [*])
  go_enter Try.func84, Try.ntmps84
  go_wp2_with (first
      | (go_at_call 113; refine (rsmall_any _ _).mono ?_; rintro e w' ⟨rfl, rfl⟩; rw [hs])
      | (go_at_call 114; refine (rdigit_any _ _).mono ?_; rintro e w' ⟨rfl, rfl⟩; rw [hd])
      | (go_at_call 87; refine (rends_any 7 (by decide) _).mono ?_; rintro e w' ⟨rfl, rfl⟩; rw [he]))
  go_ret
  exact ⟨ret_int hv.out.symm, rfl⟩
theorem step7_1 (n : Int) (W : World) : Calls Try.prog 84 #[.int .i64 7, .int .i32 126, .int .i64 n] W (StEnd (stepS 7 126 n) W) := by
  have hs : isSm 126 = false := rfl
  have hd : isDg 126 = false := rfl
  have he : endsS 7 = false := rfl
  have hv := hid (show stepS 7 126 n = 8 from by unfold stepS; simp [*])
  go_enter Try.func84, Try.ntmps84
  go_wp2_with (first
      | (go_at_call 113; refine (rsmall_any _ _).mono ?_; rintro e w' ⟨rfl, rfl⟩; rw [hs])
      | (go_at_call 114; refine (rdigit_any _ _).mono ?_; rintro e w' ⟨rfl, rfl⟩; rw [hd])
      | (go_at_call 87; refine (rends_any 7 (by decide) _).mono ?_; rintro e w' ⟨rfl, rfl⟩; rw [he]))
  go_ret
  exact ⟨ret_int hv.out.symm, rfl⟩
theorem step7_2 (c n : Int) (W : World) (q34 : c ≠ 34) (q126 : c ≠ 126) : Calls Try.prog 84 #[.int .i64 7, .int .i32 c, .int .i64 n] W (StEnd (stepS 7 c n) W) := by
  have he : endsS 7 = false := rfl
  have hv := hid (show stepS 7 c n = 7 from by unfold stepS; simp [*])
  have e34 := ne_b q34
  have e126 := ne_b q126
  have f34 := ne_bn q34
  have f126 := ne_bn q126
  clear q34 q126
  go_enter Try.func84, Try.ntmps84
  go_wp2_with (first
      | (go_at_call 113; refine (rsmall_any _ _).mono ?_; rintro e w' ⟨rfl, rfl⟩; rw [hs])
      | (go_at_call 114; refine (rdigit_any _ _).mono ?_; rintro e w' ⟨rfl, rfl⟩; rw [hd])
      | (go_at_call 87; refine (rends_any 7 (by decide) _).mono ?_; rintro e w' ⟨rfl, rfl⟩; rw [he]))
  go_ret
  exact ⟨ret_int hv.out.symm, rfl⟩
theorem step8_0 (n : Int) (W : World) : Calls Try.prog 84 #[.int .i64 8, .int .i32 34, .int .i64 n] W (StEnd (stepS 8 34 n) W) := by
  have hs : isSm 34 = false := rfl
  have hd : isDg 34 = false := rfl
  have he : endsS 8 = false := rfl
  have hv := hid (show stepS 8 34 n = 7 from by unfold stepS; simp [*])
  go_enter Try.func84, Try.ntmps84
  go_wp2_with (first
      | (go_at_call 113; refine (rsmall_any _ _).mono ?_; rintro e w' ⟨rfl, rfl⟩; rw [hs])
      | (go_at_call 114; refine (rdigit_any _ _).mono ?_; rintro e w' ⟨rfl, rfl⟩; rw [hd])
      | (go_at_call 87; refine (rends_any 8 (by decide) _).mono ?_; rintro e w' ⟨rfl, rfl⟩; rw [he]))
  go_ret
  exact ⟨ret_int hv.out.symm, rfl⟩
theorem step8_1 (n : Int) (W : World) : Calls Try.prog 84 #[.int .i64 8, .int .i32 126, .int .i64 n] W (StEnd (stepS 8 126 n) W) := by
  have hs : isSm 126 = false := rfl
  have hd : isDg 126 = false := rfl
  have he : endsS 8 = false := rfl
  have hv := hid (show stepS 8 126 n = 7 from by unfold stepS; simp [*])
  go_enter Try.func84, Try.ntmps84
  go_wp2_with (first
      | (go_at_call 113; refine (rsmall_any _ _).mono ?_; rintro e w' ⟨rfl, rfl⟩; rw [hs])
      | (go_at_call 114; refine (rdigit_any _ _).mono ?_; rintro e w' ⟨rfl, rfl⟩; rw [hd])
      | (go_at_call 87; refine (rends_any 8 (by decide) _).mono ?_; rintro e w' ⟨rfl, rfl⟩; rw [he]))
  go_ret
  exact ⟨ret_int hv.out.symm, rfl⟩
theorem step8_2 (n : Int) (W : World) : Calls Try.prog 84 #[.int .i64 8, .int .i32 44, .int .i64 n] W (StEnd (stepS 8 44 n) W) := by
  have hs : isSm 44 = false := rfl
  have hd : isDg 44 = false := rfl
  have he : endsS 8 = false := rfl
  have hv := hid (show stepS 8 44 n = -1 from by unfold stepS; simp [*])
  go_enter Try.func84, Try.ntmps84
  go_wp2_with (first
      | (go_at_call 113; refine (rsmall_any _ _).mono ?_; rintro e w' ⟨rfl, rfl⟩; rw [hs])
      | (go_at_call 114; refine (rdigit_any _ _).mono ?_; rintro e w' ⟨rfl, rfl⟩; rw [hd])
      | (go_at_call 87; refine (rends_any 8 (by decide) _).mono ?_; rintro e w' ⟨rfl, rfl⟩; rw [he]))
  go_ret
  exact ⟨ret_int hv.out.symm, rfl⟩
theorem step8_3 (c n : Int) (W : World) (q34 : c ≠ 34) (q126 : c ≠ 126) (q44 : c ≠ 44) : Calls Try.prog 84 #[.int .i64 8, .int .i32 c, .int .i64 n] W (StEnd (stepS 8 c n) W) := by
  have he : endsS 8 = false := rfl
  have hv := hid (show stepS 8 c n = -1 from by unfold stepS; simp [*])
  have e34 := ne_b q34
  have e126 := ne_b q126
  have e44 := ne_b q44
  have f34 := ne_bn q34
  have f126 := ne_bn q126
  have f44 := ne_bn q44
  clear q34 q126 q44
  go_enter Try.func84, Try.ntmps84
  go_wp2_with (first
      | (go_at_call 113; refine (rsmall_any _ _).mono ?_; rintro e w' ⟨rfl, rfl⟩; rw [hs])
      | (go_at_call 114; refine (rdigit_any _ _).mono ?_; rintro e w' ⟨rfl, rfl⟩; rw [hd])
      | (go_at_call 87; refine (rends_any 8 (by decide) _).mono ?_; rintro e w' ⟨rfl, rfl⟩; rw [he]))
  go_ret
  exact ⟨ret_int hv.out.symm, rfl⟩
theorem step9_0 (n : Int) (W : World) : Calls Try.prog 84 #[.int .i64 9, .int .i32 44, .int .i64 n] W (StEnd (stepS 9 44 n) W) := by
  have hs : isSm 44 = false := rfl
  have hd : isDg 44 = false := rfl
  have he : endsS 9 = true := rfl
  have hv := hid (show stepS 9 44 n = 0 from by unfold stepS; simp [*])
  go_enter Try.func84, Try.ntmps84
  go_wp2_with (first
      | (go_at_call 113; refine (rsmall_any _ _).mono ?_; rintro e w' ⟨rfl, rfl⟩; rw [hs])
      | (go_at_call 114; refine (rdigit_any _ _).mono ?_; rintro e w' ⟨rfl, rfl⟩; rw [hd])
      | (go_at_call 87; refine (rends_any 9 (by decide) _).mono ?_; rintro e w' ⟨rfl, rfl⟩; rw [he]))
  go_ret
  exact ⟨ret_int hv.out.symm, rfl⟩
theorem step9_1 (c n : Int) (W : World) (q44 : c ≠ 44) : Calls Try.prog 84 #[.int .i64 9, .int .i32 c, .int .i64 n] W (StEnd (stepS 9 c n) W) := by
  have he : endsS 9 = true := rfl
  have hv := hid (show stepS 9 c n = -1 from by unfold stepS; simp [*])
  have e44 := ne_b q44
  have f44 := ne_bn q44
  clear q44
  go_enter Try.func84, Try.ntmps84
  go_wp2_with (first
      | (go_at_call 113; refine (rsmall_any _ _).mono ?_; rintro e w' ⟨rfl, rfl⟩; rw [hs])
      | (go_at_call 114; refine (rdigit_any _ _).mono ?_; rintro e w' ⟨rfl, rfl⟩; rw [hd])
      | (go_at_call 87; refine (rends_any 9 (by decide) _).mono ?_; rintro e w' ⟨rfl, rfl⟩; rw [he]))
  go_ret
  exact ⟨ret_int hv.out.symm, rfl⟩
theorem step_any (st : Nat) (hst : st ≤ 9) (c n : Int) (h0 : 0 ≤ n) (h1 : n ≤ 999999999) (W : World) : Calls Try.prog 84 #[.int .i64 (st : Int), .int .i32 c, .int .i64 n] W (StEnd (stepS st c n) W) := by
  rcases (show st = 0 ∨ st = 1 ∨ st = 2 ∨ st = 3 ∨ st = 4 ∨ st = 5 ∨ st = 6 ∨ st = 7 ∨ st = 8 ∨ st = 9 by omega) with rfl | rfl | rfl | rfl | rfl | rfl | rfl | rfl | rfl | rfl
  · cases hs : isSm c with
    | true => have := sm_not hs; exact step0_0 c n W hs this.2.2.2.2.2.2 this.2.1 this.1
    | false =>
      by_cases q44 : c = 44
      · subst q44; exact step0_1 n W
      · by_cases q61 : c = 61
        · subst q61; exact step0_3 n W
        · exact step0_2 c n W hs q61 q44
  · cases hs : isSm c with
    | true =>
      have := sm_not hs
      by_cases hn : n < 16
      · exact step1_0 c n W hs this.2.2.2.2.2.2 this.2.1 this.1 hn
      · exact step1_1 c n W hs this.2.2.2.2.2.2 this.2.1 this.1 hn
    | false =>
      by_cases q61 : c = 61
      · subst q61; exact step1_2 n W
      · by_cases q44 : c = 44
        · subst q44; exact step1_3 n W
        · exact step1_4 c n W hs q61 q44
  · cases hs : isSm c with
    | true => have := sm_not hs; exact step2_0 c n W hs this.2.2.2.2.2.2 this.2.1 this.1
    | false =>
      by_cases q45 : c = 45
      · subst q45; exact step2_1 n W
      · by_cases q48 : c = 48
        · subst q48; exact step2_2 n W
        · cases hd : isDg c with
          | true => exact step2_3 c n W hs hd q48 q45
          | false =>
            by_cases q34 : c = 34
            · subst q34; exact step2_4 n W
            · by_cases q44 : c = 44
              · subst q44; exact step2_5 n W
              · exact step2_6 c n W hs hd q45 q48 q34 q44
  · cases hs : isSm c with
    | true =>
      have := sm_not hs
      by_cases hn : n < 16
      · exact step3_0 c n W hs this.2.2.2.2.2.2 this.2.1 this.1 hn
      · exact step3_1 c n W hs this.2.2.2.2.2.2 this.2.1 this.1 hn
    | false =>
      by_cases q44 : c = 44
      · subst q44; exact step3_2 n W
      · by_cases q61 : c = 61
        · subst q61; exact step3_4 n W
        · exact step3_3 c n W hs q61 q44
  · by_cases q48 : c = 48
    · subst q48; exact step4_1 n W
    · by_cases q44 : c = 44
      · subst q44; exact step4_2 n W
      · cases hd : isDg c with
        | true => have := dg_not hd; exact step4_0 c n W this.2.2 hd q48 (by omega)
        | false => exact step4_3 c n W hd q44
  · by_cases q44 : c = 44
    · subst q44; exact step5_0 n W
    · exact step5_1 c n W q44
  · by_cases q44 : c = 44
    · subst q44; exact step6_2 n W
    · cases hd : isDg c with
      | true =>
        have := dg_not hd
        by_cases hn : 10 * n + (c - 48) ≤ 999999999
        · exact step6_0 c n W this.2.2 hd q44 h0 h1 this.1 this.2.1 hn
        · exact step6_1 c n W this.2.2 hd q44 h0 h1 this.1 this.2.1 hn
      | false => exact step6_3 c n W hd q44
  · by_cases q34 : c = 34
    · subst q34; exact step7_0 n W
    · by_cases q126 : c = 126
      · subst q126; exact step7_1 n W
      · exact step7_2 c n W q34 q126
  · by_cases q34 : c = 34
    · subst q34; exact step8_0 n W
    · by_cases q126 : c = 126
      · subst q126; exact step8_1 n W
      · by_cases q44 : c = 44
        · subst q44; exact step8_2 n W
        · exact step8_3 c n W q34 q126 q44
  · by_cases q44 : c = 44
    · subst q44; exact step9_0 n W
    · exact step9_1 c n W q44

end Go.Proofs.Ytegmbjkpjglgpaa
