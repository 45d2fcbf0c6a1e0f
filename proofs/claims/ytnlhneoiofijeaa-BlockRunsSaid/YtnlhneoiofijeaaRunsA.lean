/-
  For block.Runs: which lengths are out of form, and how many from a place on are the same.
-/
import Derived.Test.YtnlhneoiofijeaaInts
namespace Go.Proofs.Ytnlhneoiofijeaa.BlockRuns
open Go.RowKit Go.Proofs.Ytnlhneoiofijeaa

/-- a length that is out of form -/
def badl (n : Int) : Bool := decide (n < 0 ∨ 15 < n)
theorem badl_false {n : Int} : badl n = false ↔ 0 ≤ n ∧ n ≤ 15 := by unfold badl; simp
theorem badl_true {n : Int} : badl n = true ↔ n < 0 ∨ 15 < n := by unfold badl; simp

theorem badl_yes (n : Int) (h : badl n = true) (w : World) : Calls Try.prog 68 #[.int .i64 n] w fun e w' => e = .returned (.bool true) ∧ w = w' := by
  rcases badl_true.1 h with h1 | h1
  all_goals
    clear h
    go_enter Try.func68, Try.ntmps68
    go_wp2
    go_ret
    exact ⟨rfl, rfl⟩
theorem badl_no (n : Int) (h : badl n = false) (w : World) : Calls Try.prog 68 #[.int .i64 n] w fun e w' => e = .returned (.bool false) ∧ w = w' := by
  obtain ⟨h1, h2⟩ := badl_false.1 h
  clear h
  go_enter Try.func68, Try.ntmps68
  go_wp2
  go_ret
  exact ⟨ret_bool (by simp; omega), rfl⟩

def LongIdx (l : List Int) (W : World) (e : Ending) (w' : World) : Prop := ∃ r : Int, e = .returned (.int .i64 r) ∧ ((r < 0 ∧ l.any badl = false) ∨ (0 ≤ r ∧ l.any badl = true)) ∧ W = w'

theorem anyl_take (p : Int → Bool) (l : List Int) (j : Nat) (hj : j < l.length) : (l.take (j + 1)).any p = ((l.take j).any p || p l[j]) := by
  rw [List.take_succ_eq_append_getElem hj, List.any_append]; simp

theorem indexl_any (A : Option Addr) (c : Nat) (l : List Int) (W : World) (B : Nat) (hr : RdI W B A l) (hm : l.length ≤ maxLen) :
    Calls Try.prog 87 #[.slice A l.length c, .func (.func 68) #[] #[]] W (LongIdx l W) := by
  unfold maxLen at hm
  have Hr := hid hr
  clear hr
  go_enter Try.func87, Try.ntmps87
  go_wp2
  go_loop [8] (fun i => ∃ j : Nat, j ≤ l.length ∧ i = .int .i64 j ∧ (l.take j).any badl = false) (fun i => l.length - (intOf i).toNat)
  case atStart => exact ⟨0, by omega, rfl, rfl⟩
  case round =>
    obtain ⟨j, hj, rfl, hno⟩ := hrel
    have Hno := hid hno
    clear hno
    by_cases hlt : j < l.length
    · obtain ⟨b, off, rfl, hbb, h0⟩ := int_at Hr.out hlt
      have Hs := hid (anyl_take badl l j hlt)
      cases hb : badl l[j]
      · have Hb := hid hb
        clear hb
        go_wp2_with (refine (badl_no _ Hb.out _).mono ?_; rintro e w' ⟨rfl, rfl⟩)
        go_round
        case rel => exact ⟨j + 1, by omega, by go_num, by rw [Hs.out, Hno.out, Hb.out]; rfl⟩
        case measure => simp [intOf]; omega
      · have Hb := hid hb
        clear hb
        go_wp2_with (refine (badl_yes _ Hb.out _).mono ?_; rintro e w' ⟨rfl, rfl⟩)
        go_ret
        exact ⟨j, rfl, .inr ⟨by omega, List.any_eq_true.2 ⟨l[j], List.getElem_mem hlt, Hb.out⟩⟩, rfl⟩
    · go_wp2
      go_ret
      have e : j = l.length := by omega
      subst e
      exact ⟨-1, rfl, .inl ⟨by omega, by have := Hno.out; rwa [List.take_length] at this⟩, rfl⟩

theorem containsl_any (A : Option Addr) (c : Nat) (l : List Int) (W : World) (B : Nat) (hr : RdI W B A l) (hm : l.length ≤ maxLen) (g : Bool) (hg : l.any badl = g) :
    Calls Try.prog 67 #[.slice A l.length c, .func (.func 68) #[] #[]] W fun e w' => e = .returned (.bool g) ∧ W = w' := by
  have Hg := hid hg
  clear hg
  have H := hid (indexl_any A c l W B hr hm)
  clear hr hm
  go_enter Try.func67, Try.ntmps67
  go_wp2_with (refine H.out.mono ?_; rintro e w' ⟨r, rfl, hr, rfl⟩)
  go_ret
  refine ⟨ret_bool ?_, rfl⟩
  rcases hr with ⟨h1, h2⟩ | ⟨h1, h2⟩
  · have := Hg.out.symm.trans h2; subst this; simp; omega
  · have := Hg.out.symm.trans h2; subst this; simp; omega

/-- counts in form, at most m of them -/
def goodc (l : List Int) (m : Int) : Bool := decide ((l.length : Int) ≤ m) && !l.any badl

/-- how many numbers from a place on are the same as the one there -/
def same1 (v : Int) : List Int → Nat
  | [] => 0
  | x :: r => if x = v then same1 v r + 1 else 0
theorem same1_le (v : Int) (l : List Int) : same1 v l ≤ l.length := by
  induction l with
  | nil => exact Nat.le_refl _
  | cons x r ih => unfold same1; split <;> simp <;> omega

theorem same_any (A : Option Addr) (c : Nat) (l : List Int) (j : Nat) (hj : j < l.length) (W : World) (B : Nat) (hr : RdI W B A l) (hm : l.length ≤ 1000000) :
    Calls Try.prog 69 #[.slice A l.length c, .int .i64 j] W fun e w' => e = .returned (.int .i64 ((1 + same1 l[j] (l.drop (j + 1)) : Nat) : Int)) ∧ ∃ n, w' = W.drewN n := by
  have Hr := hid hr
  clear hr
  go_enter Try.func69, Try.ntmps69
  go_wp2
  go_loopw [5] (fun i wr => ∃ k n : Nat, 1 ≤ k ∧ j + k ≤ l.length ∧ i = .int .i64 k ∧ 1 + same1 l[j] (l.drop (j + 1)) = k + same1 l[j] (l.drop (j + k)) ∧ wr = W.drewN n) (fun i _ => l.length - (intOf i).toNat)
  case atStart => exact ⟨1, 0, by omega, by omega, rfl, rfl, rfl⟩
  case round =>
    obtain ⟨k, n, hk1, hk, rfl, hs, rfl⟩ := hrel
    have Hs := hid hs
    clear hs
    obtain ⟨b, off, rfl, hbb, q0⟩ := int_at Hr.out hj
    by_cases hlt : j + k < l.length
    · obtain ⟨b', off', hA, hbb', p0⟩ := int_at Hr.out hlt
      obtain ⟨rfl, rfl⟩ : b = b' ∧ off = off' := by simpa using hA
      have Hd := hid (show l.drop (j + k) = l[j + k] :: l.drop (j + k + 1) from List.drop_eq_getElem_cons hlt)
      have hc : (j : Int) + k < l.length := by omega
      have hdc : decide ((j : Int) + k < l.length) = true := decide_eq_true hc
      by_cases hq : l[j + k] = l[j]
      · have Hn : Hid (1 + same1 l[j] (l.drop (j + 1)) = k + 1 + same1 l[j] (l.drop (j + (k + 1)))) := by
          have h := Hs.out
          rw [Hd.out, same1, if_pos hq] at h
          rw [show j + (k + 1) = j + k + 1 by omega]
          exact h.trans (by omega)
        rw [hq] at p0
        generalize l[j] = v at *
        go_wp2_with fail
        go_quiet (fail)
        go_wp2
        go_roundw
        case rel => exact ⟨k + 1, n + nq, by omega, by omega, by go_num, Hn.out, by simp⟩
        case measure => simp [intOf]; omega
      · have Hn : Hid (1 + same1 l[j] (l.drop (j + 1)) = k) := by
          have h := Hs.out
          rw [Hd.out, same1, if_neg hq] at h
          exact h
        have hq2 : (l[j + k] == l[j]) = false := beq_eq_false_iff_ne.2 hq
        generalize hv : l[j] = v at *
        generalize l[j + k] = x at *
        go_wp2_with fail
        go_quiet (fail)
        go_wp2
        go_ret
        refine ⟨?_, n + nq, by simp⟩
        show Ending.returned (.int .i64 (k : Int)) = _
        rw [hv, Hn.out]
    · have hkk : j + k = l.length := by omega
      have Hn : Hid (1 + same1 l[j] (l.drop (j + 1)) = k) := by
        have h := Hs.out
        rw [List.drop_eq_nil_of_le (show l.length ≤ j + k by omega)] at h
        exact h
      have hc : ¬ (j : Int) + k < l.length := by omega
      have hdc : decide ((j : Int) + k < l.length) = false := decide_eq_false hc
      go_wp2_with fail
      go_quiet (fail)
      go_wp2
      go_ret
      refine ⟨?_, n + nq, by simp⟩
      show Ending.returned (.int .i64 (k : Int)) = _
      rw [Hn.out]

end Go.Proofs.Ytnlhneoiofijeaa.BlockRuns
