/-
  For block.Runs: which lengths are out of form, and how many from a place on are the same.
  The plain law of block.Runs: its runs come to the lengths, and are no more than these.
-/
import Derived.Test.YthhllollhjpheaaBase
import Derived.Test.YthhllollhjpheaaUnruns
namespace Go.Proofs.Ythhllollhjpheaa.BlockRuns
open Go.RowKit Go.Proofs.Ythhllollhjpheaa

/-- a length that is out of form -/
def badl (n : Int) : Bool := decide (n < 0 ∨ 15 < n)
theorem badl_false {n : Int} : badl n = false ↔ 0 ≤ n ∧ n ≤ 15 := by unfold badl; simp
theorem badl_true {n : Int} : badl n = true ↔ n < 0 ∨ 15 < n := by unfold badl; simp

theorem badl_yes (n : Int) (h : badl n = true) (w : World) : Calls Try.prog 80 #[.int .i64 n] w fun e w' => e = .returned (.bool true) ∧ w = w' := by
  rcases badl_true.1 h with h1 | h1
  all_goals
    clear h
    go_enter Try.func80, Try.ntmps80
    go_wp2
    go_ret
    exact ⟨rfl, rfl⟩
theorem badl_no (n : Int) (h : badl n = false) (w : World) : Calls Try.prog 80 #[.int .i64 n] w fun e w' => e = .returned (.bool false) ∧ w = w' := by
  obtain ⟨h1, h2⟩ := badl_false.1 h
  clear h
  go_enter Try.func80, Try.ntmps80
  go_wp2
  go_ret
  exact ⟨ret_bool (by simp; omega), rfl⟩

def LongIdx (l : List Int) (W : World) (e : Ending) (w' : World) : Prop := ∃ r : Int, e = .returned (.int .i64 r) ∧ ((r < 0 ∧ l.any badl = false) ∨ (0 ≤ r ∧ l.any badl = true)) ∧ W = w'

theorem anyl_take (p : Int → Bool) (l : List Int) (j : Nat) (hj : j < l.length) : (l.take (j + 1)).any p = ((l.take j).any p || p l[j]) := by
  rw [List.take_succ_eq_append_getElem hj, List.any_append]; simp

theorem indexl_any (A : Option Addr) (c : Nat) (l : List Int) (W : World) (B : Nat) (hr : RdI W B A l) (hm : l.length ≤ maxLen) :
    Calls Try.prog 94 #[.slice A l.length c, .func (.func 80) #[] #[]] W (LongIdx l W) := by
  unfold maxLen at hm
  have Hr := hid hr
  clear hr
  go_enter Try.func94, Try.ntmps94
  go_wp2
  go_loop [8] (fun i => ∃ j : Nat, j ≤ l.length ∧ i = .int .i64 j ∧ (l.take j).any badl = false) (fun i => l.length - (intOf i).toNat)
  case atStart => exact ⟨0, by omega, rfl, rfl⟩
  case round =>
    obtain ⟨j, hj, rfl, hno⟩ := hrel
    have Hno := hid hno
    clear hno
    by_cases hlt : j < l.length
    · obtain ⟨b, off, rfl, hbb, h0⟩ := int_at Hr.out hlt
      have Hs := hid (anyl_take badl l j hlt)
      cases hb : badl l[j]
      · have Hb := hid hb
        clear hb
        go_wp2_with (refine (badl_no _ Hb.out _).mono ?_; rintro e w' ⟨rfl, rfl⟩)
        go_round
        case rel => exact ⟨j + 1, by omega, by go_num, by rw [Hs.out, Hno.out, Hb.out]; rfl⟩
        case measure => simp [intOf]; omega
      · have Hb := hid hb
        clear hb
        go_wp2_with (refine (badl_yes _ Hb.out _).mono ?_; rintro e w' ⟨rfl, rfl⟩)
        go_ret
        exact ⟨j, rfl, .inr ⟨by omega, List.any_eq_true.2 ⟨l[j], List.getElem_mem hlt, Hb.out⟩⟩, rfl⟩
    · go_wp2
      go_ret
      have e : j = l.length := by omega
      subst e
      exact ⟨-1, rfl, .inl ⟨by omega, by have := Hno.out; rwa [List.take_length] at this⟩, rfl⟩

theorem containsl_any (A : Option Addr) (c : Nat) (l : List Int) (W : World) (B : Nat) (hr : RdI W B A l) (hm : l.length ≤ maxLen) (g : Bool) (hg : l.any badl = g) :
    Calls Try.prog 79 #[.slice A l.length c, .func (.func 80) #[] #[]] W fun e w' => e = .returned (.bool g) ∧ W = w' := by
  have Hg := hid hg
  clear hg
  have H := hid (indexl_any A c l W B hr hm)
  clear hr hm
  go_enter Try.func79, Try.ntmps79
  go_wp2_with (refine H.out.mono ?_; rintro e w' ⟨r, rfl, hr, rfl⟩)
  go_ret
  refine ⟨ret_bool ?_, rfl⟩
  rcases hr with ⟨h1, h2⟩ | ⟨h1, h2⟩
  · have := Hg.out.symm.trans h2; subst this; simp; omega
  · have := Hg.out.symm.trans h2; subst this; simp; omega

/-- counts in form, at most m of them -/
def goodc (l : List Int) (m : Int) : Bool := decide ((l.length : Int) ≤ m) && !l.any badl

/-- how many numbers from a place on are the same as the one there -/
def same1 (v : Int) : List Int → Nat
  | [] => 0
  | x :: r => if x = v then same1 v r + 1 else 0
theorem same1_le (v : Int) (l : List Int) : same1 v l ≤ l.length := by
  induction l with
  | nil => exact Nat.le_refl _
  | cons x r ih => unfold same1; split <;> simp <;> omega

theorem same_any (A : Option Addr) (c : Nat) (l : List Int) (j : Nat) (hj : j < l.length) (W : World) (B : Nat) (hr : RdI W B A l) (hm : l.length ≤ 1000000) :
    Calls Try.prog 81 #[.slice A l.length c, .int .i64 j] W fun e w' => e = .returned (.int .i64 ((1 + same1 l[j] (l.drop (j + 1)) : Nat) : Int)) ∧ ∃ n, w' = W.drewN n := by
  have Hr := hid hr
  clear hr
  go_enter Try.func81, Try.ntmps81
  go_wp2
  go_loopw [5] (fun i wr => ∃ k n : Nat, 1 ≤ k ∧ j + k ≤ l.length ∧ i = .int .i64 k ∧ 1 + same1 l[j] (l.drop (j + 1)) = k + same1 l[j] (l.drop (j + k)) ∧ wr = W.drewN n) (fun i _ => l.length - (intOf i).toNat)
  case atStart => exact ⟨1, 0, by omega, by omega, rfl, rfl, rfl⟩
  case round =>
    obtain ⟨k, n, hk1, hk, rfl, hs, rfl⟩ := hrel
    have Hs := hid hs
    clear hs
    obtain ⟨b, off, rfl, hbb, q0⟩ := int_at Hr.out hj
    by_cases hlt : j + k < l.length
    · obtain ⟨b', off', hA, hbb', p0⟩ := int_at Hr.out hlt
      obtain ⟨rfl, rfl⟩ : b = b' ∧ off = off' := by simpa using hA
      have Hd := hid (show l.drop (j + k) = l[j + k] :: l.drop (j + k + 1) from List.drop_eq_getElem_cons hlt)
      have hc : (j : Int) + k < l.length := by omega
      have hdc : decide ((j : Int) + k < l.length) = true := decide_eq_true hc
      by_cases hq : l[j + k] = l[j]
      · have Hn : Hid (1 + same1 l[j] (l.drop (j + 1)) = k + 1 + same1 l[j] (l.drop (j + (k + 1)))) := by
          have h := Hs.out
          rw [Hd.out, same1, if_pos hq] at h
          rw [show j + (k + 1) = j + k + 1 by omega]
          exact h.trans (by omega)
        rw [hq] at p0
        generalize l[j] = v at *
        go_wp2_with fail
        go_quiet (fail)
        go_wp2
        go_roundw
        case rel => exact ⟨k + 1, n + nq, by omega, by omega, by go_num, Hn.out, by simp⟩
        case measure => simp [intOf]; omega
      · have Hn : Hid (1 + same1 l[j] (l.drop (j + 1)) = k) := by
          have h := Hs.out
          rw [Hd.out, same1, if_neg hq] at h
          exact h
        have hq2 : (l[j + k] == l[j]) = false := beq_eq_false_iff_ne.2 hq
        generalize hv : l[j] = v at *
        generalize l[j + k] = x at *
        go_wp2_with fail
        go_quiet (fail)
        go_wp2
        go_ret
        refine ⟨?_, n + nq, by simp⟩
        show Ending.returned (.int .i64 (k : Int)) = _
        rw [hv, Hn.out]
    · have hkk : j + k = l.length := by omega
      have Hn : Hid (1 + same1 l[j] (l.drop (j + 1)) = k) := by
        have h := Hs.out
        rw [List.drop_eq_nil_of_le (show l.length ≤ j + k by omega)] at h
        exact h
      have hc : ¬ (j : Int) + k < l.length := by omega
      have hdc : decide ((j : Int) + k < l.length) = false := decide_eq_false hc
      go_wp2_with fail
      go_quiet (fail)
      go_wp2
      go_ret
      refine ⟨?_, n + nq, by simp⟩
      show Ending.returned (.int .i64 (k : Int)) = _
      rw [Hn.out]

end Go.Proofs.Ythhllollhjpheaa.BlockRuns

namespace Go.Proofs.Ythhllollhjpheaa.BlockRuns
open Go.RowKit Go.Proofs.Ythhllollhjpheaa

/-- which symbol a run gets: v stands n times, behind prev -/
def cho (prev : Option Int) (v : Int) (n : Nat) : Int := if v = 0 ∧ 11 ≤ n then 18 else if v = 0 ∧ 3 ≤ n then 17 else if prev = some v ∧ 3 ≤ n then 16 else v
/-- how many lengths a run takes at most -/
def rmax (s : Int) : Nat := if s = 16 then 6 else if s = 17 then 10 else if s = 18 then 138 else 1
def took (prev : Option Int) (v : Int) (n : Nat) : Nat := min n (rmax (cho prev v n))
/-- the runs of lengths behind prev -/
def runsOf : Nat → Option Int → List Int → List (Int × Int)
  | 0, _, _ => []
  | _ + 1, _, [] => []
  | f + 1, prev, v :: r => (cho prev v (1 + same1 v r), (took prev v (1 + same1 v r) : Int) - rl (cho prev v (1 + same1 v r))) :: runsOf f (some v) ((v :: r).drop (took prev v (1 + same1 v r)))

theorem same1_take (v : Int) (l : List Int) (m : Nat) (h : m ≤ same1 v l) : l.take m = List.replicate m v := by
  induction l generalizing m with
  | nil => simp [same1] at h; subst h; rfl
  | cons x r ih =>
    unfold same1 at h
    cases m with
    | zero => rfl
    | succ m =>
      split at h
      · rename_i hx
        subst hx
        rw [List.take_succ_cons, ih m (by omega), List.replicate_succ]
      · omega
theorem took_pos (prev : Option Int) (v : Int) (n : Nat) (hn : 1 ≤ n) : 1 ≤ took prev v n := by
  unfold took rmax; (repeat' split) <;> omega
theorem took_le (prev : Option Int) (v : Int) (n : Nat) : took prev v n ≤ n := Nat.min_le_left _ _

theorem runs_back (f : Nat) (out l : List Int) (hf : l.length ≤ f) (hl : ∀ x ∈ l, 0 ≤ x ∧ x ≤ 15) : unr out (runsOf f out.getLast? l) = some (out ++ l) ∧ (runsOf f out.getLast? l).length ≤ l.length := by
  induction f generalizing out l with
  | zero =>
    have : l = [] := List.eq_nil_of_length_eq_zero (by omega)
    subst this
    simp [runsOf, unr]
  | succ f ih =>
    cases l with
    | nil => simp [runsOf, unr]
    | cons v r =>
      obtain ⟨v0, v1⟩ := hl v (by simp)
      generalize hn : 1 + same1 v r = n
      have hn1 : 1 ≤ n := by omega
      have ht := took_pos out.getLast? v n hn1
      have ht2 := took_le out.getLast? v n
      have htk : (v :: r).take (took out.getLast? v n) = List.replicate (took out.getLast? v n) v := by
        refine same1_take v (v :: r) _ ?_
        unfold same1
        rw [if_pos rfl]
        omega
      have hlen : took out.getLast? v n ≤ (v :: r).length := by
        have := same1_le v r
        simp; omega
      have key : ¬ rbad out (cho out.getLast? v n) ((took out.getLast? v n : Int) - rl (cho out.getLast? v n)) ∧ (rn (cho out.getLast? v n) ((took out.getLast? v n : Int) - rl (cho out.getLast? v n))).toNat = took out.getLast? v n ∧ rv out (cho out.getLast? v n) = v := by
        unfold took cho
        by_cases c1 : v = 0 ∧ 11 ≤ n
        · rw [if_pos c1]
          obtain ⟨rfl, c1⟩ := c1
          refine ⟨?_, ?_, rfl⟩
          · unfold rbad rtop rmax rl
            simp
            omega
          · unfold rn rmax rl
            simp
            omega
        · rw [if_neg c1]
          by_cases c2 : v = 0 ∧ 3 ≤ n
          · rw [if_pos c2]
            obtain ⟨rfl, c2⟩ := c2
            refine ⟨?_, ?_, rfl⟩
            · unfold rbad rtop rmax rl
              simp
              omega
            · unfold rn rmax rl
              simp
              omega
          · rw [if_neg c2]
            by_cases c3 : out.getLast? = some v ∧ 3 ≤ n
            · rw [if_pos c3]
              obtain ⟨c3, c4⟩ := c3
              have ho : out ≠ [] := by rintro rfl; simp at c3
              refine ⟨?_, ?_, by unfold rv; rw [if_pos rfl, c3]; rfl⟩
              · unfold rbad rtop rmax rl
                simp [ho]
                omega
              · unfold rn rmax rl
                simp
                omega
            · rw [if_neg c3]
              have e1 : ¬ v = 16 := by omega
              have e2 : ¬ v = 17 := by omega
              have e3 : ¬ v = 18 := by omega
              refine ⟨?_, ?_, by unfold rv; rw [if_neg e1, if_neg (by omega)]⟩
              · unfold rbad rtop rmax rl
                simp [e1, e2, e3]
                omega
              · unfold rn rmax rl
                simp [e1, e2, e3]
                omega
      obtain ⟨k1, k2, k3⟩ := key
      have hrest := ih (out ++ List.replicate (took out.getLast? v n) v) ((v :: r).drop (took out.getLast? v n)) (by simp at hf ⊢; omega) (fun x hx => hl x (List.mem_of_mem_drop hx))
      have hlast : (out ++ List.replicate (took out.getLast? v n) v).getLast? = some v := by
        rw [List.getLast?_append, List.getLast?_replicate, if_neg (by omega)]; rfl
      rw [hlast] at hrest
      simp only [runsOf, hn]
      rw [unr, if_neg k1, k2, k3]
      refine ⟨?_, ?_⟩
      · rw [hrest.1, List.append_assoc, ← htk, List.take_append_drop]
      · have := hrest.2
        simp at this ⊢
        omega

end Go.Proofs.Ythhllollhjpheaa.BlockRuns
