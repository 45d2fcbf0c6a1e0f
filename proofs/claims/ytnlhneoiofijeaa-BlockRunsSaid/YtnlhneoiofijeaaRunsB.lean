/-
  The plain law of block.Runs: its runs come to the lengths, and are no more than these.
-/
import Derived.Test.YtnlhneoiofijeaaRunsA
import Derived.Test.YtnlhneoiofijeaaUnruns
namespace Go.Proofs.Ytnlhneoiofijeaa.BlockRuns
open Go.RowKit Go.Proofs.Ytnlhneoiofijeaa

/-- which symbol a run gets: v stands n times, behind prev -/
def cho (prev : Option Int) (v : Int) (n : Nat) : Int := if v = 0 ∧ 11 ≤ n then 18 else if v = 0 ∧ 3 ≤ n then 17 else if prev = some v ∧ 3 ≤ n then 16 else v
/-- how many lengths a run takes at most -/
def rmax (s : Int) : Nat := if s = 16 then 6 else if s = 17 then 10 else if s = 18 then 138 else 1
def took (prev : Option Int) (v : Int) (n : Nat) : Nat := min n (rmax (cho prev v n))
/-- the runs of lengths behind prev -/
def runsOf : Nat → Option Int → List Int → List (Int × Int)
  | 0, _, _ => []
  | _ + 1, _, [] => []
  | f + 1, prev, v :: r => (cho prev v (1 + same1 v r), (took prev v (1 + same1 v r) : Int) - rl (cho prev v (1 + same1 v r))) :: runsOf f (some v) ((v :: r).drop (took prev v (1 + same1 v r)))

theorem same1_take (v : Int) (l : List Int) (m : Nat) (h : m ≤ same1 v l) : l.take m = List.replicate m v := by
  induction l generalizing m with
  | nil => simp [same1] at h; subst h; rfl
  | cons x r ih =>
    unfold same1 at h
    cases m with
    | zero => rfl
    | succ m =>
      split at h
      · rename_i hx
        subst hx
        rw [List.take_succ_cons, ih m (by omega), List.replicate_succ]
      · omega
theorem took_pos (prev : Option Int) (v : Int) (n : Nat) (hn : 1 ≤ n) : 1 ≤ took prev v n := by
  unfold took rmax; (repeat' split) <;> omega
theorem took_le (prev : Option Int) (v : Int) (n : Nat) : took prev v n ≤ n := Nat.min_le_left _ _

theorem runs_back (f : Nat) (out l : List Int) (hf : l.length ≤ f) (hl : ∀ x ∈ l, 0 ≤ x ∧ x ≤ 15) : unr out (runsOf f out.getLast? l) = some (out ++ l) ∧ (runsOf f out.getLast? l).length ≤ l.length := by
  induction f generalizing out l with
  | zero =>
    have : l = [] := List.eq_nil_of_length_eq_zero (by omega)
    subst this
    simp [runsOf, unr]
  | succ f ih =>
    cases l with
    | nil => simp [runsOf, unr]
    | cons v r =>
      obtain ⟨v0, v1⟩ := hl v (by simp)
      generalize hn : 1 + same1 v r = n
      have hn1 : 1 ≤ n := by omega
      have ht := took_pos out.getLast? v n hn1
      have ht2 := took_le out.getLast? v n
      have htk : (v :: r).take (took out.getLast? v n) = List.replicate (took out.getLast? v n) v := by
        refine same1_take v (v :: r) _ ?_
        unfold same1
        rw [if_pos rfl]
        omega
      have hlen : took out.getLast? v n ≤ (v :: r).length := by
        have := same1_le v r
        simp; omega
      have key : ¬ rbad out (cho out.getLast? v n) ((took out.getLast? v n : Int) - rl (cho out.getLast? v n)) ∧ (rn (cho out.getLast? v n) ((took out.getLast? v n : Int) - rl (cho out.getLast? v n))).toNat = took out.getLast? v n ∧ rv out (cho out.getLast? v n) = v := by
        unfold took cho
        by_cases c1 : v = 0 ∧ 11 ≤ n
        · rw [if_pos c1]
          obtain ⟨rfl, c1⟩ := c1
          refine ⟨?_, ?_, rfl⟩
          · unfold rbad rtop rmax rl
            simp
            omega
          · unfold rn rmax rl
            simp
            omega
        · rw [if_neg c1]
          by_cases c2 : v = 0 ∧ 3 ≤ n
          · rw [if_pos c2]
            obtain ⟨rfl, c2⟩ := c2
            refine ⟨?_, ?_, rfl⟩
            · unfold rbad rtop rmax rl
              simp
              omega
            · unfold rn rmax rl
              simp
              omega
          · rw [if_neg c2]
            by_cases c3 : out.getLast? = some v ∧ 3 ≤ n
            · rw [if_pos c3]
              obtain ⟨c3, c4⟩ := c3
              have ho : out ≠ [] := by rintro rfl; simp at c3
              refine ⟨?_, ?_, by unfold rv; rw [if_pos rfl, c3]; rfl⟩
              · unfold rbad rtop rmax rl
                simp [ho]
                omega
              · unfold rn rmax rl
                simp
                omega
            · rw [if_neg c3]
              have e1 : ¬ v = 16 := by omega
              have e2 : ¬ v = 17 := by omega
              have e3 : ¬ v = 18 := by omega
              refine ⟨?_, ?_, by unfold rv; rw [if_neg e1, if_neg (by omega)]⟩
              · unfold rbad rtop rmax rl
                simp [e1, e2, e3]
                omega
              · unfold rn rmax rl
                simp [e1, e2, e3]
                omega
      obtain ⟨k1, k2, k3⟩ := key
      have hrest := ih (out ++ List.replicate (took out.getLast? v n) v) ((v :: r).drop (took out.getLast? v n)) (by simp at hf ⊢; omega) (fun x hx => hl x (List.mem_of_mem_drop hx))
      have hlast : (out ++ List.replicate (took out.getLast? v n) v).getLast? = some v := by
        rw [List.getLast?_append, List.getLast?_replicate, if_neg (by omega)]; rfl
      rw [hlast] at hrest
      simp only [runsOf, hn]
      rw [unr, if_neg k1, k2, k3]
      refine ⟨?_, ?_⟩
      · rw [hrest.1, List.append_assoc, ← htk, List.take_append_drop]
      · have := hrest.2
        simp at this ⊢
        omega

end Go.Proofs.Ytnlhneoiofijeaa.BlockRuns
