/-
  What stands in a text already, plainly: a text is a function and its length. No program in sight.
  The Finder's chain, plainly: of each place the last one ahead that begins with the same three bytes; going along it one comes to the longest match.
  The matches at a place, each longer than the ones ahead of it, plainly; going along the chain one meets them all.
  A text's parses, plainly; the greedy one.
  A part of a slice, in whatever memory: where it lies, and what it reads as. Plain.
  What can be read although a row of the call's own grows: a slice that lies in another block than that row.
  A range over a function whose rounds are told their number: what comes in round k is known, so a body may lean on what came ahead of it.
  slices.Chunk as an iterator: what its rounds keep.
  slices.Chunk of []uint8 as an iterator.
  slices.Chunk of []int as an iterator.
-/
import Derived.Test.YtoppjcmkhhkbmaaGreatSqueezePlainx1
import Derived.Test.YtoppjcmkhhkbmaaGreatSqueezePlainx8
import Derived.Test.YtoppjcmkhhkbmaaGreatSqueezePlainx15
import Derived.RangeFuncNested
import Derived.RangeFuncCalls
import Derived.RangeFuncBound
import Derived.RangeFuncLeaves
import Derived.RangeFuncFrom
import Derived.Shelf.Abstract
import Derived.Shelf.RegionOpen
import Derived.OwnWalkIn
import Derived.TacticsInMore
import Derived.LoopNIn
import Derived.LoopIn
import Derived.BigQuiet
import Derived.Deep.QuietTactic
import Derived.Deep.RegionHeld3
namespace Go.Proofs.YtoppjcmkhhkbmaaGreat

def cmF (f : Nat → Int) (L a b : Nat) : Nat → Nat → Nat
  | 0, n => n
  | k + 1, n => if b + n < L ∧ f (a + n) = f (b + n) then cmF f L a b k (n + 1) else n
/-- how many bytes from two places on are the same, at most 258 -/
def lcpM (f : Nat → Int) (L a b : Nat) : Nat := cmF f L a b 258 0
theorem cmF_spec (f : Nat → Int) (L a b : Nat) : ∀ k n, n ≤ cmF f L a b k n ∧ cmF f L a b k n ≤ n + k ∧ (∀ i, n ≤ i → i < cmF f L a b k n → b + i < L ∧ f (a + i) = f (b + i)) ∧
    (cmF f L a b k n < n + k → ¬ (b + cmF f L a b k n < L ∧ f (a + cmF f L a b k n) = f (b + cmF f L a b k n)))
  | 0, n => ⟨Nat.le_refl _, Nat.le_refl _, fun i h1 h2 => absurd h2 (by rw [cmF]; omega), fun h => absurd h (by rw [cmF]; omega)⟩
  | k + 1, n => by
    rw [cmF]
    by_cases h : b + n < L ∧ f (a + n) = f (b + n)
    · rw [if_pos h]
      obtain ⟨h1, h2, h3, h4⟩ := cmF_spec f L a b k (n + 1)
      refine ⟨by omega, by omega, fun i hi hi2 => ?_, fun h5 => h4 (by omega)⟩
      by_cases e : i = n
      · rw [e]; exact h
      · exact h3 i (by omega) hi2
    · rw [if_neg h]
      exact ⟨Nat.le_refl _, by omega, fun i h1 h2 => absurd h2 (by omega), fun _ => h⟩
theorem lcp_le (f : Nat → Int) (L a b : Nat) : lcpM f L a b ≤ 258 := by
  have := (cmF_spec f L a b 258 0).2.1
  unfold lcpM
  omega
theorem lcp_ge (f : Nat → Int) (L a b n : Nat) : n ≤ lcpM f L a b ↔ n ≤ 258 ∧ ∀ i, i < n → b + i < L ∧ f (a + i) = f (b + i) := by
  obtain ⟨_, h2, h3, h4⟩ := cmF_spec f L a b 258 0
  have e : lcpM f L a b = cmF f L a b 258 0 := rfl
  rw [← e] at h2 h3 h4
  refine ⟨fun h => ⟨by omega, fun i hi => h3 i (by omega) (by omega)⟩, fun ⟨h5, h6⟩ => ?_⟩
  refine Nat.le_of_not_lt fun h => h4 (by omega) (h6 _ h)
theorem lcp_end (f : Nat → Int) (L a b : Nat) (hb : b ≤ L) : b + lcpM f L a b ≤ L := by
  refine Nat.le_of_not_lt fun h => ?_
  have := ((lcp_ge f L a b _).1 (Nat.le_refl _)).2 (L - b) (by omega)
  omega
/-- the longest match at a place of the distances up to m, the nearest of these -/
def lgM (f : Nat → Int) (L at' : Nat) : Nat → Nat × Nat
  | 0 => (2, 0)
  | m + 1 => if (lgM f L at' m).1 < lcpM f L (at' - (m + 1)) at' then (lcpM f L (at' - (m + 1)) at', m + 1) else lgM f L at' m
theorem lg_spec (f : Nat → Int) (L p : Nat) : ∀ m, 2 ≤ (lgM f L p m).1 ∧ (lgM f L p m).1 ≤ 258 ∧ (∀ k, 1 ≤ k → k ≤ m → lcpM f L (p - k) p ≤ (lgM f L p m).1) ∧
    ((lgM f L p m).2 = 0 → (lgM f L p m).1 = 2) ∧ ((lgM f L p m).2 ≠ 0 → 3 ≤ (lgM f L p m).1 ∧ (lgM f L p m).2 ≤ m ∧ lcpM f L (p - (lgM f L p m).2) p = (lgM f L p m).1 ∧ ∀ k, 1 ≤ k → k < (lgM f L p m).2 → lcpM f L (p - k) p < (lgM f L p m).1)
  | 0 => ⟨Nat.le_refl _, by show 2 ≤ 258; decide, fun k h1 h2 => by omega, fun _ => rfl, fun h => absurd rfl h⟩
  | m + 1 => by
    obtain ⟨h1, h2, h3, h4, h5⟩ := lg_spec f L p m
    rw [lgM]
    by_cases h : (lgM f L p m).1 < lcpM f L (p - (m + 1)) p
    · rw [if_pos h]
      refine ⟨by simp only; omega, lcp_le _ _ _ _, fun k hk1 hk2 => ?_, fun h => absurd h (Nat.succ_ne_zero m), fun _ => ⟨by simp only; omega, Nat.le_refl _, rfl, fun k hk1 hk2 => ?_⟩⟩
      · by_cases e : k = m + 1
        · rw [e]; exact Nat.le_refl _
        · exact Nat.le_trans (h3 k hk1 (by omega)) (Nat.le_of_lt h)
      · exact Nat.lt_of_le_of_lt (h3 k hk1 (by simp only at hk2; omega)) h
    · rw [if_neg h]
      refine ⟨h1, h2, fun k hk1 hk2 => ?_, h4, fun h0 => ?_⟩
      · by_cases e : k = m + 1
        · rw [e]; omega
        · exact h3 k hk1 (by omega)
      · obtain ⟨a, b, c, d⟩ := h5 h0
        exact ⟨a, by omega, c, d⟩
/-- a distance that is no better than what is known already changes nothing -/
theorem lg_skip (f : Nat → Int) (L p : Nat) {m n : Nat} (hm : m ≤ n) (h : ∀ k, m < k → k ≤ n → lcpM f L (p - k) p ≤ (lgM f L p m).1) : lgM f L p n = lgM f L p m := by
  induction n with
  | zero => rw [show m = 0 by omega]
  | succ n ih =>
    by_cases e : m = n + 1
    · rw [e]
    · have e2 := ih (by omega) fun k h1 h2 => h k h1 (by omega)
      rw [lgM, if_neg, e2]
      rw [e2]
      have := h (n + 1) (by omega) (Nat.le_refl _)
      omega
/-- the least distance up to m at which a match of a length stands; 0: none -/
def fdM (f : Nat → Int) (L p n : Nat) : Nat → Nat
  | 0 => 0
  | m + 1 => if fdM f L p n m = 0 ∧ n ≤ lcpM f L (p - (m + 1)) p then m + 1 else fdM f L p n m
theorem fd_spec (f : Nat → Int) (L p n : Nat) : ∀ m, fdM f L p n m ≤ m ∧ (fdM f L p n m = 0 → ∀ k, 1 ≤ k → k ≤ m → lcpM f L (p - k) p < n) ∧
    (fdM f L p n m ≠ 0 → n ≤ lcpM f L (p - fdM f L p n m) p ∧ ∀ k, 1 ≤ k → k < fdM f L p n m → lcpM f L (p - k) p < n)
  | 0 => ⟨Nat.le_refl _, fun _ k h1 h2 => by omega, fun h => absurd rfl h⟩
  | m + 1 => by
    obtain ⟨h0, h1, h2⟩ := fd_spec f L p n m
    rw [fdM]
    by_cases h : fdM f L p n m = 0 ∧ n ≤ lcpM f L (p - (m + 1)) p
    · rw [if_pos h]
      exact ⟨Nat.le_refl _, fun e => absurd e (Nat.succ_ne_zero m), fun _ => ⟨h.2, fun k a b => h1 h.1 k a (by omega)⟩⟩
    · rw [if_neg h]
      refine ⟨by omega, fun e k a b => ?_, h2⟩
      by_cases e2 : k = m + 1
      · subst e2
        refine Nat.lt_of_not_le fun h3 => h ⟨e, h3⟩
      · exact h1 e k a (by omega)
theorem fd_lg (f : Nat → Int) (L p m n : Nat) (hn : 3 ≤ n) : (fdM f L p n m ≠ 0 ↔ n ≤ (lgM f L p m).1) ∧ (n = (lgM f L p m).1 → fdM f L p n m = (lgM f L p m).2) := by
  obtain ⟨a1, a2, a3, a4, a5⟩ := lg_spec f L p m
  obtain ⟨b0, b1, b2⟩ := fd_spec f L p n m
  refine ⟨⟨fun h => ?_, fun h h2 => ?_⟩, fun h => ?_⟩
  · exact Nat.le_trans (b2 h).1 (a3 _ (by omega) b0)
  · have hd : (lgM f L p m).2 ≠ 0 := fun e => by have := a4 e; omega
    obtain ⟨c1, c2, c3, _⟩ := a5 hd
    have := b1 h2 _ (by omega) c2
    omega
  · have hd : (lgM f L p m).2 ≠ 0 := fun e => by have := a4 e; omega
    obtain ⟨c1, c2, c3, c4⟩ := a5 hd
    have hf : fdM f L p n m ≠ 0 := fun e => by
      have := b1 e _ (by omega) c2
      omega
    obtain ⟨d1, d2⟩ := b2 hf
    rcases Nat.lt_trichotomy (fdM f L p n m) (lgM f L p m).2 with h3 | h3 | h3
    · have := c4 _ (by omega) h3
      omega
    · exact h3
    · have := d2 _ (by omega) h3
      omega
/-- the greedy parse's token at a place -/
def gtM (f : Nat → Int) (L p : Nat) : Int × Int :=
  if (lgM f L p (min p 32768)).2 = 0 then (0, f p) else (((lgM f L p (min p 32768)).1 : Nat), ((lgM f L p (min p 32768)).2 : Nat))
end Go.Proofs.YtoppjcmkhhkbmaaGreat

namespace Go.Proofs.YtoppjcmkhhkbmaaGreat

def same3 (f : Nat → Int) (L j p : Nat) : Prop := p + 3 ≤ L ∧ f j = f p ∧ f (j + 1) = f (p + 1) ∧ f (j + 2) = f (p + 2)
instance (f : Nat → Int) (L j p : Nat) : Decidable (same3 f L j p) := by unfold same3; exact inferInstance
theorem lcp3 (f : Nat → Int) (L j p : Nat) : 3 ≤ lcpM f L j p ↔ same3 f L j p := by
  rw [lcp_ge]
  refine ⟨fun ⟨_, h⟩ => ⟨by have := (h 2 (by omega)).1; omega, (h 0 (by omega)).2, (h 1 (by omega)).2, (h 2 (by omega)).2⟩, fun ⟨h0, h1, h2, h3⟩ => ⟨by omega, fun i hi => ⟨by omega, ?_⟩⟩⟩
  rcases (show i = 0 ∨ i = 1 ∨ i = 2 by omega) with rfl | rfl | rfl
  · exact h1
  · exact h2
  · exact h3
/-- one more than the last place ahead of m that begins as p does; 0: none -/
def pvF (f : Nat → Int) (L p : Nat) : Nat → Nat
  | 0 => 0
  | m + 1 => if same3 f L m p then m + 1 else pvF f L p m
def pvM (f : Nat → Int) (L p : Nat) : Nat := pvF f L p p
theorem pvF_spec (f : Nat → Int) (L p : Nat) : ∀ m, pvF f L p m ≤ m ∧ (∀ k, pvF f L p m = k + 1 → same3 f L k p) ∧ ∀ j, pvF f L p m ≤ j → j < m → ¬ same3 f L j p
  | 0 => ⟨Nat.le_refl _, fun k h => (by have h : 0 = k + 1 := h; omega), fun j _ h => (by omega)⟩
  | m + 1 => by
    obtain ⟨h1, h2, h3⟩ := pvF_spec f L p m
    rw [pvF]
    by_cases h : same3 f L m p
    · rw [if_pos h]
      exact ⟨Nat.le_refl _, fun k e => by rw [← Nat.succ.inj e]; exact h, fun j a b => by omega⟩
    · rw [if_neg h]
      refine ⟨by omega, h2, fun j a b => ?_⟩
      by_cases e : j = m
      · rw [e]; exact h
      · exact h3 j a (by omega)
/-- what the chain's walk holds: k is one more than the place that comes next -/
structure ChI (f : Nat → Int) (L p k b d : Nat) : Prop where
  le : k ≤ p
  at' : ∀ j, k = j + 1 → same3 f L j p
  lg : (b, d) = lgM f L p (p - k)
theorem ChI.start (f : Nat → Int) (L p : Nat) : ChI f L p (pvM f L p) 2 0 := by
  obtain ⟨h1, h2, h3⟩ := pvF_spec f L p p
  refine ⟨h1, h2, ?_⟩
  rw [lg_skip f L p (m := 0) (Nat.zero_le _)]
  · rfl
  · intro k hk1 hk2
    refine Nat.le_of_lt_succ (Nat.lt_of_not_le fun h => h3 (p - k) ?_ (by unfold pvM at hk2; omega) ((lcp3 f L (p - k) p).1 h))
    unfold pvM at hk2
    omega
theorem ChI.step {f : Nat → Int} {L p k b d : Nat} (h : ChI f L p (k + 1) b d) :
    ChI f L p (pvM f L k) (if b < lcpM f L k p then lcpM f L k p else b) (if b < lcpM f L k p then p - k else d) := by
  have hle := h.le
  have hs := h.at' k rfl
  obtain ⟨h1, h2, h3⟩ := pvF_spec f L k k
  have e : lgM f L p (p - k) = (if b < lcpM f L k p then lcpM f L k p else b, if b < lcpM f L k p then p - k else d) := by
    have hl := h.lg
    rw [show p - k = (p - (k + 1)) + 1 by omega, lgM, ← hl, show p - (p - (k + 1) + 1) = k by omega]
    by_cases hb : b < lcpM f L k p
    · rw [if_pos hb, if_pos hb, if_pos hb]
    · rw [if_neg hb, if_neg hb, if_neg hb]
  have tr : ∀ j, j < k → same3 f L j p → same3 f L j k := fun j hj hj2 => ⟨by have := hs.1; omega, hj2.2.1.trans hs.2.1.symm, hj2.2.2.1.trans hs.2.2.1.symm, hj2.2.2.2.trans hs.2.2.2.symm⟩
  refine ⟨by unfold pvM; omega, fun j hj => ?_, ?_⟩
  · have := h2 j hj
    exact ⟨hs.1, this.2.1.trans hs.2.1, this.2.2.1.trans hs.2.2.1, this.2.2.2.trans hs.2.2.2⟩
  · rw [← e]
    refine (lg_skip f L p (by unfold pvM; omega) fun j hj1 hj2 => ?_).symm
    refine Nat.le_trans (Nat.le_of_lt_succ (Nat.lt_of_not_le fun h5 => ?_)) (lg_spec f L p (p - k)).1
    have h6 := (lcp3 f L (p - j) p).1 h5
    unfold pvM at hj2
    exact h3 (p - j) (by omega) (by omega) (tr _ (by omega) h6)
/-- where the walk may end early -/
theorem ChI.full {f : Nat → Int} {L p k b d : Nat} (h : ChI f L p k b d) (hp : p ≤ L) (he : k = 0 ∨ b = 258 ∨ L ≤ p + b) : (b, d) = lgM f L p p := by
  rw [h.lg]
  refine (lg_skip f L p (Nat.sub_le _ _) fun j hj1 hj2 => ?_).symm
  have e : (lgM f L p (p - k)).1 = b := by rw [← h.lg]
  rw [e]
  rcases he with he | he | he
  · omega
  · have := lcp_le f L (p - j) p
    omega
  · have := lcp_end f L (p - j) p hp
    omega
/-- a place that differs at the byte behind the best is no better -/
theorem lcp_not {f : Nat → Int} {L k p b : Nat} (h : f (k + b) ≠ f (p + b)) : ¬ b < lcpM f L k p := fun h2 => h (((lcp_ge f L k p (b + 1)).1 h2).2 b (Nat.lt_succ_self b)).2
end Go.Proofs.YtoppjcmkhhkbmaaGreat

namespace Go.Proofs.YtoppjcmkhhkbmaaGreat

/-- the text as a function -/
abbrev txF (text : List Int) : Nat → Int := fun i => text.getD i 0
/-- of the distances up to m those that are longer than all nearer ones -/
def impM (f : Nat → Int) (L p : Nat) : Nat → List (Nat × Nat)
  | 0 => []
  | m + 1 => if (lgM f L p m).1 < lcpM f L (p - (m + 1)) p then impM f L p m ++ [(lcpM f L (p - (m + 1)) p, m + 1)] else impM f L p m
theorem imp_skip (f : Nat → Int) (L p : Nat) {m n : Nat} (hm : m ≤ n) (h : ∀ k, m < k → k ≤ n → lcpM f L (p - k) p ≤ (lgM f L p m).1) : impM f L p n = impM f L p m := by
  induction n with
  | zero => rw [show m = 0 by omega]
  | succ n ih =>
    by_cases e : m = n + 1
    · rw [e]
    · have e2 := ih (by omega) fun k h1 h2 => h k h1 (by omega)
      have e3 := lg_skip f L p (m := m) (n := n) (by omega) fun k h1 h2 => h k h1 (by omega)
      rw [impM, if_neg, e2]
      rw [e3]
      have := h (n + 1) (by omega) (Nat.le_refl _)
      omega
theorem imp_pre (f : Nat → Int) (L p : Nat) {m : Nat} : ∀ n, m ≤ n → ∃ s, impM f L p n = impM f L p m ++ s
  | 0, h => ⟨[], by rw [show m = 0 by omega, List.append_nil]⟩
  | n + 1, h => by
    by_cases e : m = n + 1
    · exact ⟨[], by rw [e, List.append_nil]⟩
    · obtain ⟨s, hs⟩ := imp_pre f L p n (by omega : m ≤ n)
      rw [impM]
      split
      · exact ⟨s ++ [(lcpM f L (p - (n + 1)) p, n + 1)], by rw [hs, List.append_assoc]⟩
      · exact ⟨s, hs⟩
theorem imp_last (f : Nat → Int) (L p : Nat) : ∀ m, (impM f L p m = [] ∧ lgM f L p m = (2, 0)) ∨ (impM f L p m ≠ [] ∧ (impM f L p m).getD ((impM f L p m).length - 1) (0, 0) = lgM f L p m)
  | 0 => .inl ⟨rfl, rfl⟩
  | m + 1 => by
    rw [impM, lgM]
    by_cases h : (lgM f L p m).1 < lcpM f L (p - (m + 1)) p
    · rw [if_pos h, if_pos h]
      refine .inr ⟨by simp, ?_⟩
      rw [List.length_append, List.length_cons, List.length_nil, Nat.zero_add, Nat.add_sub_cancel, List.getD_eq_getElem?_getD, List.getElem?_append_right (Nat.le_refl _), Nat.sub_self]
      rfl
    · rw [if_neg h, if_neg h]
      exact imp_last f L p m
/-- all that is met has at least three bytes, and goes on growing -/
theorem imp_in (f : Nat → Int) (L p : Nat) : ∀ m, ∀ t ∈ impM f L p m, 3 ≤ t.1 ∧ t.1 ≤ 258 ∧ 1 ≤ t.2 ∧ t.2 ≤ m ∧ lcpM f L (p - t.2) p = t.1
  | 0, t, h => by cases h
  | m + 1, t, h => by
    rw [impM] at h
    split at h
    next h2 =>
      rcases List.mem_append.1 h with h | h
      · have := imp_in f L p m t h
        exact ⟨this.1, this.2.1, this.2.2.1, by omega, this.2.2.2.2⟩
      · rw [List.mem_singleton] at h
        subst h
        have := lcp_le f L (p - (m + 1)) p
        have := (lg_spec f L p m).1
        exact ⟨by show 3 ≤ lcpM f L (p - (m + 1)) p; omega, by show lcpM f L (p - (m + 1)) p ≤ 258; omega, by show 1 ≤ m + 1; omega, Nat.le_refl _, rfl⟩
    next h2 =>
      have := imp_in f L p m t h
      exact ⟨this.1, this.2.1, this.2.2.1, by omega, this.2.2.2.2⟩
/-- the chain's walk, with what has been met -/
def ChJ (f : Nat → Int) (L p k b : Nat) (l : List (Nat × Nat)) : Prop := (∃ d, ChI f L p k b d) ∧ l = impM f L p (p - k)
theorem ChJ.start (f : Nat → Int) (L p : Nat) : ChJ f L p (pvM f L p) 2 [] := by
  refine ⟨⟨0, ChI.start f L p⟩, ?_⟩
  obtain ⟨h1, h2, h3⟩ := pvF_spec f L p p
  rw [imp_skip f L p (m := 0) (Nat.zero_le _)]
  · rfl
  · intro k hk1 hk2
    refine Nat.le_of_lt_succ (Nat.lt_of_not_le fun h => h3 (p - k) ?_ (by unfold pvM at hk2; omega) ((lcp3 f L (p - k) p).1 h))
    unfold pvM at hk2
    omega
theorem ChJ.step {f : Nat → Int} {L p k b : Nat} {l : List (Nat × Nat)} (h : ChJ f L p (k + 1) b l) :
    ChJ f L p (pvM f L k) (if b < lcpM f L k p then lcpM f L k p else b) (if b < lcpM f L k p then l ++ [(lcpM f L k p, p - k)] else l) := by
  obtain ⟨⟨d, h⟩, hl⟩ := h
  have hst := h.step
  refine ⟨⟨_, hst⟩, ?_⟩
  have hle := h.le
  have hs := h.at' k rfl
  obtain ⟨h1, h2, h3⟩ := pvF_spec f L k k
  have e1 : impM f L p (p - k) = if b < lcpM f L k p then l ++ [(lcpM f L k p, p - k)] else l := by
    have hb : b = (lgM f L p (p - (k + 1))).1 := by rw [← h.lg]
    rw [show p - k = (p - (k + 1)) + 1 by omega, impM, ← hb, ← hl, show p - (p - (k + 1) + 1) = k by omega]
  have e2 : lgM f L p (p - k) = (if b < lcpM f L k p then lcpM f L k p else b, if b < lcpM f L k p then p - k else d) := by
    have hlg := h.lg
    rw [show p - k = (p - (k + 1)) + 1 by omega, lgM, ← hlg, show p - (p - (k + 1) + 1) = k by omega]
    by_cases hb : b < lcpM f L k p
    · rw [if_pos hb, if_pos hb, if_pos hb]
    · rw [if_neg hb, if_neg hb, if_neg hb]
  have tr : ∀ j, j < k → same3 f L j p → same3 f L j k := fun j hj hj2 => ⟨by have := hs.1; omega, hj2.2.1.trans hs.2.1.symm, hj2.2.2.1.trans hs.2.2.1.symm, hj2.2.2.2.trans hs.2.2.2.symm⟩
  rw [← e1]
  refine (imp_skip f L p (by unfold pvM; omega) fun j hj1 hj2 => ?_).symm
  refine Nat.le_trans (Nat.le_of_lt_succ (Nat.lt_of_not_le fun h5 => ?_)) (lg_spec f L p (p - k)).1
  have h6 := (lcp3 f L (p - j) p).1 h5
  unfold pvM at hj2
  exact h3 (p - j) (by omega) (by omega) (tr _ (by omega) h6)
theorem ChJ.full {f : Nat → Int} {L p k b : Nat} {l : List (Nat × Nat)} (h : ChJ f L p k b l) (hp : p ≤ L) (he : k = 0 ∨ b = 258 ∨ L ≤ p + b) : l = impM f L p p := by
  obtain ⟨⟨d, h⟩, hl⟩ := h
  rw [hl]
  refine (imp_skip f L p (Nat.sub_le _ _) fun j hj1 hj2 => ?_).symm
  have e : (lgM f L p (p - k)).1 = b := by rw [← h.lg]
  rw [e]
  rcases he with he | he | he
  · omega
  · have := lcp_le f L (p - j) p
    omega
  · have := lcp_end f L (p - j) p hp
    omega
theorem ChJ.bd {f : Nat → Int} {L p k b : Nat} {l : List (Nat × Nat)} (h : ChJ f L p k b l) : 2 ≤ b ∧ b ≤ 258 ∧ k ≤ p := by
  obtain ⟨⟨d, h⟩, _⟩ := h
  have e : b = (lgM f L p (p - k)).1 := by rw [← h.lg]
  have := lg_spec f L p (p - k)
  exact ⟨by omega, by omega, h.le⟩
/-- what comes next -/
theorem ChJ.next {f : Nat → Int} {L p k b : Nat} {l : List (Nat × Nat)} (h : ChJ f L p (k + 1) b l) (hb : b < lcpM f L k p) : l.length < (impM f L p p).length ∧ (impM f L p p).getD l.length (0, 0) = (lcpM f L k p, p - k) := by
  have h2 := h.step
  rw [if_pos hb, if_pos hb] at h2
  obtain ⟨_, hl⟩ := h2
  obtain ⟨s, hs⟩ := imp_pre f L p (m := p - pvM f L k) p (Nat.sub_le _ _)
  rw [← hl] at hs
  rw [hs]
  refine ⟨by simp, ?_⟩
  rw [List.append_assoc, List.getD_eq_getElem?_getD, List.getElem?_append_right (Nat.le_refl _), Nat.sub_self]
  rfl
end Go.Proofs.YtoppjcmkhhkbmaaGreat

namespace Go.Proofs.YtoppjcmkhhkbmaaGreat

/-- a token that stands for what a text has at a place -/
def prT (text : List Int) (k : Nat) (t : Int × Int) : Prop :=
  tgood t = true ∧ k + tln t ≤ text.length ∧ (t.1 = 0 → text.getD k 0 = t.2) ∧ (t.1 ≠ 0 → t.2.toNat ≤ k ∧ ∀ i, i < tln t → text.getD (k + i) 0 = text.getD (k + i - t.2.toNat) 0)
/-- a parse of a text from a place on -/
def prS (text : List Int) : Nat → List (Int × Int) → Prop
  | k, [] => k = text.length
  | k, t :: l => prT text k t ∧ prS text (k + tln t) l
theorem prT_fit {text : List Int} {k : Nat} {t : Int × Int} (h : prT text k t) : fitT text k t = true := by
  obtain ⟨h1, h2, h3, h4⟩ := h
  unfold fitT
  rw [h1, Bool.true_and, Bool.and_eq_true]
  refine ⟨decide_eq_true h2, ?_⟩
  by_cases e : t.1 = 0
  · rw [if_pos e, beq_iff_eq]
    exact h3 e
  · rw [if_neg e, List.all_eq_true]
    intro i hi
    unfold farB
    rw [Bool.or_eq_true, beq_iff_eq]
    exact .inr ((h4 e).2 i (List.mem_range.1 hi))
theorem prS_fit {text : List Int} : ∀ {l : List (Int × Int)} {k : Nat}, prS text k l → fitM text k l = true
  | [], k, h => by
    unfold fitM
    rw [beq_iff_eq]
    exact h
  | t :: l, k, h => by
    unfold fitM
    rw [prT_fit h.1, prS_fit h.2]
    rfl
/-- the greedy parse -/
def grF (f : Nat → Int) (L : Nat) : Nat → Nat → List (Int × Int)
  | 0, _ => []
  | n + 1, p => if p < L then gtM f L p :: grF f L n (p + tln (gtM f L p)) else []
def grA (text : List Int) (p : Nat) : List (Int × Int) := grF (txF text) text.length (text.length - p) p
abbrev grM (text : List Int) : List (Int × Int) := grA text 0
theorem grF_fuel (f : Nat → Int) (L : Nat) : ∀ n m p, L ≤ p + n → L ≤ p + m → grF f L n p = grF f L m p
  | 0, 0, _, _, _ => rfl
  | 0, m + 1, p, h, _ => by rw [grF, grF, if_neg (by omega)]
  | n + 1, 0, p, _, h => by rw [grF, grF, if_neg (by omega)]
  | n + 1, m + 1, p, h1, h2 => by
    have := tln_pos (gtM f L p)
    rw [grF, grF, grF_fuel f L n m _ (by omega) (by omega)]
theorem grA_end {text : List Int} {p : Nat} (h : text.length ≤ p) : grA text p = [] := by
  unfold grA
  rw [show text.length - p = 0 by omega]
  rfl
theorem grA_step {text : List Int} {p : Nat} (h : p < text.length) : grA text p = gtM (txF text) text.length p :: grA text (p + tln (gtM (txF text) text.length p)) := by
  have := tln_pos (gtM (txF text) text.length p)
  unfold grA
  rw [grF_fuel _ _ (text.length - p) (text.length - p - 1 + 1) p (by omega) (by omega), grF, if_pos h]
  congr 1
  exact grF_fuel _ _ _ _ _ (by omega) (by omega)
theorem gt_cases (f : Nat → Int) (L p : Nat) : (gtM f L p = (0, f p) ∧ (lgM f L p (min p 32768)).2 = 0) ∨
    (∃ n d : Nat, gtM f L p = ((n : Int), (d : Int)) ∧ lgM f L p (min p 32768) = (n, d) ∧ 3 ≤ n ∧ n ≤ 258 ∧ 1 ≤ d ∧ d ≤ p ∧ d ≤ 32768 ∧ lcpM f L (p - d) p = n) := by
  obtain ⟨_, h2, _, _, h5⟩ := lg_spec f L p (min p 32768)
  unfold gtM
  by_cases e : (lgM f L p (min p 32768)).2 = 0
  · rw [if_pos e]
    exact .inl ⟨rfl, e⟩
  · rw [if_neg e]
    obtain ⟨h3, h6, h7, _⟩ := h5 e
    exact .inr ⟨_, _, rfl, rfl, h3, h2, by omega, by omega, by omega, h7⟩
theorem tln_lit (c : Int) : tln (0, c) = 1 := rfl
theorem tln_mat {n : Nat} (hn : 3 ≤ n) (d : Int) : tln ((n : Int), d) = n := by
  unfold tln tn
  rw [if_pos (by show (0 : Int) < n; omega)]
  exact Int.toNat_natCast n
theorem prT_lit {text : List Int} (hB : ∀ x ∈ text, isB x) {p : Nat} (hp : p < text.length) : prT text p (0, text.getD p 0) := by
  have hb := getD_isB hB p
  refine ⟨tgood_true.2 (.inl ⟨rfl, hb.1, hb.2⟩), by rw [tln_lit]; omega, fun _ => rfl, fun h => absurd rfl h⟩
theorem prT_mat {text : List Int} {p n d : Nat} (hn : 3 ≤ n) (hd : 1 ≤ d) (hdp : d ≤ p) (hd2 : d ≤ 32768) (h : n ≤ lcpM (txF text) text.length (p - d) p) : prT text p ((n : Int), (d : Int)) := by
  obtain ⟨h1, h2⟩ := (lcp_ge _ _ _ _ _).1 h
  refine ⟨tgood_true.2 (.inr ⟨by show (3 : Int) ≤ n; omega, by show (n : Int) ≤ 258; omega, by show (1 : Int) ≤ d; omega, by show (d : Int) ≤ 32768; omega⟩), ?_, fun e => ?_, fun _ => ⟨by show ((d : Int)).toNat ≤ p; omega, fun i hi => ?_⟩⟩
  · rw [tln_mat hn]
    have := (h2 (n - 1) (by omega)).1
    omega
  · have e : (n : Int) = 0 := e
    omega
  · rw [tln_mat hn] at hi
    have := (h2 i hi).2
    rw [show p + i - ((d : Int)).toNat = p - d + i by omega]
    exact this.symm
theorem prT_gt {text : List Int} (hB : ∀ x ∈ text, isB x) {p : Nat} (hp : p < text.length) : prT text p (gtM (txF text) text.length p) := by
  rcases gt_cases (txF text) text.length p with ⟨h, _⟩ | ⟨n, d, h, _, h1, _, h3, h4, h5, h6⟩
  · rw [h]; exact prT_lit hB hp
  · rw [h]; exact prT_mat h1 h3 h4 h5 (Nat.le_of_eq h6.symm)
theorem prS_grA {text : List Int} (hB : ∀ x ∈ text, isB x) : ∀ n p, text.length - p ≤ n → p ≤ text.length → prS text p (grA text p)
  | 0, p, h, hp => by
    rw [grA_end (by omega)]
    show p = text.length
    omega
  | n + 1, p, h, hp => by
    rcases Nat.lt_or_ge p text.length with h1 | h1
    · rw [grA_step h1]
      have h2 := prT_gt hB h1
      have := tln_pos (gtM (txF text) text.length p)
      exact ⟨h2, prS_grA hB n _ (by omega) h2.2.1⟩
    · rw [grA_end h1]
      show p = text.length
      omega
theorem prS_grM {text : List Int} (hB : ∀ x ∈ text, isB x) : prS text 0 (grM text) := prS_grA hB _ 0 (Nat.le_refl _) (Nat.zero_le _)
theorem prS_lits {text : List Int} (hB : ∀ x ∈ text, isB x) : ∀ n k, text.length - k ≤ n → k ≤ text.length → prS text k (litsN (text.drop k))
  | 0, k, h, hk => by
    rw [List.drop_of_length_le (by omega)]
    show k = text.length
    omega
  | n + 1, k, h, hk => by
    rcases Nat.lt_or_ge k text.length with h1 | h1
    · rw [List.drop_eq_getElem_cons h1]
      have e : text[k] = text.getD k 0 := by rw [List.getD_eq_getElem?_getD, List.getElem?_eq_getElem h1]; rfl
      rw [e]
      exact ⟨prT_lit hB h1, prS_lits hB n (k + 1) (by omega) (by omega)⟩
    · rw [List.drop_of_length_le h1]
      show k = text.length
      omega
end Go.Proofs.YtoppjcmkhhkbmaaGreat

namespace Go.Proofs.YtoppjcmkhhkbmaaGreat
open Go.RowKit

theorem slc_gen {w2 : World} {B n sz : Nat} {A : Option Addr} {xs : List Value} (k h m : Nat) (hk : k ≤ h) (hh : h ≤ n) (hm : h ≤ m) (hA : A = none → m = 0) (hr : Rd w2 B sz A n xs) :
    ∃ A3, sliced A k h m sz = .slice A3 (h - k) (m - k) ∧ Rd w2 B sz A3 (h - k) ((xs.drop (k * sz)).take ((h - k) * sz)) ∧ (A3 = none → m - k = 0) := by
  have hl : ((xs.drop (k * sz)).take ((h - k) * sz)).length = (h - k) * sz := by
    rw [List.length_take, List.length_drop, hr.1, ← Nat.sub_mul]
    exact Nat.min_eq_left (Nat.mul_le_mul_right _ (by omega))
  by_cases hmk : m = k
  · refine ⟨A, by unfold sliced; rw [if_pos hmk], ?_, fun _ => by omega⟩
    have e : h - k = 0 := by omega
    rw [e, Nat.zero_mul, List.take_zero]
    exact Rd.nil
  · cases A with
    | none => have := hA rfl; omega
    | some a =>
      refine ⟨some (a.add (k * sz)), by unfold sliced; rw [if_neg hmk]; rfl, ⟨hl, fun hp => ?_⟩, fun h => by cases h⟩
      rw [hl] at hp
      have hpx : 0 < xs.length := by
        rw [hr.1]
        exact Nat.lt_of_lt_of_le hp (Nat.mul_le_mul_right _ (by omega))
      obtain ⟨b, off, e, h1, h2⟩ := hr.2 hpx
      injection e with e
      subst e
      refine ⟨b, off + k * sz, by simp [Addr.add], h1, fun j u hu => ?_⟩
      have hj : j < (h - k) * sz := by rw [← hl]; exact (List.getElem?_eq_some_iff.1 hu).1
      rw [List.getElem?_take_of_lt hj, List.getElem?_drop] at hu
      have := h2 (k * sz + j) u hu
      rw [show off + k * sz + j = off + (k * sz + j) by omega]
      exact this
theorem bytesV_part (l : List Int) (k m : Nat) : ((bytesV l).drop (k * 1)).take (m * 1) = bytesV ((l.drop k).take m) := by
  unfold bytesV
  rw [Nat.mul_one, Nat.mul_one, ← List.map_drop, ← List.map_take]
set_option maxRecDepth 100000 in
/-- b[k:h] of bytes -/
theorem slcB_lh {w2 : World} {B n c : Nat} {A : Option Addr} (l : List Int) (i i2 : Int) (k h m : Nat) (hi : i = (k : Int)) (hi2 : i2 = (h : Int)) (hk : k + m = h) (hh : h ≤ n) (hc : n ≤ c) (hA : A = none → c = 0) (hr : Rd w2 B 1 A n (bytesV l)) :
    ∃ A3, (∀ w : World, (Instr.slice 22 (.slice A n c) (some (.int .i64 i)) (some (.int .i64 i2)) none).run Tryz.prog w = .ok (.slice A3 m (c - k)) w) ∧ Rd w2 B 1 A3 m (bytesV ((l.drop k).take m)) ∧ (A3 = none → c - k = 0) := by
  subst hi hi2
  obtain ⟨A3, h1, h2, h3⟩ := slc_gen k h c (by omega) hh (by omega) hA hr
  have e : h - k = m := by omega
  rw [e] at h1 h2
  rw [bytesV_part] at h2
  refine ⟨A3, fun w => ?_, h2, h3⟩
  rw [← h1, run_slice_lh (P := Tryz.prog) (w := w) 22 A n c Tryz.underlying22 .i64 .i64 (k : Int) (h : Int) (by omega) (by omega) (by omega)]
  rfl
set_option maxRecDepth 100000 in
/-- b[k:] of bytes -/
theorem slcB_l {w2 : World} {B n c : Nat} {A : Option Addr} (l : List Int) (i : Int) (k m : Nat) (hi : i = (k : Int)) (hl : l.length = n) (hk : k + m = n) (hc : n ≤ c) (hA : A = none → c = 0) (hr : Rd w2 B 1 A n (bytesV l)) :
    ∃ A3, (∀ w : World, (Instr.slice 22 (.slice A n c) (some (.int .i64 i)) none none).run Tryz.prog w = .ok (.slice A3 m (c - k)) w) ∧ Rd w2 B 1 A3 m (bytesV (l.drop k)) ∧ (A3 = none → c - k = 0) := by
  subst hi
  obtain ⟨A3, h1, h2, h3⟩ := slc_gen k n c (by omega) (Nat.le_refl _) hc hA hr
  have e : n - k = m := by omega
  rw [e] at h1 h2
  rw [bytesV_part, List.take_of_length_le (by rw [List.length_drop]; omega)] at h2
  refine ⟨A3, fun w => ?_, h2, h3⟩
  rw [← h1, run_slice_l (P := Tryz.prog) (w := w) 22 A n c Tryz.underlying22 .i64 (k : Int) (by omega) (by omega)]
  rfl
/-- rows of the call's own: which block -/
theorem own_lt2 {w : World} {base n size : Nat} {t : TypeId} {v : Value} {xs : List Value} (h : w.ownsRow base t size v n xs) {g : Nat} (e : v.ownBlock = some g) : g < w.heap.size ∧ base ≤ g := by
  rcases h.2 with ⟨h1, _⟩ | ⟨p, cap, cur, h1, hb, hh, _⟩
  · rw [h1] at e; cases e
  · rw [h1] at e
    have e : some p = some g := e
    injection e with e
    subst e
    exact ⟨(Array.getElem?_eq_some_iff.1 hh).1, hb⟩
end Go.Proofs.YtoppjcmkhhkbmaaGreat

namespace Go.Proofs.YtoppjcmkhhkbmaaGreat
open Go.RowKit

/-- it lies in none of the blocks X -/
def RdX (w : World) (X : List Nat) (size : Nat) (A : Option Addr) (n : Nat) (xs : List Value) : Prop :=
  xs.length = n * size ∧ (0 < xs.length → ∃ (b off : Nat) (cur : Array Value) (t : TypeId) (m : Nat × Nat), A = some ⟨b, off, none⟩ ∧ w.heap[b]? = some (.cells cur t m) ∧ b ∉ X ∧ ∀ (j : Nat) (u : Value), xs[j]? = some u → cur[off + j]? = some u)
section
variable {w w' : World} {X X' : List Nat} {size n B : Nat} {A : Option Addr} {xs : List Value}
theorem cell_cells {b off : Nat} {u : Value} (h : w.cell? ⟨b, off, none⟩ = some u) : ∃ cur t m, w.heap[b]? = some (.cells cur t m) ∧ cur[off]? = some u := by
  unfold World.cell? at h
  cases hb : w.heap[b]? with
  | none => simp [hb] at h
  | some o =>
    cases o with
    | cells cur t m => exact ⟨cur, t, m, rfl, by simpa [hb] using h⟩
    | _ => simp [hb] at h
theorem RdX.rd (h : RdX w X size A n xs) : Rd w w.heap.size size A n xs := by
  refine ⟨h.1, fun hp => ?_⟩
  obtain ⟨b, off, cur, t, m, hA, hb, _, hc⟩ := h.2 hp
  exact ⟨b, off, hA, (Array.getElem?_eq_some_iff.1 hb).1, fun j u hu => by rw [cell_of_row w b (off + j) cur t m hb]; exact hc j u hu⟩
theorem RdX.of_rd (h : Rd w B size A n xs) (hx : ∀ r ∈ X, B ≤ r) : RdX w X size A n xs := by
  refine ⟨h.1, fun hp => ?_⟩
  obtain ⟨b, off, hA, hb, hc⟩ := h.2 hp
  obtain ⟨cur, t, m, h1, _⟩ := cell_cells (hc 0 _ (List.getElem?_eq_getElem hp))
  refine ⟨b, off, cur, t, m, hA, h1, fun e => by have := hx b e; omega, fun j u hu => ?_⟩
  have := hc j u hu
  rw [cell_of_row w b (off + j) cur t m h1] at this
  exact this
theorem RdX.of_own {t : TypeId} {base c : Nat} (h : w.ownsRow base t size (.slice A n c) n xs) (hx : ∀ r, Value.ownBlock (.slice A n c) = some r → r ∉ X) : RdX w X size A n xs := by
  refine ⟨h.1, fun hp => ?_⟩
  rcases h.2 with ⟨_, h0⟩ | ⟨g, cap, cur, hv, hb, hh, _, _, hs, ht⟩
  · have := h.1
    rw [h0, Nat.zero_mul] at this
    omega
  · injection hv with hv _ _
    subst hv
    refine ⟨g, 0, cur, t, (0, 0), rfl, hh, hx g rfl, fun j u hu => ?_⟩
    have hj : j < n * size := by rw [← h.1]; exact (List.getElem?_eq_some_iff.1 hu).1
    rw [← ht, List.getElem?_take_of_lt (by omega), Array.getElem?_toList] at hu
    rw [Nat.zero_add]
    exact hu
theorem RdX.keep (h : RdX w X size A n xs) (hk : ∀ b cur t m, b ∉ X → w.heap[b]? = some (.cells cur t m) → w'.heap[b]? = w.heap[b]? ∧ b ∉ X') : RdX w' X' size A n xs := by
  refine ⟨h.1, fun hp => ?_⟩
  obtain ⟨b, off, cur, t, m, hA, hb, hne, hc⟩ := h.2 hp
  obtain ⟨h1, h2⟩ := hk b cur t m hne hb
  exact ⟨b, off, cur, t, m, hA, h1.trans hb, h2, hc⟩
theorem RdX.below (h : RdX w X size A n xs) (hb : Below w.heap.size w w') : RdX w' X size A n xs :=
  h.keep fun b _ _ _ hne hh => ⟨hb.block b (Array.getElem?_eq_some_iff.1 hh).1, hne⟩
/-- one of the blocks X has turned; they may be others now -/
theorem RdX.app {row : Option Nat} (h : RdX w X size A n xs) (hg : w.grownBy w' row) (hr : ∀ r, row = some r → r ∈ X) (hX : ∀ k ∈ X', k ∈ X ∨ w.heap.size ≤ k) : RdX w' X' size A n xs :=
  h.keep fun b _ _ _ hne hh => by
    have hl := (Array.getElem?_eq_some_iff.1 hh).1
    refine ⟨hg.block b hl fun e => hne (hr b e.symm), fun e => ?_⟩
    rcases hX b e with h1 | h1
    · exact hne h1
    · omega
theorem RdX.oth {row : Option Nat} (h : RdX w X size A n xs) (hg : w.grownBy w' row) (hr : ∀ r, row = some r → ∃ o : Obj, w.heap[r]? = some o ∧ o.isCells = false) : RdX w' X size A n xs :=
  h.keep fun b _ _ _ hne hh => ⟨hg.block b (Array.getElem?_eq_some_iff.1 hh).1 (fun e => by
    obtain ⟨o, h1, h2⟩ := hr b e.symm
    rw [hh] at h1
    injection h1 with h1
    rw [← h1] at h2
    cases h2), hne⟩
end
theorem blk_othQ {w w' : World} {g : Nat} {t : TypeId} {cs : Array Value} {row : Option Nat} (h : Blk w g t cs) (hg : w.grownBy w' row) (hr : ∀ r, row = some r → ∃ o : Obj, w.heap[r]? = some o ∧ o.isCells = false) : Blk w' g t cs :=
  h.grown hg (fun e => by
    obtain ⟨o, ho, hc⟩ := hr g e.symm
    have hs' : w.heap[g]? = some (.cells cs t (0, 0)) := h
    rw [hs'] at ho
    injection ho with ho
    rw [← ho] at hc
    cases hc)
theorem below_othQ {W0 w w' : World} {B : Nat} {row : Option Nat} (h : Below B W0 w) (hg : w.grownBy w' row) (hB : B ≤ w.heap.size) (hr : ∀ r, row = some r → B ≤ r) : Below B W0 w' := h.trans ((Below.refl B w).grown hg hB (fun k hk => hr k hk))
theorem setCell_gr (W : World) (b i : Nat) (v : Value) : W.grownBy (W.setCell ⟨b, i, none⟩ v) (some b) :=
  ⟨rfl, rfl, rfl, by rw [World.size_setCell]; exact Nat.le_refl _, fun k _ hk => Below.heap_setCell W ⟨b, i, none⟩ v k (fun e => hk (by rw [e]))⟩
theorem rd_partQ {w : World} {B n : Nat} {A : Option Addr} {xs : List Value} (sz : Nat) (h : Rd w B sz A n xs) (i m : Nat) (hi : i + m ≤ n) : Rd w B sz (A.map (·.add (i * sz))) m ((xs.drop (i * sz)).take (m * sz)) := by
  have hx := h.1
  have h1 : (i + m) * sz ≤ n * sz := Nat.mul_le_mul_right _ hi
  rw [Nat.add_mul] at h1
  have hl : ((xs.drop (i * sz)).take (m * sz)).length = m * sz := by rw [List.length_take, List.length_drop]; omega
  refine ⟨hl, fun hp => ?_⟩
  rw [hl] at hp
  obtain ⟨b, off, e, hb, hc⟩ := h.2 (by omega)
  subst e
  refine ⟨b, off + i * sz, by simp [Addr.add], hb, fun j u hu => ?_⟩
  have hj : j < m * sz := by have := (List.getElem?_eq_some_iff.1 hu).1; omega
  rw [List.getElem?_take_of_lt hj, List.getElem?_drop] at hu
  have := hc (i * sz + j) u hu
  rw [Nat.add_assoc]
  exact this
end Go.Proofs.YtoppjcmkhhkbmaaGreat

namespace Go.Proofs.YtoppjcmkhhkbmaaGreat
open Go.RowKit

section
variable {F : Fence} {n : Nat} {P : Program}
/-- an iterator that hands out enc 0, enc 1, .. up to N of them, and stops where it is told so -/
def SeqIx (F : Fence) (n : Nat) (P : Program) (g : Nat) (lb : Array Value) (enc : Nat → Array Value) (Kp : World → World → Prop) (N : Nat) (w : World) : Prop :=
  ∀ (l : Nat) (J : Nat → World → Prop) (Jx : World → Prop) (W : World), Below w.heap.size w W → AbidesFrom W.heap.size J → AbidesFrom W.heap.size (fun (_ : Unit) => Jx) →
    (∀ k W1, k < N → J k W1 → YieldAt F (n - 1) P l (enc k) W1 fun e W' => (e = .returned (.bool true) ∧ J (k + 1) W' ∧ Kp W1 W') ∨ (e = .returned (.bool false) ∧ Jx W')) →
    J 0 W → CallsIn F n P g (#[.func (.yield l) #[] #[]] ++ lb) W fun e W' => (∃ v, e = .returned v) ∧ (J N W' ∨ Jx W')
/-- the loop's record -/
def lrec (fn : FuncId) (tmps : Array Value) (ps : Array Tmp) (assign body : Code) (d : Nat) (st : LoopState) (pe : Option Code) : Loop := { state := st, pending := pe, fn := fn, tmps := tmps, params := ps, assign := assign, body := body, defers := d }
/-- how a round's body may be left -/
def postIx (B : Nat) (Kp : World → World → Prop) (J Jx : World → Prop) (W : World) : Exit → Act → World → Prop
  | .normal, _, W' => KeepsFrom B W W' ∧ Kp W W' ∧ J W'
  | .ret, _, W' => KeepsFrom B W W' ∧ Jx W'
  | _, _, _ => False
theorem own_put {B l : Nat} {J : World → Prop} {W : World} {o : Obj} (h : OwnFrom B (fun (_ : Unit) => J)) (o' : Obj) (hj : J W) (hB : B ≤ l) (hl : W.heap[l]? = some o) (ho : o.isCells = false) : J (W.putObj l o') :=
  OwnFrom.putObj h (s := ()) o' hj hB hl ho
/-- one round -/
theorem round_ix {fn : FuncId} {tmps : Array Value} {ps : Array Tmp} {assign body : Code} {B l d : Nat} {Kp : World → World → Prop} {I J Jx : World → Prop} {Ax : Act → World → Prop} {t0 : Array Value} {W : World}
    (hfn : F.fn fn) (hBl : B ≤ l) (hI : OwnFrom B (fun (_ : Unit) => I)) (hJ : OwnFrom B (fun (_ : Unit) => J)) (hJx : OwnFrom B (fun (_ : Unit) => Jx)) (hAx : ∀ a', OwnFrom B (fun (_ : Unit) => Ax a'))
    (hKt : ∀ {X Y Z : World}, Kp X Y → Kp Y Z → Kp X Z) (hKb : ∀ (X : World) (o o' : Obj), X.heap[l]? = some o → o.isCells = false → o.isWalk = false → Kp X (X.putObj l o'))
    (hl : W.heap[l]? = some (.loop (lrec fn tmps ps assign body d .ready none)))
    (hassign : ∀ K : Act → World → Prop, (∀ a' W', KeepsFrom B W W' → Kp W W' → I W' → Ax a' W' → K a' W') → assign.wpIn (F.inRound l) n P (Exit.then K (fun _ _ _ => False)) { tmps := t0, defers := [] } W)
    (hbody : ∀ a' W', (∃ r, W'.heap[l]? = some (.loop r)) → I W' → Ax a' W' → body.wpIn (F.inRound l) n P (postIx B Kp J Jx W') a' W') :
    RoundIn F n P l fn t0 assign body W fun e W' => (∀ k o, B ≤ k → k ≠ l → W.heap[k]? = some o → o.isCells = false → W'.heap[k]? = some o) ∧
      ((e = .returned (.bool true) ∧ (J W' ∧ W'.heap[l]? = some (.loop (lrec fn tmps ps assign body d .ready none))) ∧ Kp W W') ∨ (e = .returned (.bool false) ∧ Jx W' ∧ W'.heap[l]? = some (.loop (lrec fn tmps ps assign body d .done (some .ret))))) := by
  refine roundIn_of_wpIn hfn (hassign _ fun a' Wa hk hkp hia hax => ?_)
  have hla := hk.same l _ hBl hl rfl
  have hlt : l < Wa.heap.size := (Array.getElem?_eq_some_iff.1 hla).1
  refine ⟨_, run_beginRound hla rfl, ?_⟩
  obtain ⟨Wb, hWb⟩ : ∃ Wb, Wb = Wa.putObj l (.loop { lrec fn tmps ps assign body d .ready none with state := .busy }) := ⟨_, rfl⟩
  have hlb : Wb.heap[l]? = some (.loop { lrec fn tmps ps assign body d .ready none with state := .busy }) := by rw [hWb]; exact World.putObj_heap_same hlt
  have hkb : Kp Wa Wb := by rw [hWb]; exact hKb _ _ _ hla rfl rfl
  have hib : I Wb := by rw [hWb]; exact own_put hI _ hia hBl hla rfl
  have hxb : Ax a' Wb := by rw [hWb]; exact own_put (hAx a') _ hax hBl hla rfl
  have hsame : ∀ k o, B ≤ k → k ≠ l → W.heap[k]? = some o → o.isCells = false → Wb.heap[k]? = some o := fun k o h1 h2 h3 h4 => by
    rw [hWb, World.putObj_heap_other h2]
    exact hk.same k o h1 h3 h4
  rw [← hWb]
  refine wpIn_mono (hbody a' Wb ⟨_, hlb⟩ hib hxb) ?_
  intro e a3 W3 hp
  have fin : ∀ (jump : Option Code), KeepsFrom B Wb W3 →
      (Instr.endRound l jump).run P W3 = .ok (.bool jump.isNone) (W3.putObj l (.loop (lrec fn tmps ps assign body d (if jump.isNone then .ready else .done) jump))) ∧ W3.heap[l]? = some (.loop { lrec fn tmps ps assign body d .ready none with state := .busy }) := fun jump h3 => by
    have hl3 := h3.same l _ hBl hlb rfl
    exact ⟨run_endRound (P := P) jump hl3, hl3⟩
  have oth : KeepsFrom B Wb W3 → ∀ (o' : Obj) k o, B ≤ k → k ≠ l → W.heap[k]? = some o → o.isCells = false → (W3.putObj l o').heap[k]? = some o := fun h3 o' k o h1 h2 h4 h5 => by
    rw [World.putObj_heap_other h2]
    exact h3.same k o h1 (hsame k o h1 h2 h4 h5) h5
  cases e with
  | normal =>
    obtain ⟨h3, hkp3, hj3⟩ := hp
    obtain ⟨hr, hl3⟩ := fin none h3
    exact ⟨_, _, hr, oth h3 _, .inl ⟨rfl, ⟨own_put hJ _ hj3 hBl hl3 rfl, World.putObj_heap_same (Array.getElem?_eq_some_iff.1 hl3).1⟩, hKt hkp (hKt (hKt hkb hkp3) (hKb _ _ _ hl3 rfl rfl))⟩⟩
  | ret =>
    obtain ⟨h3, hj3⟩ := hp
    obtain ⟨hr, hl3⟩ := fin (some .ret) h3
    exact ⟨_, _, hr, oth h3 _, .inr ⟨rfl, own_put hJx _ hj3 hBl hl3 rfl, World.putObj_heap_same (Array.getElem?_eq_some_iff.1 hl3).1⟩⟩
  | exit id => exact hp.elim
  | goto t => exact hp.elim
  | panic ch => exact hp.elim
  | outgrown => exact hp.elim
theorem own_weak {B C : Nat} {β : Type} {J : β → World → Prop} (h : OwnFrom B J) (hBC : B ≤ C) : AbidesFrom C J := fun s W W' row hs hg hr =>
  h s W W' row hs hg fun r e => by
    obtain ⟨h1, o, h2, h3⟩ := hr r e
    exact ⟨Nat.le_trans hBC h1, o, h2, Obj.not_cells_of_walk h3⟩
theorem kept_walk {W W' : World} {row : Option Nat} {k : Nat} {o : Obj} (hg : W.grownBy W' row) (hr : ∀ r, row = some r → ∃ o : Obj, W.heap[r]? = some o ∧ o.isWalk = true) (hk : W.heap[k]? = some o) (ho : o.isWalk = false) : W'.heap[k]? = some o := by
  refine (hg.block k (Array.getElem?_eq_some_iff.1 hk).1 fun e => ?_).trans hk
  obtain ⟨o2, h1, h2⟩ := hr k e.symm
  rw [hk] at h1
  injection h1 with h1
  rw [← h1, ho] at h2
  cases h2
/-- **the loop of a function** -/
theorem range_ix {g : Operand} {ps : Array Tmp} {assign body : Code} {Q : Exit → Act → World → Prop} {a : Act} {w : World} (hro : F.round = none) (h1 : 1 ≤ n) {gf : Nat} {lb : Array Value} (hg : a.eval g = .func (.func gf) #[] lb) (hFg : F.fn gf) (eg : ∀ args w, (callFunc gf args).run P w = .ok (.enter gf args) w)
    {enc : Nat → Array Value} {Kp : World → World → Prop} {N : Nat} {w0 : World} (hseq : SeqIx F (n - 1) P gf lb enc Kp N w0) (hKt : ∀ {A B C : World}, Kp A B → Kp B C → Kp A C)
    (hKb : ∀ (W : World) (l : Nat) (o o' : Obj), w.heap.size ≤ l → W.heap[l]? = some o → o.isCells = false → o.isWalk = false → Kp W (W.putObj l o')) (hb0 : Below w0.heap.size w0 w) (hps : ∀ k, (enc k).size = ps.size)
    (I : Nat → World → Prop) (Jx : World → Prop) (hI : OwnFrom w.heap.size I) (hJx : OwnFrom w.heap.size (fun (_ : Unit) => Jx)) (h0 : I 0 w) (Ax : Nat → Act → World → Prop) (hAx : ∀ k a', OwnFrom w.heap.size (fun (_ : Unit) => Ax k a'))
    (hassign : ∀ (l k : Nat) (W : World) (K : Act → World → Prop), k < N → I k W → (∀ a' W', KeepsFrom w.heap.size W W' → Kp W W' → I k W' → Ax k a' W' → K a' W') →
      assign.wpIn (F.inRound l) (n - 1 - 1) P (Exit.then K (fun _ _ _ => False)) { tmps := (ps.zip (enc k)).foldl (fun t (p, v) => t.setIfInBounds p v) a.tmps, defers := [] } W)
    (hbody : ∀ (l k : Nat) (a' : Act) (W : World), w.heap.size ≤ l → (∃ r, W.heap[l]? = some (.loop r)) → k < N → I k W → Ax k a' W → body.wpIn (F.inRound l) (n - 1 - 1) P (postIx w.heap.size Kp (I (k + 1)) Jx W) a' W)
    (hdone : ∀ (D : Nat) (W : World), w.heap.size ≤ D → I N W → W.heap[D]? = some (.deferred (some [])) → Q .normal { a with defers := { target := .collected D, args := #[] } :: a.defers } W)
    (hstop : ∀ (D : Nat) (W : World), w.heap.size ≤ D → Jx W → W.heap[D]? = some (.deferred (some [])) → Code.ret.wpIn F n P Q { a with defers := { target := .collected D, args := #[] } :: a.defers } W) :
    (Code.rangeFunc g ps assign body).wpIn F n P Q a w := by
  refine wpIn_rangeFunc fun fn hfn => ?_
  rw [hro]
  obtain ⟨W1, hW1⟩ : ∃ W1, (w.alloc (.deferred (some []))).alloc (.loop (lrec fn a.tmps ps assign body w.heap.size .ready none)) = W1 := ⟨_, rfl⟩
  have hL1 : W1.heap[w.heap.size + 1]? = some (.loop (lrec fn a.tmps ps assign body w.heap.size .ready none)) := by
    have h := World.alloc_heap_new (w.alloc (.deferred (some []))) (.loop (lrec fn a.tmps ps assign body w.heap.size .ready none))
    rw [World.size_alloc] at h
    rw [← hW1]
    exact h
  have hD1 : W1.heap[w.heap.size]? = some (.deferred (some [])) := by
    rw [← hW1]
    exact (Below.heap_alloc _ _ _ (by simp)).trans (World.alloc_heap_new w _)
  have hs1 : W1.heap.size = w.heap.size + 2 := by rw [← hW1]; simp
  refine ⟨w.heap.size + 1, [{ target := .collected w.heap.size, args := #[] }], W1, { target := .fn (.func gf) lb, args := #[.func (.yield (w.heap.size + 1)) #[] #[]] }, W1, gf, #[.func (.yield (w.heap.size + 1)) #[] #[]] ++ lb, W1, ?_, ?_, ?_, ?_, fun _ => h1, ?_⟩
  · rw [← hW1]; exact run_enterLoop_outer _ _ _ _ _
  · simp only [resolve, hg]
    simp [go_sem]
  · intro f' hf'
    simp [Target.leads] at hf'
    subst hf'
    exact hFg
  · simp [invoke, go_sem, eg]
  · refine (hseq (w.heap.size + 1)
      (fun k W => I k W ∧ W.heap[w.heap.size + 1]? = some (.loop (lrec fn a.tmps ps assign body w.heap.size .ready none)) ∧ W.heap[w.heap.size]? = some (.deferred (some [])))
      (fun W => Jx W ∧ W.heap[w.heap.size + 1]? = some (.loop (lrec fn a.tmps ps assign body w.heap.size .done (some .ret))) ∧ W.heap[w.heap.size]? = some (.deferred (some [])))
      W1 (by rw [← hW1]; exact hb0.trans ((((Below.refl _ w).alloc (Nat.le_refl _) _).alloc (by simp) _).mono hb0.size))
      (fun s X Y row hs hgr hr => ⟨own_weak hI (by omega) s X Y row hs.1 hgr hr, kept_walk hgr (fun r e => (hr r e).2) hs.2.1 rfl, kept_walk hgr (fun r e => (hr r e).2) hs.2.2 rfl⟩)
      (fun s X Y row hs hgr hr => ⟨own_weak hJx (by omega) s X Y row hs.1 hgr hr, kept_walk hgr (fun r e => (hr r e).2) hs.2.1 rfl, kept_walk hgr (fun r e => (hr r e).2) hs.2.2 rfl⟩)
      ?_ ⟨by rw [← hW1]; exact hI.alloc _ (hI.alloc _ h0), hL1, hD1⟩).mono ?_
    · rintro k W hk ⟨hi, hl, hd⟩
      refine ⟨fn, _, assign, body, run_yield hl (hps k), ?_⟩
      refine (round_ix (B := w.heap.size) (l := w.heap.size + 1) (Kp := Kp) (I := I k) (J := I (k + 1)) (Jx := Jx) (Ax := Ax k) hfn (by omega) (fun _ X Y row hs hgr hr => hI k X Y row hs hgr hr) (fun _ X Y row hs hgr hr => hI (k + 1) X Y row hs hgr hr) hJx (fun a' => hAx k a') hKt
        (fun X o o' h2 h3 h4 => hKb X _ o o' (by omega) h2 h3 h4) hl (fun K hK => hassign _ k W K hk hi hK) (fun a' W' hr hi' hx => hbody _ k a' W' (by omega) hr hk hi' hx)).mono ?_
      rintro e W' ⟨hsm, (⟨he, ⟨hj, hl'⟩, hkp⟩ | ⟨he, hj, hl'⟩)⟩
      · exact .inl ⟨he, ⟨hj, hl', hsm _ _ (Nat.le_refl _) (by omega) hd rfl⟩, hkp⟩
      · exact .inr ⟨he, hj, hl', hsm _ _ (Nat.le_refl _) (by omega) hd rfl⟩
    · rintro e W2 ⟨⟨v, rfl⟩, (⟨hi, hl, hd⟩ | ⟨hj, hl, hd⟩)⟩
      · exact ⟨none, _, run_endLoop (P := P) hl (by intro h; cases h), hdone _ _ (Nat.le_refl _) (hI.putObj _ hi (by omega) hl rfl) ((World.putObj_heap_other (by omega)).trans hd)⟩
      · exact ⟨some .ret, _, run_endLoop (P := P) hl (by intro h; cases h), hstop _ _ (Nat.le_refl _) (own_put hJx _ hj (by omega) hl rfl) ((World.putObj_heap_other (by omega)).trans hd)⟩
theorem SeqIx.inRound {g : Nat} {lb : Array Value} {enc : Nat → Array Value} {Kp : World → World → Prop} {N : Nat} {w0 : World} (l : Nat) (h : SeqIx F n P g lb enc Kp N w0) : SeqIx (F.inRound l) n P g lb enc Kp N w0 := h
end
end Go.Proofs.YtoppjcmkhhkbmaaGreat

namespace Go.Proofs.YtoppjcmkhhkbmaaGreat
open Go.RowKit Go.Shelf

/-- what a round keeps: the two boxes that the iterator reads -/
def Kp2 (b : Nat) (W W' : World) : Prop := ∀ k, b ≤ k → k ≤ b + 1 → W'.heap[k]? = W.heap[k]?
theorem kp2_t {b : Nat} {A B C : World} (h : Kp2 b A B) (k : Kp2 b B C) : Kp2 b A C := fun i h1 h2 => (k i h1 h2).trans (h i h1 h2)
theorem kp2_b {b : Nat} {w : World} (hb : b + 1 < w.heap.size) (W : World) (l : Nat) (o o' : Obj) (hl : w.heap.size ≤ l) (h : W.heap[l]? = some o) (_ : o.isCells = false) (_ : o.isWalk = false) : Kp2 b W (W.putObj l o') := fun k _ h2 =>
  (grownBy_putObj' W l o').block k (by have := (Array.getElem?_eq_some_iff.1 h).1; omega) (by simp; omega)
end Go.Proofs.YtoppjcmkhhkbmaaGreat

namespace Go.Proofs.YtoppjcmkhhkbmaaGreat
open Go.RowKit Go.Shelf
attribute [local go_sem] Oper.semAt_some

/-- a chunk by its number -/
abbrev encCB (A : Option Addr) (n m : Nat) (j : Nat) : Array Value := #[.slice (A.map (·.add (j * m * 1))) (min m (n - j * m)) (min m (n - j * m))]
/-- the two boxes: the slice, the chunks' length -/
def BxCB (W : World) (b : Nat) (A : Option Addr) (n c m : Nat) : Prop := Blk W b 22 #[.slice A n c] ∧ Blk W (b + 1) 3 #[.int .i64 (m : Int)]
theorem BxCB.keep {W W' : World} {b : Nat} {A : Option Addr} {n c m : Nat} (h : BxCB W b A n c m) (hk : Kp2 b W W') : BxCB W' b A n c m :=
  ⟨(hk b (Nat.le_refl _) (by omega)).trans h.1, (hk (b + 1) (by omega) (by omega)).trans h.2⟩
theorem BxCB.below {W W' : World} {B b : Nat} {A : Option Addr} {n c m : Nat} (h : BxCB W b A n c m) (hb : Below B W W') (hB : b + 1 < B) : BxCB W' b A n c m :=
  ⟨h.1.below hb (by omega), h.2.below hb (by omega)⟩
set_option maxRecDepth 100000 in
theorem slc3CB (A : Option Addr) (n c x e : Nat) (hx : x + e ≤ n) (he : 0 < e) (hc : n ≤ c) (w : World) : (Instr.slice 22 (.slice A n c) (some (.int .i64 (x : Int))) (some (.int .i64 ((x : Int) + (e : Int)))) (some (.int .i64 ((x : Int) + (e : Int))))).run Tryz.prog w = .ok (.slice (A.map (·.add (x))) e e) w := by
  have h : sliced A x (x + e) (x + e) 1 = .slice (A.map (·.add (x))) e e := by
    unfold sliced
    rw [if_neg (by omega), show x + e - x = e by omega, Nat.mul_one]
  rw [← h, run_slice_lhm (P := Tryz.prog) (w := w) 22 A n c Tryz.underlying22 .i64 .i64 .i64 (x : Int) ((x : Int) + (e : Int)) ((x : Int) + (e : Int)) (by omega) (by omega) (by omega) (by omega)]
  rfl
set_option maxRecDepth 100000 in
theorem slc1CB (A : Option Addr) (n c x : Nat) (hx : x ≤ n) (w : World) : ∃ A3 c3, (Instr.slice 22 (.slice A n c) (some (.int .i64 (x : Int))) none none).run Tryz.prog w = .ok (.slice A3 (n - x) c3) w ∧ ∀ w2, (Instr.slice 22 (.slice A n c) (some (.int .i64 (x : Int))) none none).run Tryz.prog w2 = .ok (.slice A3 (n - x) c3) w2 := by
  have h : ∀ w2, (Instr.slice 22 (.slice A n c) (some (.int .i64 (x : Int))) none none).run Tryz.prog w2 = .ok (sliced A x n c 1) w2 := by
    intro w2
    rw [run_slice_l (P := Tryz.prog) (w := w2) 22 A n c Tryz.underlying22 .i64 (x : Int) (by omega) (by omega)]
    rfl
  exact ⟨_, _, h w, h⟩
set_option maxRecDepth 100000 in
set_option maxHeartbeats 4000000 in
theorem chunkCB_ix (N b : Nat) (hN : 1 ≤ N) (A : Option Addr) (n c m : Nat) (hm : 1 ≤ m) (hm2 : m ≤ 10000000) (hn : n ≤ 10000000) (hc : n ≤ c) (W0 : World) (hb0 : BxCB W0 b A n c m) :
    SeqIx Fence.wide N Tryz.prog 67 #[.pointer (some ⟨b, 0, none⟩), .pointer (some ⟨b + 1, 0, none⟩)] (encCB A n m) (Kp2 b) ((n + m - 1) / m) W0 := fun lp J Jx W hW hJ hJx hY h0 => by
  have HB := hid (hb0.below hW hb0.2.lt)
  have HJ := hid hJ
  have HY := hid hY
  clear hb0 hJ hY hJx
  refine callsIn_of_wp Tryz.func67 rfl trivial ?_ rfl
  simp only [Tryz.ntmps67, List.size_toArray, List.length_cons, List.length_nil, Nat.reduceAdd, Nat.reduceSub, Array.replicate_succ, Array.replicate_zero, List.push_toArray, List.append_toArray, List.nil_append, List.cons_append]
  gi_wp2
  gi_loopw [4] (fun i wr => ∃ j x : Nat, i = .int .i64 (x : Int) ∧ x ≤ n + m ∧ Hid (x = j * m) ∧ J j wr ∧ BxCB wr b A n c m ∧ Hid (x < n + m ∨ j = 0) ∧ Hid (j ≤ (n + m - 1) / m)) (fun i _ => n + m - (intOf i).toNat)
  case atStart => exact ⟨0, 0, rfl, by omega, hid (Nat.zero_mul m).symm, h0, HB.out, hid (.inr rfl), hid (Nat.zero_le _)⟩
  case round =>
    obtain ⟨j, x, rfl, hx, HX, hj, hbx, HLt, HJle⟩ := hrel
    have Hj := hid hj
    have Hbx := hid hbx
    have r0 := hbx.1.cell 0
    have r1 := hbx.2.cell 0
    have l1 := hbx.2.lt
    have l0 : b < wr.heap.size := by omega
    simp only [List.getElem?_toArray, List.getElem?_cons_zero] at r0 r1
    clear hj hbx h0 HB
    by_cases hlt : x < n
    · have d2 : decide (x < n) = true := decide_eq_true hlt
      have d2i : decide ((x : Int) < (n : Int)) = true := decide_eq_true (by omega)
      obtain ⟨A3, c3, _, hs1⟩ := slc1CB A n c x (by omega) wr
      obtain ⟨e, he⟩ : ∃ e, e = min m (n - x) := ⟨_, rfl⟩
      have he0 : 0 < e := by omega
      have hee : x + e ≤ n := by omega
      have hmin : (if (m : Int) ≤ ((n - x : Nat) : Int) then (m : Int) else ((n - x : Nat) : Int)) = (e : Int) := by split <;> omega
      have hmin2 : (if ((n - x : Nat) : Int) < (m : Int) then ((n - x : Nat) : Int) else (m : Int)) = (e : Int) := by split <;> omega
      have hs3 := fun w => slc3CB A n c x e hee he0 hc w
      have HE := hid he
      have hjq : j < (n + m - 1) / m := by
        rw [Nat.lt_div_iff_mul_lt (by omega)]
        have := HX.out
        have h2 := Nat.mul_comm m j
        omega
      have HJQ := hid hjq
      clear he hjq
      obtain ⟨lx, hlx⟩ : ∃ lx, lx = n - x := ⟨_, rfl⟩
      rw [← hlx] at hs1 hmin hmin2
      have Hlx := hid hlx
      have hlx1 : lx ≤ 10000000 := by omega
      clear hlx
      gi_wp2
      refine wpIn_wide.2 ?_
      go_quiet (fail)
      have hmin3 : (if lx < m then (lx : Int) else (m : Int)) = (e : Int) := by split <;> omega
      rw [hmin3]
      have hb1 := below_drewN (Below.refl wr.heap.size wr) nq
      have hj1 := HJ.out _ _ _ none Hj.out ⟨hb1.os, hb1.tape, hb1.output, hb1.size, fun k hk _ => hb1.block k hk⟩ (by simp)
      have Hbx1 := hid (Hbx.out.below hb1 Hbx.out.2.lt)
      obtain ⟨w1, hw1⟩ : ∃ w1, w1 = wr.drewN nq := ⟨_, rfl⟩
      rw [← hw1] at hj1 Hbx1 ⊢
      obtain ⟨f1, t1, a1, bd1, hy1, hR1⟩ := HY.out j w1 HJQ.out hj1
      have heq : encCB A n m j = #[.slice (A.map (·.add (x))) e e] := by
        show #[Value.slice (A.map (·.add (j * m * 1))) (min m (n - j * m)) (min m (n - j * m))] = _
        rw [← HX.out, ← HE.out, Nat.mul_one]
      rw [heq] at hy1
      have HR := hid hR1
      clear hb1 hj1 hw1 hR1 r0 r1 l0 l1 Hj Hbx heq hmin hmin2 hmin3 hs1
      have r0 := Hbx1.out.1.cell 0
      have r1 := Hbx1.out.2.cell 0
      have l1 := Hbx1.out.2.lt
      have l0 : b < w1.heap.size := by omega
      simp only [List.getElem?_toArray, List.getElem?_cons_zero] at r0 r1
      gi_wp2
      refine HR.out.mono ?_
      rintro ev W1 (⟨rfl, hJ1, hk1⟩ | ⟨rfl, hx1⟩)
      · have Hb4 := hid (Hbx1.out.keep hk1)
        have HJ1 := hid hJ1
        clear hk1 hJ1 r0 r1 l0 l1 Hbx1
        have r0 := Hb4.out.1.cell 0
        have r1 := Hb4.out.2.cell 0
        have l1 := Hb4.out.2.lt
        have l0 : b < W1.heap.size := by omega
        simp only [List.getElem?_toArray, List.getElem?_cons_zero] at r0 r1
        gi_wp2
        go_roundw
        case rel => exact ⟨j + 1, x + m, by go_num, by omega, hid (by rw [Nat.succ_mul, ← HX.out]), HJ1.out, Hb4.out, hid (.inl (by omega)), hid HJQ.out⟩
        case measure => simp [intOf]; omega
      · gi_wp2
        refine bodyPost_ret (results_none rfl _ _ _) rfl ?_
        exact ⟨⟨_, rfl⟩, .inr hx1⟩
    · have d2 : decide (x < n) = false := decide_eq_false hlt
      have d2i : decide ((x : Int) < (n : Int)) = false := decide_eq_false (by omega)
      gi_wp2
      go_end0
      have h1 := HJle.out
      have h2 : (n + m - 1) / m ≤ j := by
        rw [Nat.div_le_iff_le_mul_add_pred (by omega)]
        have := HX.out
        have h3 := Nat.mul_comm m j
        omega
      have e : j = (n + m - 1) / m := by omega
      rw [← e]
      exact ⟨⟨_, rfl⟩, .inl Hj.out⟩
theorem chunkFCB_any (A : Option Addr) (n c m : Nat) (hm : 1 ≤ m) (W : World) :
    Calls Tryz.prog 30 #[.slice A n c, .int .i64 (m : Int)] W fun e w' => e = .returned (.func (.func 67) #[] #[.pointer (some ⟨W.heap.size, 0, none⟩), .pointer (some ⟨W.heap.size + 1, 0, none⟩)]) ∧ BxCB w' W.heap.size A n c m ∧ Below W.heap.size W w' ∧ w'.heap.size = W.heap.size + 2 := by
  have h2 := Blk.new (W.alloc (.cells #[.slice A n c] 22)) 3 #[.int .i64 (m : Int)]
  simp only [World.size_alloc] at h2
  have d1 : decide ((m : Int) < 1) = false := decide_eq_false (by omega)
  go_enter Tryz.func30, Tryz.ntmps30
  go_wp2
  go_ret
  exact ⟨rfl, ⟨(Blk.new W 22 #[.slice A n c]).alloc _, h2⟩, ((Below.refl _ _).alloc (Nat.le_refl _) _).alloc (by simp) _, by simp⟩
end Go.Proofs.YtoppjcmkhhkbmaaGreat

namespace Go.Proofs.YtoppjcmkhhkbmaaGreat
open Go.RowKit Go.Shelf
attribute [local go_sem] Oper.semAt_some
/-- the two boxes: the slice, the chunks' length -/
def BxCI (W : World) (b : Nat) (A : Option Addr) (n c m : Nat) : Prop := Blk W b 65 #[.slice A n c] ∧ Blk W (b + 1) 3 #[.int .i64 (m : Int)]
theorem BxCI.keep {W W' : World} {b : Nat} {A : Option Addr} {n c m : Nat} (h : BxCI W b A n c m) (hk : Kp2 b W W') : BxCI W' b A n c m :=
  ⟨(hk b (Nat.le_refl _) (by omega)).trans h.1, (hk (b + 1) (by omega) (by omega)).trans h.2⟩
theorem BxCI.below {W W' : World} {B b : Nat} {A : Option Addr} {n c m : Nat} (h : BxCI W b A n c m) (hb : Below B W W') (hB : b + 1 < B) : BxCI W' b A n c m :=
  ⟨h.1.below hb (by omega), h.2.below hb (by omega)⟩
end Go.Proofs.YtoppjcmkhhkbmaaGreat
