/-
  Canonical codes, plainly: a symbol is read the same by rows of codes of one length and by looking through all codes.
  Canonical codes of lengths, plainly: the order of the symbols, their codes.
-/
import Derived.Test.YthhllollhjpheaaBase
namespace Go.Proofs.Ythhllollhjpheaa.Cd

/-- how much of 65536 a code of a length takes -/
def pw (l : Nat) : Nat := 2 ^ (16 - l)
theorem pw_pos (l : Nat) : 0 < pw l := Nat.pow_pos (by omega)
theorem pw_dvd {l n : Nat} (h : l ≤ n) : pw n ∣ pw l := Nat.pow_dvd_pow 2 (by omega)
theorem pw_half {n : Nat} (h1 : 1 ≤ n) (h : n ≤ 16) : pw (n - 1) = 2 * pw n := by
  unfold pw
  rw [show 16 - (n - 1) = (16 - n) + 1 by omega, Nat.pow_succ]
  omega
abbrev SL := List (Nat × Nat)
def tot (l : SL) : Nat := (l.map (fun x => pw x.2)).sum
theorem tot_nil : tot [] = 0 := rfl
theorem tot_cons (x : Nat × Nat) (l : SL) : tot (x :: l) = pw x.2 + tot l := by simp [tot]
theorem tot_append (l m : SL) : tot (l ++ m) = tot l + tot m := by simp [tot]
theorem tot_same {n : Nat} : ∀ {l : SL}, (∀ x ∈ l, x.2 = n) → tot l = l.length * pw n
  | [], _ => by simp [tot]
  | x :: l, h => by
    rw [tot_cons, tot_same (fun y hy => h y (by simp [hy])), h x (by simp), List.length_cons, Nat.succ_mul]
    omega
theorem tot_dvd {n : Nat} : ∀ {l : SL}, (∀ x ∈ l, x.2 ≤ n) → pw n ∣ tot l
  | [], _ => ⟨0, by simp [tot]⟩
  | x :: l, h => by
    rw [tot_cons]
    exact (Nat.dvd_add_right (pw_dvd (h x (by simp)))).2 (tot_dvd (fun y hy => h y (by simp [hy])))
/-- what the codes below a length take -/
def low (l : SL) (n : Nat) : Nat := tot (l.filter (fun x => decide (x.2 < n)))
def rowOf (l : SL) (n : Nat) : List Nat := (l.filter (fun x => decide (x.2 = n))).map (·.1)
/-- codes, the shorter ones first -/
structure Ok (l : SL) : Prop where
  len : ∀ x ∈ l, 1 ≤ x.2 ∧ x.2 ≤ 16
  sorted : l.Pairwise (fun x y => x.2 ≤ y.2)
  kraft : tot l ≤ 65536
theorem split3 (n : Nat) : ∀ {l : SL}, l.Pairwise (fun x y => x.2 ≤ y.2) → l = l.filter (fun x => decide (x.2 < n)) ++ (l.filter (fun x => decide (x.2 = n)) ++ l.filter (fun x => decide (n < x.2)))
  | [], _ => rfl
  | x :: l, h => by
    rw [List.pairwise_cons] at h
    have ih := split3 n h.2
    rcases Nat.lt_trichotomy x.2 n with hx | hx | hx
    · rw [List.filter_cons_of_pos (by simpa using hx), List.filter_cons_of_neg (by simp; omega), List.filter_cons_of_neg (by simp; omega), List.cons_append]
      exact congrArg (x :: ·) ih
    · have e1 : l.filter (fun x => decide (x.2 < n)) = [] := List.filter_eq_nil_iff.2 fun y hy => by have := h.1 y hy; simp; omega
      rw [e1] at ih
      rw [List.filter_cons_of_neg (by simp; omega), List.filter_cons_of_pos (by simpa using hx), List.filter_cons_of_neg (by simp; omega), e1, List.nil_append, List.cons_append]
      exact congrArg (x :: ·) ih
    · have e1 : l.filter (fun x => decide (x.2 < n)) = [] := List.filter_eq_nil_iff.2 fun y hy => by have := h.1 y hy; simp; omega
      have e2 : l.filter (fun x => decide (x.2 = n)) = [] := List.filter_eq_nil_iff.2 fun y hy => by have := h.1 y hy; simp; omega
      rw [e1, e2] at ih
      rw [List.filter_cons_of_neg (by simp; omega), List.filter_cons_of_neg (by simp; omega), List.filter_cons_of_pos (by simpa using hx), e1, e2]
      exact congrArg (x :: ·) ih
theorem low_succ (l : SL) (n : Nat) : low l (n + 1) = low l n + (rowOf l n).length * pw n := by
  unfold low rowOf
  induction l with
  | nil => simp [tot]
  | cons x l ih =>
    rcases Nat.lt_trichotomy x.2 n with hx | hx | hx
    · rw [List.filter_cons_of_pos (by simp; omega), List.filter_cons_of_pos (by simpa using hx), List.filter_cons_of_neg (by simp; omega), tot_cons, tot_cons, ih]
      omega
    · rw [List.filter_cons_of_pos (by simp; omega), List.filter_cons_of_neg (by simp; omega), List.filter_cons_of_pos (by simpa using hx), tot_cons, ih, List.map_cons, List.length_cons, Nat.succ_mul, hx]
      omega
    · rw [List.filter_cons_of_neg (by simp; omega), List.filter_cons_of_neg (by simp; omega), List.filter_cons_of_neg (by simp; omega)]
      exact ih
theorem low_mono (l : SL) {m n : Nat} (h : m ≤ n) : low l m ≤ low l n := by
  induction n with
  | zero => rw [Nat.le_zero.1 h]; exact Nat.le_refl _
  | succ n ih =>
    rcases Nat.lt_or_ge m (n + 1) with h1 | h1
    · have := ih (by omega)
      rw [low_succ]
      omega
    · rw [show m = n + 1 by omega]
      exact Nat.le_refl _
theorem low_dvd (l : SL) (n : Nat) : pw n ∣ low l n := tot_dvd (fun x hx => by have := (List.mem_filter.1 hx).2; simp at this; omega)
theorem low_dvd' (l : SL) (n : Nat) : pw n ∣ low l (n + 1) := tot_dvd (fun x hx => by have := (List.mem_filter.1 hx).2; simp at this; omega)
theorem low_top {l : SL} (h : Ok l) : low l 17 = tot l := by
  unfold low
  rw [List.filter_eq_self.2]
  intro x hx
  have := (h.len x hx).2
  simp
  omega
theorem low_one {l : SL} (h : Ok l) : low l 1 = 0 := by
  unfold low
  rw [List.filter_eq_nil_iff.2]
  · rfl
  · intro x hx
    have := (h.len x hx).1
    simp
    omega
/-- how a reading ends -/
inductive Rd where
  | sym (s n : Nat)
  | short
  | bad
/-- by the places where the lengths begin -/
def rdC (l : SL) (bt : Nat → Nat) (N : Nat) : Nat → Nat → Nat → Rd
  | 0, _, _ => .bad
  | f + 1, n, c => if N < n then .short else
    if (2 * c + bt (n - 1)) * pw n < low l (n + 1) then .sym ((rowOf l n).getD (2 * c + bt (n - 1) - low l n / pw n) 0) n
    else if (2 * c + bt (n - 1)) * pw n < tot l then rdC l bt N f (n + 1) (2 * c + bt (n - 1)) else .bad
/-- by rows; lc, ll: the last code and its length -/
def rdP (F : Nat → Nat) (S : Nat → List Nat) (ll lc : Nat) (bt : Nat → Nat) (N : Nat) : Nat → Nat → Nat → Nat → Rd
  | 0, _, _, _ => .bad
  | f + 1, n, c, o => if o = 0 then .bad else if N < n then .short else
    if F n ≤ 2 * c + bt (n - 1) ∧ 2 * c + bt (n - 1) - F n < (S n).length then .sym ((S n).getD (2 * c + bt (n - 1) - F n) 0) n
    else if n < 16 ∧ (ll < n ∨ lc / 2 ^ (ll - n) < 2 * c + bt (n - 1)) then .bad else rdP F S ll lc bt N f (n + 1) (2 * c + bt (n - 1)) (o - (S n).length)
/-- codes with their starts -/
def ksOf : Nat → SL → List (Nat × Nat × Nat)
  | _, [] => []
  | a, x :: l => (x.1, x.2, a) :: ksOf (a + pw x.2) l
/-- by all codes -/
def rdR (ks : List (Nat × Nat × Nat)) (bt : Nat → Nat) (N : Nat) : Nat → Nat → Nat → Rd
  | 0, _, _ => .bad
  | f + 1, n, c => if N < n then .short else
    match ks.find? (fun x => x.2.1 == n && x.2.2 == (2 * c + bt (n - 1)) * pw n) with
    | some x => .sym x.1 n
    | none => if ks.any (fun x => decide (n < x.2.1) && x.2.2 / pw n == 2 * c + bt (n - 1)) then rdR ks bt N f (n + 1) (2 * c + bt (n - 1)) else .bad
theorem rowOf_length (l : SL) (n : Nat) : (rowOf l n).length = (l.filter (fun x => decide (x.2 = n))).length := by simp [rowOf]
/-- how many codes have a length or more -/
def openN (l : SL) (n : Nat) : Nat := (l.filter (fun x => decide (n ≤ x.2))).length
theorem openN_succ (l : SL) (n : Nat) : openN l n = (rowOf l n).length + openN l (n + 1) := by
  unfold openN rowOf
  induction l with
  | nil => rfl
  | cons x l ih =>
    rcases Nat.lt_trichotomy x.2 n with hx | hx | hx
    · rw [List.filter_cons_of_neg (by simp; omega), List.filter_cons_of_neg (by simp; omega), List.filter_cons_of_neg (by simp; omega)]
      exact ih
    · rw [List.filter_cons_of_pos (by simp; omega), List.filter_cons_of_pos (by simpa using hx), List.filter_cons_of_neg (by simp; omega), List.map_cons, List.length_cons, List.length_cons, ih]
      omega
    · rw [List.filter_cons_of_pos (by simp; omega), List.filter_cons_of_neg (by simp; omega), List.filter_cons_of_pos (by simp; omega), List.length_cons, List.length_cons, ih]
      omega
theorem openN_pos {l : SL} {n : Nat} (hlt : low l n < tot l) : 0 < openN l n := by
  rcases Nat.eq_zero_or_pos (openN l n) with h0 | h0
  · exfalso
    unfold openN at h0
    have h1 := List.eq_nil_of_length_eq_zero h0
    have : low l n = tot l := by
      unfold low
      rw [List.filter_eq_self.2]
      intro x hx
      have := List.filter_eq_nil_iff.1 h1 x hx
      simp at this ⊢
      omega
    omega
  · exact h0
theorem openN_zero {l : SL} (h : Ok l) : openN l 17 = 0 := by
  unfold openN
  rw [List.filter_eq_nil_iff.2]
  · rfl
  · intro x hx
    have := (h.len x hx).2
    simp
    omega
theorem openN_one {l : SL} (h : Ok l) : openN l 1 = l.length := by
  unfold openN
  rw [List.filter_eq_self.2]
  intro x hx
  have := (h.len x hx).1
  simp
  omega
/-- the last code -/
theorem last_start {l : SL} (h : Ok l) {m : SL} {x : Nat × Nat} (e : l = m ++ [x]) : tot l = tot m + pw x.2 ∧ pw x.2 ∣ tot m ∧ (∀ y ∈ l, y.2 ≤ x.2) := by
  subst e
  have hs := h.sorted
  rw [List.pairwise_append] at hs
  refine ⟨by rw [tot_append, tot_cons, tot_nil]; rfl, tot_dvd (fun y hy => hs.2.2 y hy x (by simp)), fun y hy => ?_⟩
  rw [List.mem_append] at hy
  rcases hy with hy | hy
  · exact hs.2.2 y hy x (by simp)
  · rw [List.mem_singleton.1 hy]; exact Nat.le_refl _
/-- past the longest code nothing begins -/
theorem past_iff {l : SL} (h : Ok l) {m : SL} {x : Nat × Nat} (e : l = m ++ [x]) {n c : Nat} (hn : n ≤ 16) (hlo : low l (n + 1) ≤ c * pw n) : (x.2 < n ∨ tot m / pw x.2 / 2 ^ (x.2 - n) < c) ↔ ¬ c * pw n < tot l := by
  obtain ⟨h1, h2, h3⟩ := last_start h e
  have hx := h.len x (by rw [e]; simp)
  constructor
  · intro hp hlt
    have hlen : n < x.2 := by
      rcases Nat.lt_or_ge n x.2 with h4 | h4
      · exact h4
      · exfalso
        have : low l (n + 1) = tot l := by
          unfold low
          rw [List.filter_eq_self.2]
          intro y hy
          have := h3 y hy
          simp
          omega
        omega
    have hd : pw x.2 ∣ c * pw n := Nat.dvd_trans (pw_dvd (by omega)) (Nat.dvd_mul_left _ _)
    have hle : c * pw n ≤ tot m := by
      obtain ⟨a, ha⟩ := hd
      obtain ⟨b, hb⟩ := h2
      have hpp := pw_pos x.2
      rw [h1, ha, hb] at hlt
      rw [ha, hb]
      have : a < b + 1 := by
        have h5 : pw x.2 * a < pw x.2 * (b + 1) := by rw [Nat.mul_add, Nat.mul_one]; exact hlt
        exact Nat.lt_of_mul_lt_mul_left h5
      exact Nat.mul_le_mul_left _ (by omega)
    rcases hp with hp | hp
    · omega
    · have e1 : tot m / pw x.2 / 2 ^ (x.2 - n) = tot m / pw n := by
        rw [Nat.div_div_eq_div_mul]
        congr 1
        unfold pw
        rw [← Nat.pow_add]
        congr 1
        omega
      rw [e1] at hp
      have := (Nat.le_div_iff_mul_le (pw_pos n)).2 hle
      omega
  · intro hge
    rcases Nat.lt_or_ge x.2 n with h4 | h4
    · exact .inl h4
    · right
      have e1 : tot m / pw x.2 / 2 ^ (x.2 - n) = tot m / pw n := by
        rw [Nat.div_div_eq_div_mul]
        congr 1
        unfold pw
        rw [← Nat.pow_add]
        congr 1
        omega
      rw [e1]
      have hpp := pw_pos x.2
      exact (Nat.div_lt_iff_lt_mul (pw_pos n)).2 (by omega)
theorem in_row {l : SL} (n c : Nat) (hlo : low l n ≤ c * pw n) : (c * pw n < low l (n + 1)) ↔ (low l n / pw n ≤ c ∧ c - low l n / pw n < (rowOf l n).length) := by
  obtain ⟨a, ha⟩ := low_dvd l n
  have hp := pw_pos n
  rw [low_succ, ha, Nat.mul_div_cancel_left _ hp]
  rw [ha, Nat.mul_comm (pw n) a] at hlo
  have h1 : a ≤ c := Nat.le_of_mul_le_mul_right hlo hp
  rw [Nat.mul_comm (pw n) a, ← Nat.add_mul]
  constructor
  · intro h
    have := Nat.lt_of_mul_lt_mul_right h
    exact ⟨h1, by omega⟩
  · intro ⟨_, h⟩
    exact Nat.mul_lt_mul_of_pos_right (by omega) hp
theorem rdP_eq {l : SL} (h : Ok l) {m : SL} {x : Nat × Nat} (e : l = m ++ [x]) (F : Nat → Nat) (S : Nat → List Nat) (bt : Nat → Nat) (N : Nat) (hb : ∀ i, bt i ≤ 1) (hS : ∀ n, S n = rowOf l n) (hF : ∀ n, 1 ≤ n → n ≤ 16 → S n ≠ [] → F n = low l n / pw n) :
    ∀ (f n c : Nat), n + f = 17 → 1 ≤ n → low l n ≤ c * pw (n - 1) → c * pw (n - 1) < tot l → rdP F S x.2 (tot m / pw x.2) bt N (f + 1) n c (openN l n) = rdC l bt N f n c
  | 0, n, c, hn, h1, hlo, hhi => by
    have : low l n = tot l := by rw [show n = 17 by omega]; exact low_top h
    omega
  | f + 1, n, c, hn, h1, hlo, hhi => by
    have ho := openN_pos (Nat.lt_of_le_of_lt hlo hhi)
    have hb1 := hb (n - 1)
    have hlo2 : low l n ≤ (2 * c + bt (n - 1)) * pw n := by
      rw [pw_half h1 (by omega)] at hlo
      have : c * (2 * pw n) = 2 * c * pw n := by rw [← Nat.mul_assoc, Nat.mul_comm c 2]
      rw [Nat.add_mul]
      omega
    rw [rdP, rdC, if_neg (by omega)]
    by_cases hN : N < n
    · rw [if_pos hN, if_pos hN]
    · rw [if_neg hN, if_neg hN]
      generalize 2 * c + bt (n - 1) = d at *
      have hrow := in_row (l := l) n d hlo2
      by_cases hin : d * pw n < low l (n + 1)
      · have h2 := hrow.1 hin
        have hne : S n ≠ [] := by rw [hS]; intro e0; rw [e0] at h2; simp at h2
        rw [if_pos hin, hF n h1 (by omega) hne, hS, if_pos h2]
      · have h2 : ¬ (F n ≤ d ∧ d - F n < (S n).length) := fun h3 => by
          have hne : S n ≠ [] := by intro e0; rw [e0] at h3; simp at h3
          rw [hF n h1 (by omega) hne, hS] at h3
          exact hin (hrow.2 h3)
        rw [if_neg hin, if_neg h2]
        have hpast := past_iff h e (n := n) (c := d) (by omega) (by omega)
        have hop : openN l n - (S n).length = openN l (n + 1) := by rw [hS, openN_succ]; omega
        rw [hop]
        by_cases h16 : n < 16
        · by_cases hlt : d * pw n < tot l
          · rw [if_pos hlt, if_neg (fun h3 => hpast.1 h3.2 hlt)]
            exact rdP_eq h e F S bt N hb hS hF f (n + 1) d (by omega) (by omega) (by rw [show n + 1 - 1 = n by omega]; omega) (by rw [show n + 1 - 1 = n by omega]; exact hlt)
          · rw [if_neg hlt, if_pos ⟨h16, hpast.2 hlt⟩]
        · have hn16 : n = 16 := by omega
          subst hn16
          have ht : low l (16 + 1) = tot l := low_top h
          rw [if_neg (by omega), if_neg (by omega), openN_zero h]
          obtain rfl : f = 0 := by omega
          rfl
theorem ksOf_append (a : Nat) : ∀ (l m : SL), ksOf a (l ++ m) = ksOf a l ++ ksOf (a + tot l) m
  | [], m => by simp [ksOf, tot]
  | x :: l, m => by
    rw [List.cons_append, ksOf, ksOf, ksOf_append (a + pw x.2) l m, tot_cons, List.cons_append]
    rw [show a + pw x.2 + tot l = a + (pw x.2 + tot l) by omega]
theorem ks_mem {y : Nat × Nat × Nat} : ∀ {l : SL} {a : Nat}, y ∈ ksOf a l → ∃ m x r, l = m ++ x :: r ∧ y = (x.1, x.2, a + tot m)
  | [], _, h => by simp [ksOf] at h
  | x :: l, a, h => by
    rw [ksOf, List.mem_cons] at h
    rcases h with rfl | h
    · exact ⟨[], x, l, rfl, by simp [tot]⟩
    · obtain ⟨m, z, r, e, hy⟩ := ks_mem h
      exact ⟨x :: m, z, r, by rw [e]; rfl, by rw [hy, tot_cons, Nat.add_assoc]⟩
theorem ks_find {n q : Nat} : ∀ {l : SL} {a : Nat}, (∀ x ∈ l, x.2 = n) → (∀ c : Nat, a = c * pw n → ∀ d : Nat, q = d → (if c ≤ d ∧ d < c + l.length then (ksOf a l).find? (fun x => x.2.1 == n && x.2.2 == d * pw n) = some ((l.map (·.1)).getD (d - c) 0, n, d * pw n) else (ksOf a l).find? (fun x => x.2.1 == n && x.2.2 == d * pw n) = none))
  | [], a, _, c, _, d, _ => by
    rw [if_neg (by rw [List.length_nil]; omega)]
    rfl
  | x :: l, a, h, c, hc, d, hd => by
    have hx := h x (by simp)
    have ih := ks_find (n := n) (q := q) (l := l) (a := a + pw x.2) (fun y hy => h y (by simp [hy])) (c + 1) (by rw [hc, hx, Nat.succ_mul]) d hd
    rw [ksOf, List.find?_cons]
    by_cases e : c = d
    · subst e
      rw [if_pos (by simp)]
      simp [hx, hc]
    · have hne : (x.2 == n && a == d * pw n) = false := by
        have : ¬ a = d * pw n := fun e0 => e (Nat.eq_of_mul_eq_mul_right (pw_pos n) (hc.symm.trans e0))
        simp [this]
      simp only [hne]
      by_cases hin : c ≤ d ∧ d < c + (x :: l).length
      · rw [List.length_cons] at hin
        rw [if_pos (by omega)] at ih
        rw [if_pos (by rw [List.length_cons]; exact hin), ih, List.map_cons, show d - c = (d - (c + 1)) + 1 by omega]
        rfl
      · rw [List.length_cons] at hin
        rw [if_neg (by omega)] at ih
        rw [if_neg (by rw [List.length_cons]; exact hin)]
        exact ih
theorem ks_none {n q : Nat} : ∀ {l : SL} {a : Nat}, (∀ x ∈ l, x.2 ≠ n) → (ksOf a l).find? (fun x => x.2.1 == n && x.2.2 == q) = none := by
  intro l a h
  rw [List.find?_eq_none]
  intro y hy
  obtain ⟨m, x, r, e, rfl⟩ := ks_mem hy
  have := h x (by rw [e]; simp)
  simp [this]
theorem rdR_eq {l : SL} (h : Ok l) (bt : Nat → Nat) (N : Nat) (hb : ∀ i, bt i ≤ 1) : ∀ (f n c : Nat), n + f ≤ 17 → 1 ≤ n → low l n ≤ c * pw (n - 1) → rdR (ksOf 0 l) bt N f n c = rdC l bt N f n c
  | 0, n, c, _, _, _ => rfl
  | f + 1, n, c, hn, h1, hlo => by
    have hb1 := hb (n - 1)
    have hlo2 : low l n ≤ (2 * c + bt (n - 1)) * pw n := by
      rw [pw_half h1 (by omega)] at hlo
      have : c * (2 * pw n) = 2 * c * pw n := by rw [← Nat.mul_assoc, Nat.mul_comm c 2]
      rw [Nat.add_mul]
      omega
    rw [rdR, rdC]
    by_cases hN : N < n
    · rw [if_pos hN, if_pos hN]
    · rw [if_neg hN, if_neg hN]
      generalize 2 * c + bt (n - 1) = d at *
      have hsp := split3 n h.sorted
      have hA : ∀ x ∈ l.filter (fun x => decide (x.2 < n)), x.2 ≠ n := fun x hx => by have := (List.mem_filter.1 hx).2; simp at this; omega
      have hB : ∀ x ∈ l.filter (fun x => decide (x.2 = n)), x.2 = n := fun x hx => by have := (List.mem_filter.1 hx).2; simpa using this
      have hC : ∀ x ∈ l.filter (fun x => decide (n < x.2)), x.2 ≠ n := fun x hx => by have := (List.mem_filter.1 hx).2; simp at this; omega
      have e1 : (ksOf 0 l).find? (fun x => x.2.1 == n && x.2.2 == d * pw n) = (ksOf (low l n) (l.filter (fun x => decide (x.2 = n)))).find? (fun x => x.2.1 == n && x.2.2 == d * pw n) := by
        conv => lhs; rw [hsp]
        rw [ksOf_append, ksOf_append, List.find?_append, List.find?_append, ks_none hA, ks_none hC]
        rw [Nat.zero_add]
        simp [low]
      have hd := low_dvd l n
      have hfi := ks_find (n := n) (q := d) (a := low l n) hB (low l n / pw n) (by rw [Nat.div_mul_cancel hd]) d rfl
      rw [e1]
      have hrow := in_row (l := l) n d hlo2
      rw [rowOf_length] at hrow
      by_cases hin : d * pw n < low l (n + 1)
      · have h2 := hrow.1 hin
        rw [if_pos (by omega)] at hfi
        rw [hfi, if_pos hin]
        rfl
      · rw [if_neg (fun h3 => hin (hrow.2 ⟨h3.1, by omega⟩))] at hfi
        rw [hfi, if_neg hin]
        have hany : (ksOf 0 l).any (fun x => decide (n < x.2.1) && x.2.2 / pw n == d) = decide (d * pw n < tot l) := by
          rw [Bool.eq_iff_iff, List.any_eq_true, decide_eq_true_eq]
          constructor
          · rintro ⟨y, hy, hq⟩
            obtain ⟨m, x, r, e, rfl⟩ := ks_mem hy
            simp at hq
            have h3 : d * pw n ≤ tot m := by rw [← hq.2]; exact Nat.div_mul_le_self _ _
            have h4 := pw_pos x.2
            rw [e, tot_append, tot_cons]
            omega
          · intro hlt
            have hge : low l (n + 1) ≤ d * pw n := by omega
            have key : ∀ (m r : SL), l = m ++ r → tot m ≤ d * pw n → ∃ y ∈ ksOf (tot m) r, (decide (n < y.2.1) && y.2.2 / pw n == d) = true := by
              intro m r
              induction r generalizing m with
              | nil =>
                intro e ht
                rw [e, List.append_nil] at hlt
                omega
              | cons x r ih =>
                intro e ht
                by_cases hx : tot m + pw x.2 ≤ d * pw n
                · obtain ⟨y, hy, hq⟩ := ih (m ++ [x]) (by rw [e]; simp) (by rw [tot_append, tot_cons, tot_nil]; omega)
                  rw [tot_append, tot_cons, tot_nil] at hy
                  exact ⟨y, by rw [ksOf]; exact List.mem_cons_of_mem _ hy, hq⟩
                · refine ⟨(x.1, x.2, tot m), by rw [ksOf]; exact List.mem_cons_self, ?_⟩
                  have hs := h.sorted
                  rw [e, List.pairwise_append] at hs
                  have hdm : pw x.2 ∣ tot m := tot_dvd (fun y hy => hs.2.2 y hy x (by simp))
                  have hlen : n < x.2 := by
                    rcases Nat.lt_or_ge n x.2 with h4 | h4
                    · exact h4
                    · exfalso
                      have : tot m + pw x.2 ≤ low l (n + 1) := by
                        unfold low
                        rw [e, List.filter_append, List.filter_cons_of_pos (by simp; omega), tot_append, tot_cons]
                        rw [List.filter_eq_self.2 (fun y hy => by have := hs.2.2 y hy x (by simp); simp; omega)]
                        omega
                      omega
                  have hd2 : pw x.2 ∣ d * pw n := Nat.dvd_trans (pw_dvd (by omega)) (Nat.dvd_mul_left _ _)
                  have heq : tot m = d * pw n := by
                    obtain ⟨a, ha⟩ := hdm
                    obtain ⟨b, hb⟩ := hd2
                    rw [ha, hb] at ht hx ⊢
                    have h5 : a ≤ b := Nat.le_of_mul_le_mul_left ht (pw_pos _)
                    have h6 : ¬ a + 1 ≤ b := fun h7 => hx (by rw [← Nat.mul_succ]; exact Nat.mul_le_mul_left _ h7)
                    rw [show a = b by omega]
                  simp [hlen, heq, Nat.mul_div_cancel _ (pw_pos n)]
            obtain ⟨y, hy, hq⟩ := key [] l rfl (by simp [tot])
            exact ⟨y, hy, hq⟩
        rw [hany]
        by_cases hlt : d * pw n < tot l
        · rw [if_pos hlt, decide_eq_true hlt, if_pos rfl]
          exact rdR_eq h bt N hb f (n + 1) d (by omega) (by omega) (by rw [show n + 1 - 1 = n by omega]; omega)
        · rw [if_neg hlt, decide_eq_false hlt]
          rfl
end Go.Proofs.Ythhllollhjpheaa.Cd

namespace Go.Proofs.Ythhllollhjpheaa
open Cd

/-- what lengths take of 65536 -/
def kraft (l : List Int) : Int := (l.map (fun x => if 0 < x then (2 : Int) ^ (16 - x.toNat) else 0)).sum
/-- lengths in form -/
def lensB (l : List Int) : Bool := decide (l.length ≤ 512) && (l.all (fun x => decide (0 ≤ x ∧ x ≤ 16)) && decide (kraft l ≤ 65536))
theorem lensB_iff {l : List Int} : lensB l = true ↔ l.length ≤ 512 ∧ (∀ x ∈ l, 0 ≤ x ∧ x ≤ 16) ∧ kraft l ≤ 65536 := by
  unfold lensB
  simp [List.all_eq_true]
def rowF (l : List Int) (n : Nat) : List Nat := (List.range l.length).filter (fun s => l.getD s 0 == (n : Int))
def ordL (l : List Int) : List Nat := (List.range 16).flatMap (fun i => rowF l (i + 1))
def lenOf (l : List Int) (s : Nat) : Nat := (l.getD s 0).toNat
def slOf (l : List Int) : SL := (ordL l).map (fun s => (s, lenOf l s))
theorem rowF_mem {l : List Int} {n s : Nat} : s ∈ rowF l n ↔ s < l.length ∧ l.getD s 0 = (n : Int) := by
  unfold rowF
  rw [List.mem_filter, List.mem_range]
  simp
theorem ordL_mem {l : List Int} {s : Nat} : s ∈ ordL l ↔ s < l.length ∧ ∃ i, i < 16 ∧ l.getD s 0 = ((i + 1 : Nat) : Int) := by
  unfold ordL
  rw [List.mem_flatMap]
  constructor
  · rintro ⟨i, hi, h⟩
    have := rowF_mem.1 h
    exact ⟨this.1, i, List.mem_range.1 hi, this.2⟩
  · rintro ⟨h, i, hi, e⟩
    exact ⟨i, List.mem_range.2 hi, rowF_mem.2 ⟨h, e⟩⟩
theorem ordL_nodup (l : List Int) : (ordL l).Nodup := by
  unfold ordL List.Nodup
  rw [List.pairwise_flatMap]
  refine ⟨fun i _ => List.Pairwise.filter _ List.nodup_range, ?_⟩
  have hr : (List.range 16).Pairwise (· < ·) := List.pairwise_lt_range
  refine hr.imp ?_
  intro i j hij s hs t ht e
  subst e
  have h1 := (rowF_mem.1 hs).2
  have h2 := (rowF_mem.1 ht).2
  omega
theorem sl_sorted (l : List Int) : (slOf l).Pairwise (fun x y => x.2 ≤ y.2) := by
  unfold slOf ordL
  rw [List.pairwise_map, List.pairwise_flatMap]
  refine ⟨fun i _ => ?_, ?_⟩
  · rw [List.pairwise_iff_getElem]
    intro a b ha hb _
    have h1 := (rowF_mem.1 (List.getElem_mem ha)).2
    have h2 := (rowF_mem.1 (List.getElem_mem hb)).2
    unfold lenOf
    rw [h1, h2]
    exact Nat.le_refl _
  · have hr : (List.range 16).Pairwise (· < ·) := List.pairwise_lt_range
    refine hr.imp ?_
    intro i j hij s hs t ht
    have h1 := (rowF_mem.1 hs).2
    have h2 := (rowF_mem.1 ht).2
    unfold lenOf
    rw [h1, h2]
    omega
theorem rowF_snoc (l : List Int) (x : Int) (n : Nat) : rowF (l ++ [x]) n = rowF l n ++ (if x = (n : Int) then [l.length] else []) := by
  unfold rowF
  rw [List.length_append, List.length_singleton, List.range_succ, List.filter_append]
  have e1 : (List.range l.length).filter (fun s => (l ++ [x]).getD s 0 == (n : Int)) = (List.range l.length).filter (fun s => l.getD s 0 == (n : Int)) := by
    refine List.filter_congr fun s hs => ?_
    rw [List.getD_eq_getElem?_getD, List.getD_eq_getElem?_getD, List.getElem?_append_left (List.mem_range.1 hs)]
  rw [e1]
  have e2 : (l ++ [x]).getD l.length 0 = x := by rw [List.getD_eq_getElem?_getD, List.getElem?_append_right (Nat.le_refl _)]; simp
  by_cases h : x = (n : Int)
  · rw [List.filter_cons_of_pos (by rw [e2]; simp [h]), if_pos h]; rfl
  · rw [List.filter_cons_of_neg (by rw [e2]; simp [h]), if_neg h]; rfl
def sumR (f : Nat → Nat) : Nat → Nat
  | 0 => 0
  | n + 1 => sumR f n + f n
theorem sumR_add (f g : Nat → Nat) : ∀ n, sumR (fun i => f i + g i) n = sumR f n + sumR g n
  | 0 => rfl
  | n + 1 => by
    unfold sumR
    rw [sumR_add f g n]
    omega
theorem sumR_pick (g : Nat → Nat) (x : Int) : ∀ n, sumR (fun i => if x = ((i + 1 : Nat) : Int) then g (i + 1) else 0) n = if 0 < x ∧ x ≤ (n : Int) then g x.toNat else 0
  | 0 => by rw [if_neg (by omega)]; rfl
  | n + 1 => by
    unfold sumR
    rw [sumR_pick g x n]
    by_cases h : x = ((n + 1 : Nat) : Int)
    · rw [if_neg (by omega), if_pos h, if_pos (by omega), h]
      simp
    · rw [if_neg h]
      by_cases h2 : 0 < x ∧ x ≤ (n : Int)
      · rw [if_pos h2, if_pos (by omega)]
        rfl
      · rw [if_neg h2, if_neg (by omega)]
theorem tot_rows (l : List Int) : ∀ n, tot (((List.range n).flatMap (fun i => rowF l (i + 1))).map (fun s => (s, lenOf l s))) = sumR (fun i => (rowF l (i + 1)).length * pw (i + 1)) n
  | 0 => rfl
  | n + 1 => by
    rw [List.range_succ, List.flatMap_append, List.map_append, tot_append, tot_rows l n]
    rw [show sumR (fun i => (rowF l (i + 1)).length * pw (i + 1)) (n + 1) = sumR (fun i => (rowF l (i + 1)).length * pw (i + 1)) n + (rowF l (n + 1)).length * pw (n + 1) from rfl]
    congr 1
    rw [List.flatMap_cons, List.flatMap_nil, List.append_nil, tot_same (n := n + 1), List.length_map]
    · intro x hx
      obtain ⟨s, hs, rfl⟩ := List.mem_map.1 hx
      have := (rowF_mem.1 hs).2
      show lenOf l s = n + 1
      unfold lenOf
      rw [this]
      omega
theorem tot_kraft (l : List Int) (h : ∀ x ∈ l, 0 ≤ x ∧ x ≤ 16) : ((tot (slOf l) : Nat) : Int) = kraft l := by
  unfold slOf ordL
  rw [tot_rows]
  have key : ∀ k, k ≤ l.length → ((sumR (fun i => (rowF (l.take k) (i + 1)).length * pw (i + 1)) 16 : Nat) : Int) = kraft (l.take k) := by
    intro k
    induction k with
    | zero =>
      intro _
      have : ∀ m, sumR (fun i => (rowF (l.take 0) (i + 1)).length * pw (i + 1)) m = 0 := by
        intro m
        induction m with
        | zero => rfl
        | succ m ihm =>
          unfold sumR
          rw [ihm]
          simp [rowF]
      rw [this]
      rfl
    | succ k ih =>
      intro hk
      have ih := ih (by omega)
      rw [List.take_succ_eq_append_getElem (by omega)]
      obtain ⟨x, hx⟩ : ∃ x, x = l[k] := ⟨_, rfl⟩
      have hxx := h l[k] (List.getElem_mem (by omega))
      rw [← hx] at hxx ⊢
      have e : (fun i => (rowF (l.take k ++ [x]) (i + 1)).length * pw (i + 1)) = (fun i => (rowF (l.take k) (i + 1)).length * pw (i + 1) + (if x = ((i + 1 : Nat) : Int) then pw (i + 1) else 0)) := by
        funext i
        rw [rowF_snoc, List.length_append, Nat.add_mul]
        congr 1
        split
        · simp
        · simp
      rw [e, sumR_add, sumR_pick pw x 16]
      have e2 : kraft (l.take k ++ [x]) = kraft (l.take k) + (if 0 < x then (2 : Int) ^ (16 - x.toNat) else 0) := by unfold kraft; simp
      rw [e2, ← ih]
      by_cases h0 : 0 < x
      · rw [if_pos ⟨h0, hxx.2⟩, if_pos h0]
        unfold pw
        push_cast
        rfl
      · rw [if_neg (fun h1 => h0 h1.1), if_neg h0]
        rfl
  have := key l.length (Nat.le_refl _)
  rw [List.take_length] at this
  exact this
theorem sl_ok {l : List Int} (h : lensB l = true) : Ok (slOf l) := by
  obtain ⟨_, h2, h3⟩ := lensB_iff.1 h
  refine ⟨fun x hx => ?_, sl_sorted l, by have := tot_kraft l h2; omega⟩
  obtain ⟨s, hs, rfl⟩ := List.mem_map.1 hx
  obtain ⟨_, i, hi, e⟩ := ordL_mem.1 hs
  show 1 ≤ lenOf l s ∧ lenOf l s ≤ 16
  unfold lenOf
  rw [e]
  omega
/-- the codes of symbols in an order -/
def asg (l : List Int) : List Nat → Nat → Nat → List Int → List Int
  | [], _, _, cs => cs
  | s :: r, nx, la, cs => asg l r (nx * 2 ^ (lenOf l s - la) + 1) (lenOf l s) (cs.set s ((nx * 2 ^ (lenOf l s - la) : Nat) : Int))
def codesL (l : List Int) : List Int := asg l (ordL l) 0 0 (List.replicate l.length 0)
theorem asg_length (l : List Int) : ∀ (o : List Nat) (nx la : Nat) (cs : List Int), (asg l o nx la cs).length = cs.length
  | [], _, _, _ => rfl
  | s :: r, nx, la, cs => by
    rw [asg, asg_length l r]
    simp
theorem asg_keep (l : List Int) (s : Nat) : ∀ (o : List Nat) (nx la : Nat) (cs : List Int), s ∉ o → (asg l o nx la cs).getD s 0 = cs.getD s 0
  | [], _, _, _, _ => rfl
  | t :: r, nx, la, cs, h => by
    rw [asg, asg_keep l s r _ _ _ (fun hm => h (List.mem_cons_of_mem _ hm))]
    have hne : t ≠ s := fun e => h (by rw [e]; exact List.mem_cons_self)
    rw [List.getD_eq_getElem?_getD, List.getD_eq_getElem?_getD, List.getElem?_set_ne hne]
theorem asg_at (l : List Int) : ∀ (o : List Nat) (nx la tt : Nat) (cs : List Int) (m r : List Nat) (s : Nat), o = m ++ s :: r → o.Nodup → (∀ x ∈ o, x < cs.length ∧ lenOf l x ≤ 16 ∧ la ≤ lenOf l x) → o.Pairwise (fun x y => lenOf l x ≤ lenOf l y) → nx * pw la = tt → la ≤ 16 →
    (asg l o nx la cs).getD s 0 = (((tt + tot (m.map (fun s => (s, lenOf l s)))) / pw (lenOf l s) : Nat) : Int)
  | [], _, _, _, _, m, r, s, e, _, _, _, _, _ => by cases m <;> cases e
  | t :: o, nx, la, tt, cs, m, r, s, e, hnd, hb, hp, hnx, hla => by
    rw [List.nodup_cons] at hnd
    rw [List.pairwise_cons] at hp
    have hbt := hb t List.mem_cons_self
    have h2 : nx * 2 ^ (lenOf l t - la) * pw (lenOf l t) = tt := by
      rw [← hnx, Nat.mul_assoc]
      congr 1
      unfold pw
      rw [← Nat.pow_add]
      congr 1
      omega
    cases m with
    | nil =>
      injection e with e1 e2
      subst e1
      rw [asg, asg_keep l t o _ _ _ hnd.1, List.getD_eq_getElem?_getD, List.getElem?_set_self hbt.1]
      simp only [Option.getD_some, List.map_nil, tot_nil, Nat.add_zero]
      congr 1
      rw [← h2, Nat.mul_div_cancel _ (pw_pos _)]
    | cons u m =>
      injection e with e1 e2
      subst e1
      rw [asg]
      have hsb : la ≤ lenOf l t := hbt.2.2
      rw [asg_at l o _ _ (tt + pw (lenOf l t)) _ m r s e2 hnd.2 (fun x hx => ⟨by rw [List.length_set]; exact (hb x (List.mem_cons_of_mem _ hx)).1, (hb x (List.mem_cons_of_mem _ hx)).2.1, hp.1 x hx⟩) hp.2 (by rw [Nat.add_mul, h2, Nat.one_mul]) hbt.2.1]
      rw [List.map_cons, tot_cons, Nat.add_assoc]
theorem codes_at {l : List Int} (h : lensB l = true) {m r : List Nat} {s : Nat} (e : ordL l = m ++ s :: r) : (codesL l).getD s 0 = ((tot (m.map (fun s => (s, lenOf l s))) / pw (lenOf l s) : Nat) : Int) := by
  have hok := sl_ok h
  have := asg_at l (ordL l) 0 0 0 (List.replicate l.length 0) m r s e (ordL_nodup l) (fun x hx => by
    have h1 := (ordL_mem.1 hx).1
    have h2 := hok.len (x, lenOf l x) (List.mem_map.2 ⟨x, hx, rfl⟩)
    exact ⟨by simpa using h1, h2.2, Nat.zero_le _⟩) (by
      have := hok.sorted
      unfold slOf at this
      rw [List.pairwise_map] at this
      exact this) (by simp) (by omega)
  rw [Nat.zero_add] at this
  exact this
theorem rowOf_sl (l : List Int) (n : Nat) (h1 : 1 ≤ n) (h16 : n ≤ 16) : rowOf (slOf l) n = rowF l n := by
  unfold rowOf slOf
  rw [List.filter_map, List.map_map]
  have e : ((fun x : Nat × Nat => x.1) ∘ fun s => (s, lenOf l s)) = id := rfl
  rw [e, List.map_id]
  unfold ordL
  have key : ∀ k, ((List.range k).flatMap (fun i => rowF l (i + 1))).filter ((fun x : Nat × Nat => decide (x.2 = n)) ∘ fun s => (s, lenOf l s)) = if n ≤ k then rowF l n else [] := by
    intro k
    induction k with
    | zero => rw [if_neg (by omega)]; rfl
    | succ k ih =>
      rw [List.range_succ, List.flatMap_append, List.filter_append, ih, List.flatMap_cons, List.flatMap_nil, List.append_nil]
      by_cases hk : n = k + 1
      · subst hk
        rw [if_neg (by omega), if_pos (Nat.le_refl _), List.nil_append]
        refine List.filter_eq_self.2 fun s hs => ?_
        have := (rowF_mem.1 hs).2
        show decide (lenOf l s = k + 1) = true
        refine decide_eq_true ?_
        unfold lenOf
        rw [this]
        omega
      · have e2 : (rowF l (k + 1)).filter ((fun x : Nat × Nat => decide (x.2 = n)) ∘ fun s => (s, lenOf l s)) = [] := by
          refine List.filter_eq_nil_iff.2 fun s hs => ?_
          have := (rowF_mem.1 hs).2
          show ¬ decide (lenOf l s = n) = true
          rw [decide_eq_true_eq]
          unfold lenOf
          rw [this]
          omega
        rw [e2, List.append_nil]
        by_cases h2 : n ≤ k
        · rw [if_pos h2, if_pos (by omega)]
        · rw [if_neg h2, if_neg (by omega)]
  rw [key 16, if_pos h16]
theorem first_at {l : List Int} (h : lensB l = true) {n s : Nat} {r : List Nat} (h1 : 1 ≤ n) (h16 : n ≤ 16) (e : rowF l n = s :: r) : (codesL l).getD s 0 = ((low (slOf l) n / pw n : Nat) : Int) := by
  have hs := (rowF_mem.1 (by rw [e]; exact List.mem_cons_self : s ∈ rowF l n))
  have hln : lenOf l s = n := by unfold lenOf; rw [hs.2]; omega
  have h3 := split3 n (sl_sorted l)
  have hB : (slOf l).filter (fun x => decide (x.2 = n)) = (rowF l n).map (fun s => (s, n)) := by
    have := rowOf_sl l n h1 h16
    unfold rowOf at this
    rw [← this, List.map_map]
    refine (List.map_id _).symm.trans (List.map_congr_left fun x hx => ?_)
    have := (List.mem_filter.1 hx).2
    simp at this
    show x = (x.1, n)
    rw [← this]
  have e2 : ordL l = (slOf l).map (·.1) := by
    unfold slOf
    rw [List.map_map]
    exact (List.map_id _).symm
  have e3 : ordL l = ((slOf l).filter (fun x => decide (x.2 < n))).map (·.1) ++ s :: (r ++ ((slOf l).filter (fun x => decide (n < x.2))).map (·.1)) := by
    rw [e2]
    conv => lhs; rw [h3]
    have e9 : ((fun x : Nat × Nat => x.1) ∘ fun s => (s, n)) = id := rfl
    rw [hB, List.map_append, List.map_append, List.map_map, e9, List.map_id, e]
    rfl
  rw [codes_at h e3, hln]
  congr 2
  unfold low
  rw [List.map_map]
  congr 1
  refine (List.map_congr_left fun x hx => ?_).trans (List.map_id _)
  have hm := (List.mem_filter.1 hx).1
  obtain ⟨t, _, rfl⟩ := List.mem_map.1 hm
  rfl
end Go.Proofs.Ythhllollhjpheaa
