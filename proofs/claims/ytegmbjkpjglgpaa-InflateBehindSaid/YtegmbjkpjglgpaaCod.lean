/-
  Canonical codes, plainly: a symbol is read the same by rows of codes of one length and by looking through all codes.
-/
import Derived.Test.YtegmbjkpjglgpaaBase
namespace Go.Proofs.Ytegmbjkpjglgpaa.Cd

/-- how much of 65536 a code of a length takes -/
def pw (l : Nat) : Nat := 2 ^ (16 - l)
theorem pw_pos (l : Nat) : 0 < pw l := Nat.pow_pos (by omega)
theorem pw_dvd {l n : Nat} (h : l ≤ n) : pw n ∣ pw l := Nat.pow_dvd_pow 2 (by omega)
theorem pw_half {n : Nat} (h1 : 1 ≤ n) (h : n ≤ 16) : pw (n - 1) = 2 * pw n := by
  unfold pw
  rw [show 16 - (n - 1) = (16 - n) + 1 by omega, Nat.pow_succ]
  omega
abbrev SL := List (Nat × Nat)
def tot (l : SL) : Nat := (l.map (fun x => pw x.2)).sum
theorem tot_nil : tot [] = 0 := rfl
theorem tot_cons (x : Nat × Nat) (l : SL) : tot (x :: l) = pw x.2 + tot l := by simp [tot]
theorem tot_append (l m : SL) : tot (l ++ m) = tot l + tot m := by simp [tot]
theorem tot_same {n : Nat} : ∀ {l : SL}, (∀ x ∈ l, x.2 = n) → tot l = l.length * pw n
  | [], _ => by simp [tot]
  | x :: l, h => by
    rw [tot_cons, tot_same (fun y hy => h y (by simp [hy])), h x (by simp), List.length_cons, Nat.succ_mul]
    omega
theorem tot_dvd {n : Nat} : ∀ {l : SL}, (∀ x ∈ l, x.2 ≤ n) → pw n ∣ tot l
  | [], _ => ⟨0, by simp [tot]⟩
  | x :: l, h => by
    rw [tot_cons]
    exact (Nat.dvd_add_right (pw_dvd (h x (by simp)))).2 (tot_dvd (fun y hy => h y (by simp [hy])))
/-- what the codes below a length take -/
def low (l : SL) (n : Nat) : Nat := tot (l.filter (fun x => decide (x.2 < n)))
def rowOf (l : SL) (n : Nat) : List Nat := (l.filter (fun x => decide (x.2 = n))).map (·.1)
/-- codes, the shorter ones first -/
structure Ok (l : SL) : Prop where
  len : ∀ x ∈ l, 1 ≤ x.2 ∧ x.2 ≤ 16
  sorted : l.Pairwise (fun x y => x.2 ≤ y.2)
  kraft : tot l ≤ 65536
theorem split3 (n : Nat) : ∀ {l : SL}, l.Pairwise (fun x y => x.2 ≤ y.2) → l = l.filter (fun x => decide (x.2 < n)) ++ (l.filter (fun x => decide (x.2 = n)) ++ l.filter (fun x => decide (n < x.2)))
  | [], _ => rfl
  | x :: l, h => by
    rw [List.pairwise_cons] at h
    have ih := split3 n h.2
    rcases Nat.lt_trichotomy x.2 n with hx | hx | hx
    · rw [List.filter_cons_of_pos (by simpa using hx), List.filter_cons_of_neg (by simp; omega), List.filter_cons_of_neg (by simp; omega), List.cons_append]
      exact congrArg (x :: ·) ih
    · have e1 : l.filter (fun x => decide (x.2 < n)) = [] := List.filter_eq_nil_iff.2 fun y hy => by have := h.1 y hy; simp; omega
      rw [e1] at ih
      rw [List.filter_cons_of_neg (by simp; omega), List.filter_cons_of_pos (by simpa using hx), List.filter_cons_of_neg (by simp; omega), e1, List.nil_append, List.cons_append]
      exact congrArg (x :: ·) ih
    · have e1 : l.filter (fun x => decide (x.2 < n)) = [] := List.filter_eq_nil_iff.2 fun y hy => by have := h.1 y hy; simp; omega
      have e2 : l.filter (fun x => decide (x.2 = n)) = [] := List.filter_eq_nil_iff.2 fun y hy => by have := h.1 y hy; simp; omega
      rw [e1, e2] at ih
      rw [List.filter_cons_of_neg (by simp; omega), List.filter_cons_of_neg (by simp; omega), List.filter_cons_of_pos (by simpa using hx), e1, e2]
      exact congrArg (x :: ·) ih
theorem low_succ (l : SL) (n : Nat) : low l (n + 1) = low l n + (rowOf l n).length * pw n := by
  unfold low rowOf
  induction l with
  | nil => simp [tot]
  | cons x l ih =>
    rcases Nat.lt_trichotomy x.2 n with hx | hx | hx
    · rw [List.filter_cons_of_pos (by simp; omega), List.filter_cons_of_pos (by simpa using hx), List.filter_cons_of_neg (by simp; omega), tot_cons, tot_cons, ih]
      omega
    · rw [List.filter_cons_of_pos (by simp; omega), List.filter_cons_of_neg (by simp; omega), List.filter_cons_of_pos (by simpa using hx), tot_cons, ih, List.map_cons, List.length_cons, Nat.succ_mul, hx]
      omega
    · rw [List.filter_cons_of_neg (by simp; omega), List.filter_cons_of_neg (by simp; omega), List.filter_cons_of_neg (by simp; omega)]
      exact ih
theorem low_mono (l : SL) {m n : Nat} (h : m ≤ n) : low l m ≤ low l n := by
  induction n with
  | zero => rw [Nat.le_zero.1 h]; exact Nat.le_refl _
  | succ n ih =>
    rcases Nat.lt_or_ge m (n + 1) with h1 | h1
    · have := ih (by omega)
      rw [low_succ]
      omega
    · rw [show m = n + 1 by omega]
      exact Nat.le_refl _
theorem low_dvd (l : SL) (n : Nat) : pw n ∣ low l n := tot_dvd (fun x hx => by have := (List.mem_filter.1 hx).2; simp at this; omega)
theorem low_dvd' (l : SL) (n : Nat) : pw n ∣ low l (n + 1) := tot_dvd (fun x hx => by have := (List.mem_filter.1 hx).2; simp at this; omega)
theorem low_top {l : SL} (h : Ok l) : low l 17 = tot l := by
  unfold low
  rw [List.filter_eq_self.2]
  intro x hx
  have := (h.len x hx).2
  simp
  omega
theorem low_one {l : SL} (h : Ok l) : low l 1 = 0 := by
  unfold low
  rw [List.filter_eq_nil_iff.2]
  · rfl
  · intro x hx
    have := (h.len x hx).1
    simp
    omega
/-- how a reading ends -/
inductive Rd where
  | sym (s n : Nat)
  | short
  | bad
/-- by the places where the lengths begin -/
def rdC (l : SL) (bt : Nat → Nat) (N : Nat) : Nat → Nat → Nat → Rd
  | 0, _, _ => .bad
  | f + 1, n, c => if N < n then .short else
    if (2 * c + bt (n - 1)) * pw n < low l (n + 1) then .sym ((rowOf l n).getD (2 * c + bt (n - 1) - low l n / pw n) 0) n
    else if (2 * c + bt (n - 1)) * pw n < tot l then rdC l bt N f (n + 1) (2 * c + bt (n - 1)) else .bad
/-- by rows; lc, ll: the last code and its length -/
def rdP (F : Nat → Nat) (S : Nat → List Nat) (ll lc : Nat) (bt : Nat → Nat) (N : Nat) : Nat → Nat → Nat → Nat → Rd
  | 0, _, _, _ => .bad
  | f + 1, n, c, o => if o = 0 then .bad else if N < n then .short else
    if F n ≤ 2 * c + bt (n - 1) ∧ 2 * c + bt (n - 1) - F n < (S n).length then .sym ((S n).getD (2 * c + bt (n - 1) - F n) 0) n
    else if n < 16 ∧ (ll < n ∨ lc / 2 ^ (ll - n) < 2 * c + bt (n - 1)) then .bad else rdP F S ll lc bt N f (n + 1) (2 * c + bt (n - 1)) (o - (S n).length)
/-- codes with their starts -/
def ksOf : Nat → SL → List (Nat × Nat × Nat)
  | _, [] => []
  | a, x :: l => (x.1, x.2, a) :: ksOf (a + pw x.2) l
/-- by all codes -/
def rdR (ks : List (Nat × Nat × Nat)) (bt : Nat → Nat) (N : Nat) : Nat → Nat → Nat → Rd
  | 0, _, _ => .bad
  | f + 1, n, c => if N < n then .short else
    match ks.find? (fun x => x.2.1 == n && x.2.2 == (2 * c + bt (n - 1)) * pw n) with
    | some x => .sym x.1 n
    | none => if ks.any (fun x => decide (n < x.2.1) && x.2.2 / pw n == 2 * c + bt (n - 1)) then rdR ks bt N f (n + 1) (2 * c + bt (n - 1)) else .bad
theorem rowOf_length (l : SL) (n : Nat) : (rowOf l n).length = (l.filter (fun x => decide (x.2 = n))).length := by simp [rowOf]
/-- how many codes have a length or more -/
def openN (l : SL) (n : Nat) : Nat := (l.filter (fun x => decide (n ≤ x.2))).length
theorem openN_succ (l : SL) (n : Nat) : openN l n = (rowOf l n).length + openN l (n + 1) := by
  unfold openN rowOf
  induction l with
  | nil => rfl
  | cons x l ih =>
    rcases Nat.lt_trichotomy x.2 n with hx | hx | hx
    · rw [List.filter_cons_of_neg (by simp; omega), List.filter_cons_of_neg (by simp; omega), List.filter_cons_of_neg (by simp; omega)]
      exact ih
    · rw [List.filter_cons_of_pos (by simp; omega), List.filter_cons_of_pos (by simpa using hx), List.filter_cons_of_neg (by simp; omega), List.map_cons, List.length_cons, List.length_cons, ih]
      omega
    · rw [List.filter_cons_of_pos (by simp; omega), List.filter_cons_of_neg (by simp; omega), List.filter_cons_of_pos (by simp; omega), List.length_cons, List.length_cons, ih]
      omega
theorem openN_pos {l : SL} {n : Nat} (hlt : low l n < tot l) : 0 < openN l n := by
  rcases Nat.eq_zero_or_pos (openN l n) with h0 | h0
  · exfalso
    unfold openN at h0
    have h1 := List.eq_nil_of_length_eq_zero h0
    have : low l n = tot l := by
      unfold low
      rw [List.filter_eq_self.2]
      intro x hx
      have := List.filter_eq_nil_iff.1 h1 x hx
      simp at this ⊢
      omega
    omega
  · exact h0
theorem openN_zero {l : SL} (h : Ok l) : openN l 17 = 0 := by
  unfold openN
  rw [List.filter_eq_nil_iff.2]
  · rfl
  · intro x hx
    have := (h.len x hx).2
    simp
    omega
theorem openN_one {l : SL} (h : Ok l) : openN l 1 = l.length := by
  unfold openN
  rw [List.filter_eq_self.2]
  intro x hx
  have := (h.len x hx).1
  simp
  omega
/-- the last code -/
theorem last_start {l : SL} (h : Ok l) {m : SL} {x : Nat × Nat} (e : l = m ++ [x]) : tot l = tot m + pw x.2 ∧ pw x.2 ∣ tot m ∧ (∀ y ∈ l, y.2 ≤ x.2) := by
  subst e
  have hs := h.sorted
  rw [List.pairwise_append] at hs
  refine ⟨by rw [tot_append, tot_cons, tot_nil]; rfl, tot_dvd (fun y hy => hs.2.2 y hy x (by simp)), fun y hy => ?_⟩
  rw [List.mem_append] at hy
  rcases hy with hy | hy
  · exact hs.2.2 y hy x (by simp)
  · rw [List.mem_singleton.1 hy]; exact Nat.le_refl _
/-- past the longest code nothing begins -/
theorem past_iff {l : SL} (h : Ok l) {m : SL} {x : Nat × Nat} (e : l = m ++ [x]) {n c : Nat} (hn : n ≤ 16) (hlo : low l (n + 1) ≤ c * pw n) : (x.2 < n ∨ tot m / pw x.2 / 2 ^ (x.2 - n) < c) ↔ ¬ c * pw n < tot l := by
  obtain ⟨h1, h2, h3⟩ := last_start h e
  have hx := h.len x (by rw [e]; simp)
  constructor
  · intro hp hlt
    have hlen : n < x.2 := by
      rcases Nat.lt_or_ge n x.2 with h4 | h4
      · exact h4
      · exfalso
        have : low l (n + 1) = tot l := by
          unfold low
          rw [List.filter_eq_self.2]
          intro y hy
          have := h3 y hy
          simp
          omega
        omega
    have hd : pw x.2 ∣ c * pw n := Nat.dvd_trans (pw_dvd (by omega)) (Nat.dvd_mul_left _ _)
    have hle : c * pw n ≤ tot m := by
      obtain ⟨a, ha⟩ := hd
      obtain ⟨b, hb⟩ := h2
      have hpp := pw_pos x.2
      rw [h1, ha, hb] at hlt
      rw [ha, hb]
      have : a < b + 1 := by
        have h5 : pw x.2 * a < pw x.2 * (b + 1) := by rw [Nat.mul_add, Nat.mul_one]; exact hlt
        exact Nat.lt_of_mul_lt_mul_left h5
      exact Nat.mul_le_mul_left _ (by omega)
    rcases hp with hp | hp
    · omega
    · have e1 : tot m / pw x.2 / 2 ^ (x.2 - n) = tot m / pw n := by
        rw [Nat.div_div_eq_div_mul]
        congr 1
        unfold pw
        rw [← Nat.pow_add]
        congr 1
        omega
      rw [e1] at hp
      have := (Nat.le_div_iff_mul_le (pw_pos n)).2 hle
      omega
  · intro hge
    rcases Nat.lt_or_ge x.2 n with h4 | h4
    · exact .inl h4
    · right
      have e1 : tot m / pw x.2 / 2 ^ (x.2 - n) = tot m / pw n := by
        rw [Nat.div_div_eq_div_mul]
        congr 1
        unfold pw
        rw [← Nat.pow_add]
        congr 1
        omega
      rw [e1]
      have hpp := pw_pos x.2
      exact (Nat.div_lt_iff_lt_mul (pw_pos n)).2 (by omega)
theorem in_row {l : SL} (n c : Nat) (hlo : low l n ≤ c * pw n) : (c * pw n < low l (n + 1)) ↔ (low l n / pw n ≤ c ∧ c - low l n / pw n < (rowOf l n).length) := by
  obtain ⟨a, ha⟩ := low_dvd l n
  have hp := pw_pos n
  rw [low_succ, ha, Nat.mul_div_cancel_left _ hp]
  rw [ha, Nat.mul_comm (pw n) a] at hlo
  have h1 : a ≤ c := Nat.le_of_mul_le_mul_right hlo hp
  rw [Nat.mul_comm (pw n) a, ← Nat.add_mul]
  constructor
  · intro h
    have := Nat.lt_of_mul_lt_mul_right h
    exact ⟨h1, by omega⟩
  · intro ⟨_, h⟩
    exact Nat.mul_lt_mul_of_pos_right (by omega) hp
theorem rdP_eq {l : SL} (h : Ok l) {m : SL} {x : Nat × Nat} (e : l = m ++ [x]) (F : Nat → Nat) (S : Nat → List Nat) (bt : Nat → Nat) (N : Nat) (hb : ∀ i, bt i ≤ 1) (hS : ∀ n, S n = rowOf l n) (hF : ∀ n, 1 ≤ n → n ≤ 16 → S n ≠ [] → F n = low l n / pw n) :
    ∀ (f n c : Nat), n + f = 17 → 1 ≤ n → low l n ≤ c * pw (n - 1) → c * pw (n - 1) < tot l → rdP F S x.2 (tot m / pw x.2) bt N (f + 1) n c (openN l n) = rdC l bt N f n c
  | 0, n, c, hn, h1, hlo, hhi => by
    have : low l n = tot l := by rw [show n = 17 by omega]; exact low_top h
    omega
  | f + 1, n, c, hn, h1, hlo, hhi => by
    have ho := openN_pos (Nat.lt_of_le_of_lt hlo hhi)
    have hb1 := hb (n - 1)
    have hlo2 : low l n ≤ (2 * c + bt (n - 1)) * pw n := by
      rw [pw_half h1 (by omega)] at hlo
      have : c * (2 * pw n) = 2 * c * pw n := by rw [← Nat.mul_assoc, Nat.mul_comm c 2]
      rw [Nat.add_mul]
      omega
    rw [rdP, rdC, if_neg (by omega)]
    by_cases hN : N < n
    · rw [if_pos hN, if_pos hN]
    · rw [if_neg hN, if_neg hN]
      generalize 2 * c + bt (n - 1) = d at *
      have hrow := in_row (l := l) n d hlo2
      by_cases hin : d * pw n < low l (n + 1)
      · have h2 := hrow.1 hin
        have hne : S n ≠ [] := by rw [hS]; intro e0; rw [e0] at h2; simp at h2
        rw [if_pos hin, hF n h1 (by omega) hne, hS, if_pos h2]
      · have h2 : ¬ (F n ≤ d ∧ d - F n < (S n).length) := fun h3 => by
          have hne : S n ≠ [] := by intro e0; rw [e0] at h3; simp at h3
          rw [hF n h1 (by omega) hne, hS] at h3
          exact hin (hrow.2 h3)
        rw [if_neg hin, if_neg h2]
        have hpast := past_iff h e (n := n) (c := d) (by omega) (by omega)
        have hop : openN l n - (S n).length = openN l (n + 1) := by rw [hS, openN_succ]; omega
        rw [hop]
        by_cases h16 : n < 16
        · by_cases hlt : d * pw n < tot l
          · rw [if_pos hlt, if_neg (fun h3 => hpast.1 h3.2 hlt)]
            exact rdP_eq h e F S bt N hb hS hF f (n + 1) d (by omega) (by omega) (by rw [show n + 1 - 1 = n by omega]; omega) (by rw [show n + 1 - 1 = n by omega]; exact hlt)
          · rw [if_neg hlt, if_pos ⟨h16, hpast.2 hlt⟩]
        · have hn16 : n = 16 := by omega
          subst hn16
          have ht : low l (16 + 1) = tot l := low_top h
          rw [if_neg (by omega), if_neg (by omega), openN_zero h]
          obtain rfl : f = 0 := by omega
          rfl
theorem ksOf_append (a : Nat) : ∀ (l m : SL), ksOf a (l ++ m) = ksOf a l ++ ksOf (a + tot l) m
  | [], m => by simp [ksOf, tot]
  | x :: l, m => by
    rw [List.cons_append, ksOf, ksOf, ksOf_append (a + pw x.2) l m, tot_cons, List.cons_append]
    rw [show a + pw x.2 + tot l = a + (pw x.2 + tot l) by omega]
theorem ks_mem {y : Nat × Nat × Nat} : ∀ {l : SL} {a : Nat}, y ∈ ksOf a l → ∃ m x r, l = m ++ x :: r ∧ y = (x.1, x.2, a + tot m)
  | [], _, h => by simp [ksOf] at h
  | x :: l, a, h => by
    rw [ksOf, List.mem_cons] at h
    rcases h with rfl | h
    · exact ⟨[], x, l, rfl, by simp [tot]⟩
    · obtain ⟨m, z, r, e, hy⟩ := ks_mem h
      exact ⟨x :: m, z, r, by rw [e]; rfl, by rw [hy, tot_cons, Nat.add_assoc]⟩
theorem ks_find {n q : Nat} : ∀ {l : SL} {a : Nat}, (∀ x ∈ l, x.2 = n) → (∀ c : Nat, a = c * pw n → ∀ d : Nat, q = d → (if c ≤ d ∧ d < c + l.length then (ksOf a l).find? (fun x => x.2.1 == n && x.2.2 == d * pw n) = some ((l.map (·.1)).getD (d - c) 0, n, d * pw n) else (ksOf a l).find? (fun x => x.2.1 == n && x.2.2 == d * pw n) = none))
  | [], a, _, c, _, d, _ => by
    rw [if_neg (by rw [List.length_nil]; omega)]
    rfl
  | x :: l, a, h, c, hc, d, hd => by
    have hx := h x (by simp)
    have ih := ks_find (n := n) (q := q) (l := l) (a := a + pw x.2) (fun y hy => h y (by simp [hy])) (c + 1) (by rw [hc, hx, Nat.succ_mul]) d hd
    rw [ksOf, List.find?_cons]
    by_cases e : c = d
    · subst e
      rw [if_pos (by simp)]
      simp [hx, hc]
    · have hne : (x.2 == n && a == d * pw n) = false := by
        have : ¬ a = d * pw n := fun e0 => e (Nat.eq_of_mul_eq_mul_right (pw_pos n) (hc.symm.trans e0))
        simp [this]
      simp only [hne]
      by_cases hin : c ≤ d ∧ d < c + (x :: l).length
      · rw [List.length_cons] at hin
        rw [if_pos (by omega)] at ih
        rw [if_pos (by rw [List.length_cons]; exact hin), ih, List.map_cons, show d - c = (d - (c + 1)) + 1 by omega]
        rfl
      · rw [List.length_cons] at hin
        rw [if_neg (by omega)] at ih
        rw [if_neg (by rw [List.length_cons]; exact hin)]
        exact ih
theorem ks_none {n q : Nat} : ∀ {l : SL} {a : Nat}, (∀ x ∈ l, x.2 ≠ n) → (ksOf a l).find? (fun x => x.2.1 == n && x.2.2 == q) = none := by
  intro l a h
  rw [List.find?_eq_none]
  intro y hy
  obtain ⟨m, x, r, e, rfl⟩ := ks_mem hy
  have := h x (by rw [e]; simp)
  simp [this]
theorem rdR_eq {l : SL} (h : Ok l) (bt : Nat → Nat) (N : Nat) (hb : ∀ i, bt i ≤ 1) : ∀ (f n c : Nat), n + f ≤ 17 → 1 ≤ n → low l n ≤ c * pw (n - 1) → rdR (ksOf 0 l) bt N f n c = rdC l bt N f n c
  | 0, n, c, _, _, _ => rfl
  | f + 1, n, c, hn, h1, hlo => by
    have hb1 := hb (n - 1)
    have hlo2 : low l n ≤ (2 * c + bt (n - 1)) * pw n := by
      rw [pw_half h1 (by omega)] at hlo
      have : c * (2 * pw n) = 2 * c * pw n := by rw [← Nat.mul_assoc, Nat.mul_comm c 2]
      rw [Nat.add_mul]
      omega
    rw [rdR, rdC]
    by_cases hN : N < n
    · rw [if_pos hN, if_pos hN]
    · rw [if_neg hN, if_neg hN]
      generalize 2 * c + bt (n - 1) = d at *
      have hsp := split3 n h.sorted
      have hA : ∀ x ∈ l.filter (fun x => decide (x.2 < n)), x.2 ≠ n := fun x hx => by have := (List.mem_filter.1 hx).2; simp at this; omega
      have hB : ∀ x ∈ l.filter (fun x => decide (x.2 = n)), x.2 = n := fun x hx => by have := (List.mem_filter.1 hx).2; simpa using this
      have hC : ∀ x ∈ l.filter (fun x => decide (n < x.2)), x.2 ≠ n := fun x hx => by have := (List.mem_filter.1 hx).2; simp at this; omega
      have e1 : (ksOf 0 l).find? (fun x => x.2.1 == n && x.2.2 == d * pw n) = (ksOf (low l n) (l.filter (fun x => decide (x.2 = n)))).find? (fun x => x.2.1 == n && x.2.2 == d * pw n) := by
        conv => lhs; rw [hsp]
        rw [ksOf_append, ksOf_append, List.find?_append, List.find?_append, ks_none hA, ks_none hC]
        rw [Nat.zero_add]
        simp [low]
      have hd := low_dvd l n
      have hfi := ks_find (n := n) (q := d) (a := low l n) hB (low l n / pw n) (by rw [Nat.div_mul_cancel hd]) d rfl
      rw [e1]
      have hrow := in_row (l := l) n d hlo2
      rw [rowOf_length] at hrow
      by_cases hin : d * pw n < low l (n + 1)
      · have h2 := hrow.1 hin
        rw [if_pos (by omega)] at hfi
        rw [hfi, if_pos hin]
        rfl
      · rw [if_neg (fun h3 => hin (hrow.2 ⟨h3.1, by omega⟩))] at hfi
        rw [hfi, if_neg hin]
        have hany : (ksOf 0 l).any (fun x => decide (n < x.2.1) && x.2.2 / pw n == d) = decide (d * pw n < tot l) := by
          rw [Bool.eq_iff_iff, List.any_eq_true, decide_eq_true_eq]
          constructor
          · rintro ⟨y, hy, hq⟩
            obtain ⟨m, x, r, e, rfl⟩ := ks_mem hy
            simp at hq
            have h3 : d * pw n ≤ tot m := by rw [← hq.2]; exact Nat.div_mul_le_self _ _
            have h4 := pw_pos x.2
            rw [e, tot_append, tot_cons]
            omega
          · intro hlt
            have hge : low l (n + 1) ≤ d * pw n := by omega
            have key : ∀ (m r : SL), l = m ++ r → tot m ≤ d * pw n → ∃ y ∈ ksOf (tot m) r, (decide (n < y.2.1) && y.2.2 / pw n == d) = true := by
              intro m r
              induction r generalizing m with
              | nil =>
                intro e ht
                rw [e, List.append_nil] at hlt
                omega
              | cons x r ih =>
                intro e ht
                by_cases hx : tot m + pw x.2 ≤ d * pw n
                · obtain ⟨y, hy, hq⟩ := ih (m ++ [x]) (by rw [e]; simp) (by rw [tot_append, tot_cons, tot_nil]; omega)
                  rw [tot_append, tot_cons, tot_nil] at hy
                  exact ⟨y, by rw [ksOf]; exact List.mem_cons_of_mem _ hy, hq⟩
                · refine ⟨(x.1, x.2, tot m), by rw [ksOf]; exact List.mem_cons_self, ?_⟩
                  have hs := h.sorted
                  rw [e, List.pairwise_append] at hs
                  have hdm : pw x.2 ∣ tot m := tot_dvd (fun y hy => hs.2.2 y hy x (by simp))
                  have hlen : n < x.2 := by
                    rcases Nat.lt_or_ge n x.2 with h4 | h4
                    · exact h4
                    · exfalso
                      have : tot m + pw x.2 ≤ low l (n + 1) := by
                        unfold low
                        rw [e, List.filter_append, List.filter_cons_of_pos (by simp; omega), tot_append, tot_cons]
                        rw [List.filter_eq_self.2 (fun y hy => by have := hs.2.2 y hy x (by simp); simp; omega)]
                        omega
                      omega
                  have hd2 : pw x.2 ∣ d * pw n := Nat.dvd_trans (pw_dvd (by omega)) (Nat.dvd_mul_left _ _)
                  have heq : tot m = d * pw n := by
                    obtain ⟨a, ha⟩ := hdm
                    obtain ⟨b, hb⟩ := hd2
                    rw [ha, hb] at ht hx ⊢
                    have h5 : a ≤ b := Nat.le_of_mul_le_mul_left ht (pw_pos _)
                    have h6 : ¬ a + 1 ≤ b := fun h7 => hx (by rw [← Nat.mul_succ]; exact Nat.mul_le_mul_left _ h7)
                    rw [show a = b by omega]
                  simp [hlen, heq, Nat.mul_div_cancel _ (pw_pos n)]
            obtain ⟨y, hy, hq⟩ := key [] l rfl (by simp [tot])
            exact ⟨y, hy, hq⟩
        rw [hany]
        by_cases hlt : d * pw n < tot l
        · rw [if_pos hlt, decide_eq_true hlt, if_pos rfl]
          exact rdR_eq h bt N hb f (n + 1) d (by omega) (by omega) (by rw [show n + 1 - 1 = n by omega]; omega)
        · rw [if_neg hlt, decide_eq_false hlt]
          rfl
end Go.Proofs.Ytegmbjkpjglgpaa.Cd
