/-
  burnishref05.Best, plain: the tables level by level, and what they hold: the least cost of any code.
-/
import Derived.Test.YthhllollhjpheaaMgI
namespace Go.Proofs.Ythhllollhjpheaa
open Mg

/-- what stands from place i on -/
def rs (d : List Int) (i : Nat) : Int := (d.drop i).sum
theorem rs_end (d : List Int) {i : Nat} (h : d.length ≤ i) : rs d i = 0 := by
  unfold rs
  rw [List.drop_eq_nil_of_le h]
  rfl
theorem rs_step (d : List Int) {i : Nat} (h : i < d.length) : rs d i = d.getD i 0 + rs d (i + 1) := by
  unfold rs
  rw [List.drop_eq_getElem_cons h, List.sum_cons, List.getD_eq_getElem?_getD, List.getElem?_eq_getElem h]
  rfl
theorem rs_nn {d : List Int} (h : ∀ x ∈ d, 0 ≤ x) (i : Nat) : 0 ≤ rs d i := by
  unfold rs
  have : ∀ l : List Int, (∀ x ∈ l, 0 ≤ x) → 0 ≤ l.sum := by
    intro l
    induction l with
    | nil => intro _; exact Int.le_refl _
    | cons a t ih =>
      intro hl
      rw [List.sum_cons]
      have := hl a (by simp)
      have := ih (fun x hx => hl x (by simp [hx]))
      omega
  exact this _ (fun x hx => h x (List.mem_of_mem_drop hx))
/-- the states that the levels can come to -/
inductive Reach (d : List Int) : Nat → Nat → Nat → Int → Prop
  | start : Reach d 1 0 (min 2 d.length) (rs d 0)
  | step {t i n k : Nat} {c : Int} : Reach d t i n c → k ≤ n → i + k < d.length → 0 < min (2 * (n - k)) (d.length - i - k) → Reach d (t + 1) (i + k) (min (2 * (n - k)) (d.length - i - k)) (c + rs d (i + k))
def Done (d : List Int) (L : Nat) (c : Int) : Prop := ∃ t i n, t ≤ L ∧ Reach d t i n c ∧ d.length ≤ i + n
theorem reach_bd {d : List Int} (hd : ∀ x ∈ d, 0 ≤ x) {t i n : Nat} {c : Int} (h : Reach d t i n c) : i ≤ d.length ∧ n ≤ d.length ∧ 0 ≤ c ∧ 1 ≤ t := by
  induction h with
  | start => exact ⟨by omega, by omega, rs_nn hd 0, by omega⟩
  | @step t i n k c h hk hi ho ih =>
    have := rs_nn hd (i + k)
    exact ⟨by omega, by omega, by omega, by omega⟩
theorem reach_inv {d : List Int} {t a o : Nat} {c : Int} (h : Reach d t a o c) : (t = 1 ∧ a = 0 ∧ o = min 2 d.length ∧ c = rs d 0) ∨
    ∃ t' i n k c', t = t' + 1 ∧ Reach d t' i n c' ∧ k ≤ n ∧ a = i + k ∧ i + k < d.length ∧ o = min (2 * (n - k)) (d.length - i - k) ∧ 0 < o ∧ c = c' + rs d (i + k) := by
  cases h with
  | start => exact .inl ⟨rfl, rfl, rfl, rfl⟩
  | step h h1 h2 h3 => exact .inr ⟨_, _, _, _, _, rfl, h, h1, rfl, h2, rfl, h3, rfl⟩
def IsMin (S : Int → Prop) (v : Int) : Prop := (v = -1 ∧ ∀ c, ¬ S c) ∨ (0 ≤ v ∧ S v ∧ ∀ c, S c → v ≤ c)
theorem IsMin.other {A B : Int → Prop} {v : Int} (h : IsMin A v) (h1 : ∀ c, A c → B c) (h2 : ∀ b, B b → ∃ a, A a ∧ a ≤ b) : IsMin B v := by
  rcases h with ⟨e, hn⟩ | ⟨h0, hv, hl⟩
  · exact .inl ⟨e, fun c hc => by obtain ⟨a, ha, _⟩ := h2 c hc; exact hn a ha⟩
  · refine .inr ⟨h0, h1 v hv, fun c hc => ?_⟩
    obtain ⟨a, ha, hac⟩ := h2 c hc
    have := hl a ha
    omega
theorem IsMin.put {A : Int → Prop} {v c : Int} (h : IsMin A v) (hc : 0 ≤ c) : IsMin (fun x => A x ∨ x = c) (if v < 0 ∨ c < v then c else v) := by
  rcases h with ⟨e, hn⟩ | ⟨h0, hv, hl⟩
  · rw [if_pos (.inl (by omega))]
    refine .inr ⟨hc, .inr rfl, fun x hx => ?_⟩
    rcases hx with hx | hx
    · exact absurd hx (hn x)
    · omega
  · by_cases h : c < v
    · rw [if_pos (.inr h)]
      refine .inr ⟨hc, .inr rfl, fun x hx => ?_⟩
      rcases hx with hx | hx
      · have := hl x hx
        omega
      · omega
    · rw [if_neg (by omega)]
      refine .inr ⟨h0, .inl hv, fun x hx => ?_⟩
      rcases hx with hx | hx
      · exact hl x hx
      · omega
theorem IsMin.same {A B : Int → Prop} {v : Int} (h : IsMin A v) (e : ∀ c, A c ↔ B c) : IsMin B v :=
  h.other (fun c => (e c).1) (fun b hb => ⟨b, (e b).2 hb, Int.le_refl _⟩)
abbrev Tab := Nat → Nat → Int
def set2 (T : Tab) (i n : Nat) (c : Int) : Tab := fun a b => if a = i ∧ b = n then c else T a b
def op (d : List Int) (i n k : Nat) : Nat := min (2 * (n - k)) (d.length - i - k)
def stp (d : List Int) (i n k : Nat) (v : Int) (S : Int × Tab) : Int × Tab :=
  if i + k = d.length then (if S.1 < 0 ∨ v < S.1 then v else S.1, S.2)
  else if op d i n k = 0 then S
  else if S.2 (i + k) (op d i n k) < 0 ∨ v + rs d (i + k) < S.2 (i + k) (op d i n k) then (S.1, set2 S.2 (i + k) (op d i n k) (v + rs d (i + k))) else S
def kf (d : List Int) (i n : Nat) (v : Int) (S : Int × Tab) : Nat → Int × Tab
  | 0 => S
  | k + 1 => stp d i n k v (kf d i n v S k)
def nf (d : List Int) (T : Tab) (i : Nat) (S : Int × Tab) : Nat → Int × Tab
  | 0 => S
  | n + 1 => if T i n < 0 then nf d T i S n else kf d i n (T i n) (nf d T i S n) (min n (d.length - i) + 1)
def fi (d : List Int) (T : Tab) (S : Int × Tab) : Nat → Int × Tab
  | 0 => S
  | i + 1 => nf d T i (fi d T S i) (d.length + 1)
def none2M : Tab := fun _ _ => -1
def lv (d : List Int) : Nat → Int × Tab
  | 0 => (-1, set2 none2M 0 (min 2 d.length) (rs d 0))
  | t + 1 => fi d (lv d t).2 ((lv d t).1, none2M) (d.length + 1)
def bestFn (d : List Int) (L : Nat) : Int := if d.length = 0 then 0 else (lv d L).1
/-- what a table and the best one hold, when so much has been looked through -/
def TabS (d : List Int) (T : Tab) (P : Nat → Nat → Nat → Prop) (a o : Nat) (c : Int) : Prop := ∃ i n k, P i n k ∧ 0 ≤ T i n ∧ i + k = a ∧ a < d.length ∧ o = op d i n k ∧ 0 < o ∧ c = T i n + rs d a
def BestS (d : List Int) (T : Tab) (D0 : Int → Prop) (P : Nat → Nat → Nat → Prop) (c : Int) : Prop := D0 c ∨ ∃ i n k, P i n k ∧ 0 ≤ T i n ∧ i + k = d.length ∧ c = T i n
structure Gd (d : List Int) (T : Tab) (D0 : Int → Prop) (P : Nat → Nat → Nat → Prop) (S : Int × Tab) : Prop where
  tab : ∀ a o, IsMin (TabS d T P a o) (S.2 a o)
  best : IsMin (BestS d T D0 P) S.1
section
variable {d : List Int} {T : Tab} {D0 : Int → Prop} {P Q : Nat → Nat → Nat → Prop} {S : Int × Tab}
theorem Gd.congr (h : Gd d T D0 P S) (e : ∀ a b c, P a b c ↔ Q a b c) : Gd d T D0 Q S := by
  have : P = Q := by
    funext a b c
    exact propext (e a b c)
  rwa [← this]
theorem Gd.skip (h : Gd d T D0 P S) (e : ∀ a b c, Q a b c → T a b < 0) : Gd d T D0 (fun a b c => P a b c ∨ Q a b c) S := by
  refine ⟨fun a o => (h.tab a o).same fun c => ⟨?_, ?_⟩, h.best.same fun c => ⟨?_, ?_⟩⟩
  · rintro ⟨i, n, k, hp, r⟩
    exact ⟨i, n, k, .inl hp, r⟩
  · rintro ⟨i, n, k, hp | hq, h0, r⟩
    · exact ⟨i, n, k, hp, h0, r⟩
    · have := e _ _ _ hq
      omega
  · rintro (hd | ⟨i, n, k, hp, r⟩)
    · exact .inl hd
    · exact .inr ⟨i, n, k, .inl hp, r⟩
  · rintro (hd | ⟨i, n, k, hp | hq, h0, r⟩)
    · exact .inl hd
    · exact .inr ⟨i, n, k, hp, h0, r⟩
    · have := e _ _ _ hq
      omega
theorem Gd.stp (hd : ∀ x ∈ d, 0 ≤ x) (h : Gd d T D0 P S) {i n k : Nat} (hv : 0 ≤ T i n) (hik : i + k ≤ d.length) : Gd d T D0 (fun a b c => P a b c ∨ (a = i ∧ b = n ∧ c = k)) (stp d i n k (T i n) S) := by
  have hr := rs_nn hd (i + k)
  -- nothing comes to a table's other places
  have off : ∀ a o, (i + k = d.length ∨ op d i n k = 0 ∨ ¬ (a = i + k ∧ o = op d i n k)) → IsMin (TabS d T (fun a b c => P a b c ∨ (a = i ∧ b = n ∧ c = k)) a o) (S.2 a o) := by
    intro a o hoff
    refine (h.tab a o).same fun c => ⟨?_, ?_⟩
    · rintro ⟨i', n', k', hp, r⟩
      exact ⟨i', n', k', .inl hp, r⟩
    · rintro ⟨i', n', k', hp | ⟨rfl, rfl, rfl⟩, h0, h1, h2, h3, h4, h5⟩
      · exact ⟨i', n', k', hp, h0, h1, h2, h3, h4, h5⟩
      · exfalso
        rcases hoff with hoff | hoff | hoff
        · omega
        · omega
        · exact hoff ⟨h1.symm, h3⟩
  have boff : i + k ≠ d.length → IsMin (BestS d T D0 (fun a b c => P a b c ∨ (a = i ∧ b = n ∧ c = k))) S.1 := by
    intro hne
    refine h.best.same fun c => ⟨?_, ?_⟩
    · rintro (hd | ⟨i', n', k', hp, r⟩)
      · exact .inl hd
      · exact .inr ⟨i', n', k', .inl hp, r⟩
    · rintro (hd | ⟨i', n', k', hp | ⟨rfl, rfl, rfl⟩, h0, h1, r⟩)
      · exact .inl hd
      · exact .inr ⟨i', n', k', hp, h0, h1, r⟩
      · exact absurd h1 hne
  unfold Go.Proofs.Ythhllollhjpheaa.stp
  by_cases c1 : i + k = d.length
  · rw [if_pos c1]
    refine ⟨fun a o => off a o (.inl c1), (h.best.put hv).same fun c => ⟨?_, ?_⟩⟩
    · rintro ((hd | ⟨i', n', k', hp, r⟩) | rfl)
      · exact .inl hd
      · exact .inr ⟨i', n', k', .inl hp, r⟩
      · exact .inr ⟨i, n, k, .inr ⟨rfl, rfl, rfl⟩, hv, c1, rfl⟩
    · rintro (hd | ⟨i', n', k', hp | ⟨rfl, rfl, rfl⟩, h0, h1, r⟩)
      · exact .inl (.inl hd)
      · exact .inl (.inr ⟨i', n', k', hp, h0, h1, r⟩)
      · exact .inr r
  · rw [if_neg c1]
    by_cases c2 : op d i n k = 0
    · rw [if_pos c2]
      exact ⟨fun a o => off a o (.inr (.inl c2)), boff c1⟩
    · rw [if_neg c2]
      have hit := ((h.tab (i + k) (op d i n k)).put (c := T i n + rs d (i + k)) (by omega)).same (B := TabS d T (fun a b c => P a b c ∨ (a = i ∧ b = n ∧ c = k)) (i + k) (op d i n k)) (fun c => by
        constructor
        · rintro (⟨i', n', k', hp, r⟩ | rfl)
          · exact ⟨i', n', k', .inl hp, r⟩
          · exact ⟨i, n, k, .inr ⟨rfl, rfl, rfl⟩, hv, rfl, by omega, rfl, by omega, rfl⟩
        · rintro ⟨i', n', k', hp | ⟨rfl, rfl, rfl⟩, h0, h1, h2, h3, h4, h5⟩
          · exact .inl ⟨i', n', k', hp, h0, h1, h2, h3, h4, h5⟩
          · exact .inr h5)
      by_cases c3 : S.2 (i + k) (op d i n k) < 0 ∨ T i n + rs d (i + k) < S.2 (i + k) (op d i n k)
      · rw [if_pos c3] at hit ⊢
        refine ⟨fun a o => ?_, boff c1⟩
        show IsMin _ (set2 S.2 (i + k) (op d i n k) (T i n + rs d (i + k)) a o)
        unfold set2
        by_cases e : a = i + k ∧ o = op d i n k
        · rw [if_pos e, e.1, e.2]
          exact hit
        · rw [if_neg e]
          exact off a o (.inr (.inr e))
      · rw [if_neg c3] at hit ⊢
        refine ⟨fun a o => ?_, boff c1⟩
        by_cases e : a = i + k ∧ o = op d i n k
        · rw [e.1, e.2]
          exact hit
        · exact off a o (.inr (.inr e))
theorem Gd.kf (hd : ∀ x ∈ d, 0 ≤ x) (h : Gd d T D0 P S) {i n : Nat} (hv : 0 ≤ T i n) : ∀ k, i + k ≤ d.length + 1 → Gd d T D0 (fun a b c => P a b c ∨ (a = i ∧ b = n ∧ c < k)) (kf d i n (T i n) S k)
  | 0, _ => h.congr fun a b c => ⟨.inl, fun h => h.elim id (fun h => by omega)⟩
  | k + 1, hk => by
    refine ((Gd.kf hd h hv k (by omega)).stp hd (k := k) hv (by omega)).congr fun a b c => ⟨?_, ?_⟩
    · rintro ((hp | ⟨h1, h2, h3⟩) | ⟨h1, h2, h3⟩)
      · exact .inl hp
      · exact .inr ⟨h1, h2, by omega⟩
      · exact .inr ⟨h1, h2, by omega⟩
    · rintro (hp | ⟨h1, h2, h3⟩)
      · exact .inl (.inl hp)
      · by_cases e : c = k
        · exact .inr ⟨h1, h2, e⟩
        · exact .inl (.inr ⟨h1, h2, by omega⟩)
theorem Gd.nf (hd : ∀ x ∈ d, 0 ≤ x) (h : Gd d T D0 P S) {i : Nat} (hi : i ≤ d.length) : ∀ n, Gd d T D0 (fun a b c => P a b c ∨ (a = i ∧ b < n ∧ c ≤ b ∧ a + c ≤ d.length)) (nf d T i S n)
  | 0 => h.congr fun a b c => ⟨.inl, fun h => h.elim id (fun h => by omega)⟩
  | n + 1 => by
    have ih := Gd.nf hd h hi n
    unfold Go.Proofs.Ythhllollhjpheaa.nf
    by_cases hv : T i n < 0
    · rw [if_pos hv]
      refine (ih.skip (Q := fun a b c => a = i ∧ b = n ∧ c ≤ b ∧ a + c ≤ d.length) (fun a b c hq => by rw [hq.1, hq.2.1]; exact hv)).congr fun a b c => ⟨?_, ?_⟩
      · rintro ((hp | h1) | h1)
        · exact .inl hp
        · exact .inr ⟨h1.1, by omega, h1.2.2⟩
        · exact .inr ⟨h1.1, by omega, h1.2.2⟩
      · rintro (hp | h1)
        · exact .inl (.inl hp)
        · by_cases e : b = n
          · exact .inr ⟨h1.1, e, h1.2.2⟩
          · exact .inl (.inr ⟨h1.1, by omega, h1.2.2⟩)
    · rw [if_neg hv]
      refine (ih.kf hd (by omega) (min n (d.length - i) + 1) (by omega)).congr fun a b c => ⟨?_, ?_⟩
      · rintro ((hp | h1) | h1)
        · exact .inl hp
        · exact .inr ⟨h1.1, by omega, h1.2.2⟩
        · exact .inr ⟨h1.1, by omega, by omega, by omega⟩
      · rintro (hp | h1)
        · exact .inl (.inl hp)
        · by_cases e : b = n
          · exact .inr ⟨h1.1, e, by omega⟩
          · exact .inl (.inr ⟨h1.1, by omega, h1.2.2⟩)
theorem Gd.fi (hd : ∀ x ∈ d, 0 ≤ x) (h : Gd d T D0 P S) : ∀ i, i ≤ d.length + 1 → Gd d T D0 (fun a b c => P a b c ∨ (a < i ∧ b ≤ d.length ∧ c ≤ b ∧ a + c ≤ d.length)) (fi d T S i)
  | 0, _ => h.congr fun a b c => ⟨.inl, fun h => h.elim id (fun h => by omega)⟩
  | i + 1, hi => by
    refine ((Gd.fi hd h i (by omega)).nf hd (i := i) (by omega) (d.length + 1)).congr fun a b c => ⟨?_, ?_⟩
    · rintro ((hp | h1) | h1)
      · exact .inl hp
      · exact .inr ⟨by omega, h1.2⟩
      · exact .inr ⟨by omega, by omega, h1.2.2⟩
    · rintro (hp | h1)
      · exact .inl (.inl hp)
      · by_cases e : a = i
        · exact .inr ⟨e, by omega, h1.2.2⟩
        · exact .inl (.inr ⟨by omega, h1.2⟩)
end
/-- the tables of the levels -/
theorem lv_min {d : List Int} (hd : ∀ x ∈ d, 0 ≤ x) : ∀ t, (∀ a o, IsMin (Reach d (t + 1) a o) ((lv d t).2 a o)) ∧ IsMin (Done d t) (lv d t).1
  | 0 => by
    refine ⟨fun a o => ?_, .inl ⟨rfl, fun c => ?_⟩⟩
    · show IsMin _ (set2 none2M 0 (min 2 d.length) (rs d 0) a o)
      unfold set2
      by_cases e : a = 0 ∧ o = min 2 d.length
      · rw [if_pos e, e.1, e.2]
        refine .inr ⟨rs_nn hd 0, .start, fun c hc => ?_⟩
        rcases reach_inv hc with ⟨_, _, _, e⟩ | ⟨t', i, n, k, c', ht, h, _⟩
        · rw [e]
          exact Int.le_refl _
        · have := (reach_bd hd h).2.2.2
          omega
      · rw [if_neg e]
        refine .inl ⟨rfl, fun c hc => ?_⟩
        rcases reach_inv hc with ⟨_, e1, e2, _⟩ | ⟨t', i, n, k, c', ht, h, _⟩
        · exact e ⟨e1, e2⟩
        · have := (reach_bd hd h).2.2.2
          omega
    · rintro ⟨t, i, n, ht, h, _⟩
      have := (reach_bd hd h).2.2.2
      omega
  | t + 1 => by
    obtain ⟨h1, h2⟩ := lv_min hd t
    have g0 : Gd d (lv d t).2 (Done d t) (fun _ _ _ => False) ((lv d t).1, none2M) := by
      refine ⟨fun a o => .inl ⟨rfl, fun c hc => ?_⟩, h2.same fun c => ⟨.inl, ?_⟩⟩
      · obtain ⟨_, _, _, h, _⟩ := hc
        exact h
      · rintro (h | ⟨_, _, _, h, _⟩)
        · exact h
        · exact h.elim
    have g := g0.fi hd (d.length + 1) (Nat.le_refl _)
    have look : ∀ i n, 0 ≤ (lv d t).2 i n → Reach d (t + 1) i n ((lv d t).2 i n) := by
      intro i n h0
      rcases h1 i n with ⟨e, _⟩ | ⟨_, hv, _⟩
      · omega
      · exact hv
    have low : ∀ i n c, Reach d (t + 1) i n c → 0 ≤ (lv d t).2 i n ∧ (lv d t).2 i n ≤ c := by
      intro i n c hc
      rcases h1 i n with ⟨_, hn⟩ | ⟨h0, _, hl⟩
      · exact absurd hc (hn c)
      · exact ⟨h0, hl c hc⟩
    refine ⟨fun a o => (g.tab a o).other (fun c hc => ?_) (fun c hc => ?_), g.best.other (fun c hc => ?_) (fun c hc => ?_)⟩
    · obtain ⟨i, n, k, hp, h0, rfl, ha, rfl, ho, rfl⟩ := hc
      rcases hp with hp | hp
      · exact hp.elim
      · exact .step (look i n h0) hp.2.2.1 ha ho
    · rcases reach_inv hc with ⟨e, _⟩ | ⟨t3, i, n, k, c', ht, h, hk, rfl, hi, rfl, ho, rfl⟩
      · omega
      · obtain rfl : t3 = t + 1 := by omega
        have b := reach_bd hd h
        obtain ⟨l0, l1⟩ := low i n c' h
        exact ⟨_, ⟨i, n, k, .inr ⟨by omega, by omega, hk, by omega⟩, l0, rfl, hi, rfl, ho, rfl⟩, by omega⟩
    · rcases hc with ⟨t', i, n, ht, h, hm⟩ | ⟨i, n, k, hp, h0, hm, rfl⟩
      · exact ⟨t', i, n, by omega, h, hm⟩
      · rcases hp with hp | hp
        · exact hp.elim
        · exact ⟨t + 1, i, n, Nat.le_refl _, look i n h0, by omega⟩
    · obtain ⟨t', i, n, ht, h, hm⟩ := hc
      by_cases e : t' = t + 1
      · subst e
        have b := reach_bd hd h
        obtain ⟨l0, l1⟩ := low i n c h
        exact ⟨_, .inr ⟨i, n, d.length - i, .inr ⟨by omega, by omega, by omega, by omega⟩, l0, by omega, rfl⟩, l1⟩
      · exact ⟨c, .inl ⟨t', i, n, by omega, h, hm⟩, Int.le_refl _⟩
/-! ### what comes out is a code, and each code comes out -/
theorem SN_add2 (f : Nat → Nat) (a : Nat) : ∀ b, SN (a + b) f = SN a f + SN b (fun j => f (a + j))
  | 0 => rfl
  | b + 1 => by
    have := SN_add2 f a b
    show SN (a + b) f + f (a + b) = SN a f + (SN b (fun j => f (a + j)) + f (a + b))
    omega
theorem SZ_add2 (f : Nat → Int) (a : Nat) : ∀ b, SZ (a + b) f = SZ a f + SZ b (fun j => f (a + j))
  | 0 => by simp [SZ]
  | b + 1 => by
    have := SZ_add2 f a b
    show SZ (a + b) f + f (a + b) = SZ a f + (SZ b (fun j => f (a + j)) + f (a + b))
    omega
theorem SN_const (x : Nat) : ∀ n, SN n (fun _ => x) = n * x
  | 0 => by simp [SN]
  | n + 1 => by
    simp only [SN]
    rw [SN_const x n, Nat.succ_mul]
theorem SZ_mulr (t : Int) (f : Nat → Int) : ∀ n, SZ n (fun i => f i * t) = SZ n f * t
  | 0 => by simp [SZ]
  | n + 1 => by
    simp only [SZ]
    rw [SZ_mulr t f n, Int.add_mul]
theorem rs_split (d : List Int) (i : Nat) : ∀ k, i + k ≤ d.length → rs d i = SZ k (fun j => d.getD (i + j) 0) + rs d (i + k)
  | 0, _ => by simp [SZ]
  | k + 1, h => by
    have ih := rs_split d i k (by omega)
    have s := rs_step d (i := i + k) (by omega)
    simp only [SZ]
    rw [ih, s]
    rw [show i + k + 1 = i + (k + 1) by omega]
    omega
/-- lengths of the first i, and what is open -/
theorem reach_code {d : List Int} {t i n : Nat} {c : Int} (h : Reach d t i n c) : 1 ≤ t ∧ i ≤ d.length ∧ ∃ f : Nat → Nat, (∀ j, j < i → 1 ≤ f j ∧ f j < t) ∧ (∀ L, t ≤ L → SN i (fun j => 2 ^ (L - f j)) + n * 2 ^ (L - t) ≤ 2 ^ L) ∧ c = SZ i (fun j => d.getD j 0 * (f j : Int)) + t * rs d i := by
  induction h with
  | start =>
    refine ⟨Nat.le_refl _, by omega, fun _ => 0, fun j hj => by omega, fun L hL => ?_, by simp [SZ]⟩
    have e : 2 ^ L = 2 * 2 ^ (L - 1) := by rw [← pow_succ2]; congr 1; omega
    have : min 2 d.length * 2 ^ (L - 1) ≤ 2 * 2 ^ (L - 1) := Nat.mul_le_mul_right _ (by omega)
    simp only [SN]
    omega
  | @step t i n k c h hk hi ho ih =>
    obtain ⟨h1, h2, f, a1, a2, a3⟩ := ih
    refine ⟨by omega, by omega, fun j => if j < i then f j else t, fun j hj => ?_, fun L hL => ?_, ?_⟩
    · show 1 ≤ (if j < i then f j else t) ∧ (if j < i then f j else t) < t + 1
      by_cases hji : j < i
      · rw [if_pos hji]
        have := a1 j hji
        omega
      · rw [if_neg hji]
        omega
    · have b := a2 L (by omega)
      have e1 : SN i (fun j => 2 ^ (L - (if j < i then f j else t))) = SN i (fun j => 2 ^ (L - f j)) := SN_congr fun j hj => by rw [if_pos hj]
      have e2 : SN k (fun j => 2 ^ (L - (if i + j < i then f (i + j) else t))) = k * 2 ^ (L - t) := by
        rw [← SN_const]
        exact SN_congr fun j hj => by rw [if_neg (by omega)]
      rw [SN_add2, e1, e2]
      have e3 : 2 ^ (L - t) = 2 * 2 ^ (L - (t + 1)) := by rw [← pow_succ2]; congr 1; omega
      have e4 : min (2 * (n - k)) (d.length - i - k) * 2 ^ (L - (t + 1)) ≤ (2 * (n - k)) * 2 ^ (L - (t + 1)) := Nat.mul_le_mul_right _ (by omega)
      have e5 : (2 * (n - k)) * 2 ^ (L - (t + 1)) = (n - k) * 2 ^ (L - t) := by rw [e3, Nat.mul_comm 2 (n - k), Nat.mul_assoc]
      have e6 : n * 2 ^ (L - t) = k * 2 ^ (L - t) + (n - k) * 2 ^ (L - t) := by rw [← Nat.add_mul]; congr 1; omega
      omega
    · have e1 : SZ i (fun j => d.getD j 0 * ((if j < i then f j else t : Nat) : Int)) = SZ i (fun j => d.getD j 0 * (f j : Int)) := SZ_congr fun j hj => by rw [if_pos hj]
      have e2 : SZ k (fun j => d.getD (i + j) 0 * ((if i + j < i then f (i + j) else t : Nat) : Int)) = SZ k (fun j => d.getD (i + j) 0) * t := by
        rw [← SZ_mulr]
        exact SZ_congr fun j hj => by rw [if_neg (by omega)]
      have e3 := rs_split d i k (by omega)
      rw [SZ_add2, e1, e2, a3, e3]
      generalize SZ i (fun j => d.getD j 0 * (f j : Int)) = X
      generalize SZ k (fun j => d.getD (i + j) 0) = Y
      generalize rs d (i + k) = Z
      rw [Int.natCast_add, Int.mul_add, Int.add_mul, Int.mul_comm Y]
      simp
      omega
theorem done_code {d : List Int} {L : Nat} {c : Int} (h : Done d L c) : ∃ f : Nat → Nat, (∀ j, j < d.length → 1 ≤ f j ∧ f j ≤ L) ∧ SN d.length (fun j => 2 ^ (L - f j)) ≤ 2 ^ L ∧ c = SZ d.length (fun j => d.getD j 0 * (f j : Int)) := by
  obtain ⟨t, i, n, ht, hr, hm⟩ := h
  obtain ⟨h1, h2, f, a1, a2, a3⟩ := reach_code hr
  obtain ⟨k, hk⟩ : ∃ k, d.length = i + k := ⟨d.length - i, by omega⟩
  refine ⟨fun j => if j < i then f j else t, fun j hj => ?_, ?_, ?_⟩
  · show 1 ≤ (if j < i then f j else t) ∧ (if j < i then f j else t) ≤ L
    by_cases hji : j < i
    · rw [if_pos hji]
      have := a1 j hji
      omega
    · rw [if_neg hji]
      omega
  · have b := a2 L ht
    have e1 : SN i (fun j => 2 ^ (L - (if j < i then f j else t))) = SN i (fun j => 2 ^ (L - f j)) := SN_congr fun j hj => by rw [if_pos hj]
    have e2 : SN k (fun j => 2 ^ (L - (if i + j < i then f (i + j) else t))) = k * 2 ^ (L - t) := by
      rw [← SN_const]
      exact SN_congr fun j hj => by rw [if_neg (by omega)]
    rw [hk, SN_add2, e1, e2]
    have : k * 2 ^ (L - t) ≤ n * 2 ^ (L - t) := Nat.mul_le_mul_right _ (by omega)
    omega
  · have e1 : SZ i (fun j => d.getD j 0 * ((if j < i then f j else t : Nat) : Int)) = SZ i (fun j => d.getD j 0 * (f j : Int)) := SZ_congr fun j hj => by rw [if_pos hj]
    have e2 : SZ k (fun j => d.getD (i + j) 0 * ((if i + j < i then f (i + j) else t : Nat) : Int)) = SZ k (fun j => d.getD (i + j) 0) * t := by
      rw [← SZ_mulr]
      exact SZ_congr fun j hj => by rw [if_neg (by omega)]
    have e3 := rs_split d i k (by omega)
    rw [rs_end d (i := i + k) (by omega)] at e3
    rw [hk, SZ_add2, e1, e2, a3, e3, Int.add_zero, Int.mul_comm]
theorem split_at (f : Nat → Nat) (t : Nat) : ∀ m, (∀ i k, i ≤ k → k < m → f i ≤ f k) → ∃ i, i ≤ m ∧ (∀ j, j < i → f j < t) ∧ (∀ j, i ≤ j → j < m → t ≤ f j)
  | 0, _ => ⟨0, Nat.le_refl _, fun j hj => by omega, fun j _ hj => by omega⟩
  | m + 1, h => by
    by_cases c : f m < t
    · refine ⟨m + 1, Nat.le_refl _, fun j hj => ?_, fun j h1 h2 => by omega⟩
      have := h j m (by omega) (by omega)
      omega
    · obtain ⟨i, h1, h2, h3⟩ := split_at f t m (fun i k a b => h i k a (by omega))
      refine ⟨i, by omega, h2, fun j a b => ?_⟩
      by_cases e : j = m
      · subst e
        omega
      · exact h3 j a (by omega)
theorem code_reach {d : List Int} {L : Nat} {f : Nat → Nat} (hm : ∀ i k, i ≤ k → k < d.length → f i ≤ f k) (hb : ∀ j, j < d.length → 1 ≤ f j ∧ f j ≤ L) (hk : SN d.length (fun j => 2 ^ (L - f j)) ≤ 2 ^ L) :
    ∀ t, ∀ i, i < d.length → (∀ j, j < i → f j < t + 1) → (∀ j, i ≤ j → j < d.length → t + 1 ≤ f j) → ∃ N, SN i (fun j => 2 ^ (L - f j)) + N * 2 ^ (L - (t + 1)) = 2 ^ L ∧ Reach d (t + 1) i (min N (d.length - i)) (SZ i (fun j => d.getD j 0 * (f j : Int)) + ((t + 1 : Nat) : Int) * rs d i)
  | 0, i, hi, h1, h2 => by
    have e0 : i = 0 := by
      apply Decidable.byContradiction
      intro hn
      have := h1 0 (by omega)
      have := hb 0 (by omega)
      omega
    subst e0
    have := hb 0 hi
    refine ⟨2, ?_, ?_⟩
    · simp only [SN]
      rw [Nat.zero_add, ← pow_succ2]
      congr 1
      omega
    · have := Reach.start (d := d)
      simp only [SZ]
      simpa using this
  | t + 1, i', hi, h1, h2 => by
    obtain ⟨i, c1, c2, c3⟩ := split_at f (t + 1) d.length hm
    have hii : i ≤ i' := by
      apply Decidable.byContradiction
      intro hn
      have := c2 i' (by omega)
      have := h2 i' (Nat.le_refl _) hi
      omega
    obtain ⟨k, rfl⟩ : ∃ k, i' = i + k := ⟨i' - i, by omega⟩
    obtain ⟨N, b1, b2⟩ := code_reach hm hb hk t i (by omega) c2 c3
    have hL := hb (i + k) hi
    have ht := h2 (i + k) (Nat.le_refl _) hi
    have same : ∀ j, j < k → f (i + j) = t + 1 := fun j hj => by
      have := h1 (i + j) (by omega)
      have := c3 (i + j) (by omega) (by omega)
      omega
    have e2 : SN k (fun j => 2 ^ (L - f (i + j))) = k * 2 ^ (L - (t + 1)) := by
      rw [← SN_const]
      exact SN_congr fun j hj => by rw [same j hj]
    have e3 : 2 ^ (L - (t + 1)) = 2 * 2 ^ (L - (t + 1 + 1)) := by rw [← pow_succ2]; congr 1; omega
    -- more is open than what is placed
    have hN : k < N := by
      apply Decidable.byContradiction
      intro hn
      obtain ⟨r, hr⟩ : ∃ r, d.length = i + k + (r + 1) := ⟨d.length - (i + k) - 1, by omega⟩
      rw [hr, SN_add2, SN_add2, e2, SN_cons] at hk
      have p : 0 < 2 ^ (L - f (i + k + 0)) := pow_pos2 _
      have : N * 2 ^ (L - (t + 1)) ≤ k * 2 ^ (L - (t + 1)) := Nat.mul_le_mul_right _ (by omega)
      omega
    refine ⟨2 * (N - k), ?_, ?_⟩
    · rw [SN_add2, e2, Nat.mul_comm 2 (N - k), Nat.mul_assoc, ← e3, Nat.add_assoc, ← Nat.add_mul, show k + (N - k) = N by omega]
      exact b1
    · have s := Reach.step b2 (k := k) (by omega) hi (by omega)
      have eo : min (2 * (min N (d.length - i) - k)) (d.length - i - k) = min (2 * (N - k)) (d.length - (i + k)) := by omega
      rw [eo] at s
      have ec : SZ i (fun j => d.getD j 0 * (f j : Int)) + ((t + 1 : Nat) : Int) * rs d i + rs d (i + k) = SZ (i + k) (fun j => d.getD j 0 * (f j : Int)) + ((t + 1 + 1 : Nat) : Int) * rs d (i + k) := by
        have z2 : SZ k (fun j => d.getD (i + j) 0 * (f (i + j) : Int)) = SZ k (fun j => d.getD (i + j) 0) * ((t + 1 : Nat) : Int) := by
          rw [← SZ_mulr]
          exact SZ_congr fun j hj => by rw [same j hj]
        rw [SZ_add2, z2, rs_split d i k (by omega)]
        generalize SZ i (fun j => d.getD j 0 * (f j : Int)) = X
        generalize SZ k (fun j => d.getD (i + j) 0) = Y
        generalize rs d (i + k) = Z
        generalize t + 1 = u
        rw [Int.natCast_add, Int.mul_add, Int.add_mul, Int.mul_comm Y]
        simp
        omega
      rw [ec] at s
      exact s
theorem code_done {d : List Int} {L : Nat} {f : Nat → Nat} (h0 : 0 < d.length) (hm : ∀ i k, i ≤ k → k < d.length → f i ≤ f k) (hb : ∀ j, j < d.length → 1 ≤ f j ∧ f j ≤ L) (hk : SN d.length (fun j => 2 ^ (L - f j)) ≤ 2 ^ L) : Done d L (SZ d.length (fun j => d.getD j 0 * (f j : Int))) := by
  have bl := hb (d.length - 1) (by omega)
  obtain ⟨t, ht⟩ : ∃ t, f (d.length - 1) = t + 1 := ⟨f (d.length - 1) - 1, by omega⟩
  obtain ⟨i, c1, c2, c3⟩ := split_at f (t + 1) d.length hm
  have hi : i < d.length := by
    apply Decidable.byContradiction
    intro hn
    have := c2 (d.length - 1) (by omega)
    omega
  obtain ⟨N, b1, b2⟩ := code_reach hm hb hk t i hi c2 c3
  obtain ⟨k, hk2⟩ : ∃ k, d.length = i + k := ⟨d.length - i, by omega⟩
  have same : ∀ j, j < k → f (i + j) = t + 1 := fun j hj => by
    have := c3 (i + j) (by omega) (by omega)
    have := hm (i + j) (d.length - 1) (by omega) (by omega)
    omega
  have e2 : SN k (fun j => 2 ^ (L - f (i + j))) = k * 2 ^ (L - (t + 1)) := by
    rw [← SN_const]
    exact SN_congr fun j hj => by rw [same j hj]
  have hN : k ≤ N := by
    apply Decidable.byContradiction
    intro hn
    rw [hk2, SN_add2, e2] at hk
    have : (N + 1) * 2 ^ (L - (t + 1)) ≤ k * 2 ^ (L - (t + 1)) := Nat.mul_le_mul_right _ (by omega)
    rw [Nat.succ_mul] at this
    have := pow_pos2 (L - (t + 1))
    omega
  refine ⟨t + 1, i, min N (d.length - i), by omega, ?_, ?_⟩
  · have z2 : SZ k (fun j => d.getD (i + j) 0 * (f (i + j) : Int)) = SZ k (fun j => d.getD (i + j) 0) * ((t + 1 : Nat) : Int) := by
      rw [← SZ_mulr]
      exact SZ_congr fun j hj => by rw [same j hj]
    have e3 := rs_split d i k (by omega)
    rw [rs_end d (i := i + k) (by omega)] at e3
    rw [e3] at b2
    have ez : SZ d.length (fun j => d.getD j 0 * (f j : Int)) = SZ i (fun j => d.getD j 0 * (f j : Int)) + ((t + 1 : Nat) : Int) * (SZ k (fun j => d.getD (i + j) 0) + 0) := by
      rw [hk2, SZ_add2, z2, Int.add_zero, Int.mul_comm]
    rw [ez]
    exact b2
  · omega
theorem SZ_cons (f : Nat → Int) : ∀ n, SZ (n + 1) f = f 0 + SZ n (fun i => f (i + 1))
  | 0 => by simp [SZ]
  | n + 1 => by
    have := SZ_cons f n
    simp only [SZ] at *
    omega
theorem SN_rev (g : Nat → Nat) : ∀ n, SN n (fun j => g (n - 1 - j)) = SN n g
  | 0 => rfl
  | n + 1 => by
    rw [SN_cons]
    have e : SN n (fun i => g (n + 1 - 1 - (i + 1))) = SN n (fun j => g (n - 1 - j)) := SN_congr fun i hi => by congr 1; omega
    rw [e, SN_rev g n]
    show g (n + 1 - 1 - 0) + SN n g = SN n g + g n
    rw [show n + 1 - 1 - 0 = n by omega]
    omega
theorem SZ_rev (g : Nat → Int) : ∀ n, SZ n (fun j => g (n - 1 - j)) = SZ n g
  | 0 => rfl
  | n + 1 => by
    rw [SZ_cons]
    have e : SZ n (fun i => g (n + 1 - 1 - (i + 1))) = SZ n (fun j => g (n - 1 - j)) := SZ_congr fun i hi => by congr 1; omega
    rw [e, SZ_rev g n]
    show g (n + 1 - 1 - 0) + SZ n g = SZ n g + g n
    rw [show n + 1 - 1 - 0 = n by omega]
    omega
/-- the items' weights, the greatest first -/
def dsc (l : List It) : List Int := (l.map (·.w)).reverse
theorem dsc_len (l : List It) : (dsc l).length = l.length := by simp [dsc]
theorem dsc_at (l : List It) {j : Nat} (h : j < l.length) : (dsc l).getD j 0 = wt l (l.length - 1 - j) := by
  unfold dsc wt
  rw [List.getD_eq_getElem?_getD, List.getElem?_reverse (by rw [List.length_map]; exact h), List.length_map, List.getElem?_map, List.getD_eq_getElem?_getD, List.getElem?_eq_getElem (show l.length - 1 - j < l.length by omega)]
  rfl
theorem dsc_nn {l : List It} (h : ∀ x ∈ l, 0 ≤ x.w) : ∀ x ∈ dsc l, 0 ≤ x := by
  intro x hx
  unfold dsc at hx
  obtain ⟨y, hy, rfl⟩ := List.mem_map.1 (List.mem_reverse.1 hx)
  exact h y hy
theorem dsc_cost (l : List It) (f : Nat → Nat) : SZ (dsc l).length (fun j => (dsc l).getD j 0 * (f j : Int)) = SZ l.length (fun i => wt l i * (f (l.length - 1 - i) : Int)) := by
  rw [dsc_len, ← SZ_rev (fun i => wt l i * (f (l.length - 1 - i) : Int))]
  refine SZ_congr fun j hj => ?_
  rw [dsc_at l hj, show l.length - 1 - (l.length - 1 - j) = j by omega]
/-- Best is what the best lengths cost -/
theorem best_fn {l : List It} {K : Nat} {cs : List Nat} (hl : GL l) (h2 : 2 ≤ l.length) (L : Levels l K cs) : bestFn (dsc l) (K + 1) = SZ l.length (fun i => wt l i * (ln cs i : Int)) := by
  have hd := dsc_nn hl.nonneg
  have hm := (lv_min hd (K + 1)).2
  have e0 : bestFn (dsc l) (K + 1) = (lv (dsc l) (K + 1)).1 := by
    unfold bestFn
    rw [if_neg (by rw [dsc_len]; omega)]
  rw [e0]
  -- the best lengths come out
  have up : Done (dsc l) (K + 1) (SZ l.length (fun i => wt l i * (ln cs i : Int))) := by
    have h := code_done (d := dsc l) (L := K + 1) (f := fun j => ln cs (l.length - 1 - j)) (by rw [dsc_len]; omega) (fun i k _ _ => ln_anti cs (by omega)) (fun j hj => by rw [dsc_len] at hj; exact L.each _ (by omega)) (by
      rw [dsc_len, SN_rev (fun i => 2 ^ (K + 1 - ln cs i)), L.kraft]
      exact Nat.le_refl _)
    rw [dsc_cost] at h
    have e : SZ l.length (fun i => wt l i * ((ln cs (l.length - 1 - (l.length - 1 - i)) : Nat) : Int)) = SZ l.length (fun i => wt l i * (ln cs i : Int)) := SZ_congr fun i hi => by rw [show l.length - 1 - (l.length - 1 - i) = i by omega]
    rw [e] at h
    exact h
  -- nothing less does
  have low : ∀ c, Done (dsc l) (K + 1) c → SZ l.length (fun i => wt l i * (ln cs i : Int)) ≤ c := by
    intro c hc
    obtain ⟨f, h1, h2', rfl⟩ := done_code hc
    rw [dsc_cost]
    rw [dsc_len] at h1 h2'
    have b := best_least hl K _ (row_of l K) (by omega) (fun i => f (l.length - 1 - i)) (fun i hi => (h1 _ (by omega)).2) (by
      rw [SN_rev (fun i => 2 ^ (K + 1 - f i))]
      exact h2')
    rw [L.cost, wsum_ln cs L.le] at b
    exact b
  rcases hm with ⟨_, hn⟩ | ⟨_, hv, hle⟩
  · exact absurd up (hn _)
  · have := hle _ up
    have := low _ hv
    omega
theorem best_fn1 {x : Int} (hx : 0 ≤ x) (K : Nat) : bestFn [x] (K + 1) = x := by
  have hd : ∀ y ∈ [x], 0 ≤ y := by simpa using hx
  have hm := (lv_min hd (K + 1)).2
  have e0 : bestFn [x] (K + 1) = (lv [x] (K + 1)).1 := rfl
  rw [e0]
  have up : Done [x] (K + 1) x := by
    have h := code_done (d := [x]) (L := K + 1) (f := fun _ => 1) (by simp) (fun _ _ _ _ => Nat.le_refl _) (fun j _ => by omega) (by
      simp only [List.length_singleton, SN, Nat.zero_add]
      exact Nat.pow_le_pow_right (by omega) (by omega))
    simpa [SZ] using h
  have low : ∀ c, Done [x] (K + 1) c → x ≤ c := by
    intro c hc
    obtain ⟨f, h1, _, rfl⟩ := done_code hc
    have := (h1 0 (by simp)).1
    simp only [List.length_singleton, SZ, List.getD_cons_zero, Int.zero_add]
    have := Int.mul_le_mul_of_nonneg_left (show (1 : Int) ≤ (f 0 : Int) by omega) hx
    omega
  rcases hm with ⟨_, hn⟩ | ⟨_, hv, hle⟩
  · exact absurd up (hn _)
  · have := hle _ up
    have := low _ hv
    omega
end Go.Proofs.Ythhllollhjpheaa
