/-
  Package-merge, plain: of equal weights the lengths are two neighbours at most.
-/
import Derived.Test.YthhllollhjpheaaMgH
namespace Go.Proofs.Ythhllollhjpheaa
open Go.RowKit Mg

def updM {α : Type} (f : Nat → α) (a : Nat) (x : α) (i : Nat) : α := if i = a then x else f i
theorem SN_upd (f : Nat → Nat) (a x : Nat) : ∀ n, a < n → SN n (updM f a x) + f a = SN n f + x
  | 0, h => by omega
  | n + 1, h => by
    simp only [SN]
    by_cases e : a = n
    · subst e
      have : SN a (updM f a x) = SN a f := SN_congr fun i hi => by unfold updM; rw [if_neg (by omega)]
      rw [this]
      unfold updM
      rw [if_pos rfl]
      omega
    · have ih := SN_upd f a x n (by omega)
      have : updM f a x n = f n := by unfold updM; rw [if_neg (by omega)]
      rw [this]
      omega
theorem upd_ne {α : Type} {f : Nat → α} {a i : Nat} {x : α} (h : i ≠ a) : updM f a x i = f i := if_neg h
theorem upd_eq {α : Type} {f : Nat → α} {a : Nat} {x : α} : updM f a x a = x := if_pos rfl
theorem SN_mul (n d : Nat) (f : Nat → Nat) : SN n (fun i => f i * d) = SN n f * d := by
  induction n with
  | zero => simp [SN]
  | succ n ih => simp only [SN]; rw [ih, Nat.add_mul]
theorem SN_even (f : Nat → Nat) : ∀ n, (∀ i, i < n → f i % 2 = 0) → SN n f % 2 = 0
  | 0, _ => rfl
  | n + 1, h => by
    have := SN_even f n (fun i hi => h i (by omega))
    have := h n (by omega)
    simp only [SN]
    omega
theorem SN_cons (f : Nat → Nat) : ∀ n, SN (n + 1) f = f 0 + SN n (fun i => f (i + 1))
  | 0 => by simp [SN]
  | n + 1 => by
    have := SN_cons f n
    simp only [SN] at *
    omega
theorem SZ_mulc (w : Int) (f : Nat → Nat) : ∀ n, SZ n (fun i => w * (f i : Int)) = w * (SN n f : Int)
  | 0 => by simp [SZ, SN]
  | n + 1 => by
    simp only [SZ, SN]
    rw [SZ_mulc w f n, Int.natCast_add, Int.mul_add]
theorem pow_split {a b : Nat} (h : b ≤ a) : 2 ^ a = 2 ^ (a - b) * 2 ^ b := by
  rw [← Nat.pow_add]
  congr 1
  omega
theorem pow_pos2 (n : Nat) : 0 < 2 ^ n := Nat.pos_of_ne_zero (by simp)
theorem pow_succ2 (n : Nat) : 2 ^ (n + 1) = 2 * 2 ^ n := by rw [Nat.pow_succ]; omega
/-- the highest length stands twice -/
theorem high_twice {f : Nat → Nat} {m K1 : Nat} (hm : 2 ≤ m) (ha : ∀ i k, i ≤ k → f k ≤ f i) (hb : ∀ i, i < m → 1 ≤ f i ∧ f i ≤ K1) (hk : SN m (fun i => 2 ^ (K1 - f i)) = 2 ^ K1) :
    SN m (fun i => 2 ^ (f 0 - f i)) = 2 ^ f 0 ∧ f 1 = f 0 := by
  have h0 := hb 0 (by omega)
  have e : SN m (fun i => 2 ^ (K1 - f i)) = SN m (fun i => 2 ^ (f 0 - f i)) * 2 ^ (K1 - f 0) := by
    rw [← SN_mul]
    refine SN_congr fun i hi => ?_
    have := ha 0 i (by omega)
    rw [← Nat.pow_add]
    congr 1
    omega
  have hs : SN m (fun i => 2 ^ (f 0 - f i)) = 2 ^ f 0 := by
    have e2 : 2 ^ K1 = 2 ^ f 0 * 2 ^ (K1 - f 0) := by
      rw [← Nat.pow_add]
      congr 1
      omega
    rw [e, e2] at hk
    exact Nat.eq_of_mul_eq_mul_right (pow_pos2 _) hk
  refine ⟨hs, ?_⟩
  apply Decidable.byContradiction
  intro hne
  obtain ⟨n, rfl⟩ : ∃ n, m = n + 1 := ⟨m - 1, by omega⟩
  rw [SN_cons] at hs
  have hev : SN n (fun i => 2 ^ (f 0 - f (i + 1))) % 2 = 0 := by
    refine SN_even _ n fun i hi => ?_
    have h1 := ha 1 (i + 1) (by omega)
    have h2 := ha 0 1 (by omega)
    obtain ⟨d, hd⟩ : ∃ d, f 0 - f (i + 1) = d + 1 := ⟨f 0 - f (i + 1) - 1, by omega⟩
    rw [hd, pow_succ2]
    omega
  obtain ⟨d, hd⟩ : ∃ d, f 0 = d + 1 := ⟨f 0 - 1, by omega⟩
  have e1 : 2 ^ (f 0 - f 0) = 1 := by rw [Nat.sub_self]
  have e2 : 2 ^ f 0 % 2 = 0 := by rw [hd, pow_succ2]; omega
  rw [e1] at hs
  omega
/-- two neighbours at most -/
theorem runs_near {l : List It} {K : Nat} {cs : List Nat} {w : Int} (hl : GL l) (h2 : 2 ≤ l.length) (L : Levels l K cs) (hw : 0 < w) (he : ∀ i, i < l.length → wt l i = w) :
    ln cs 0 ≤ ln cs (l.length - 1) + 1 := by
  apply Decidable.byContradiction
  intro hn
  obtain ⟨m, hm⟩ : ∃ m, m = l.length := ⟨_, rfl⟩
  obtain ⟨f, hf⟩ : ∃ f : Nat → Nat, f = ln cs := ⟨_, rfl⟩
  have anti : ∀ i k, i ≤ k → f k ≤ f i := fun i k h => by rw [hf]; exact ln_anti cs h
  have each := L.each
  have kr := L.kraft
  rw [← hm, ← hf] at each kr hn
  rw [← hm] at h2 he
  obtain ⟨_, h1⟩ := high_twice h2 anti each kr
  have hlast : 2 ≤ m - 1 := by
    apply Decidable.byContradiction
    intro hc
    have := anti (m - 1) 1 (by omega)
    omega
  have c0 := each 0 (by omega)
  have c9 := each (m - 1) (by omega)
  obtain ⟨lo, hlo⟩ : ∃ lo, lo = f (m - 1) := ⟨_, rfl⟩
  obtain ⟨hi, hhi⟩ : ∃ hi, hi = f 0 := ⟨_, rfl⟩
  rw [← hlo, ← hhi] at hn
  rw [← hhi] at c0 h1
  rw [← hlo] at c9
  -- the other code
  have upd3 : ∀ (F : Nat → Nat) (x y : Nat), SN m (updM (updM (updM F 0 x) 1 y) (m - 1) y) + F 0 + F 1 + F (m - 1) = SN m F + x + y + y := by
    intro F x y
    have u1 := SN_upd F 0 x m (by omega)
    have u2 := SN_upd (updM F 0 x) 1 y m (by omega)
    have u3 := SN_upd (updM (updM F 0 x) 1 y) (m - 1) y m (by omega)
    rw [upd_ne (by omega)] at u2
    rw [upd_ne (by omega), upd_ne (by omega)] at u3
    omega
  have g_of : ∀ i, updM (updM (updM f 0 (hi - 1)) 1 (lo + 1)) (m - 1) (lo + 1) i = if i = m - 1 then lo + 1 else if i = 1 then lo + 1 else if i = 0 then hi - 1 else f i := fun i => rfl
  have h_of : ∀ i, updM (updM (updM (fun i => 2 ^ (K + 1 - f i)) 0 (2 ^ (K + 1 - (hi - 1)))) 1 (2 ^ (K + 1 - (lo + 1)))) (m - 1) (2 ^ (K + 1 - (lo + 1))) i = 2 ^ (K + 1 - updM (updM (updM f 0 (hi - 1)) 1 (lo + 1)) (m - 1) (lo + 1) i) := by
    intro i
    unfold updM
    split
    · rfl
    · split
      · rfl
      · split
        · rfl
        · rfl
  have s1 := upd3 f (hi - 1) (lo + 1)
  have s2 := upd3 (fun i => 2 ^ (K + 1 - f i)) (2 ^ (K + 1 - (hi - 1))) (2 ^ (K + 1 - (lo + 1)))
  rw [SN_congr (fun i _ => h_of i)] at s2
  obtain ⟨g, hg⟩ : ∃ g, g = updM (updM (updM f 0 (hi - 1)) 1 (lo + 1)) (m - 1) (lo + 1) := ⟨_, rfl⟩
  rw [← hg] at s1 s2
  simp only [← hlo, ← hhi, h1, kr] at s1 s2
  have p1 : 2 ^ (K + 1 - (hi - 1)) = 2 * 2 ^ (K + 1 - hi) := by
    rw [← pow_succ2]
    congr 1
    omega
  have p2 : 2 ^ (K + 1 - lo) = 2 * 2 ^ (K + 1 - (lo + 1)) := by
    rw [← pow_succ2]
    congr 1
    omega
  have kg : SN m (fun i => 2 ^ (K + 1 - g i)) ≤ 2 ^ (K + 1) := by omega
  have bg : ∀ i, i < m → g i ≤ K + 1 := by
    intro i hi9
    rw [hg, g_of]
    have := each i hi9
    split
    · omega
    · split
      · omega
      · split <;> omega
  have b := best_least hl K _ (row_of l K) (by omega) g (by rw [← hm]; exact bg) (by rw [← hm]; exact kg)
  rw [L.cost, wsum_ln cs L.le, ← hm, ← hf] at b
  have e1 : SZ m (fun i => wt l i * (f i : Int)) = w * (SN m f : Int) := by
    rw [← SZ_mulc]
    exact SZ_congr fun i hi => by rw [he i hi]
  have e2 : SZ m (fun i => wt l i * (g i : Int)) = w * (SN m g : Int) := by
    rw [← SZ_mulc]
    exact SZ_congr fun i hi => by rw [he i hi]
  rw [e1, e2] at b
  have lt : SN m g < SN m f := by omega
  have := Int.mul_lt_mul_of_pos_left (show (SN m g : Int) < (SN m f : Int) by omega) hw
  omega
/-- how many symbols there are -/
theorem runs_count {f : Nat → Nat} {m K1 : Nat} (hm : 2 ≤ m) (ha : ∀ i k, i ≤ k → f k ≤ f i) (hb : ∀ i, i < m → 1 ≤ f i ∧ f i ≤ K1) (hk : SN m (fun i => 2 ^ (K1 - f i)) = 2 ^ K1) (hn : f 0 ≤ f (m - 1) + 1) :
    (f 0 = f (m - 1) ∧ m = 2 ^ f 0) ∨ (f 0 = f (m - 1) + 1 ∧ 2 ^ f (m - 1) < m ∧ m < 2 ^ f 0) := by
  obtain ⟨hs, h1⟩ := high_twice hm ha hb hk
  have hle := ha 0 (m - 1) (by omega)
  by_cases e : f 0 = f (m - 1)
  · left
    refine ⟨e, ?_⟩
    have : SN m (fun i => 2 ^ (f 0 - f i)) = SN m (fun _ => 1) := SN_congr fun i hi => by
      have := ha 0 i (by omega)
      have := ha i (m - 1) (by omega)
      rw [show f 0 - f i = 0 by omega]
    rw [this] at hs
    have one : ∀ n, SN n (fun _ => 1) = n := fun n => by
      induction n with
      | zero => rfl
      | succ n ih => simp only [SN]; rw [ih]
    rw [one] at hs
    exact hs
  · right
    have e2 : f 0 = f (m - 1) + 1 := by omega
    refine ⟨e2, ?_⟩
    -- between m+1 and 2m-1 parts
    have lo : ∀ n, n ≤ m → n ≤ SN n (fun i => 2 ^ (f 0 - f i)) ∧ SN n (fun i => 2 ^ (f 0 - f i)) ≤ 2 * n := by
      intro n
      induction n with
      | zero => intro _; exact ⟨Nat.le_refl _, Nat.le_refl _⟩
      | succ n ih =>
        intro hn'
        have := ih (by omega)
        have q1 := ha 0 n (by omega)
        have q2 := ha n (m - 1) (by omega)
        have : 2 ^ (f 0 - f n) = 1 ∨ 2 ^ (f 0 - f n) = 2 := by
          rcases (show f 0 - f n = 0 ∨ f 0 - f n = 1 by omega) with h | h
          · left; rw [h]
          · right; rw [h]
        simp only [SN]
        omega
    obtain ⟨k, hk'⟩ : ∃ k, m = k + 2 := ⟨m - 2, by omega⟩
    have hm1 : m - 1 = k + 1 := by omega
    rw [hm1] at e2 ⊢
    have q := lo (k + 1) (by omega)
    have qz : 2 ≤ k + 1 := by
      apply Decidable.byContradiction
      intro hc
      have : k = 0 := by omega
      subst this
      have e3 : f (0 + 1) = f 1 := rfl
      omega
    have two : SN 2 (fun i => 2 ^ (f 0 - f i)) = 2 := by
      simp only [SN]
      rw [h1, Nat.sub_self]
    have up : ∀ n, n + 2 ≤ m → SN (n + 2) (fun i => 2 ^ (f 0 - f i)) ≤ 2 * n + 2 := by
      intro n
      induction n with
      | zero => intro _; rw [two]; omega
      | succ n ih =>
        intro hn'
        have := ih (by omega)
        have q1 := ha 0 (n + 2) (by omega)
        have q2 := ha (n + 2) (m - 1) (by omega)
        have : 2 ^ (f 0 - f (n + 2)) ≤ 2 := by
          rcases (show f 0 - f (n + 2) = 0 ∨ f 0 - f (n + 2) = 1 by rw [hm1] at q2; omega) with h | h
          · rw [h]; omega
          · rw [h]; omega
        simp only [SN] at *
        omega
    have u := up k (by omega)
    have hsk : SN (k + 2) (fun i => 2 ^ (f 0 - f i)) = SN (k + 1) (fun i => 2 ^ (f 0 - f i)) + 2 ^ (f 0 - f (k + 1)) := rfl
    rw [hk', hsk] at hs
    have l9 : 2 ^ (f 0 - f (k + 1)) = 2 := by rw [e2, show f (k + 1) + 1 - f (k + 1) = 1 by omega]
    rw [l9] at hs
    rw [hsk, l9] at u
    have p : 2 ^ f 0 = 2 * 2 ^ f (k + 1) := by rw [e2, pow_succ2]
    omega
end Go.Proofs.Ythhllollhjpheaa
