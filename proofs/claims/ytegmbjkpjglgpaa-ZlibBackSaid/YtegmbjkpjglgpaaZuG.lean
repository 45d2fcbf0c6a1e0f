/-
  What is wrapped is unwrapped; with another sum it is not: plain.
-/
import Derived.Test.YtegmbjkpjglgpaaZuF
import Derived.Test.YtegmbjkpjglgpaaZlibXU
import Derived.Test.YtegmbjkpjglgpaaWindow
namespace Go.Proofs.Ytegmbjkpjglgpaa
open Go.RowKit

theorem head_fit : ∀ k : Fin 8, headN (16 * (k.val : Int) + 8) (fit k.val) = (256 * 2 ^ k.val, 0) := by decide +kernel
theorem headB_wrap (k : Nat) (hk : k < 8) (l : List Int) : headB ([16 * (k : Int) + 8, fit k] ++ l) = (256 * 2 ^ k, 0) := by
  unfold headB
  rw [if_neg (by simp)]
  exact head_fit ⟨k, hk⟩
theorem far_snoc (l : List (Int × Int)) (t : Int × Int) : far (l ++ [t]) = farStep (far l) t := by unfold far; rw [List.foldl_append]; rfl
/-- in a window that fits no token reaches too far -/
theorem farT_win (v : Int) : ∀ (l : List (Int × Int)), (∀ t ∈ l, tgood t = true) → (v = 32768 ∨ far l ≤ v) → farT v l = false := by
  intro l hg hv
  unfold farT
  rw [List.any_eq_false]
  intro t ht hf
  unfold farB at hf
  simp only [Bool.and_eq_true, decide_eq_true_eq] at hf
  rcases hv with rfl | hv
  · have := tgood_true.1 (hg t ht)
    omega
  · have : ∀ (l : List (Int × Int)) (m : Int), m ≤ l.foldl farStep m ∧ ∀ t ∈ l, 0 < t.1 → t.2 ≤ l.foldl farStep m := by
      intro l
      induction l with
      | nil => intro m; exact ⟨Int.le_refl _, fun t ht => by cases ht⟩
      | cons a r ih =>
        intro m
        rw [List.foldl_cons]
        obtain ⟨h1, h2⟩ := ih (farStep m a)
        have h3 : m ≤ farStep m a := by unfold farStep; split; split <;> omega; omega
        refine ⟨by omega, fun t ht h0 => ?_⟩
        rcases List.mem_cons.1 ht with rfl | ht
        · have : t.2 ≤ farStep m t := by unfold farStep; rw [if_pos h0]; split <;> omega
          omega
        · exact h2 t ht h0
    have h4 := (this l 0).2 t ht hf.1
    have h5 : l.foldl farStep 0 ≤ v := hv
    omega
/-- what a wrapped text with any four bytes or more behind it is unwrapped to -/
theorem unz_wrap {b : List Int} {most : Int} {s : Sk} {k : Nat} (hrg : ¬ (most < 0 ∨ 4194304 < most)) (hi : infM (bitsL b) most = .ok s) (hk : k < 8) (hw : (256 * 2 ^ k : Int) = 32768 ∨ far s.toks ≤ 256 * 2 ^ k) (r : List Int) (hr : 4 ≤ r.length) :
    unzM ([16 * (k : Int) + 8, fit k] ++ (b.take (usedZ s) ++ r)) most = if beN (r.take 4) = adler (outZ s) then .ok (outZ s, 6 + usedZ s) else .error 2 := by
  obtain ⟨h1, h2, h3, _⟩ := inf_behind hi
  have hl : (b.take (usedZ s)).length = usedZ s := by rw [List.length_take]; unfold usedZ; omega
  have e1 := headB_wrap k hk (b.take (usedZ s) ++ r)
  have e2 : infM (bitsL (([16 * (k : Int) + 8, fit k] ++ (b.take (usedZ s) ++ r)).drop 2)) most = .ok s := h3 r
  have e3 : ([16 * (k : Int) + 8, fit k] ++ (b.take (usedZ s) ++ r)).drop (2 + usedZ s) = r := by
    rw [← List.drop_drop]
    show (b.take (usedZ s) ++ r).drop (usedZ s) = r
    rw [List.drop_append_of_le_length (by omega), List.drop_of_length_le (by omega), List.nil_append]
  have hsn := infM_sound (bitsL_bit b) hi
  have e4 : farT (headB ([16 * (k : Int) + 8, fit k] ++ (b.take (usedZ s) ++ r))).1 s.toks = false := by rw [e1]; exact farT_win _ _ hsn.2.2.2 hw
  have e5 : (headB ([16 * (k : Int) + 8, fit k] ++ (b.take (usedZ s) ++ r))).2 = 0 := by rw [e1]
  by_cases h : beN (r.take 4) = adler (outZ s)
  · rw [if_pos h]
    exact unz_ok hrg e5 e2 e4 (by rw [e3]; omega) (by rw [e3]; exact h)
  · rw [if_neg h]
    exact unz_sum hrg e5 e2 e4 (by rw [e3]; omega) (by rw [e3]; exact h)
theorem be4_eq (n : Int) : be 4 n = [n / 16777216 % 256, n / 65536 % 256, n / 256 % 256, n % 256] := by
  unfold be
  simp [List.range_succ]
theorem beN_4 (a b c d : Int) : beN [a, b, c, d] = ((a * 256 + b) * 256 + c) * 256 + d := by unfold beN; simp
theorem beN_be (n : Int) (h0 : 0 ≤ n) (h1 : n < 4294967296) : beN (be 4 n) = n := by rw [be4_eq, beN_4]; omega
theorem be4_len (n : Int) : (be 4 n).length = 4 := by rw [be4_eq]; rfl
theorem be4_isB (n : Int) : ∀ x ∈ be 4 n, isB x := by
  intro x hx
  rw [be4_eq] at hx
  simp only [List.mem_cons, List.not_mem_nil, or_false] at hx
  unfold isB
  omega
/-- another byte: another number -/
theorem beN_set (n : Int) (j : Nat) (hj : j < 4) (y : Int) (_hy : isB y) (hne : y ≠ (be 4 n).getD j 0) : beN ((be 4 n).set j y) ≠ beN (be 4 n) := by
  rw [be4_eq] at *
  rcases (show j = 0 ∨ j = 1 ∨ j = 2 ∨ j = 3 from by omega) with rfl | rfl | rfl | rfl
  all_goals
    simp only [List.getD_cons_zero, List.getD_cons_succ, List.set_cons_zero, List.set_cons_succ] at *
    rw [beN_4, beN_4]
    omega
theorem xor_ne : ∀ (x : Fin 256) (j : Fin 8), 0 ≤ bits .xor .u8 (x.val : Int) (2 ^ j.val) ∧ bits .xor .u8 (x.val : Int) (2 ^ j.val) ≤ 255 ∧ bits .xor .u8 (x.val : Int) (2 ^ j.val) ≠ (x.val : Int) := by decide +kernel
/-- the list of a wrapped text with one byte of its sum set -/
theorem wrapped_set {k : Nat} {p os : List Int} {j : Nat} (hj : j < 4) (y : Int) : (wrapped k p os).set (p.length + 2 + j) y = [16 * (k : Int) + 8, fit k] ++ (p ++ (be 4 (adler os)).set j y) := by
  unfold wrapped
  rw [List.append_assoc, List.set_append_right _ _ (by simp; omega)]
  congr 1
  rw [List.set_append_right _ _ (by simp; omega)]
  congr 2
  simp
  omega
theorem wrapped_at {k : Nat} {p os : List Int} {j : Nat} : (wrapped k p os).getD (p.length + 2 + j) 0 = (be 4 (adler os)).getD j 0 := by
  unfold wrapped
  rw [List.getD_eq_getElem?_getD, List.append_assoc, List.getElem?_append_right (by simp; omega), List.getElem?_append_right (by simp; omega), List.getD_eq_getElem?_getD]
  congr 2
  simp
  omega
theorem wrapped_isB {k : Nat} (hk : k < 8) {p os : List Int} (hp : ∀ x ∈ p, isB x) : ∀ x ∈ wrapped k p os, isB x := by
  intro x hx
  unfold wrapped at hx
  rcases List.mem_append.1 hx with hx | hx
  · rcases List.mem_append.1 hx with hx | hx
    · have := fit_bd k
      simp only [List.mem_cons, List.not_mem_nil, or_false] at hx
      unfold isB
      rcases hx with rfl | rfl <;> omega
    · exact hp x hx
  · exact be4_isB _ x hx
theorem isWin_two {v : Int} (h : IsWin v) : ∃ k : Nat, k < 8 ∧ v = 256 * 2 ^ k := by
  rcases h with h | h | h | h | h | h | h | h
  · exact ⟨0, by decide, h⟩
  · exact ⟨1, by decide, h⟩
  · exact ⟨2, by decide, h⟩
  · exact ⟨3, by decide, h⟩
  · exact ⟨4, by decide, h⟩
  · exact ⟨5, by decide, h⟩
  · exact ⟨6, by decide, h⟩
  · exact ⟨7, by decide, h⟩
end Go.Proofs.Ytegmbjkpjglgpaa
