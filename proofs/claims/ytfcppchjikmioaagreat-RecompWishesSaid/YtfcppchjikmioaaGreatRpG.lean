/-
  Quoting: what strings.Replacer computes for the two pairs (plain).
-/
import Derived.Test.YtfcppchjikmioaaGreatRpD
import Derived.Test.YtfcppchjikmioaaGreatShf
namespace Go.Proofs.YtfcppchjikmioaaGreat
open Go.RowKit

def qB (c : UInt8) : List UInt8 := if c = 34 then [126, 34] else if c = 126 then [126, 126] else [c]
def qL (l : List UInt8) : List UInt8 := l.flatMap qB
def isQ (c : UInt8) : Bool := decide (c = 34) || decide (c = 126)
theorem qL_nil : qL [] = [] := rfl
theorem qL_cons (c : UInt8) (l : List UInt8) : qL (c :: l) = qB c ++ qL l := rfl
theorem qL_app (a b : List UInt8) : qL (a ++ b) = qL a ++ qL b := by simp [qL]
theorem qB_len (c : UInt8) : (qB c).length = 1 + (if isQ c then 1 else 0) := by
  unfold qB isQ
  by_cases h1 : c = 34
  · simp [h1]
  · by_cases h2 : c = 126
    · simp [h2]
    · simp [h1, h2]
def nQ (l : List UInt8) : Nat := (l.filter isQ).length
theorem nQ_app (a b : List UInt8) : nQ (a ++ b) = nQ a + nQ b := by simp [nQ]
theorem qL_len (l : List UInt8) : (qL l).length = l.length + nQ l := by
  induction l with
  | nil => rfl
  | cons c l ih =>
    rw [qL_cons, List.length_append, qB_len, ih, show nQ (c :: l) = nQ [c] + nQ l from nQ_app [c] l]
    by_cases h : isQ c = true
    · rw [if_pos h, show nQ [c] = 1 from by simp [nQ, h]]
      simp
      omega
    · rw [if_neg h, show nQ [c] = 0 from by simp [nQ, h]]
      simp
      omega
theorem nQ_le (l : List UInt8) : nQ l ≤ l.length := List.length_filter_le _ _
theorem qL_id (l : List UInt8) (h : nQ l = 0) : qL l = l := by
  induction l with
  | nil => rfl
  | cons c l ih =>
    rw [nQ, List.filter_cons] at h
    by_cases hc : isQ c = true
    · simp [hc] at h
    · simp only [hc] at h
      rw [qL_cons, ih h, qB]
      have : isQ c = false := by simpa using hc
      unfold isQ at this
      simp at this
      simp [this]
theorem qL_take (l : List UInt8) (i : Nat) (h : i < l.length) : qL (l.take (i + 1)) = qL (l.take i) ++ qB l[i] := by
  rw [List.take_succ_eq_append_getElem h, qL_app]
  simp [qL]
theorem qL_take_le (l : List UInt8) (i : Nat) : (qL (l.take i)).length ≤ (qL l).length := by
  conv => rhs; rw [← List.take_append_drop i l, qL_app, List.length_append]
  omega
theorem nQ_take (l : List UInt8) (i : Nat) (h : i < l.length) : nQ (l.take (i + 1)) = nQ (l.take i) + (if isQ l[i] then 1 else 0) := by
  rw [List.take_succ_eq_append_getElem h, nQ_app]
  congr 1
  unfold nQ
  by_cases hc : isQ l[i] = true
  · simp [hc]
  · simp [hc]
theorem nQ_count (l : List UInt8) : nQ l = Lib.countByte l 126 + Lib.countByte l 34 := by
  unfold Lib.countByte
  induction l with
  | nil => rfl
  | cons c l ih =>
    rw [show nQ (c :: l) = nQ [c] + nQ l from nQ_app [c] l, ih, List.count_cons, List.count_cons]
    by_cases h1 : c = 34
    · subst h1
      rw [show nQ [(34 : UInt8)] = 1 from rfl]
      simp
      omega
    · by_cases h2 : c = 126
      · subst h2
        rw [show nQ [(126 : UInt8)] = 1 from rfl]
        simp
        omega
      · rw [show nQ [c] = 0 from by simp [nQ, isQ, h1, h2]]
        simp [h1, h2]
end Go.Proofs.YtfcppchjikmioaaGreat
