/-
  Names: which are named, which are safe; letters by rune and by byte.
-/
import Derived.Test.YtlekobompjehdaaDoorBaseD
import Derived.Laws.RangeAny
import Derived.Lib.OthersKept
import Derived.Deep.DeepCutAuto
import Derived.Deep.CutRange
import Derived.Deep.CutBlock
import Derived.Deep.RegionHeld3
namespace Go.Proofs.YtlekobompjehdaaDoor
open Go.RowKit

def ltrI (c : Int) : Bool := decide (97 ≤ c) && decide (c ≤ 122) || decide (65 ≤ c) && decide (c ≤ 90)
def smI (c : Int) : Bool := decide (97 ≤ c) && decide (c ≤ 122)
def bt (s : ByteArray) (i : Nat) : Nat := (s.get! i).toNat
def named (s : ByteArray) : Bool := decide (s.size = 4) && (ltrI (bt s 0) && ltrI (bt s 1) && ltrI (bt s 2) && ltrI (bt s 3))
def safe (s : ByteArray) : Bool := named s && smI (bt s 3)
theorem bt_at {s : ByteArray} {i : Nat} (h : i < s.size) : (s[i]'h).toNat = bt s i := by
  unfold bt
  rw [← get_at s i h, Nat.add_zero]
theorem bt_lt (s : ByteArray) (i : Nat) : bt s i < 256 := (s.get! i).toNat_lt
theorem ltrI_lt {c : Int} (h : ltrI c = true) : 65 ≤ c ∧ c ≤ 122 := by
  unfold ltrI at h
  simp at h
  omega
theorem ltrI_high {c : Int} (h : 123 ≤ c) : ltrI c = false := by
  cases e : ltrI c
  · rfl
  · have := ltrI_lt e
    omega
/-- a rune that is a letter is its byte -/
theorem dec_let {s : ByteArray} {i : Nat} (h : i < s.size) : ltrI ((Utf8.decode s i).1 : Int) = ltrI (bt s i) ∧ (ltrI (bt s i) = true → (Utf8.decode s i) = (bt s i, 1)) := by
  rw [← bt_at h]
  by_cases ha : (s[i]'h).toNat < 128
  · rw [decode_ascii s i h ha]
    exact ⟨rfl, fun _ => rfl⟩
  · have h1 := (decode_high s i h (by omega)).1
    have h2 := ltrI_high (c := ((Utf8.decode s i).1 : Int)) (by omega)
    have h3 := ltrI_high (c := ((s[i]'h).toNat : Int)) (by omega)
    rw [h2, h3]
    exact ⟨rfl, fun h => by cases h⟩
theorem dec_pos {s : ByteArray} {i : Nat} (h : i < s.size) : 1 ≤ (Utf8.decode s i).2 := by
  by_cases ha : (s[i]'h).toNat < 128
  · rw [decode_ascii s i h ha]
    exact Nat.le_refl _
  · exact (decode_high s i h (by omega)).2
theorem named_let {s : ByteArray} (h : named s = true) : s.size = 4 ∧ ∀ i, i < 4 → ltrI (bt s i) = true := by
  unfold named at h
  simp only [Bool.and_eq_true, decide_eq_true_eq] at h
  obtain ⟨h0, ⟨⟨h1, h2⟩, h3⟩, h4⟩ := h
  refine ⟨h0, fun i hi => ?_⟩
  have : i = 0 ∨ i = 1 ∨ i = 2 ∨ i = 3 := by omega
  rcases this with rfl | rfl | rfl | rfl <;> assumption
theorem named_of {s : ByteArray} (h : s.size = 4) (h1 : ∀ i, i < 4 → ltrI (bt s i) = true) : named s = true := by
  unfold named
  rw [h1 0 (by omega), h1 1 (by omega), h1 2 (by omega), h1 3 (by omega), decide_eq_true h]
  rfl
theorem letter_any (c : Int) (W : World) : Calls Tryd.prog 21 #[.int .i32 c] W fun e w' => e = .returned (.bool (ltrI c)) ∧ W = w' := by
  unfold ltrI
  by_cases h1 : 97 ≤ c
  · have d1 : decide (97 ≤ c) = true := decide_eq_true h1
    by_cases h2 : c ≤ 122
    · have d2 : decide (c ≤ 122) = true := decide_eq_true h2
      go_enter Tryd.func21, Tryd.ntmps21
      go_wp2
      go_ret
      exact ⟨ret_bool (by simp [d1, d2]), rfl⟩
    · have d2 : decide (c ≤ 122) = false := decide_eq_false h2
      have d3 : decide (65 ≤ c) = true := decide_eq_true (by omega)
      go_enter Tryd.func21, Tryd.ntmps21
      go_wp2
      go_ret
      exact ⟨ret_bool (by simp), rfl⟩
  · have d1 : decide (97 ≤ c) = false := decide_eq_false h1
    by_cases h2 : 65 ≤ c
    · have d2 : decide (65 ≤ c) = true := decide_eq_true h2
      go_enter Tryd.func21, Tryd.ntmps21
      go_wp2
      go_ret
      exact ⟨ret_bool (by simp), rfl⟩
    · have d2 : decide (65 ≤ c) = false := decide_eq_false h2
      go_enter Tryd.func21, Tryd.ntmps21
      go_wp2
      go_ret
      exact ⟨ret_bool (by simp), rfl⟩
theorem smallB_any (c : Int) (W : World) : Calls Tryd.prog 12 #[.int .u8 c] W fun e w' => e = .returned (.bool (smI c)) ∧ W = w' := by
  unfold smI
  by_cases h1 : 97 ≤ c
  · have d1 : decide (97 ≤ c) = true := decide_eq_true h1
    go_enter Tryd.func12, Tryd.ntmps12
    go_wp2
    go_ret
    exact ⟨ret_bool (by simp [d1]), rfl⟩
  · have d1 : decide (97 ≤ c) = false := decide_eq_false h1
    go_enter Tryd.func12, Tryd.ntmps12
    go_wp2
    go_ret
    exact ⟨ret_bool (by simp), rfl⟩
theorem letterB_any (c : Int) (W : World) : Calls Tryd.prog 15 #[.int .u8 c] W fun e w' => e = .returned (.bool (ltrI c)) ∧ W = w' := by
  cases h : smI c
  · have hl : ltrI c = (decide (65 ≤ c) && decide (c ≤ 90)) := by unfold ltrI; unfold smI at h; rw [h]; rfl
    rw [hl]
    by_cases h2 : 65 ≤ c
    · have d2 : decide (65 ≤ c) = true := decide_eq_true h2
      go_enter Tryd.func15, Tryd.ntmps15
      go_wp2_with fail
      refine (smallB_any c _).mono ?_
      rintro e w1 ⟨rfl, rfl⟩
      rw [h]
      go_wp2
      go_ret
      exact ⟨ret_bool (by simp [d2]), rfl⟩
    · have d2 : decide (65 ≤ c) = false := decide_eq_false h2
      go_enter Tryd.func15, Tryd.ntmps15
      go_wp2_with fail
      refine (smallB_any c _).mono ?_
      rintro e w1 ⟨rfl, rfl⟩
      rw [h]
      go_wp2
      go_ret
      exact ⟨ret_bool (by simp [d2]), rfl⟩
  · have hl : ltrI c = true := by unfold ltrI; unfold smI at h; rw [h]; rfl
    rw [hl]
    go_enter Tryd.func15, Tryd.ntmps15
    go_wp2_with fail
    refine (smallB_any c _).mono ?_
    rintro e w1 ⟨rfl, rfl⟩
    rw [h]
    go_wp2
    go_ret
    exact ⟨rfl, rfl⟩
end Go.Proofs.YtlekobompjehdaaDoor
