/-
  A part of a slice, in whatever memory: where it lies, and what it reads as. Plain.
-/
import Derived.Test.YthhllollhjpheaaBase
namespace Go.Proofs.Ythhllollhjpheaa
open Go.RowKit

theorem slc_gen {w2 : World} {B n sz : Nat} {A : Option Addr} {xs : List Value} (k h m : Nat) (hk : k ≤ h) (hh : h ≤ n) (hm : h ≤ m) (hA : A = none → m = 0) (hr : Rd w2 B sz A n xs) :
    ∃ A3, sliced A k h m sz = .slice A3 (h - k) (m - k) ∧ Rd w2 B sz A3 (h - k) ((xs.drop (k * sz)).take ((h - k) * sz)) ∧ (A3 = none → m - k = 0) := by
  have hl : ((xs.drop (k * sz)).take ((h - k) * sz)).length = (h - k) * sz := by
    rw [List.length_take, List.length_drop, hr.1, ← Nat.sub_mul]
    exact Nat.min_eq_left (Nat.mul_le_mul_right _ (by omega))
  by_cases hmk : m = k
  · refine ⟨A, by unfold sliced; rw [if_pos hmk], ?_, fun _ => by omega⟩
    have e : h - k = 0 := by omega
    rw [e, Nat.zero_mul, List.take_zero]
    exact Rd.nil
  · cases A with
    | none => have := hA rfl; omega
    | some a =>
      refine ⟨some (a.add (k * sz)), by unfold sliced; rw [if_neg hmk]; rfl, ⟨hl, fun hp => ?_⟩, fun h => by cases h⟩
      rw [hl] at hp
      have hpx : 0 < xs.length := by
        rw [hr.1]
        exact Nat.lt_of_lt_of_le hp (Nat.mul_le_mul_right _ (by omega))
      obtain ⟨b, off, e, h1, h2⟩ := hr.2 hpx
      injection e with e
      subst e
      refine ⟨b, off + k * sz, by simp [Addr.add], h1, fun j u hu => ?_⟩
      have hj : j < (h - k) * sz := by rw [← hl]; exact (List.getElem?_eq_some_iff.1 hu).1
      rw [List.getElem?_take_of_lt hj, List.getElem?_drop] at hu
      have := h2 (k * sz + j) u hu
      rw [show off + k * sz + j = off + (k * sz + j) by omega]
      exact this
theorem bytesV_part (l : List Int) (k m : Nat) : ((bytesV l).drop (k * 1)).take (m * 1) = bytesV ((l.drop k).take m) := by
  unfold bytesV
  rw [Nat.mul_one, Nat.mul_one, ← List.map_drop, ← List.map_take]
theorem intsV_part (l : List Int) (k m : Nat) : ((intsV l).drop (k * 1)).take (m * 1) = intsV ((l.drop k).take m) := by
  unfold intsV
  rw [Nat.mul_one, Nat.mul_one, ← List.map_drop, ← List.map_take]
set_option maxRecDepth 100000 in
/-- b[k:h] of bytes -/
theorem slcB_lh {w2 : World} {B n c : Nat} {A : Option Addr} (l : List Int) (i i2 : Int) (k h m : Nat) (hi : i = (k : Int)) (hi2 : i2 = (h : Int)) (hk : k + m = h) (hh : h ≤ n) (hc : n ≤ c) (hA : A = none → c = 0) (hr : Rd w2 B 1 A n (bytesV l)) :
    ∃ A3, (∀ w : World, (Instr.slice 22 (.slice A n c) (some (.int .i64 i)) (some (.int .i64 i2)) none).run Try.prog w = .ok (.slice A3 m (c - k)) w) ∧ Rd w2 B 1 A3 m (bytesV ((l.drop k).take m)) ∧ (A3 = none → c - k = 0) := by
  subst hi hi2
  obtain ⟨A3, h1, h2, h3⟩ := slc_gen k h c (by omega) hh (by omega) hA hr
  have e : h - k = m := by omega
  rw [e] at h1 h2
  rw [bytesV_part] at h2
  refine ⟨A3, fun w => ?_, h2, h3⟩
  rw [← h1, run_slice_lh (P := Try.prog) (w := w) 22 A n c Try.underlying22 .i64 .i64 (k : Int) (h : Int) (by omega) (by omega) (by omega)]
  rfl
set_option maxRecDepth 100000 in
/-- b[k:] of bytes -/
theorem slcB_l {w2 : World} {B n c : Nat} {A : Option Addr} (l : List Int) (i : Int) (k m : Nat) (hi : i = (k : Int)) (hl : l.length = n) (hk : k + m = n) (hc : n ≤ c) (hA : A = none → c = 0) (hr : Rd w2 B 1 A n (bytesV l)) :
    ∃ A3, (∀ w : World, (Instr.slice 22 (.slice A n c) (some (.int .i64 i)) none none).run Try.prog w = .ok (.slice A3 m (c - k)) w) ∧ Rd w2 B 1 A3 m (bytesV (l.drop k)) ∧ (A3 = none → c - k = 0) := by
  subst hi
  obtain ⟨A3, h1, h2, h3⟩ := slc_gen k n c (by omega) (Nat.le_refl _) hc hA hr
  have e : n - k = m := by omega
  rw [e] at h1 h2
  rw [bytesV_part, List.take_of_length_le (by rw [List.length_drop]; omega)] at h2
  refine ⟨A3, fun w => ?_, h2, h3⟩
  rw [← h1, run_slice_l (P := Try.prog) (w := w) 22 A n c Try.underlying22 .i64 (k : Int) (by omega) (by omega)]
  rfl
set_option maxRecDepth 100000 in
/-- b[k:h] of ints -/
theorem slcI_lh {w2 : World} {B n c : Nat} {A : Option Addr} (l : List Int) (i i2 : Int) (k h m : Nat) (hi : i = (k : Int)) (hi2 : i2 = (h : Int)) (hk : k + m = h) (hh : h ≤ n) (hc : n ≤ c) (hA : A = none → c = 0) (hr : Rd w2 B 1 A n (intsV l)) :
    ∃ A3, (∀ w : World, (Instr.slice 48 (.slice A n c) (some (.int .i64 i)) (some (.int .i64 i2)) none).run Try.prog w = .ok (.slice A3 m (c - k)) w) ∧ Rd w2 B 1 A3 m (intsV ((l.drop k).take m)) ∧ (A3 = none → c - k = 0) := by
  subst hi hi2
  obtain ⟨A3, h1, h2, h3⟩ := slc_gen k h c (by omega) hh (by omega) hA hr
  have e : h - k = m := by omega
  rw [e] at h1 h2
  rw [intsV_part] at h2
  refine ⟨A3, fun w => ?_, h2, h3⟩
  rw [← h1, run_slice_lh (P := Try.prog) (w := w) 48 A n c Try.underlying48 .i64 .i64 (k : Int) (h : Int) (by omega) (by omega) (by omega)]
  rfl
set_option maxRecDepth 100000 in
/-- b[k:] of ints -/
theorem slcI_l {w2 : World} {B n c : Nat} {A : Option Addr} (l : List Int) (i : Int) (k m : Nat) (hi : i = (k : Int)) (hl : l.length = n) (hk : k + m = n) (hc : n ≤ c) (hA : A = none → c = 0) (hr : Rd w2 B 1 A n (intsV l)) :
    ∃ A3, (∀ w : World, (Instr.slice 48 (.slice A n c) (some (.int .i64 i)) none none).run Try.prog w = .ok (.slice A3 m (c - k)) w) ∧ Rd w2 B 1 A3 m (intsV (l.drop k)) ∧ (A3 = none → c - k = 0) := by
  subst hi
  obtain ⟨A3, h1, h2, h3⟩ := slc_gen k n c (by omega) (Nat.le_refl _) hc hA hr
  have e : n - k = m := by omega
  rw [e] at h1 h2
  rw [intsV_part, List.take_of_length_le (by rw [List.length_drop]; omega)] at h2
  refine ⟨A3, fun w => ?_, h2, h3⟩
  rw [← h1, run_slice_l (P := Try.prog) (w := w) 48 A n c Try.underlying48 .i64 (k : Int) (by omega) (by omega)]
  rfl
/-- rows of the call's own: which block -/
theorem own_lt2 {w : World} {base n size : Nat} {t : TypeId} {v : Value} {xs : List Value} (h : w.ownsRow base t size v n xs) {g : Nat} (e : v.ownBlock = some g) : g < w.heap.size ∧ base ≤ g := by
  rcases h.2 with ⟨h1, _⟩ | ⟨p, cap, cur, h1, hb, hh, _⟩
  · rw [h1] at e; cases e
  · rw [h1] at e
    have e : some p = some g := e
    injection e with e
    subst e
    exact ⟨(Array.getElem?_eq_some_iff.1 hh).1, hb⟩
/-- a row made later lies in a block of its own -/
theorem own_fresh_ne {w w' : World} {b n n' size size' : Nat} {t t' : TypeId} {v v' : Value} {xs xs' : List Value} (h : w.ownsRow b t size v n xs) (h' : w'.ownsRow w.heap.size t' size' v' n' xs') : v'.ownBlock = none ∨ v'.ownBlock ≠ v.ownBlock := by
  cases e : v'.ownBlock with
  | none => exact .inl rfl
  | some g =>
    refine .inr (fun h2 => ?_)
    have h3 := (own_lt2 h' e).2
    have h4 := (own_lt2 h h2.symm).1
    omega
end Go.Proofs.Ythhllollhjpheaa
