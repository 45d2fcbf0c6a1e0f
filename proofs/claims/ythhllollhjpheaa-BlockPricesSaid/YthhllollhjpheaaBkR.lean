/-
  What is written is read back, in plain Lean: numbers and symbols.
  What is written is read back, in plain Lean: tokens, bytes, lengths.
-/
import Derived.Test.YthhllollhjpheaaBkP
import Derived.Test.YthhllollhjpheaaWtr
namespace Go.Proofs.Ythhllollhjpheaa
open Cd

/-- from a place on bits stand -/
def At (L : List Int) (k : Nat) (b rest : List Int) : Prop := L.drop k = b ++ rest
theorem At.app {L : List Int} {k : Nat} {a b rest : List Int} (h : At L k (a ++ b) rest) : At L k a (b ++ rest) := by unfold At at *; rw [h, List.append_assoc]
theorem At.next {L : List Int} {k : Nat} {a rest : List Int} (h : At L k a rest) : L.drop (k + a.length) = rest := by
  unfold At at h
  rw [← List.drop_drop, h, List.drop_left]
theorem At.then {L : List Int} {k n : Nat} {a b rest : List Int} (h : At L k (a ++ b) rest) (hn : a.length = n) : At L (k + n) b rest := by
  have := h.app.next
  rw [hn] at this
  exact this
theorem At.len {L : List Int} {k : Nat} {a rest : List Int} (h : At L k a rest) (ha : 0 < a.length) : k + a.length ≤ L.length := by
  have := congrArg List.length h
  rw [List.length_drop, List.length_append] at this
  omega
theorem At.len0 {L : List Int} {k : Nat} {a rest : List Int} (h : At L k a rest) (hk : k ≤ L.length) : k + a.length ≤ L.length := by
  have := congrArg List.length h
  rw [List.length_drop, List.length_append] at this
  omega
theorem At.getD {L : List Int} {k i : Nat} {a rest : List Int} (h : At L k a rest) (hi : i < a.length) : L.getD (k + i) 0 = a.getD i 0 := by
  have := congrArg (·[i]?) h
  simp only [List.getElem?_drop, List.getElem?_append_left hi] at this
  rw [List.getD_eq_getElem?_getD, List.getD_eq_getElem?_getD, this]
/-- a number's bits, the lowest first -/
theorem dg_low (n : Int) (c : Nat) : ∀ m, m ≤ c → (∀ i, i < m → (dgS false n c).getD i 0 = n / 2 ^ i % 2) := fun m hm i hi => by
  unfold dgS
  rw [List.getD_eq_getElem?_getD, List.getElem?_map, List.getElem?_range (by omega)]
  rfl
theorem num_digits (L : List Int) (k : Nat) (n : Int) (c : Nat) (h0 : 0 ≤ n) (h : ∀ i, i < c → L.getD (k + i) 0 = n / 2 ^ i % 2) : ∀ m, m ≤ c → numL L k m = n % 2 ^ m
  | 0, _ => by simp [numL]
  | m + 1, hm => by
    rw [numL, num_digits L k n c h0 h m (by omega), h m (by omega), Int.pow_succ]
    have hp : (0 : Int) < 2 ^ m := Int.pow_pos (by omega)
    generalize (2 : Int) ^ m = p at *
    have e1 := Int.mul_ediv_add_emod n p
    have e2 : n % (p * 2) = n - p * 2 * (n / (p * 2)) := by have := Int.mul_ediv_add_emod n (p * 2); omega
    have e3 : n / (p * 2) = n / p / 2 := by rw [Int.ediv_ediv, if_neg (by omega), Int.sub_zero]
    have e4 := Int.mul_ediv_add_emod (n / p) 2
    rw [e2, e3]
    have e5 : p * 2 * (n / p / 2) = p * (2 * (n / p / 2)) := by rw [Int.mul_assoc]
    rw [e5, show 2 * (n / p / 2) = n / p - n / p % 2 by omega, Int.mul_sub]
    have e6 : n / p % 2 * p = p * (n / p % 2) := Int.mul_comm _ _
    omega
theorem tk_back {L : List Int} {k : Nat} {n : Int} {c : Nat} {rest : List Int} (h : At L k (dgS false n c) rest) (hk : k ≤ L.length) (h0 : 0 ≤ n) (h1 : n < 2 ^ c) : tkM L k c = some n := by
  have hl := h.len0 hk
  rw [dgS_len] at hl
  rw [tkM_some hl]
  congr 1
  rw [num_digits L k n c h0 (fun i hi => by rw [h.getD (by rw [dgS_len]; exact hi), dg_low n c c (Nat.le_refl _) i hi]) c (Nat.le_refl _)]
  exact Int.emod_eq_of_lt h0 h1
/-- a symbol's code -/
def cdB (l : List Int) (s : Nat) : List Int := dgS true ((codesL l).getD s 0) (lenOf l s)
theorem cdB_len (l : List Int) (s : Nat) : (cdB l s).length = lenOf l s := dgS_len _ _ _
theorem cdB_at (l : List Int) (s i : Nat) (hi : i < lenOf l s) : (cdB l s).getD i 0 = (codesL l).getD s 0 / 2 ^ (lenOf l s - 1 - i) % 2 := by
  unfold cdB dgS
  rw [List.getD_eq_getElem?_getD, List.getElem?_map, List.getElem?_range hi]
  rfl
theorem sym_at {l : List Int} (hl : lensB l = true) {s : Nat} (hs : s < l.length) (hp : 0 < l.getD s 0) :
    ∃ m r : List Nat, ordL l = m ++ s :: r ∧ 1 ≤ lenOf l s ∧ lenOf l s ≤ 16 ∧ (codesL l).getD s 0 = ((tot (m.map fun s => (s, lenOf l s)) / pw (lenOf l s) : Nat) : Int) ∧ pw (lenOf l s) ∣ tot (m.map fun s => (s, lenOf l s)) ∧ tot (m.map fun s => (s, lenOf l s)) + pw (lenOf l s) ≤ tot (slOf l) ∧
      (rowOf (slOf l) (lenOf l s)).getD ((tot (m.map fun s => (s, lenOf l s)) - low (slOf l) (lenOf l s)) / pw (lenOf l s)) 0 = s ∧ low (slOf l) (lenOf l s) ≤ tot (m.map fun s => (s, lenOf l s)) ∧ tot (m.map fun s => (s, lenOf l s)) < low (slOf l) (lenOf l s + 1) := by
  have hb := lensB_iff.1 hl
  have h16 := (hb.2.1 _ (show l.getD s 0 ∈ l by rw [List.getD_eq_getElem?_getD, List.getElem?_eq_getElem hs]; exact List.getElem_mem hs))
  have hln : lenOf l s = (l.getD s 0).toNat := rfl
  have hmem : s ∈ ordL l := ordL_mem.2 ⟨hs, lenOf l s - 1, by omega, by omega⟩
  obtain ⟨m, r, e⟩ := List.append_of_mem hmem
  have hok := sl_ok hl
  have esl : slOf l = m.map (fun s => (s, lenOf l s)) ++ (s, lenOf l s) :: r.map (fun s => (s, lenOf l s)) := by unfold slOf; rw [e, List.map_append, List.map_cons]
  have hsort := hok.sorted
  rw [esl, List.pairwise_append] at hsort
  have hA : ∀ x ∈ m.map (fun s => (s, lenOf l s)), x.2 ≤ lenOf l s := fun x hx => hsort.2.2 x hx (s, lenOf l s) List.mem_cons_self
  have hB : ∀ x ∈ r.map (fun s => (s, lenOf l s)), lenOf l s ≤ x.2 := fun x hx => (List.pairwise_cons.1 hsort.2.1).1 x hx
  generalize hM : m.map (fun s => (s, lenOf l s)) = M at *
  generalize hR : r.map (fun s => (s, lenOf l s)) = R at *
  have hMs : M.Pairwise (fun x y => x.2 ≤ y.2) := hsort.1
  -- what stands below, and in the row ahead
  have s3 := split3 (lenOf l s) hMs
  have hgt : M.filter (fun x => decide (lenOf l s < x.2)) = [] := List.filter_eq_nil_iff.2 fun x hx => by have := hA x hx; simp; omega
  rw [hgt, List.append_nil] at s3
  have hlow : low (slOf l) (lenOf l s) = tot (M.filter fun x => decide (x.2 < lenOf l s)) := by
    unfold low
    have hnR : R.filter (fun x => decide (x.2 < lenOf l s)) = [] := List.filter_eq_nil_iff.2 fun x hx => by have := hB x hx; simp; omega
    rw [esl, List.filter_append, List.filter_cons_of_neg (by simp), hnR, List.append_nil]
  have hrow : rowOf (slOf l) (lenOf l s) = (M.filter fun x => decide (x.2 = lenOf l s)).map (·.1) ++ s :: (R.filter fun x => decide (x.2 = lenOf l s)).map (·.1) := by
    unfold rowOf
    rw [esl, List.filter_append, List.filter_cons_of_pos (by simp), List.map_append, List.map_cons]
  have htot : tot M = low (slOf l) (lenOf l s) + (M.filter fun x => decide (x.2 = lenOf l s)).length * pw (lenOf l s) := by
    conv => lhs; rw [s3]
    rw [tot_append, hlow, tot_same (l := M.filter fun x => decide (x.2 = lenOf l s)) (n := lenOf l s) fun x hx => by have := (List.mem_filter.1 hx).2; simpa using this]
  have hpp := pw_pos (lenOf l s)
  refine ⟨m, r, e, by omega, by omega, ?_, ?_, ?_, ?_, ?_, ?_⟩
  · rw [codes_at hl e, hM]
  · rw [hM]; exact tot_dvd hA
  · rw [hM, esl, tot_append, tot_cons]; dsimp only; omega
  · rw [hM, htot, Nat.add_sub_cancel_left, Nat.mul_div_cancel _ hpp, hrow, List.getD_eq_getElem?_getD]
    have e9 : (M.filter fun x => decide (x.2 = lenOf l s)).length = ((M.filter fun x => decide (x.2 = lenOf l s)).map (·.1)).length := by rw [List.length_map]
    rw [e9, List.getElem?_append_right (Nat.le_refl _), Nat.sub_self]
    rfl
  · rw [hM, htot]; omega
  · rw [hM, low_succ, htot, hrow, List.length_append, List.length_map, List.length_cons, List.length_map, Nat.add_mul, Nat.add_mul]
    generalize (M.filter fun x => decide (x.2 = lenOf l s)).length * pw (lenOf l s) = q
    generalize (R.filter fun x => decide (x.2 = lenOf l s)).length * pw (lenOf l s) = q2
    omega
theorem sym_back {l L : List Int} {k s : Nat} {rest : List Int} (hl : lensB l = true) (hs : s < l.length) (hp : 0 < l.getD s 0) (h : At L k (cdB l s) rest) : symM l L k = .ok (s, k + lenOf l s) := by
  obtain ⟨m, r, e, h1, h16, hc, hd, hle, hrow, hlo, hhi⟩ := sym_at hl hs hp
  generalize tot (m.map fun s => (s, lenOf l s)) = T at *
  have hlen := h.len (by rw [cdB_len]; omega)
  rw [cdB_len] at hlen
  have hne : ¬ ordL l = [] := by rw [e]; simp
  unfold symM
  rw [if_neg hne]
  obtain ⟨C, rfl⟩ := hd
  have hpp := pw_pos (lenOf l s)
  rw [Nat.mul_div_cancel_left _ hpp] at hc
  -- the bits one by one
  have hbt : ∀ i, i < lenOf l s → btF L k i = C / 2 ^ (lenOf l s - 1 - i) % 2 := by
    intro i hi
    unfold btF
    rw [h.getD (by rw [cdB_len]; exact hi), cdB_at l s i hi, hc]
    have : ((C : Int) / 2 ^ (lenOf l s - 1 - i) % 2) = ((C / 2 ^ (lenOf l s - 1 - i) % 2 : Nat) : Int) := by push_cast; rfl
    rw [this, Int.toNat_natCast]
  have hCt : C < 2 ^ lenOf l s := by
    have hk := (sl_ok hl).kraft
    have e1 : pw (lenOf l s) * 2 ^ lenOf l s = 65536 := by
      unfold pw
      rw [← Nat.pow_add, show 16 - lenOf l s + lenOf l s = 16 by omega]
    rcases Nat.lt_or_ge C (2 ^ lenOf l s) with h9 | h9
    · exact h9
    · exfalso
      have := Nat.mul_le_mul_left (pw (lenOf l s)) h9
      omega
  -- reading
  have key : ∀ f n, n + f = 17 → 1 ≤ n → n ≤ lenOf l s → rdC (slOf l) (btF L k) (L.length - k) f n (C / 2 ^ (lenOf l s - (n - 1))) = .sym s (lenOf l s) := by
    intro f
    induction f with
    | zero => intro n hn h1' h2; omega
    | succ f ih =>
      intro n hn hn1 hn2
      have hcn : 2 * (C / 2 ^ (lenOf l s - (n - 1))) + btF L k (n - 1) = C / 2 ^ (lenOf l s - n) := by
        rw [hbt (n - 1) (by omega), show lenOf l s - 1 - (n - 1) = lenOf l s - n by omega, show lenOf l s - (n - 1) = lenOf l s - n + 1 by omega, Nat.pow_succ, ← Nat.div_div_eq_div_mul]
        omega
      unfold rdC
      rw [if_neg (by omega), hcn]
      by_cases hnl : n = lenOf l s
      · subst hnl
        rw [Nat.sub_self, Nat.pow_zero, Nat.div_one]
        have e2 : C * pw (lenOf l s) = pw (lenOf l s) * C := Nat.mul_comm _ _
        rw [if_pos (by rw [e2]; exact hhi)]
        have e3 : C - low (slOf l) (lenOf l s) / pw (lenOf l s) = (pw (lenOf l s) * C - low (slOf l) (lenOf l s)) / pw (lenOf l s) := by
          obtain ⟨B, hB⟩ := low_dvd (slOf l) (lenOf l s)
          rw [hB, Nat.mul_div_cancel_left _ hpp, ← Nat.mul_sub, Nat.mul_div_cancel_left _ hpp]
        rw [e3, hrow]
      · have hlt : n < lenOf l s := by omega
        have e5 : pw n = pw (lenOf l s) * 2 ^ (lenOf l s - n) := by
          unfold pw
          rw [← Nat.pow_add]
          congr 1
          omega
        have hdm := Nat.div_add_mod C (2 ^ (lenOf l s - n))
        have hmod := Nat.mod_lt C (show 0 < 2 ^ (lenOf l s - n) from Nat.pow_pos (by omega))
        have hlow2 : low (slOf l) (n + 1) ≤ low (slOf l) (lenOf l s) := low_mono _ (by omega)
        -- the code's beginning is no code
        have ha : ¬ C / 2 ^ (lenOf l s - n) * pw n < low (slOf l) (n + 1) := by
          intro hlt2
          obtain ⟨B, hB⟩ := low_dvd' (slOf l) n
          have h6 : low (slOf l) (n + 1) ≤ pw (lenOf l s) * C := Nat.le_trans hlow2 hlo
          rw [hB, Nat.mul_comm] at hlt2
          have h7 : C / 2 ^ (lenOf l s - n) < B := Nat.lt_of_mul_lt_mul_left hlt2
          rw [hB, e5, Nat.mul_assoc] at h6
          have h8 : 2 ^ (lenOf l s - n) * B ≤ C := Nat.le_of_mul_le_mul_left h6 hpp
          have h9 : 2 ^ (lenOf l s - n) * (C / 2 ^ (lenOf l s - n) + 1) ≤ 2 ^ (lenOf l s - n) * B := Nat.mul_le_mul_left _ h7
          rw [Nat.mul_add, Nat.mul_one] at h9
          omega
        have hb : C / 2 ^ (lenOf l s - n) * pw n < tot (slOf l) := by
          have h6 : C / 2 ^ (lenOf l s - n) * pw n ≤ pw (lenOf l s) * C := by
            rw [e5, Nat.mul_comm (pw (lenOf l s)), ← Nat.mul_assoc, Nat.mul_comm (C / 2 ^ (lenOf l s - n)), Nat.mul_comm (pw (lenOf l s))]
            refine Nat.mul_le_mul_right _ ?_
            omega
          omega
        rw [if_neg ha, if_pos hb]
        have := ih (n + 1) (by omega) (by omega) (by omega)
        rw [Nat.add_sub_cancel] at this
        exact this
  have k1 := key 16 1 (by omega) (Nat.le_refl _) h1
  rw [Nat.sub_self, Nat.sub_zero, Nat.div_eq_of_lt hCt] at k1
  rw [k1]
end Go.Proofs.Ythhllollhjpheaa

namespace Go.Proofs.Ythhllollhjpheaa
open Cd

theorem filter_down (p : Nat → Bool) : ∀ n, (∀ i j, i ≤ j → j < n → p j = true → p i = true) → ∃ j, j ≤ n ∧ ((List.range n).filter p).length = j ∧ ∀ i, i < n → (p i = true ↔ i < j)
  | 0, _ => ⟨0, Nat.le_refl _, rfl, fun i h => absurd h (Nat.not_lt_zero _)⟩
  | n + 1, h => by
    obtain ⟨j, h1, h2, h3⟩ := filter_down p n fun i j a b => h i j a (by omega)
    by_cases hp : p n = true
    · have h4 : ∀ i, i < n + 1 → (p i = true ↔ i < n + 1) := fun i hi => ⟨fun _ => hi, fun _ => h i n (by omega) (by omega) hp⟩
      exact ⟨n + 1, Nat.le_refl _, filter_pre p (n + 1) (n + 1) (Nat.le_refl _) h4, h4⟩
    · have h4 : ∀ i, i < n + 1 → (p i = true ↔ i < j) := fun i hi => by
        rcases Nat.lt_or_ge i n with h5 | h5
        · exact h3 i h5
        · have : i = n := by omega
          subst this
          exact ⟨fun h => absurd h hp, fun h => by omega⟩
      exact ⟨j, by omega, filter_pre p j (n + 1) (by omega) h4, h4⟩
theorem lsN_sym {n : Int} (h1 : 3 ≤ n) : LSym n (lsN n : Nat) := by
  obtain ⟨j, hj, he, hp⟩ := filter_down (fun j => decide (lbase (257 + ((j + 1 : Nat) : Int)) ≤ n)) 28 fun i j a b h => by
    have := lbase_mono ⟨i + 1, by omega⟩ ⟨j + 1, by omega⟩ (by simp; omega)
    simp only at this
    have := of_decide_eq_true h
    exact decide_eq_true (by omega)
  unfold lsN
  rw [he]
  refine ⟨by omega, by omega, ?_, ?_⟩
  · cases j with
    | zero => rw [show ((257 + 0 : Nat) : Int) = 257 by rfl, lbase_257]; exact h1
    | succ j =>
      have := of_decide_eq_true ((hp j (by omega)).2 (by omega))
      rw [show ((257 + (j + 1) : Nat) : Int) = 257 + ((j + 1 : Nat) : Int) by omega]
      exact this
  · by_cases h : j = 28
    · left; omega
    · right
      have hnj := mt (hp j (by omega)).1 (Nat.lt_irrefl j)
      rw [show ((257 + j : Nat) : Int) + 1 = 257 + ((j + 1 : Nat) : Int) by omega]
      rcases Int.lt_or_le n (lbase (257 + ((j + 1 : Nat) : Int))) with h3 | h3
      · exact h3
      · exact absurd (decide_eq_true h3) hnj
theorem dsN_sym {n : Int} (h1 : 1 ≤ n) : DSym n (dsN n : Nat) := by
  obtain ⟨j, hj, he, hp⟩ := filter_down (fun j => decide (dbase ((j + 1 : Nat) : Int) ≤ n)) 29 fun i j a b h => by
    have := dbase_mono ⟨i + 1, by omega⟩ ⟨j + 1, by omega⟩ (by simp; omega)
    simp only at this
    have := of_decide_eq_true h
    exact decide_eq_true (by omega)
  unfold dsN
  rw [he]
  refine ⟨by omega, by omega, ?_, ?_⟩
  · cases j with
    | zero => rw [show ((0 : Nat) : Int) = 0 by rfl, dbase_0]; exact h1
    | succ j => exact of_decide_eq_true ((hp j (by omega)).2 (by omega))
  · by_cases h : j = 29
    · left; omega
    · right
      have hnj := mt (hp j (by omega)).1 (Nat.lt_irrefl j)
      rw [show ((j : Nat) : Int) + 1 = ((j + 1 : Nat) : Int) by omega]
      rcases Int.lt_or_le n (dbase ((j + 1 : Nat) : Int)) with h3 | h3
      · exact h3
      · exact absurd (decide_eq_true h3) hnj
theorem lext_bd : ∀ j : Fin 29, 0 ≤ lextra (257 + (j.val : Int)) ∧ lextra (257 + (j.val : Int)) ≤ 5 ∧ (j.val < 28 → lbase (257 + ((j.val + 1 : Nat) : Int)) ≤ lbase (257 + (j.val : Int)) + 2 ^ (lextra (257 + (j.val : Int))).toNat) := by decide +kernel
theorem dext_bd : ∀ j : Fin 30, 0 ≤ dextra (j.val : Int) ∧ dextra (j.val : Int) ≤ 13 ∧ (j.val < 29 → dbase ((j.val + 1 : Nat) : Int) ≤ dbase (j.val : Int) + 2 ^ (dextra (j.val : Int)).toNat) := by decide +kernel
/-- what is left of a length, of a distance -/
theorem lrest {n : Int} (h1 : 3 ≤ n) (h2 : n ≤ 258) : 0 ≤ n - lbase (lsN n : Nat) ∧ n - lbase (lsN n : Nat) < 2 ^ (lextra (lsN n : Nat)).toNat ∧ 0 ≤ lextra (lsN n : Nat) ∧ lextra (lsN n : Nat) ≤ 5 := by
  obtain ⟨a1, a2, a3, a4⟩ := lsN_sym h1
  generalize lsN n = s at *
  obtain ⟨j, rfl⟩ : ∃ j, s = 257 + j := ⟨s - 257, by omega⟩
  have hj := lext_bd ⟨j, by omega⟩
  simp only at hj
  rw [show ((257 + j : Nat) : Int) = 257 + (j : Int) by omega] at *
  refine ⟨by omega, ?_, hj.1, hj.2.1⟩
  rcases a4 with a4 | a4
  · have : j = 28 := by omega
    subst this
    have : lbase (257 + ((28 : Nat) : Int)) = 258 := by decide
    have h3 : lextra (257 + ((28 : Nat) : Int)) = 0 := by decide
    rw [this, h3] at *
    simp
    omega
  · by_cases h : j = 28
    · subst h
      have : lbase (257 + ((28 : Nat) : Int)) = 258 := by decide
      have h3 : lextra (257 + ((28 : Nat) : Int)) = 0 := by decide
      rw [this, h3] at *
      simp
      omega
    · have := hj.2.2 (by omega)
      rw [show (257 : Int) + (j : Int) + 1 = 257 + ((j + 1 : Nat) : Int) by omega] at a4
      omega
theorem drest {n : Int} (h1 : 1 ≤ n) (h2 : n ≤ 32768) : 0 ≤ n - dbase (dsN n : Nat) ∧ n - dbase (dsN n : Nat) < 2 ^ (dextra (dsN n : Nat)).toNat ∧ 0 ≤ dextra (dsN n : Nat) ∧ dextra (dsN n : Nat) ≤ 13 := by
  obtain ⟨a1, a2, a3, a4⟩ := dsN_sym h1
  generalize dsN n = j at *
  have hj := dext_bd ⟨j, by omega⟩
  simp only at hj
  refine ⟨by omega, ?_, hj.1, hj.2.1⟩
  by_cases h : j = 29
  · subst h
    have : dbase ((29 : Nat) : Int) = 24577 := by decide
    have h3 : dextra ((29 : Nat) : Int) = 13 := by decide
    rw [this, h3]
    have : (2 : Int) ^ (13 : Int).toNat = 8192 := by decide
    rw [this]
    omega
  · rcases a4 with a4 | a4
    · omega
    · have := hj.2.2 (by omega)
      rw [show (j : Int) + 1 = ((j + 1 : Nat) : Int) by omega] at a4
      omega
/-- a token's bits -/
def tokB (L D : List Int) (t : Int × Int) : List Int :=
  if t.1 = 0 then cdB L t.2.toNat else cdB L (lsN t.1) ++ (dgS false (t.1 - lbase (lsN t.1 : Nat)) (lextra (lsN t.1 : Nat)).toNat ++ (cdB D (dsN t.2) ++ dgS false (t.2 - dbase (dsN t.2 : Nat)) (dextra (dsN t.2 : Nat)).toNat))
def toksB (L D : List Int) (l : List (Int × Int)) : List Int := l.flatMap (tokB L D) ++ cdB L 256
/-- its symbols have codes -/
def hasT (L D : List Int) (t : Int × Int) : Prop := if t.1 = 0 then 0 < L.getD t.2.toNat 0 else 0 < L.getD (lsN t.1) 0 ∧ 0 < D.getD (dsN t.2) 0
theorem getD_in {l : List Int} {s : Nat} (h : 0 < l.getD s 0) : s < l.length := by
  rcases Nat.lt_or_ge s l.length with h1 | h1
  · exact h1
  · rw [List.getD_eq_getElem?_getD, List.getElem?_eq_none h1] at h
    exact absurd h (by decide)
theorem At.alen {L : List Int} {k : Nat} {a rest : List Int} (h : At L k a rest) (hk : k ≤ L.length) : k + a.length ≤ L.length := h.len0 hk
theorem tok_back {L D B : List Int} {k : Nat} {rest : List Int} {t : Int × Int} {most size : Int} {toks : List (Int × Int)} (hL : lensB L = true) (hD : lensB D = true) (hk : k ≤ B.length) (h : At B k (tokB L D t) rest) (hg : tgood t = true) (ht : hasT L D t) (he : terr most size t = 0) :
    ∃ y k1, symM L B k = .ok (y, k1) ∧ y ≠ 256 ∧ k < k1 ∧ (if y < 256 then putM most (0, (y : Int)) ⟨k1, size, toks⟩ else matchM D B most y ⟨k1, size, toks⟩) = .ok ⟨k + (tokB L D t).length, size + tn t, toks ++ [t]⟩ := by
  have hp : ∀ k', putM most t ⟨k', size, toks⟩ = .ok ⟨k', size + tn t, toks ++ [t]⟩ := by
    intro k'
    unfold terr at he
    rw [if_neg (by rw [hg]; decide)] at he
    unfold putM
    by_cases h1 : 0 < t.1 ∧ size < t.2
    · rw [if_pos h1] at he; exact absurd he (by decide)
    · rw [if_neg h1] at he
      rw [if_neg h1]
      by_cases h2 : most < size + tn t
      · rw [if_pos h2] at he; exact absurd he (by decide)
      · rw [if_neg h2]
  unfold hasT at ht
  by_cases h0 : t.1 = 0
  · rw [if_pos h0] at ht
    have hb : 0 ≤ t.2 ∧ t.2 ≤ 255 := by rcases tgood_true.1 hg with h | h <;> omega
    have e : tokB L D t = cdB L t.2.toNat := if_pos h0
    rw [e] at h ⊢
    have hs := sym_back hL (getD_in ht) ht h
    have hln : 1 ≤ lenOf L t.2.toNat := by unfold lenOf; omega
    refine ⟨_, _, hs, by omega, by omega, ?_⟩
    rw [if_pos (by omega), cdB_len]
    have := hp (k + lenOf L t.2.toNat)
    rw [show t = ((0 : Int), ((t.2.toNat : Nat) : Int)) from Prod.ext h0 (by show t.2 = _; omega)] at this
    rw [show t = ((0 : Int), ((t.2.toNat : Nat) : Int)) from Prod.ext h0 (by show t.2 = _; omega)]
    simp only [Int.toNat_natCast] at this ⊢
    exact this
  · rw [if_neg h0] at ht
    have hb : 3 ≤ t.1 ∧ t.1 ≤ 258 ∧ 1 ≤ t.2 ∧ t.2 ≤ 32768 := by rcases tgood_true.1 hg with h | h <;> omega
    obtain ⟨b1, b2, b3, b4⟩ := hb
    have e : tokB L D t = cdB L (lsN t.1) ++ (dgS false (t.1 - lbase (lsN t.1 : Nat)) (lextra (lsN t.1 : Nat)).toNat ++ (cdB D (dsN t.2) ++ dgS false (t.2 - dbase (dsN t.2 : Nat)) (dextra (dsN t.2 : Nat)).toNat)) := if_neg h0
    rw [e] at h ⊢
    have hlb := lsN_bd t.1
    have hdb := dsN_bd t.2
    obtain ⟨r1, r2, r3, r4⟩ := lrest b1 b2
    obtain ⟨q1, q2, q3, q4⟩ := drest b3 b4
    have hs := sym_back hL (getD_in ht.1) ht.1 h.app
    have hln : 1 ≤ lenOf L (lsN t.1) := by have := ht.1; unfold lenOf; omega
    have hk1 := h.app.len0 hk
    have h2 := h.then (cdB_len L (lsN t.1))
    rw [cdB_len] at hk1
    have hk2 := h2.app.len0 hk1
    rw [dgS_len] at hk2
    have h3 := h2.then (dgS_len false _ _)
    have hk3 := h3.app.len0 hk2
    rw [cdB_len] at hk3
    have h4 := h3.then (cdB_len D (dsN t.2))
    refine ⟨_, _, hs, by omega, by omega, ?_⟩
    rw [if_neg (by omega)]
    unfold matchM
    rw [if_neg (by omega), tk_back h2.app hk1 r1 r2]
    dsimp only
    rw [sym_back hD (getD_in ht.2) ht.2 h3.app]
    dsimp only
    rw [if_neg (by omega), tk_back h4 hk3 q1 q2]
    dsimp only
    rw [show (lbase (lsN t.1 : Nat) + (t.1 - lbase (lsN t.1 : Nat)), dbase (dsN t.2 : Nat) + (t.2 - dbase (dsN t.2 : Nat))) = t from Prod.ext (by show _ + _ = t.1; omega) (by show _ + _ = t.2; omega), hp]
    rw [List.length_append, List.length_append, List.length_append, cdB_len, dgS_len, cdB_len, dgS_len]
    simp only [Nat.add_assoc]
theorem tokB_pos {L D : List Int} {t : Int × Int} (ht : hasT L D t) : 1 ≤ (tokB L D t).length := by
  unfold hasT at ht
  unfold tokB
  split
  · next h => rw [if_pos h] at ht; rw [cdB_len]; unfold lenOf; omega
  · next h => rw [if_neg h] at ht; have := ht.1; rw [List.length_append, cdB_len]; unfold lenOf; omega
theorem scan_cons {most s : Int} {t : Int × Int} {l : List (Int × Int)} (h : scan most (t :: l) s = 0) : terr most s t = 0 ∧ scan most l (s + tn t) = 0 := by
  rw [scan] at h
  split at h
  · next h1 => exact ⟨h1, h⟩
  · next h1 => exact absurd h h1
def sumT (l : List (Int × Int)) : Int := (l.map tn).sum
theorem syms_back {L D B : List Int} {most : Int} {rest : List Int} (hL : lensB L = true) (hD : lensB D = true) (h256 : 0 < L.getD 256 0) : ∀ (l : List (Int × Int)) (f k : Nat) (size : Int) (toks : List (Int × Int)), k ≤ B.length → At B k (toksB L D l) rest → (∀ t ∈ l, tgood t = true ∧ hasT L D t) → scan most l size = 0 → l.length < f →
    symsM L D B most f ⟨k, size, toks⟩ = .ok ⟨k + (toksB L D l).length, size + sumT l, toks ++ l⟩
  | [], f, k, size, toks, hk, h, hl, hs, hf => by
    obtain ⟨f, rfl⟩ : ∃ f', f = f' + 1 := ⟨f - 1, by simp at hf; omega⟩
    unfold toksB at h ⊢
    rw [List.flatMap_nil, List.nil_append] at h ⊢
    rw [symsM, sym_back hL (getD_in h256) h256 h]
    dsimp only
    rw [if_pos rfl, cdB_len, List.append_nil]
    simp [sumT]
  | t :: l, f, k, size, toks, hk, h, hl, hs, hf => by
    obtain ⟨f, rfl⟩ : ∃ f', f = f' + 1 := ⟨f - 1, by omega⟩
    have e : toksB L D (t :: l) = tokB L D t ++ toksB L D l := by unfold toksB; rw [List.flatMap_cons, List.append_assoc]
    rw [e] at h ⊢
    obtain ⟨h1, h2⟩ := scan_cons hs
    obtain ⟨g1, g2⟩ := hl t List.mem_cons_self
    obtain ⟨y, k1, a1, a2, a3, a4⟩ := tok_back (toks := toks) hL hD hk h.app g1 g2 h1
    rw [symsM, a1]
    dsimp only
    rw [if_neg a2, a4]
    dsimp only
    rw [syms_back hL hD h256 l f _ _ _ (h.app.len0 hk) (h.then rfl) (fun x hx => hl x (List.mem_cons_of_mem _ hx)) h2 (by rw [List.length_cons] at hf; omega)]
    rw [List.length_append, List.append_assoc, Nat.add_assoc, Int.add_assoc]
    rfl
theorem toksB_len {L D : List Int} : ∀ {l : List (Int × Int)}, (∀ t ∈ l, hasT L D t) → l.length ≤ (l.flatMap (tokB L D)).length
  | [], _ => Nat.le_refl _
  | t :: l, h => by
    rw [List.flatMap_cons, List.length_append, List.length_cons]
    have := tokB_pos (h t List.mem_cons_self)
    have := toksB_len (L := L) (D := D) (l := l) fun x hx => h x (List.mem_cons_of_mem _ hx)
    omega
theorem all_back {L D B : List Int} {most : Int} {rest : List Int} {l : List (Int × Int)} {k : Nat} {size : Int} {toks : List (Int × Int)} (hL : lensB L = true) (hD : lensB D = true) (h256 : 0 < L.getD 256 0) (hk : k ≤ B.length) (h : At B k (toksB L D l) rest) (hl : ∀ t ∈ l, tgood t = true ∧ hasT L D t) (hs : scan most l size = 0) :
    symsAll L D B most ⟨k, size, toks⟩ = .ok ⟨k + (toksB L D l).length, size + sumT l, toks ++ l⟩ := by
  refine syms_back hL hD h256 l _ k size toks hk h hl hs ?_
  have h1 := h.len0 hk
  have h2 := toksB_len (L := L) (D := D) (l := l) fun t ht => (hl t ht).2
  have h3 : 1 ≤ (cdB L 256).length := by rw [cdB_len]; unfold lenOf; omega
  unfold toksB at h1
  rw [List.length_append] at h1
  show l.length < B.length + 1 - k
  omega
/-- bytes -/
def bytB (text : List Int) : List Int := text.flatMap fun c => dgS false c 8
theorem bytB_len (text : List Int) : (bytB text).length = 8 * text.length := by
  unfold bytB
  induction text with
  | nil => rfl
  | cons c l ih => rw [List.flatMap_cons, List.length_append, ih, dgS_len, List.length_cons]; omega
theorem bytes_back {B rest : List Int} : ∀ (text : List Int) (k : Nat) (size : Int) (toks : List (Int × Int)), k ≤ B.length → At B k (bytB text) rest → (∀ c ∈ text, isB c) → bytesM B text.length ⟨k, size, toks⟩ = .ok ⟨k + (bytB text).length, size + text.length, toks ++ text.map fun c => (0, c)⟩
  | [], k, size, toks, hk, h, ht => by simp [bytesM, bytB]
  | c :: l, k, size, toks, hk, h, ht => by
    have e : bytB (c :: l) = dgS false c 8 ++ bytB l := rfl
    rw [e] at h ⊢
    have hc := ht c List.mem_cons_self
    unfold isB at hc
    rw [List.length_cons, bytesM, tk_back h.app hk hc.1 (by have := hc.2; omega)]
    dsimp only
    have hk2 := h.app.len0 hk
    rw [dgS_len] at hk2
    rw [bytes_back l (k + 8) _ _ hk2 (h.then (dgS_len _ _ _)) fun x hx => ht x (List.mem_cons_of_mem _ hx)]
    rw [List.length_append, dgS_len, List.map_cons, List.append_assoc, Nat.add_assoc]
    congr 2
    omega
def padB (k : Nat) : List Int := List.replicate ((8 - k % 8) % 8) 0
def stB (k : Nat) (text : List Int) : List Int := padB k ++ (dgS false text.length 16 ++ (dgS false (65535 - text.length) 16 ++ bytB text))
theorem stored_back {B rest : List Int} {text : List Int} {k : Nat} {most size : Int} {toks : List (Int × Int)} (hk : k ≤ B.length) (h : At B k (stB k text) rest) (ht : ∀ c ∈ text, isB c) (hm : text.length ≤ 65535) (hs : size + text.length ≤ most) :
    storedM B most ⟨k, size, toks⟩ = .ok ⟨k + (stB k text).length, size + text.length, toks ++ text.map fun c => (0, c)⟩ := by
  unfold stB at h ⊢
  have hp : (padB k).length = (8 - k % 8) % 8 := by simp [padB]
  have e : (k + 7) / 8 * 8 = k + (8 - k % 8) % 8 := by omega
  have hk1 := h.app.len0 hk
  rw [hp] at hk1
  have h1 := h.then hp
  have hk2 := h1.app.len0 hk1
  rw [dgS_len] at hk2
  have h2 := h1.then (dgS_len false _ _)
  have hk3 := h2.app.len0 hk2
  rw [dgS_len] at hk3
  have h3 := h2.then (dgS_len false _ _)
  unfold storedM
  rw [e, tk_back h1.app hk1 (by omega) (by have : (2 : Int) ^ 16 = 65536 := by decide
                                           omega)]
  dsimp only
  rw [tk_back h2.app hk2 (by omega) (by have : (2 : Int) ^ 16 = 65536 := by decide
                                        omega)]
  dsimp only
  rw [if_neg (by omega), if_neg (by omega), Int.toNat_natCast, bytes_back text _ _ _ (by omega) (by rw [show k + (8 - k % 8) % 8 + 32 = k + (8 - k % 8) % 8 + 16 + 16 by omega]; exact h3) ht]
  rw [List.length_append, List.length_append, List.length_append, hp, dgS_len, dgS_len]
  congr 2
  omega
/-- the lengths of lengths -/
theorem small_back {B : List Int} {O : List Int} (hO : ∀ x ∈ O, 0 ≤ x ∧ x ≤ 7) : ∀ (os : List Nat) (k : Nat) (sm : List Int) (rest : List Int), k ≤ B.length → At B k (os.flatMap fun s => dgS false (O.getD s 0) 3) rest → (∀ o ∈ os, o < sm.length) →
    ∃ sm', smallM B os k sm = .ok (k + 3 * os.length, sm') ∧ sm'.length = sm.length ∧ ∀ i, sm'.getD i 0 = if i ∈ os then O.getD i 0 else sm.getD i 0
  | [], k, sm, rest, hk, h, _ => ⟨sm, rfl, rfl, fun i => by simp⟩
  | o :: os, k, sm, rest, hk, h, hb => by
    rw [List.flatMap_cons] at h
    have hx : 0 ≤ O.getD o 0 ∧ O.getD o 0 ≤ 7 := by
      rw [List.getD_eq_getElem?_getD]
      rcases Nat.lt_or_ge o O.length with h1 | h1
      · rw [List.getElem?_eq_getElem h1]; exact hO _ (List.getElem_mem h1)
      · rw [List.getElem?_eq_none h1]; exact ⟨Int.le_refl 0, by decide⟩
    have hk2 := h.app.len0 hk
    rw [dgS_len] at hk2
    obtain ⟨sm', e1, e2, e3⟩ := small_back hO os (k + 3) (sm.set o (O.getD o 0)) rest hk2 (h.then (dgS_len _ _ _)) fun x hx => by rw [List.length_set]; exact hb x (List.mem_cons_of_mem _ hx)
    refine ⟨sm', ?_, by rw [e2, List.length_set], fun i => ?_⟩
    · rw [smallM, tk_back h.app hk hx.1 (by have : (2 : Int) ^ 3 = 8 := by decide
                                            omega)]
      dsimp only
      rw [e1, List.length_cons]
      congr 2
      omega
    · rw [e3]
      by_cases hi : i ∈ os
      · rw [if_pos hi, if_pos (List.mem_cons_of_mem _ hi)]
      · rw [if_neg hi]
        by_cases h2 : i = o
        · subst h2
          rw [if_pos List.mem_cons_self, List.getD_eq_getElem?_getD, List.getElem?_set_self (hb _ List.mem_cons_self)]
          rfl
        · rw [if_neg (by rw [List.mem_cons]; intro h; rcases h with h | h; exact h2 h; exact hi h), List.getD_eq_getElem?_getD, List.getElem?_set_ne (fun h => h2 h.symm), ← List.getD_eq_getElem?_getD]
/-- runs -/
def runB (O : List Int) (r : Int × Int) : List Int := cdB O r.1.toNat ++ dgS false r.2 (rb r.1).toNat
theorem unr_len : ∀ (R : List (Int × Int)) {out x : List Int}, unr out R = some x → out.length + R.length ≤ x.length
  | [], out, x, h => by rw [unr] at h; injection h with h; rw [h]; simp
  | (s, e) :: R, out, x, h => by
    by_cases hb : rbad out s e
    · rw [unr_bad hb] at h; cases h
    · rw [unr_step hb] at h
      have := unr_len R h
      rw [List.length_append, List.length_replicate] at this
      have h1 : 1 ≤ (rn s e).toNat := by
        unfold rbad at hb
        unfold rn
        (repeat' split) <;> omega
      rw [List.length_cons]
      omega
theorem row_back {O B : List Int} (hO : lensB O = true) : ∀ (R : List (Int × Int)) (f k : Nat) (out x rest : List Int), k ≤ B.length → At B k (R.flatMap (runB O)) rest → unr out R = some x → (∀ r ∈ R, 0 < O.getD r.1.toNat 0) → R.length ≤ f → rowM O B x.length f k out = .ok (k + (R.flatMap (runB O)).length, x)
  | [], f, k, out, x, rest, hk, h, hu, hR, hf => by
    rw [unr] at hu
    injection hu with hu
    subst hu
    cases f with
    | zero => simp [rowM]
    | succ f => simp [rowM]
  | (s, e) :: R, f, k, out, x, rest, hk, h, hu, hR, hf => by
    obtain ⟨f, rfl⟩ : ∃ f', f = f' + 1 := ⟨f - 1, by rw [List.length_cons] at hf; omega⟩
    by_cases hb : rbad out s e
    · rw [unr_bad hb] at hu; cases hu
    rw [unr_step hb] at hu
    have hle := unr_len R hu
    rw [List.length_append, List.length_replicate] at hle
    rw [List.flatMap_cons] at h ⊢
    have hc := hR _ List.mem_cons_self
    dsimp only at hc
    have hk1 := h.app.app.len0 hk
    rw [cdB_len] at hk1
    have h2 := h.app.then (cdB_len O s.toNat)
    have hk2 := h.app.len0 hk
    unfold rbad at hb
    have hs : 0 ≤ s ∧ s ≤ 18 ∧ 0 ≤ e ∧ e ≤ rtop s ∧ (s = 16 → out ≠ []) := by
      refine ⟨by omega, by omega, by omega, by omega, fun h1 h2 => hb (by right; right; right; left; exact ⟨h1, h2⟩)⟩
    obtain ⟨s0, s1, s2, s3, s4⟩ := hs
    have hrb : e < 2 ^ (rb s).toNat := by
      unfold rtop at s3
      unfold rb
      (repeat' split at s3) <;> (repeat' split) <;> first | omega | (simp; omega)
    rw [rowM, if_neg (by
      have h1 : 1 ≤ (rn s e).toNat := by
        unfold rn
        (repeat' split) <;> omega
      omega), sym_back hO (getD_in hc) hc h.app.app]
    dsimp only
    have e16 : (s.toNat = 16) = (s = 16) := propext ⟨fun h => by omega, fun h => by omega⟩
    have e17 : (s.toNat = 17) = (s = 17) := propext ⟨fun h => by omega, fun h => by omega⟩
    have e18 : (s.toNat = 18) = (s = 18) := propext ⟨fun h => by omega, fun h => by omega⟩
    have erb : (if s.toNat = 16 then 2 else if s.toNat = 17 then 3 else if s.toNat = 18 then 7 else 0) = (rb s).toNat := by
      unfold rb
      simp only [e16, e17, e18]
      (repeat' split) <;> rfl
    rw [if_neg (by rw [e16]; exact fun h => s4 h.1 h.2)]
    rw [erb, tk_back h2 hk1 s2 hrb]
    dsimp only
    have ern : (e + (if s.toNat = 16 then 3 else if s.toNat = 17 then 3 else if s.toNat = 18 then 11 else 1) : Int) = if (s = 16 ∨ s = 17) ∨ s = 18 then rn s e else 1 + e := by
      unfold rn
      simp only [e16, e17, e18]
      (repeat' split) <;> omega
    have ern2 : (e + (if s.toNat = 16 then 3 else if s.toNat = 17 then 3 else if s.toNat = 18 then 11 else 1) : Int) = rn s e := by
      rw [ern]
      split
      · rfl
      · next hx =>
        have he : e = 0 := by
          unfold rtop at s3
          rw [if_neg (by omega), if_neg (by omega), if_neg (by omega)] at s3
          omega
        unfold rn
        rw [if_neg (by omega), if_neg (by omega)]
        omega
    rw [ern2]
    have hrv : (if s.toNat = 16 then out.getD (out.length - 1) 0 else if s.toNat = 17 then 0 else if s.toNat = 18 then 0 else ((s.toNat : Nat) : Int)) = rv out s := by
      unfold rv
      simp only [e16, e17, e18]
      by_cases a : s = 16
      · rw [if_pos a, if_pos a, List.getLast?_eq_getElem?, List.getD_eq_getElem?_getD]
      · rw [if_neg a, if_neg a]
        by_cases b : s = 17
        · rw [if_pos b, if_pos (Or.inl b)]
        · rw [if_neg b]
          by_cases c : s = 18
          · rw [if_pos c, if_pos (Or.inr c)]
          · rw [if_neg c, if_neg (by omega)]
            omega
    rw [hrv, if_neg (by
      have h1 : 0 ≤ rn s e := by
        unfold rn
        (repeat' split) <;> omega
      omega)]
    have hkk : k + lenOf O s.toNat + (rb s).toNat = k + (runB O (s, e)).length := by
      show _ = k + (cdB O s.toNat ++ dgS false e (rb s).toNat).length
      rw [List.length_append, cdB_len, dgS_len]
      omega
    rw [hkk, row_back hO R f _ _ x rest hk2 (h.then rfl) hu (fun r hr => hR r (List.mem_cons_of_mem _ hr)) (by rw [List.length_cons] at hf; omega), List.length_append, Nat.add_assoc]
end Go.Proofs.Ythhllollhjpheaa
