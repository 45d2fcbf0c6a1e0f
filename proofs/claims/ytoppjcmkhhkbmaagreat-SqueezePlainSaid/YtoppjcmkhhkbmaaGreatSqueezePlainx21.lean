/-
  The reference's bits: Digits, Number, Bits.
  The reference's codes: a code plus one.
  The reference's codes: List and Codes.
  The reference's codes: Codes of lengths.
  The reference's codes: Read looks through all codes.
  burnishref11: the codes of kind 1, and a symbol's bits.
  burnishref08.Match: is there a match at a place, of a length and a distance?
-/
import Derived.Test.YtoppjcmkhhkbmaaGreatSqueezePlainx3
import Derived.Test.YtoppjcmkhhkbmaaGreatSqueezePlainx4
import Derived.Test.YtoppjcmkhhkbmaaGreatSqueezePlainx8
import Derived.Test.YtoppjcmkhhkbmaaGreatSqueezePlainx15
import Derived.Test.YtoppjcmkhhkbmaaGreatSqueezePlainx17
import Derived.BigQuiet
import Derived.Deep.Cut
namespace Go.Proofs.YtoppjcmkhhkbmaaGreat
open Go.RowKit

/-- digits of a number, the lowest first -/
def dgL (n : Int) (k : Nat) : List Int := (List.range k).map (fun i => n / 2 ^ i % 2)
theorem dgL_succ (n : Int) (k : Nat) : dgL n (k + 1) = dgL n k ++ [n / 2 ^ k % 2] := by unfold dgL; rw [List.range_succ, List.map_append]; rfl
theorem dgL_length (n : Int) (k : Nat) : (dgL n k).length = k := by simp [dgL]
def IntsEnd (l : List Int) (W : World) (e : Ending) (w' : World) : Prop := ∃ A c, e = .returned (.slice A l.length c) ∧ w'.ownsRow W.heap.size 3 1 (.slice A l.length c) l.length (intsV l) ∧ Below W.heap.size W w'
theorem div_step (n : Int) (j : Nat) : n / 2 ^ j / 2 = n / 2 ^ (j + 1) := by rw [Int.ediv_ediv_of_nonneg (Int.le_of_lt (Int.pow_pos (by decide)))]; rfl
set_option maxRecDepth 100000 in
set_option maxHeartbeats 4000000 in
theorem digits_any (n : Int) (k : Nat) (h0 : 0 ≤ n) (h1 : n < 4294967296) (hk : k ≤ 32) (W : World) : Calls Tryz.prog 40 #[.int .i64 n, .int .i64 (k : Int), .bool false] W (IntsEnd (dgL n k) W) := by
  obtain ⟨i0, hi0, hz0, hz1, hz2⟩ := info_parts int_info
  have Hi0 := hid hi0
  have Hz0 := hid hz0
  have Hz1 := hid hz1
  have Hz2 := hid hz2
  clear hi0 hz0 hz1 hz2
  go_enter Tryz.func40, Tryz.ntmps40
  go_wp2_with fail
  go_loopw [0, 7, 8] (fun v0 v7 v8 wr => ∃ (j : Nat) (A' : Option Addr) (c' : Nat), j ≤ k ∧ v0 = .int .i64 (n / 2 ^ j) ∧ v7 = .slice A' j c' ∧ v8 = .int .i64 (j : Int) ∧ Hid (wr.ownsRow W.heap.size 3 1 (.slice A' j c') j (intsV (dgL n j))) ∧ Hid (Below W.heap.size W wr)) (fun _ _ i _ => k - (intOf i).toNat)
  case atStart => exact ⟨0, none, 0, by omega, by simp, rfl, rfl, hid (World.ownsRow_nil _ _ _ _), hid (Below.refl _ _)⟩
  case round =>
    obtain ⟨j, A', c', hj, rfl, rfl, rfl, O, B⟩ := hrel
    by_cases hlt : j < k
    · have hq0 : 0 ≤ n / 2 ^ j := Int.ediv_nonneg h0 (Int.le_of_lt (Int.pow_pos (by decide)))
      have hq1 : n / 2 ^ j ≤ n := Int.ediv_le_self _ h0
      have HS := hid (div_step n j)
      have HD := hid (dgL_succ n j)
      obtain ⟨q, hq⟩ : ∃ q, q = n / 2 ^ j := ⟨_, rfl⟩
      rw [← hq] at hq0 hq1 HS HD ⊢
      have O1 := hid (fun o => O.out.alloc o)
      have hz := B.out.size
      have tm : q.tmod 2 = q % 2 := Int.tmod_eq_emod_of_nonneg hq0
      have td : q.tdiv 2 = q / 2 := Int.tdiv_eq_ediv_of_nonneg hq0
      clear hq
      go_wp2_with (at_builtin; (refine wpList_app _ rfl _ _ _ rfl (W.heap.size) 3 i0 (.int .i64 0) 1 8 Tryz.underlying65 Hi0.out Hz0.out Hz1.out Hz2.out rfl (by omega) A' j c' (intsV (dgL n j)) rfl (O1.out _) _ _ 1 1 ([.int .i64 _]) rfl (rd_one _ _ _ _ (Blk.new _ _ _)) (by simp) (by simp [Value.oneCell']) (by simp only [maxLen]; omega) (by omega) (by first | omega | (simp; omega)) ?_; intro A4 c4 w4 ha4; have Ha4 := hid ha4; clear ha4))
      obtain ⟨hown4, _, hb4, _⟩ := Ha4.out
      exact ⟨⟨j + 1, A4, c4, by omega, by rw [← HS.out], rfl, by go_num, hid (by rw [HD.out]; unfold intsV at hown4 ⊢; rw [List.map_append]; exact hown4), hid (B.out.trans (((Below.refl _ _).alloc hz _).trans hb4))⟩, by simp [intOf]; omega⟩
    · obtain rfl : j = k := by omega
      go_wp2_with fail
      go_ret
      exact ⟨A', c', by rw [dgL_length]; rfl, by rw [dgL_length]; exact O.out, B.out⟩
theorem num_front (L : List Int) (k : Nat) : ∀ b, numL L k (b + 1) = L.getD k 0 + 2 * numL L (k + 1) b
  | 0 => by rw [numL_one]; show _ = _ + 2 * 0; omega
  | b + 1 => by
    show numL L k (b + 1) + L.getD (k + (b + 1)) 0 * 2 ^ (b + 1) = _ + 2 * (numL L (k + 1) b + L.getD (k + 1 + b) 0 * 2 ^ b)
    rw [num_front L k b, show k + (b + 1) = k + 1 + b by omega, Int.pow_succ, Int.mul_add, Int.add_assoc]
    congr 2
    rw [← Int.mul_assoc, Int.mul_comm 2]
theorem num_part (L : List Int) (k n : Nat) : ∀ b, b ≤ n → numL ((L.drop k).take n) 0 b = numL L k b
  | 0, _ => rfl
  | b + 1, h => by
    show numL _ 0 b + ((L.drop k).take n).getD (0 + b) 0 * 2 ^ b = numL L k b + L.getD (k + b) 0 * 2 ^ b
    rw [num_part L k n b (by omega)]
    congr 2
    rw [List.getD_eq_getElem?_getD, List.getD_eq_getElem?_getD, List.getElem?_take, if_pos (by omega), List.getElem?_drop, Nat.zero_add]
set_option maxRecDepth 100000 in
set_option maxHeartbeats 4000000 in
theorem number_any (A : Option Addr) (c : Nat) (l : List Int) (W : World) (h : RdI W W.heap.size A l) (hb : ∀ x ∈ l, isBit x) (hm : l.length ≤ 32) : Calls Tryz.prog 75 #[.slice A l.length c, .bool false] W fun e w' => e = .returned (.int .i64 (numL l 0 l.length)) ∧ w' = W := by
  have H := hid h
  have Hb := hid hb
  obtain ⟨n, hn⟩ : ∃ n, n = l.length := ⟨_, rfl⟩
  have Hn := hid hn
  rw [← hn] at hm ⊢
  clear h hb hn
  go_enter Tryz.func75, Tryz.ntmps75
  go_wp2_with fail
  go_loop [5, 6] (fun v i => ∃ j : Nat, j ≤ n ∧ v = .int .i64 (numL l (n - j) j) ∧ i = .int .i64 (j : Int)) (fun _ i => n - (intOf i).toNat)
  case atStart => exact ⟨0, by omega, rfl, rfl⟩
  case round =>
    obtain ⟨j, hj, rfl, rfl⟩ := hrel
    by_cases hlt : j < n
    · have hjl : n - 1 - j < l.length := by rw [← Hn.out]; omega
      obtain ⟨b, off, hA, hbb, hc⟩ := int_at H.out hjl
      subst hA
      have hbd := numL_bd Hb.out (n - j) j
      have hbit := Hb.out _ (List.getElem_mem hjl)
      have hst := num_front l (n - 1 - j) j
      rw [show n - 1 - j + 1 = n - j by omega, List.getD_eq_getElem?_getD, List.getElem?_eq_getElem hjl, Option.getD_some] at hst
      have hpm := pow_mono (show j ≤ 32 by omega)
      have hp32 : (2 : Int) ^ 32 = 4294967296 := by decide
      rw [hp32] at hpm
      have Hst := hid hst
      generalize l[n - 1 - j]'hjl = x at *
      generalize hK : numL l (n - j) j = K at *
      have hx : x = 0 ∨ x = 1 := hbit
      have tw : IntKind.i64.wrap ((n : Int) - 1) = ((n - 1 : Nat) : Int) := (IntWalk.i64_in _ (by omega)).trans (by omega)
      have tw1 : IntKind.i64.wrap (((n - 1 : Nat) : Int) - (j : Int)) = ((n - 1 - j : Nat) : Int) := (IntWalk.i64_in _ (by omega)).trans (by omega)
      have tw2 : IntKind.i64.wrap (2 * K) = 2 * K := IntWalk.i64_in _ (by omega)
      have tw3 : IntKind.i64.wrap (2 * K + x) = 2 * K + x := IntWalk.i64_in _ (by omega)
      clear hst hbit hK
      go_wp2_with fail
      go_round
      case rel => exact ⟨j + 1, by omega, by rw [show n - (j + 1) = n - 1 - j by omega, Hst.out, Int.add_comm], by go_num⟩
      case measure => simp [intOf]; omega
    · obtain rfl : j = n := by omega
      go_wp2_with fail
      go_ret
      exact ⟨rfl, rfl⟩
theorem own_hnil {w : World} {base t sz n c : Nat} {A : Option Addr} {xs : List Value} (h : w.ownsRow base t sz (.slice A n c) n xs) : A = none → n = 0 := by
  rintro rfl
  rcases h.2 with ⟨_, e⟩ | ⟨g, cap, cur, e, _⟩
  · exact e
  · cases e
end Go.Proofs.YtoppjcmkhhkbmaaGreat

namespace Go.Proofs.YtoppjcmkhhkbmaaGreat
open Go.RowKit

def dig (v e : Nat) : Nat := v / 2 ^ e % 2
/-- digits, the highest first -/
def dgH (n v : Nat) : List Int := (List.range n).map (fun k => ((dig v (n - 1 - k) : Nat) : Int))
theorem dgH_length (n v : Nat) : (dgH n v).length = n := by simp [dgH]
theorem dig_lt (v e : Nat) : dig v e < 2 := Nat.mod_lt _ (by decide)
theorem carry_form {v r : Nat} (h : v % 2 ^ r + 1 = 2 ^ r) : v + 1 = (v / 2 ^ r + 1) * 2 ^ r := by
  have := Nat.div_add_mod v (2 ^ r)
  rw [Nat.add_mul, Nat.one_mul, Nat.mul_comm]
  omega
theorem dig_carry {v r : Nat} (h : v % 2 ^ r + 1 = 2 ^ r) (e : Nat) (he : e < r) : dig (v + 1) e = 0 := by
  unfold dig
  rw [carry_form h, show r = (r - e - 1 + 1) + e by omega, Nat.pow_add, ← Nat.mul_assoc, Nat.mul_div_cancel _ (Nat.pow_pos (by decide)), Nat.pow_succ, ← Nat.mul_assoc]
  omega
theorem dig_next {v r : Nat} (h : v % 2 ^ r + 1 = 2 ^ r) (h1 : dig v r = 1) : v % 2 ^ (r + 1) + 1 = 2 ^ (r + 1) := by
  unfold dig at h1
  rw [Nat.mod_pow_succ, h1, Nat.pow_succ]
  omega
theorem dig_hi {v r : Nat} (h : v % 2 ^ r + 1 = 2 ^ r) (e : Nat) : dig (v + 1) (r + e) = dig (v / 2 ^ r + 1) e ∧ dig v (r + e) = dig (v / 2 ^ r) e := by
  unfold dig
  refine ⟨?_, by rw [Nat.pow_add, Nat.div_div_eq_div_mul]⟩
  rw [carry_form h, Nat.pow_add, ← Nat.div_div_eq_div_mul, Nat.mul_div_cancel _ (Nat.pow_pos (by decide))]
theorem dig_set {v r : Nat} (h : v % 2 ^ r + 1 = 2 ^ r) (h0 : dig v r = 0) : dig (v + 1) r = 1 := by
  have e : dig (v + 1) r = dig (v / 2 ^ r + 1) 0 := (dig_hi h 0).1
  rw [e]
  unfold dig at h0 ⊢
  rw [Nat.pow_zero, Nat.div_one]
  omega
theorem dig_up {v r : Nat} (h : v % 2 ^ r + 1 = 2 ^ r) (h0 : dig v r = 0) (e : Nat) (he : r < e) : dig (v + 1) e = dig v e := by
  obtain ⟨k, rfl⟩ : ∃ k, e = r + (k + 1) := ⟨e - r - 1, by omega⟩
  rw [(dig_hi h (k + 1)).1, (dig_hi h (k + 1)).2]
  unfold dig at h0 ⊢
  rw [Nat.pow_succ, Nat.mul_comm, ← Nat.div_div_eq_div_mul, ← Nat.div_div_eq_div_mul]
  congr 2
  omega
/-- where the ones behind have been cleared -/
def clrH (n v m : Nat) : List Int := (dgH n v).take m ++ List.replicate (n - m) 0
theorem clrH_length {n v m : Nat} (h : m ≤ n) : (clrH n v m).length = n := by simp [clrH, dgH_length]; omega
theorem clrH_top (n v : Nat) : clrH n v n = dgH n v := by simp [clrH, List.take_of_length_le, dgH_length]
theorem clrH_val {n v m i : Nat} (hm : m ≤ n) (hi : i < n) : (clrH n v m)[i]'(by rw [clrH_length hm]; exact hi) = if i < m then ((dig v (n - 1 - i) : Nat) : Int) else 0 := by
  by_cases h : i < m
  · rw [if_pos h]
    simp only [clrH]
    rw [List.getElem_append_left (by rw [List.length_take, dgH_length]; omega)]
    simp [dgH]
  · rw [if_neg h]
    simp only [clrH]
    rw [List.getElem_append_right (by rw [List.length_take, dgH_length]; omega)]
    simp
theorem dgH_val {n v i : Nat} (hi : i < n) : (dgH n v)[i]'(by rw [dgH_length]; exact hi) = ((dig v (n - 1 - i) : Nat) : Int) := by simp [dgH]
theorem clrH_clear {n v m : Nat} (h : m < n) : (clrH n v (m + 1)).set m 0 = clrH n v m := by
  refine List.ext_getElem (by rw [List.length_set, clrH_length (by omega), clrH_length (by omega)]) fun i h1 h2 => ?_
  have hi : i < n := by rw [clrH_length (by omega)] at h2; exact h2
  rw [List.getElem_set, clrH_val (by omega) hi, clrH_val (by omega) hi]
  split
  · rw [if_neg (by omega)]
  · by_cases e : i < m
    · rw [if_pos e, if_pos (by omega)]
    · rw [if_neg e, if_neg (by omega)]
theorem clrH_set {n v m : Nat} (h : m < n) (hc : v % 2 ^ (n - 1 - m) + 1 = 2 ^ (n - 1 - m)) (h0 : dig v (n - 1 - m) = 0) : (clrH n v (m + 1)).set m 1 = dgH n (v + 1) := by
  refine List.ext_getElem (by rw [List.length_set, clrH_length (by omega), dgH_length]) fun i h1 h2 => ?_
  have hi : i < n := by rw [dgH_length] at h2; exact h2
  rw [List.getElem_set, clrH_val (by omega) hi, dgH_val hi]
  split
  · rename_i e
    subst e
    rw [dig_set hc h0]; rfl
  · by_cases e : i < m
    · rw [if_pos (by omega), dig_up hc h0 (n - 1 - i) (by omega)]
    · rw [if_neg (by omega), dig_carry hc (n - 1 - i) (by omega)]; rfl
theorem clrH_none {n v : Nat} (hc : v % 2 ^ n + 1 = 2 ^ n) : clrH n v 0 = dgH n (v + 1) := by
  refine List.ext_getElem (by rw [clrH_length (by omega), dgH_length]) fun i h1 h2 => ?_
  have hi : i < n := by rw [dgH_length] at h2; exact h2
  rw [clrH_val (by omega) hi, dgH_val hi, if_neg (by omega), dig_carry hc _ (by omega)]; rfl
theorem own_set {w : World} {base t n c g i : Nat} {xs : List Value} (h : w.ownsRow base t 1 (.slice (some ⟨g, 0, none⟩) n c) n xs) (u : Value) : (w.setCell ⟨g, i, none⟩ u).ownsRow base t 1 (.slice (some ⟨g, 0, none⟩) n c) n (xs.set i u) := by
  refine ⟨by rw [List.length_set]; exact h.1, ?_⟩
  rcases h.2 with ⟨e, _⟩ | ⟨g', cap, cur, e, hb, hh, h1, h2, h3, h4⟩
  · cases e
  · cases e
    refine .inr ⟨g, c, cur.setIfInBounds i u, rfl, hb, Blk.set_ hh i u, h1, h2, by rw [Array.size_setIfInBounds]; exact h3, ?_⟩
    rw [Array.toList_setIfInBounds, List.take_set, h4]
theorem own_fz {w : World} {base t n c g i : Nat} {xs : List Value} (h : w.ownsRow base t 1 (.slice (some ⟨g, 0, none⟩) n c) n xs) : w.frozen? ⟨g, i, none⟩ = false := by
  rcases h.2 with ⟨e, _⟩ | ⟨g', cap, cur, e, hb, hh, _⟩
  · cases e
  · cases e
    exact Blk.frozen hh i
set_option maxRecDepth 100000 in
set_option maxHeartbeats 4000000 in
theorem plus_any (A : Option Addr) (n c v : Nat) (W : World) (h : RdI W W.heap.size A (dgH n v)) (hA : A = none → n = 0) (hm : n ≤ 100) : Calls Tryz.prog 149 #[.slice A n c] W (IntsEnd (dgH n (v + 1)) W) := by
  have H := hid h
  have H1 := hid hA
  have HR := hid (show Rd W W.heap.size 1 A n (intsV (dgH n v)) from by have := h; unfold RdI at this; rw [dgH_length, intsV_eq] at this; exact this)
  clear h hA
  obtain ⟨i0, hi0, hz0, hz1, hz2⟩ := info_parts int_info
  have Hi0 := hid hi0
  have Hz0 := hid hz0
  have Hz1 := hid hz1
  have Hz2 := hid hz2
  clear hi0 hz0 hz1 hz2
  go_enter Tryz.func149, Tryz.ntmps149
  go_wp2_with (at_builtin; (refine wpList_app _ rfl _ _ _ rfl (W.heap.size) 3 i0 (.int .i64 0) 1 8 Tryz.underlying65 Hi0.out Hz0.out Hz1.out Hz2.out rfl (by omega) _ 0 0 ([]) rfl (empty_own W _ 1) _ _ n c (intsV (dgH n v)) rfl (HR.out.alloc (Nat.le_refl _) _) (H1.out) intsV_cells (by simp only [maxLen]; omega) (by omega) (by first | omega | (simp; done) | (simp; omega)) ?_; intro A4 c4 w4 ha4; have Ha4 := hid ha4; clear ha4))
  obtain ⟨hown4, _, hb4, _⟩ := Ha4.out
  have hb4' := (below_alloc1 W _).trans hb4
  have B4 := hid hb4'
  have hown4' : w4.ownsRow W.heap.size 3 1 (.slice A4 n c4) n (intsV (dgH n v)) := by simpa using hown4
  have O4 := hid hown4'
  clear Ha4 hown4 hb4 hown4' hb4'
  have tw0 : IntKind.i64.wrap ((n : Int) - 1) = (n : Int) - 1 := IntWalk.i64_in _ (by omega)
  go_loopw [4] (fun v4 wr => ∃ m : Nat, m ≤ n ∧ v4 = .int .i64 ((m : Int) - 1) ∧ Hid (v % 2 ^ (n - m) + 1 = 2 ^ (n - m)) ∧ Hid (wr.ownsRow W.heap.size 3 1 (.slice A4 n c4) n (intsV (clrH n v m))) ∧ Hid (Below W.heap.size W wr)) (fun i _ => (intOf i + 1).toNat)
  case atStart => exact ⟨n, by omega, rfl, hid (by rw [Nat.sub_self]; simp [Nat.mod_one]), hid (by rw [clrH_top]; exact O4.out), B4⟩
  clear O4 B4
  case round =>
    obtain ⟨m, hmn, rfl, C, O, B⟩ := hrel
    rcases Nat.eq_zero_or_pos m with h0 | h0
    · subst h0
      have dd : decide (((0 : Nat) : Int) - 1 ≥ 0) = false := by decide
      go_wp2_with fail
      go_ret
      refine ⟨A4, c4, by rw [dgH_length]; rfl, ?_, B.out⟩
      rw [dgH_length, ← clrH_none (n := n) C.out]
      exact O.out
    · obtain ⟨q, rfl⟩ : ∃ q, m = q + 1 := ⟨m - 1, by omega⟩
      obtain ⟨g, rfl, hbg, hgw⟩ := own_block O.out (by omega)
      have hq : q < n := by omega
      have eq1 : ((q + 1 : Nat) : Int) - 1 = (q : Int) := by omega
      rw [eq1]
      have q0 := O.out.cellAt q (by rw [Nat.mul_one]; exact hq)
      have hv := clrH_val (n := n) (v := v) (m := q + 1) (i := q) (by omega) hq
      rw [if_pos (by omega)] at hv
      have q1 : wr.cell? ⟨g, q, none⟩ = some (.int .i64 ((dig v (n - 1 - q) : Nat) : Int)) := by
        rw [q0]
        unfold intsV
        rw [List.getElem?_map, List.getElem?_eq_getElem (by rw [clrH_length (by omega)]; exact hq), hv]
        rfl
      have fz : ∀ o, wr.frozen? ⟨g, o, none⟩ = false := fun o => own_fz O.out
      have hd2 := dig_lt v (n - 1 - q)
      have hset := hid (fun u => own_set (i := q) O.out u)
      have C1 := hid (show v % 2 ^ (n - 1 - q) + 1 = 2 ^ (n - 1 - q) by have := C.out; rw [show n - (q + 1) = n - 1 - q by omega] at this; exact this)
      clear q0 hv O
      by_cases hd : dig v (n - 1 - q) = 0
      · have HD := hid hd
        rw [hd] at q1
        clear hd hd2
        go_wp2_with fail
        go_ret
        refine ⟨some ⟨g, 0, none⟩, c4, by rw [dgH_length]; rfl, ?_, B.out.setCell (p := ⟨g, q, none⟩) hbg _⟩
        have := hset.out (.int .i64 1)
        rw [dgH_length, ← clrH_set hq C1.out HD.out]
        unfold intsV at this ⊢
        rw [List.map_set]
        exact this
      · have hd1 : dig v (n - 1 - q) = 1 := by omega
        have HD := hid hd1
        rw [hd1] at q1
        clear hd hd1 hd2
        go_wp2_with fail
        refine ⟨⟨q, by omega, by go_num, hid ?_, hid ?_, hid (B.out.setCell (p := ⟨g, q, none⟩) hbg _)⟩, by simp [intOf]⟩
        · have := dig_next C1.out HD.out
          rw [show n - q = n - 1 - q + 1 by omega]
          exact this
        · have := hset.out (.int .i64 0)
          rw [← clrH_clear hq]
          unfold intsV at this ⊢
          rw [List.map_set]
          exact this
end Go.Proofs.YtoppjcmkhhkbmaaGreat

namespace Go.Proofs.YtoppjcmkhhkbmaaGreat
open Go.RowKit

/-- codes: symbol, how many bits, their value -/
def cds : Nat → Nat → Cd.SL → List (Nat × Nat × Nat)
  | _, _, [] => []
  | nx, la, x :: l => (x.1, x.2, nx * 2 ^ (x.2 - la)) :: cds (nx * 2 ^ (x.2 - la) + 1) x.2 l
structure CX where
  s : Nat
  n : Nat
  v : Nat
  A : Option Addr
  c : Nat
def CX.t (x : CX) : Nat × Nat × Nat := (x.s, x.n, x.v)
def cxV (x : CX) : List Value := [.int .i64 (x.s : Int), .slice x.A x.n x.c]
/-- a row of codes in memory -/
def CRow (w : World) (base : Nat) (C : Option Addr) (c : Nat) (X : List CX) : Prop :=
  w.ownsRow base 121 2 (.slice C X.length c) X.length (X.flatMap cxV) ∧ ∀ x ∈ X, w.ownsRow base 3 1 (.slice x.A x.n x.c) x.n (intsV (dgH x.n x.v))
def CodesEnd (sl : Cd.SL) (W : World) (e : Ending) (w' : World) : Prop := ∃ C c X, e = .returned (.slice C (sl.length) c) ∧ X.length = sl.length ∧ X.map CX.t = cds 0 0 sl ∧ CRow w' W.heap.size C c X ∧ Below W.heap.size W w'
theorem code_info : (Tryz.prog.info? 121).map (fun i => (i.zero, i.size, i.bytes)) = some (some (.agg #[.int .i64 0, .slice none 0 0]), 2, 32) := by kernel_rfl
theorem own_rdi' {w : World} {base : Nat} {A : Option Addr} {c n v : Nat} (h : w.ownsRow base 3 1 (.slice A n c) n (intsV (dgH n v))) : RdI w w.heap.size A (dgH n v) := by
  have h2 := own_rd h
  unfold RdI
  rw [dgH_length, intsV_eq]
  exact h2
theorem own_apart {w w' : World} {b1 b2 t1 t2 s1 s2 n1 n2 : Nat} {v1 v2 : Value} {x1 x2 : List Value} (h : w.ownsRow b1 t1 s1 v1 n1 x1) (h2 : w.ownsRow b2 t2 s2 v2 n2 x2) (ht : t2 ≠ t1) (hg : w.grownBy w' v2.ownBlock) : w'.ownsRow b1 t1 s1 v1 n1 x1 := by
  refine ⟨h.1, ?_⟩
  rcases h.2 with hn | ⟨g, cap, cur, rfl, hb, hh, rest⟩
  · exact .inl hn
  · exact .inr ⟨g, cap, cur, rfl, hb, Blk.grown hh hg (own_blk_ne h2 hh ht), rest⟩
theorem CRow.below {w w' : World} {base C0 : Nat} {C : Option Addr} {c : Nat} {X : List CX} (h : CRow w base C c X) (hb : Below C0 w w') (hC : w.heap.size ≤ C0) : CRow w' base C c X :=
  ⟨own_below h.1 hb hC, fun x hx => own_below (h.2 x hx) hb hC⟩
theorem dgH_zero (n v : Nat) : dgH n v ++ [0] = dgH (n + 1) (2 * v) := by
  refine List.ext_getElem (by simp [dgH_length]) fun i h1 h2 => ?_
  rw [dgH_length] at h2
  rw [dgH_val h2]
  by_cases e : i < n
  · rw [List.getElem_append_left (by rw [dgH_length]; exact e), dgH_val e]
    congr 1
    unfold dig
    rw [show n + 1 - 1 - i = 1 + (n - 1 - i) by omega, Nat.pow_add, Nat.pow_one, ← Nat.div_div_eq_div_mul, Nat.mul_div_cancel_left _ (by decide)]
  · rw [List.getElem_append_right (by rw [dgH_length]; omega)]
    unfold dig
    rw [show n + 1 - 1 - i = 0 by omega]
    simp
set_option maxRecDepth 100000 in
set_option maxHeartbeats 4000000 in
theorem list_any (SA LA : Option Addr) (sc lc : Nat) (sl : Cd.SL) (W : World) (hs : RdI W W.heap.size SA (natsV (sl.map (·.1)))) (hl : RdI W W.heap.size LA (natsV (sl.map (·.2)))) (hs16 : ∀ x ∈ sl, x.2 ≤ 16 ∧ x.1 ≤ 1000) (hp : sl.Pairwise (fun x y => x.2 ≤ y.2)) (hm : sl.length ≤ 1000) :
    Calls Tryz.prog 112 #[.slice SA sl.length sc, .slice LA sl.length lc] W (CodesEnd sl W) := by
  have HS := hid hs
  have HL := hid hl
  have H16 := hid hs16
  have HP := hid hp
  obtain ⟨i1, hi1, hz11, hz12, hz13⟩ := info_parts code_info
  have Hi1 := hid hi1
  have Hz11 := hid hz11
  have Hz12 := hid hz12
  have Hz13 := hid hz13
  clear hs hl hs16 hp hi1 hz11 hz12 hz13
  obtain ⟨i0, hi0, hz0, hz1, hz2⟩ := info_parts int_info
  have Hi0 := hid hi0
  have Hz0 := hid hz0
  have Hz1 := hid hz1
  have Hz2 := hid hz2
  clear hi0 hz0 hz1 hz2
  obtain ⟨n, hn⟩ : ∃ n, n = sl.length := ⟨_, rfl⟩
  have Hn := hid hn
  rw [← hn] at hm ⊢
  clear hn
  go_enter Tryz.func112, Tryz.ntmps112
  go_wp2_with fail
  go_loopw [5, 6] (fun v5 v6 wr => ∃ (i : Nat) (C : Option Addr) (c : Nat) (X : List CX) (nx la : Nat), i ≤ n ∧ v5 = .slice C i c ∧ v6 = .int .i64 (i : Int) ∧ la ≤ 16 ∧ Hid (X.length = i) ∧ Hid (X.map CX.t ++ cds nx la (sl.drop i) = cds 0 0 sl) ∧ Hid (∀ x, X.getLast? = some x → x.n = la ∧ x.v + 1 = nx) ∧ Hid (X = [] → nx = 0 ∧ la = 0) ∧ Hid (∀ x ∈ sl.drop i, la ≤ x.2) ∧ Hid (CRow wr W.heap.size C c X) ∧ Hid (Below W.heap.size W wr)) (fun _ i _ => n - (intOf i).toNat)
  case atStart => exact ⟨0, none, 0, [], 0, 0, by omega, rfl, rfl, by omega, hid rfl, hid rfl, hid (fun x h => by cases h), hid (fun _ => ⟨rfl, rfl⟩), hid (fun x _ => Nat.zero_le _), hid ⟨World.ownsRow_nil _ _ _ _, fun x h => by cases h⟩, hid (Below.refl _ _)⟩
  case round =>
    obtain ⟨i, C, c, X, nx, la, hi, rfl, rfl, hla, Xl, Xc, Xt, X0, Sd, R, B⟩ := hrel
    by_cases hlt : i < n
    · have hil : i < sl.length := by rw [← Hn.out]; exact hlt
      have hz := B.out.size
      obtain ⟨sb, soff, hSA, hsb, hsc⟩ := int_at (HS.out.below B.out (Nat.le_refl _)) (j := i) (by rw [natsV_length, List.length_map]; exact hil)
      obtain ⟨lb, loff, hLA, hlb, hlc⟩ := int_at (HL.out.below B.out (Nat.le_refl _)) (j := i) (by rw [natsV_length, List.length_map]; exact hil)
      subst hSA hLA
      have e1 : (natsV (sl.map (·.1)))[i]'(by rw [natsV_length, List.length_map]; exact hil) = ((sl[i].1 : Nat) : Int) := by simp [natsV]
      have e2 : (natsV (sl.map (·.2)))[i]'(by rw [natsV_length, List.length_map]; exact hil) = ((sl[i].2 : Nat) : Int) := by simp [natsV]
      rw [e1] at hsc
      rw [e2] at hlc
      have hdr : sl.drop i = sl[i] :: sl.drop (i + 1) := List.drop_eq_getElem_cons hil
      have h16 := H16.out _ (List.getElem_mem hil)
      have hsd := Sd.out sl[i] (by rw [hdr]; exact List.mem_cons_self)
      have hXc := Xc.out
      rw [hdr, cds] at hXc
      have hnext : ∀ x ∈ sl.drop (i + 1), sl[i].2 ≤ x.2 := fun x hx => by
        have h := HP.out
        rw [← List.take_append_drop i sl, List.pairwise_append, hdr, List.pairwise_cons] at h
        exact h.2.1.1 x hx
      have Sn := hid hnext
      have XC := hid hXc
      generalize sl[i].1 = sy at *
      generalize sl[i].2 = ln at *
      clear e1 e2 hdr hXc hnext Sd Xc
      have hl16 : ln ≤ 16 := h16.1
      have hsbw : sb < wr.heap.size := by omega
      have hlbw : lb < wr.heap.size := by omega
      generalize hwk : wr = wk at *
      clear hwk
      have HSC := hid (fun (w : World) (h : Below wk.heap.size wk w) => (h.cell (p := ⟨sb, soff + i, none⟩) hsbw).trans hsc)
      have HLC := hid (fun (w : World) (h : Below wk.heap.size wk w) => (h.cell (p := ⟨lb, loff + i, none⟩) hlbw).trans hlc)
      go_upto_if 15 with (fail)
      go_cut [7] from 14 to 22 (fun bv wq => ∃ (A2 : Option Addr) (c2 : Nat), bv = .slice A2 la c2 ∧ Hid (wq.ownsRow wk.heap.size 3 1 (.slice A2 la c2) la (intsV (dgH la nx))) ∧ Hid (Below wk.heap.size wk wq))
      case first =>
        by_cases h0 : 0 < i
        · have d2 : decide (0 < i) = true := decide_eq_true h0
          obtain ⟨j1, hj1⟩ : ∃ j1, j1 = i - 1 := ⟨_, rfl⟩
          have t1 : IntKind.i64.wrap ((i : Int) - 1) = (j1 : Int) := (IntWalk.i64_in _ (by omega)).trans (by omega)
          have hjX : j1 < X.length := by rw [Xl.out]; omega
          have hlast : X.getLast? = some X[j1] := by rw [List.getLast?_eq_getElem?, Xl.out, ← hj1, List.getElem?_eq_getElem hjX]
          have hx2 := Xt.out _ hlast
          have RR := R.out.1
          rw [Xl.out] at RR
          obtain ⟨b, off, hA, hb, hcl⟩ := (own_rd RR).at_ (k := j1) (by omega) (by omega)
          have c1 : wk.cell? ⟨b, off + j1 * 2 + 1, none⟩ = some (.slice X[j1].A X[j1].n X[j1].c) := hcl (j1 * 2 + 1) _ ((flat_at cxV 2 X (fun _ _ => rfl) j1 1 X[j1] (List.getElem?_eq_getElem hjX) (by omega)).trans rfl)
          have hsy := R.out.2 _ (List.getElem_mem hjX)
          have S1 := hid (own_rdi' hsy)
          have N1 := hid (own_hnil hsy)
          generalize X[j1] = x at *
          obtain ⟨hx3, hx4⟩ := hx2
          rw [hx3] at c1 S1 N1
          have Hx4 := hid hx4
          subst hA
          have hj1n : j1 < i := by omega
          clear hcl hjX hj1 hlast hsy hx3 hx4 RR
          go_wp2_with fail
          refine (plus_any x.A la x.c x.v _ S1.out N1.out (by omega)).mono ?_
          rintro e w2 ⟨A2, c2, rfl, ho2, hb2⟩
          rw [dgH_length] at ho2 ⊢
          rw [Hx4.out] at ho2
          have P2 := hid ho2
          have B2 := hid hb2
          clear ho2 hb2
          go_wp2
          go_meet
          exact ⟨A2, c2, rfl, P2, B2⟩
        · have d2 : decide (0 < i) = false := decide_eq_false h0
          obtain ⟨rfl, rfl⟩ := X0.out (List.eq_nil_of_length_eq_zero (by rw [Xl.out]; omega))
          go_wp2
          go_meet
          exact ⟨none, 0, rfl, hid (World.ownsRow_nil _ _ _ _), hid (Below.refl _ _)⟩
      case rest =>
        obtain ⟨A2, c2, rfl, P2, B2⟩ := hcut
        clear hsc hlc hsbw hlbw
        go_upto_region 8 with (fail)
        go_loopw [7] (fun bv wr => ∃ (A2 : Option Addr) (c2 m : Nat), bv = .slice A2 m c2 ∧ la ≤ m ∧ m ≤ ln ∧ Hid (wr.ownsRow wk.heap.size 3 1 (.slice A2 m c2) m (intsV (dgH m (nx * 2 ^ (m - la))))) ∧ Hid (Below wk.heap.size wk wr)) (fun bv _ => ln - (match bv with | .slice _ n _ => n | _ => 0))
        case atStart => exact ⟨A2, c2, la, rfl, Nat.le_refl _, hsd, hid (by rw [Nat.sub_self, Nat.pow_zero, Nat.mul_one]; exact P2.out), B2⟩
        case round =>
          clear P2 B2
          obtain ⟨A3, c3, m, rfl, hm1, hm2, P3, B3⟩ := hrel
          have hsz := B3.out.size
          have z0 := HSC.out wr B3.out
          have z1 := HLC.out wr B3.out
          have hsbw : sb < wr.heap.size := by omega
          have hlbw : lb < wr.heap.size := by omega
          by_cases hc : m < ln
          · have d2 : decide (m < ln) = true := decide_eq_true hc
            have d3 : decide ((m : Int) < (ln : Int)) = true := decide_eq_true (by omega)
            have PA := hid (fun o => own_below P3.out ((Below.refl wr.heap.size wr).alloc (Nat.le_refl _) o) (Nat.le_refl _))
            have BA := hid (fun o => B3.out.alloc B3.out.size o)
            go_wp2_with (at_builtin; (refine wpList_app _ rfl _ _ _ rfl (wk.heap.size) 3 i0 (.int .i64 0) 1 8 Tryz.underlying65 Hi0.out Hz0.out Hz1.out Hz2.out rfl (by omega) A3 m c3 (intsV (dgH m (nx * 2 ^ (m - la)))) rfl (PA.out _) _ _ 1 1 ([.int .i64 0]) rfl (rd_one _ _ _ _ (Blk.new _ _ _)) (by simp) (by simp [Value.oneCell']) (by simp only [maxLen]; omega) (by omega) (by first | omega | (simp; done) | (simp; omega)) ?_; intro A4 c4 w4 ha4; have Ha4 := hid ha4; clear ha4))
            obtain ⟨hown4, _, hb4, _⟩ := Ha4.out
            refine ⟨⟨A4, c4, m + 1, rfl, by omega, by omega, hid ?_, hid ((BA.out _).trans hb4)⟩, by simp; omega⟩
            rw [show m + 1 - la = (m - la) + 1 by omega, Nat.pow_succ, ← Nat.mul_assoc, Nat.mul_comm _ 2, ← dgH_zero]
            unfold intsV at hown4 ⊢
            rw [List.map_append]
            exact hown4
          · have d2 : decide (m < ln) = false := decide_eq_false hc
            have d3 : decide ((m : Int) < (ln : Int)) = false := decide_eq_false (by omega)
            obtain rfl : m = ln := by omega
            have R3 := hid ((R.out.below B3.out (Nat.le_refl _)).below ((Below.refl wr.heap.size wr).alloc (Nat.le_refl _) (.cells #[.int .i64 (sy : Int), .slice A3 m c3] 121)) (Nat.le_refl _))
            have S3 := hid (own_below (own_base P3.out hz) ((Below.refl wr.heap.size wr).alloc (Nat.le_refl _) (.cells #[.int .i64 (sy : Int), .slice A3 m c3] 121)) (Nat.le_refl _))
            have BA := hid (fun o => (B.out.trans (B3.out.mono hz)).alloc (Nat.le_trans hz B3.out.size) o)
            go_wp2_with (at_builtin; refine wpList_app _ rfl _ _ _ rfl W.heap.size 121 i1 (.agg #[.int .i64 0, .slice none 0 0]) 2 32 Tryz.underlying66 Hi1.out Hz11.out Hz12.out Hz13.out rfl (by omega) C i c (X.flatMap cxV) rfl (by have h := R3.out.1; rw [Xl.out] at h; exact h) _ _ 1 1 [.int .i64 (sy : Int), .slice A3 m c3] rfl (rd_one _ _ _ _ (Blk.new _ _ _)) (by simp) (by simp [Value.oneCell']) (by simp only [maxLen]; omega) (by omega) (by simp; omega) ?_; intro A5 c5 w5 ha5; have Ha5 := hid ha5; clear ha5)
            obtain ⟨hown5, hg5, hb5, _⟩ := Ha5.out
            have hR := R3.out.1
            rw [Xl.out] at hR
            refine ⟨⟨i + 1, A5, c5, X ++ [⟨sy, m, nx * 2 ^ (m - la), A3, c3⟩], nx * 2 ^ (m - la) + 1, m, by omega, rfl, by go_num, hl16, hid ?_, hid ?_, hid ?_, hid ?_, hid Sn.out, hid ⟨?_, ?_⟩, hid ((BA.out _).trans hb5)⟩, by simp [intOf]; omega⟩
            · rw [List.length_append, Xl.out]; rfl
            · rw [List.map_append, List.append_assoc, ← XC.out]; rfl
            · intro x hx
              rw [List.getLast?_append] at hx
              simp at hx
              subst hx
              exact ⟨rfl, rfl⟩
            · intro h; simp at h
            · rw [List.length_append, Xl.out, List.flatMap_append]
              simpa [cxV] using hown5
            · intro x hx
              rcases List.mem_append.1 hx with hx | hx
              · exact own_apart (R3.out.2 x hx) hR (by decide) hg5
              · rw [List.mem_singleton.1 hx]
                exact own_apart S3.out hR (by decide) hg5
    · obtain rfl : i = n := by omega
      go_wp2_with fail
      go_ret
      refine ⟨C, c, X, by rw [← Hn.out]; rfl, by rw [Xl.out, Hn.out], ?_, R.out, B.out⟩
      have h := Xc.out
      rw [List.drop_eq_nil_of_le (by rw [← Hn.out]; exact Nat.le_refl _), cds, List.append_nil] at h
      exact h
end Go.Proofs.YtoppjcmkhhkbmaaGreat

namespace Go.Proofs.YtoppjcmkhhkbmaaGreat
open Go.RowKit

/-- two rows in blocks of their own -/
def Dj (A B : Option Addr) : Prop := ∀ p q, A = some p → B = some q → p.block ≠ q.block
theorem Dj.symm {A B : Option Addr} (h : Dj A B) : Dj B A := fun p q hp hq e => h q p hq hp e.symm
theorem own_keep {w w' : World} {b t s n c m d : Nat} {A B : Option Addr} {xs : List Value} (h : w.ownsRow b t s (.slice A n c) n xs) (hg : w.grownBy w' (Value.slice B m d).ownBlock) (hd : Dj A B) : w'.ownsRow b t s (.slice A n c) n xs := by
  refine ⟨h.1, ?_⟩
  rcases h.2 with hn | ⟨g, cap, cur, e, hb, hh, rest⟩
  · exact .inl hn
  · cases e
    refine .inr ⟨g, c, cur, rfl, hb, Blk.grown hh hg ?_, rest⟩
    cases B with
    | none => intro e; cases e
    | some q => intro e; exact hd _ q rfl rfl (by simpa [Value.ownBlock] using e)
theorem dj_new {w : World} {b t s n m m2 c c2 k d : Nat} {A A' B : Option Addr} {ys : List Value} (hB : w.ownsRow b t s (.slice B k d) k ys) (h : (Value.slice A' m2 c2).ownBlock = (Value.slice A n c).ownBlock ∨ (Value.slice A' m c2).ownBlock = some w.heap.size) (hd : Dj A B) : Dj A' B := by
  intro p q hp hq
  subst hp hq
  rcases h with h | h
  · cases A with
    | none => cases h
    | some a =>
      have e : p.block = a.block := by simpa [Value.ownBlock] using h
      rw [e]
      exact hd a q rfl rfl
  · have e : p.block = w.heap.size := by simpa [Value.ownBlock] using h
    rcases hB.2 with ⟨e2, _⟩ | ⟨g, cap, cur, e2, _, hh, _⟩
    · cases e2
    · cases e2
      have := Blk.lt hh
      rw [e]
      simp
      omega
theorem sl_map1 (l : List Int) : (slOf l).map (·.1) = ordL l := by unfold slOf; rw [List.map_map]; exact List.map_id _
theorem sl_map2 (l : List Int) : (slOf l).map (·.2) = (ordL l).map (lenOf l) := by unfold slOf; rw [List.map_map]; rfl
theorem own_rdn {w : World} {base : Nat} {A : Option Addr} {c : Nat} {o : List Nat} (h : OwnN w base A c o) : RdI w w.heap.size A (natsV o) := by
  have h2 : w.ownsRow base 3 1 (.slice A (natsV o).length c) (natsV o).length (intsV (natsV o)) := by rw [natsV_length]; exact h
  exact own_rdi h2
theorem CRow.base {w : World} {b b' : Nat} {C : Option Addr} {c : Nat} {X : List CX} (h : CRow w b' C c X) (hb : b ≤ b') : CRow w b C c X :=
  ⟨own_base h.1 hb, fun x hx => own_base (h.2 x hx) hb⟩
theorem order_le (l : List Int) : (ordL l).length ≤ l.length := by
  have h := List.Nodup.length_le_of_subset (ordL_nodup l) (l₂ := List.range l.length) (fun s hs => List.mem_range.2 (ordL_mem.1 hs).1)
  rw [List.length_range] at h
  exact h
set_option maxRecDepth 100000 in
set_option maxHeartbeats 4000000 in
theorem codes_any (A : Option Addr) (c : Nat) (l : List Int) (W : World) (h : RdI W W.heap.size A l) (hm : l.length ≤ 1000) : Calls Tryz.prog 73 #[.slice A l.length c] W (CodesEnd (slOf l) W) := by
  have H := hid h
  obtain ⟨i0, hi0, hz0, hz1, hz2⟩ := info_parts int_info
  have Hi0 := hid hi0
  have Hz0 := hid hz0
  have Hz1 := hid hz1
  have Hz2 := hid hz2
  clear hi0 hz0 hz1 hz2
  clear h
  obtain ⟨L, hL⟩ : ∃ L, L = l.length := ⟨_, rfl⟩
  have HL := hid hL
  rw [← hL] at hm ⊢
  clear hL
  go_enter Tryz.func73, Tryz.ntmps73
  go_wp2_with fail
  go_loopw [3, 4, 5] (fun v v4 i wr => ∃ (n k : Nat) (A' B' : Option Addr) (c' d' : Nat) (o z : List Nat), n ≤ 16 ∧ i = .int .i64 ((n : Int) + 1) ∧ v = .slice A' k c' ∧ v4 = .slice B' k d' ∧ k ≤ n * 1000 ∧ Hid (k = o.length) ∧ Hid (o = (List.range n).flatMap (fun i => rowF l (i + 1))) ∧ Hid (z = o.map (lenOf l)) ∧ Hid (OwnN wr W.heap.size A' c' o) ∧ Hid (OwnN wr W.heap.size B' d' z) ∧ Hid (Dj A' B') ∧ Hid (Below W.heap.size W wr)) (fun _ _ i _ => (17 - intOf i).toNat)
  case atStart => exact ⟨0, 0, none, none, 0, 0, [], [], by omega, rfl, rfl, rfl, by omega, hid rfl, hid rfl, hid rfl, hid (World.ownsRow_nil _ _ _ _), hid (World.ownsRow_nil _ _ _ _), hid (fun p q hp _ => by cases hp), hid (Below.refl _ _)⟩
  case round =>
    obtain ⟨n, k, A', B', c', d', o, z, hn, rfl, rfl, rfl, hk, Hk, Ho, Hz, O, Q, D, B⟩ := hrel
    by_cases hlt : n < 16
    · have d1 : decide ((n : Int) + 1 ≤ 16) = true := decide_eq_true (by omega)
      have Ho0 := Ho
      go_wp2_with fail
      go_loopw [3, 4, 6] (fun v v4 i wr => ∃ (j k : Nat) (A' B' : Option Addr) (c' d' : Nat) (o2 z : List Nat), j ≤ L ∧ i = .int .i64 (j : Int) ∧ v = .slice A' k c' ∧ v4 = .slice B' k d' ∧ k ≤ n * 1000 + j ∧ Hid (k = o2.length) ∧ Hid (o2 = o ++ rowF (l.take j) (n + 1)) ∧ Hid (z = o2.map (lenOf l)) ∧ Hid (OwnN wr W.heap.size A' c' o2) ∧ Hid (OwnN wr W.heap.size B' d' z) ∧ Hid (Dj A' B') ∧ Hid (Below W.heap.size W wr)) (fun _ _ i _ => L - (intOf i).toNat)
      case atStart => exact ⟨0, k, A', B', c', d', o, z, by omega, rfl, rfl, rfl, by omega, Hk, hid (by simp [rowF]), Hz, O, Q, D, B⟩
      case round =>
        clear Hk Ho Hz O Q D B
        obtain ⟨j, k, A', B', c', d', o2, z, hj, rfl, rfl, rfl, hk2, Hk, Ho, Hz, O, Q, D, B⟩ := hrel
        by_cases hjl : j < L
        · have hjl2 : j < l.length := by rw [← HL.out]; exact hjl
          obtain ⟨b, off, hA, hb, hc⟩ := int_at (H.out.below B.out (Nat.le_refl _)) hjl2
          subst hA
          have htk : l.take (j + 1) = l.take j ++ [l[j]] := List.take_succ_eq_append_getElem hjl2
          have hrs := rowF_snoc (l.take j) l[j] (n + 1)
          rw [← htk, List.length_take, Nat.min_eq_left (by omega)] at hrs
          have hlo : lenOf l j = l[j].toNat := by unfold lenOf; rw [List.getD_eq_getElem?_getD, List.getElem?_eq_getElem hjl2]; rfl
          obtain ⟨x, hx⟩ : ∃ x, x = l[j] := ⟨_, rfl⟩
          rw [← hx] at hc hrs hlo
          have hbw : b < wr.heap.size := by have := B.out.size; omega
          have hW := B.out.size
          by_cases e : x = ((n + 1 : Nat) : Int)
          · have Hrs := hid (show rowF (l.take (j + 1)) (n + 1) = rowF (l.take j) (n + 1) ++ [j] by rw [hrs, if_pos e])
            have Hlo := hid (show lenOf l j = n + 1 by rw [hlo, e]; rfl)
            have d2 : (x == (n : Int) + 1) = true := by rw [beq_iff_eq]; omega
            clear htk hrs hx e hlo
            go_upto_region 11 with (at_builtin; (refine wpList_app _ rfl _ _ _ rfl (W.heap.size) 3 i0 (.int .i64 0) 1 8 Tryz.underlying65 Hi0.out Hz0.out Hz1.out Hz2.out rfl (by omega) A' k c' (intsV (natsV o2)) rfl (by have h1 := O.out; unfold OwnN at h1; rw [← Hk.out] at h1; exact own_below h1 ((Below.refl _ _).alloc (Nat.le_refl _) _) (Nat.le_refl _)) _ _ 1 1 ([.int .i64 (j : Int)]) rfl (rd_one _ _ _ _ (Blk.new _ _ _)) (by simp) (by simp [Value.oneCell']) (by simp only [maxLen]; omega) (by omega) (by first | omega | (simp; done) | (simp; omega)) ?_; intro A4 c4 w4 ha4; have Ha4 := hid ha4; clear ha4))
            obtain ⟨hown4, hg4, hb4, hn4⟩ := Ha4.out
            have hQ := Q.out
            unfold OwnN at hQ
            have hzk : z.length = k := by rw [Hz.out, List.length_map, Hk.out]
            rw [hzk] at hQ
            have hQ1 := own_below hQ ((Below.refl wr.heap.size wr).alloc (Nat.le_refl _) (.cells #[Value.int .i64 (j : Int)] 3)) (Nat.le_refl _)
            have D4 := hid (dj_new hQ1 hn4 D.out)
            have Q4 := hid (fun o => own_below (own_keep hQ1 hg4 D.out.symm) ((Below.refl w4.heap.size w4).alloc (Nat.le_refl _) o) (Nat.le_refl _))
            have O4 := hid (fun o => own_below hown4 ((Below.refl w4.heap.size w4).alloc (Nat.le_refl _) o) (Nat.le_refl _))
            have Hzk := hid hzk
            have hb4' := B.out.trans (((Below.refl W.heap.size wr).alloc hW (.cells #[Value.int .i64 (j : Int)] 3)).trans hb4)
            have hW4 := hb4'.size
            have B4 := hid (fun o => hb4'.alloc hW4 o)
            clear hown4 hg4 hb4 hn4 hQ hzk hQ1 Ha4 hb4'
            go_wp2_with (at_builtin; (refine wpList_app _ rfl _ _ _ rfl (W.heap.size) 3 i0 (.int .i64 0) 1 8 Tryz.underlying65 Hi0.out Hz0.out Hz1.out Hz2.out rfl (by omega) B' k d' (intsV (natsV z)) rfl (Q4.out _) _ _ 1 1 ([.int .i64 ((n : Int) + 1)]) rfl (rd_one _ _ _ _ (Blk.new _ _ _)) (by simp) (by simp [Value.oneCell']) (by simp only [maxLen]; omega) (by omega) (by first | omega | (simp; done) | (simp; omega)) ?_; intro A5 c5 w5 ha4; have Ha4 := hid ha4; clear ha4))
            obtain ⟨hown5, hg5, hb5, hn5⟩ := Ha4.out
            refine ⟨⟨j + 1, k + 1, A4, A5, c4, c5, o2 ++ [j], z ++ [n + 1], by omega, by go_num, rfl, rfl, by omega, hid (by rw [List.length_append, Hk.out]; rfl), hid (by rw [Ho.out, Hrs.out, List.append_assoc]), hid (by rw [List.map_append, ← Hz.out]; simp [Hlo.out]), hid ?_, hid ?_, hid ?_, hid ((B4.out _).trans hb5)⟩, by simp [intOf]; omega⟩
            · have h1 := own_keep (O4.out _) hg5 D4.out
              unfold OwnN
              rw [List.length_append, ← Hk.out, natsV_append]
              have e1 : intsV (natsV o2) ++ [Value.int .i64 (j : Int)] = intsV (natsV o2 ++ natsV [j]) := by simp [intsV, natsV]
              rw [e1] at h1
              exact h1
            · unfold OwnN
              rw [List.length_append, Hzk.out, natsV_append]
              have e1 : intsV (natsV z) ++ [Value.int .i64 ((n : Int) + 1)] = intsV (natsV z ++ natsV [n + 1]) := by simp [intsV, natsV]
              rw [e1] at hown5
              exact hown5
            · exact (dj_new (O4.out _) hn5 D4.out.symm).symm
          · have Hrs := hid (show rowF (l.take (j + 1)) (n + 1) = rowF (l.take j) (n + 1) by rw [hrs, if_neg e, List.append_nil])
            have d2 : (x == (n : Int) + 1) = false := by rw [beq_eq_false_iff_ne]; omega
            clear htk hrs hx e hlo
            go_wp2_with fail
            exact ⟨⟨j + 1, k, A', B', c', d', o2, z, by omega, by go_num, rfl, rfl, by omega, Hk, hid (by rw [Ho.out, Hrs.out]), Hz, O, Q, D, B⟩, by simp [intOf]; omega⟩
        · have htl := hid (show l.take j = l from List.take_of_length_le (by rw [← HL.out]; omega))
          go_wp2_with fail
          refine ⟨⟨n + 1, k, A', B', c', d', o2, z, by omega, by go_num, rfl, rfl, by omega, Hk, hid ?_, Hz, O, Q, D, B⟩, by simp [intOf]; omega⟩
          rw [Ho.out, htl.out, List.range_succ, List.flatMap_append, ← Ho0.out]
          simp
    · have hn16 : n = 16 := by omega
      have d1 : decide ((n : Int) + 1 ≤ 16) = false := decide_eq_false (by omega)
      have HO := hid (show o = ordL l by rw [Ho.out, hn16]; rfl)
      clear hn16
      have hsl := list_any A' B' c' d' (slOf l) wr (by rw [sl_map1, ← HO.out]; exact own_rdn O.out) (by rw [sl_map2, ← HO.out, ← Hz.out]; exact own_rdn Q.out) (fun x hx => by
        obtain ⟨s, hs, rfl⟩ := List.mem_map.1 hx
        obtain ⟨h1, i, hi, h2⟩ := ordL_mem.1 hs
        refine ⟨?_, ?_⟩
        · show lenOf l s ≤ 16
          unfold lenOf
          rw [h2]
          omega
        · show s ≤ 1000
          rw [← HL.out] at h1
          omega) (sl_sorted l) (by rw [slOf, List.length_map]; have := order_le l; rw [← HL.out] at this; omega)
      have hk3 : (slOf l).length = k := by rw [slOf, List.length_map, ← HO.out, Hk.out]
      rw [hk3] at hsl
      have SL := hid hsl
      have HK := hid hk3
      clear hsl hk3
      go_wp2_with fail
      refine SL.out.mono ?_
      rintro e w2 ⟨C, cc, X, rfl, hX1, hX2, hX3, hb2⟩
      have R := hid (show CodesEnd (slOf l) W (.returned (.slice C k cc)) w2 from ⟨C, cc, X, by rw [HK.out], hX1, hX2, hX3.base B.out.size, B.out.trans (hb2.mono B.out.size)⟩)
      rw [HK.out] at *
      clear hX1 hX2 hX3 hb2
      go_wp2_with fail
      go_ret
      exact R.out
end Go.Proofs.YtoppjcmkhhkbmaaGreat

namespace Go.Proofs.YtoppjcmkhhkbmaaGreat
open Go.RowKit
end Go.Proofs.YtoppjcmkhhkbmaaGreat

namespace Go.Proofs.YtoppjcmkhhkbmaaGreat
open Go.ChangeShapes Go.WideShapes Go.ChangeAt Go.RowKit Cd Go.Proofs.YtoppjcmkhhkbmaaGreat

theorem dgH_dgS (n v : Nat) : dgH n v = dgS true (v : Int) n := by
  unfold dgH dgS
  refine List.map_congr_left fun k _ => ?_
  unfold dig
  have e : pkI true k n = n - 1 - k := rfl
  rw [e]
  push_cast
  rfl
/-- the first of the codes that a symbol has is the one that is assigned -/
theorem cds_find (l : List Int) (s : Nat) : ∀ (o : List Nat) (nx la : Nat) (cs : List Int), s ∈ o → o.Nodup → s < cs.length →
    ∃ v : Nat, (cds nx la (o.map fun s => (s, lenOf l s))).find? (fun t => t.1 == s) = some (s, lenOf l s, v) ∧ (asg l o nx la cs).getD s 0 = (v : Int)
  | [], _, _, _, h, _, _ => by cases h
  | t :: r, nx, la, cs, h, hn, hs => by
    rw [List.nodup_cons] at hn
    rw [List.map_cons, cds, List.find?_cons]
    by_cases e : t = s
    · subst e
      refine ⟨nx * 2 ^ (lenOf l t - la), by simp, ?_⟩
      rw [asg, asg_keep l t r _ _ _ hn.1, List.getD_eq_getElem?_getD, List.getElem?_set_self hs]
      rfl
    · have hf : (t == s) = false := by rw [beq_eq_false_iff_ne]; exact e
      simp only [hf]
      rcases List.mem_cons.1 h with h | h
      · exact absurd h.symm e
      · obtain ⟨v, h1, h2⟩ := cds_find l s r (nx * 2 ^ (lenOf l t - la) + 1) (lenOf l t) (cs.set t ((nx * 2 ^ (lenOf l t - la) : Nat) : Int)) h hn.2 (by rw [List.length_set]; exact hs)
        exact ⟨v, h1, by rw [asg]; exact h2⟩
theorem code_find {l : List Int} {s : Nat} (h : s ∈ ordL l) : ∃ v : Nat, (cds 0 0 (slOf l)).find? (fun t => t.1 == s) = some (s, lenOf l s, v) ∧ dgH (lenOf l s) v = cdB l s := by
  have hs := (ordL_mem.1 h).1
  obtain ⟨v, h1, h2⟩ := cds_find l s (ordL l) 0 0 (List.replicate l.length 0) h (ordL_nodup l) (by rw [List.length_replicate]; exact hs)
  refine ⟨v, h1, ?_⟩
  unfold cdB codesL
  rw [h2, dgH_dgS]
theorem fixL_at : ∀ i : Fin 288, fixL.getD i.val 0 = if i.val < 144 then 8 else if i.val < 256 then 9 else if i.val < 280 then 7 else 8 := by decide +kernel
theorem fixL_len : fixL.length = 288 := by decide +kernel
theorem fixL_ord {s : Nat} (h : s < 288) : s ∈ ordL fixL := by
  refine ordL_mem.2 ⟨by rw [fixL_len]; exact h, ?_⟩
  have e := fixL_at ⟨s, h⟩
  simp only at e
  rw [e]
  by_cases h1 : s < 144
  · rw [if_pos h1]; exact ⟨7, by omega, rfl⟩
  · rw [if_neg h1]
    by_cases h2 : s < 256
    · rw [if_pos h2]; exact ⟨8, by omega, rfl⟩
    · rw [if_neg h2]
      by_cases h3 : s < 280
      · rw [if_pos h3]; exact ⟨6, by omega, rfl⟩
      · rw [if_neg h3]; exact ⟨7, by omega, rfl⟩
theorem usu_code : ∀ s : Fin 30, cdB usuD s.val = dgS true (s.val : Int) 5 := by decide +kernel
/-- what the loop over a row of codes reads at a place -/
theorem cx_at {w : World} {base : Nat} {C : Option Addr} {c : Nat} {X : List CX} (h : CRow w base C c X) {j : Nat} (hj : j < X.length) : ∃ b off, C = some ⟨b, off, none⟩ ∧ b < w.heap.size ∧ w.cell? ⟨b, off + j * 2, none⟩ = some (.int .i64 (X[j].s : Int)) ∧ w.cell? ⟨b, off + j * 2 + 1, none⟩ = some (.slice X[j].A X[j].n X[j].c) := by
  obtain ⟨b, off, hA, hb, hc⟩ := Rd.at_ (own_rd h.1) hj (by omega)
  have f := fun i hi => flat_at cxV 2 X (fun _ _ => rfl) j i X[j] (List.getElem?_eq_getElem hj) hi
  exact ⟨b, off, hA, hb, hc _ _ (f 0 (by omega)), hc _ _ (f 1 (by omega))⟩
/-- the bits of a symbol, out of a row of codes -/
theorem code11_any (C : Option Addr) (c K : Nat) (X : List CX) (s : Nat) (x : CX) (W : World) (h : CRow W K C c X) (hx : X.find? (fun x => x.s == s) = some x) (hm : X.length ≤ 1000) (hXs : ∀ x ∈ X, x.s ≤ 1000) :
    Calls Tryz.prog 38 #[.slice C X.length c, .int .i64 (s : Int)] W fun e w' => e = .returned (.slice x.A x.n x.c) ∧ W = w' := by
  obtain ⟨i, hi, hxi, hlt⟩ : ∃ i, ∃ h : i < X.length, X[i] = x ∧ ∀ j (hj : j < i), (X[j]'(by omega)).s ≠ s := by
    rw [List.find?_eq_some_iff_getElem] at hx
    obtain ⟨_, i, hi, e, hj⟩ := hx
    refine ⟨i, hi, e, fun j hji => ?_⟩
    have := hj j hji
    simpa using this
  have hxs : x.s = s := by
    have := List.find?_some hx
    simpa using this
  have H := hid h
  have HLT := hid hlt
  have HXI := hid hxi
  have HXS := hid hxs
  have HXB := hid hXs
  clear h hlt hxi hxs hx hXs
  go_enter Tryz.func38, Tryz.ntmps38
  go_wp2_with fail
  go_loopw [5] (fun i5 wr => ∃ j : Nat, j ≤ i ∧ i5 = .int .i64 (j : Int) ∧ Hid (wr = W)) (fun i5 _ => X.length - (intOf i5).toNat)
  case atStart => exact ⟨0, Nat.zero_le _, rfl, hid rfl⟩
  case round =>
    obtain ⟨j, hj, rfl, HW⟩ := hrel
    have hjl : j < X.length := by omega
    have d1 : decide ((j : Int) < (X.length : Int)) = true := decide_eq_true (by omega)
    obtain ⟨b, off, rfl, hb, k0, k1⟩ := cx_at (HW.out ▸ H.out) hjl
    have hsb := HXB.out _ (List.getElem_mem hjl)
    by_cases e : j = i
    · subst e
      have e1 := HXI.out
      rw [e1] at k0 k1 hsb
      rw [HXS.out] at k0
      clear e1
      go_wp2_with fail
      go_ret
      exact ⟨rfl, HW.out.symm⟩
    · have hne := HLT.out j (by omega)
      have hji : j < i := by omega
      generalize X[j] = y at *
      have d2 : ((y.s : Int) == (s : Int)) = false := by rw [beq_eq_false_iff_ne]; omega
      clear hne
      go_wp2_with fail
      go_roundw
      case rel => exact ⟨j + 1, by omega, by go_num, HW⟩
      case measure => simp [intOf]; omega
end Go.Proofs.YtoppjcmkhhkbmaaGreat

namespace Go.Proofs.YtoppjcmkhhkbmaaGreat
open Go.ChangeShapes Go.WideShapes Go.ChangeAt Go.RowKit Go.Proofs.YtoppjcmkhhkbmaaGreat
set_option maxRecDepth 100000 in
set_option maxHeartbeats 4000000 in
theorem match8_any (A : Option Addr) (c : Nat) (l : List Int) (p n far : Nat) (W : World) (h : Rd W W.heap.size 1 A l.length (bytesV l)) (hm : l.length ≤ 2000000) (hp : p ≤ l.length) (hn : 3 ≤ n) (hn2 : n ≤ 258) (hf : 1 ≤ far) (hf2 : far ≤ 32768) (hfp : far ≤ p) :
    Calls Tryz.prog 113 #[.slice A l.length c, .int .i64 (p : Int), .int .i64 (n : Int), .int .i64 (far : Int)] W fun e w' => e = .returned (.bool (decide (n ≤ lcpM (fun i => l.getD i 0) l.length (p - far) p))) ∧ Below W.heap.size W w' := by
  have H := hid h
  clear h
  have c1 : decide ((n : Int) < 3) = false := decide_eq_false (by omega)
  have c2 : decide ((258 : Int) < n) = false := decide_eq_false (by omega)
  have c3 : decide ((far : Int) < 1) = false := decide_eq_false (by omega)
  have c4 : decide ((32768 : Int) < far) = false := decide_eq_false (by omega)
  have c5 : decide ((p : Int) < 0) = false := decide_eq_false (by omega)
  have c6 : decide ((l.length : Int) < p) = false := decide_eq_false (by omega)
  have c7 : decide ((p : Int) < far) = false := decide_eq_false (by omega)
  have HG := hid (lcp_ge (fun i => l.getD i 0) l.length (p - far) p n)
  go_enter Tryz.func113, Tryz.ntmps113
  by_cases hl : l.length < p + n
  · have c8 : decide ((l.length : Int) - (p : Int) < (n : Int)) = true := decide_eq_true (by omega)
    have HR := hid (show Ending.returned (Value.bool false) = Ending.returned (.bool (decide (n ≤ lcpM (fun i => l.getD i 0) l.length (p - far) p))) by
      rw [decide_eq_false]
      intro h
      have := ((HG.out.1 h).2 (n - 1) (by omega)).1
      omega)
    clear HG
    go_wp2
    go_ret
    exact ⟨HR.out, Below.refl _ _⟩
  · have c8 : decide ((l.length : Int) - (p : Int) < (n : Int)) = false := decide_eq_false (by omega)
    go_wp2
    go_loopw [9] (fun i wr => ∃ m : Nat, m ≤ n ∧ i = .int .i64 (m : Int) ∧ Hid (∀ j, j < m → l.getD (p - far + j) 0 = l.getD (p + j) 0) ∧ Hid (Below W.heap.size W wr)) (fun i _ => n - (intOf i).toNat)
    case atStart => exact ⟨0, by omega, rfl, hid (fun j h => by omega), hid (Below.refl _ _)⟩
    case round =>
      obtain ⟨m, hmn, rfl, HJ, HB⟩ := hrel
      by_cases h1 : m < n
      · have d1 : decide (m < n) = true := decide_eq_true h1
        have d1i : decide ((m : Int) < (n : Int)) = true := decide_eq_true (by omega)
        obtain ⟨bk, off, rfl, _, q1⟩ := byte_at (H.out.below HB.out (Nat.le_refl _)) (j := p - far + m) (by omega)
        obtain ⟨bk2, off2, e, _, q2⟩ := byte_at (H.out.below HB.out (Nat.le_refl _)) (j := p + m) (by omega)
        injection e with e
        injection e with e1 e2
        subst e1 e2
        have ei : (p : Int) + (m : Int) - (far : Int) = ((p - far + m : Nat) : Int) := by omega
        have eb : p - far + m < l.length := by omega
        have eb2 : p + m < l.length := by omega
        obtain ⟨k, hk⟩ : ∃ k, k = p - far + m := ⟨_, rfl⟩
        rw [← hk] at ei q1 eb
        by_cases h3 : l.getD (p - far + m) 0 = l.getD (p + m) 0
        · have HJ2 := hid (show ∀ j, j < m + 1 → l.getD (p - far + j) 0 = l.getD (p + j) 0 from fun j hj => by
            by_cases e : j = m
            · rw [e]; exact h3
            · exact HJ.out j (by omega))
          rw [← h3, ← hk] at q2
          generalize l.getD k 0 = x at *
          clear HJ h3 HG hk
          go_upto_region 6 with (fail)
          go_quiet (fail)
          go_wp2
          go_roundw
          case rel => exact ⟨m + 1, by omega, by go_num, HJ2, hid (below_drewN HB.out _)⟩
          case measure => simp [intOf]; omega
        · have HR := hid (show Ending.returned (Value.bool false) = Ending.returned (.bool (decide (n ≤ lcpM (fun i => l.getD i 0) l.length (p - far) p))) by
            rw [decide_eq_false]
            exact fun h => h3 ((HG.out.1 h).2 m h1).2)
          rw [← hk] at h3
          generalize l.getD k 0 = x at *
          generalize l.getD (p + m) 0 = y at *
          have d3 : (x == y) = false := by rw [beq_eq_false_iff_ne]; exact h3
          clear HJ h3 HG hk
          go_upto_region 6 with (fail)
          go_quiet (fail)
          go_wp2
          go_ret
          exact ⟨HR.out, below_drewN HB.out _⟩
      · have d1 : decide (m < n) = false := decide_eq_false h1
        have HR := hid (show Ending.returned (Value.bool true) = Ending.returned (.bool (decide (n ≤ lcpM (fun i => l.getD i 0) l.length (p - far) p))) by
          rw [decide_eq_true]
          exact HG.out.2 ⟨hn2, fun i hi => ⟨by omega, HJ.out i (by omega)⟩⟩)
        clear HG
        go_wp2
        go_ret
        exact ⟨HR.out, HB.out⟩
end Go.Proofs.YtoppjcmkhhkbmaaGreat
