/-
  burnishlaw02.same of wishes and what they were made of.
-/
import Derived.Test.YtfcppchjikmioaaGreatWtF
import Derived.Deep.RegionHeld3
namespace Go.Proofs.YtfcppchjikmioaaGreat
open Go.RowKit Go.Lib

theorem aw_at {w : World} {B : Nat} {A : Option Addr} {l : List Wi} (h : Rd w B 2 A l.length (l.flatMap encAw)) {j : Nat} (hj : j < l.length) : ∃ b off, A = some ⟨b, off, none⟩ ∧ b < B ∧ w.cell? ⟨b, off + j * 2, none⟩ = some (.string l[j].nm) ∧ w.cell? ⟨b, off + j * 2 + 1, none⟩ = some (valv l[j]) := by
  obtain ⟨b, off, rfl, hb, hcl⟩ := h.at_ (k := j) hj (by omega)
  exact ⟨b, off, rfl, hb, hcl (j * 2 + 0) _ ((flat_at encAw 2 l (fun _ _ => rfl) j 0 l[j] (List.getElem?_eq_getElem hj) (by omega)).trans rfl), hcl (j * 2 + 1) _ ((flat_at encAw 2 l (fun _ _ => rfl) j 1 l[j] (List.getElem?_eq_getElem hj) (by omega)).trans rfl)⟩
set_option maxRecDepth 100000 in
set_option maxHeartbeats 8000000 in
theorem lsame_any (A A' : Option Addr) (c c' n B0 B1 : Nat) (l : List Wi) (W : World) (hn : n = l.length) (h : Rd W B0 5 A l.length (l.flatMap encWi)) (h' : Rd W B1 2 A' l.length (l.flatMap encAw)) (hB0 : B0 ≤ W.heap.size) (hB1 : B1 ≤ W.heap.size) (hm : l.length ≤ 1000) (hk : ∀ x ∈ l, x.kind = 1 ∨ x.kind = 2 ∨ x.kind = 3) :
    Calls Tryz.prog 12 #[.slice A' n c', .slice A n c] W fun e w' => e = .returned (.bool true) ∧ Below W.heap.size W w' := by
  have H := hid h
  have H' := hid h'
  have HN := hid hn
  have HK := hid hk
  have hn1 : n ≤ 1000 := by omega
  clear h h' hn hm hk
  go_enter Tryz.func12, Tryz.ntmps12
  go_upto_region 4 with (fail)
  go_loopw [13] (fun i wr => ∃ k : Nat, k ≤ n ∧ i = .int .i64 (k : Int) ∧ Hid (Below W.heap.size W wr)) (fun i _ => n - (intOf i).toNat)
  case atStart => exact ⟨0, by omega, rfl, hid (Below.refl _ _)⟩
  case round =>
    obtain ⟨k, hkn, rfl, Hw⟩ := hrel
    by_cases hlt : k < n
    · have d1 : decide (k < n) = true := decide_eq_true hlt
      have hkl : k < l.length := by have := HN.out; omega
      obtain ⟨b, off, rfl, hb, q0, q1, q2, q3, q4⟩ := wi_at (H.out.below Hw.out hB0) hkl
      obtain ⟨b', off', rfl, hb', p0, p1⟩ := aw_at (H'.out.below Hw.out hB1) hkl
      have IS := hid (is_own l[k] (HK.out _ (List.getElem_mem hkl)))
      obtain ⟨T, u, hT⟩ := valv_iface l[k]
      rw [hT] at p1 IS
      clear hT
      generalize l[k] = x at *
      obtain ⟨xn, xk, xz, xs, xb⟩ := x
      dsimp only at q0 q1 q2 q3 q4 p0 p1 IS
      have hbw : b < wr.heap.size := Nat.lt_of_lt_of_le hb (Nat.le_trans hB0 Hw.out.size)
      have hbw' : b' < wr.heap.size := Nat.lt_of_lt_of_le hb' (Nat.le_trans hB1 Hw.out.size)
      go_upto_region 6 with (fail)
      go_cut [39] from 16 to 39 (fun v wq => v = .bool false ∧ Hid (Below wr.heap.size wr wq))
      · first | go_region_held3 (fun w => w.cell? ⟨b, off + k * 5, none⟩ = some (.string xn) ∧ w.cell? ⟨b, off + k * 5 + 1, none⟩ = some (.int .i64 xk) ∧ w.cell? ⟨b, off + k * 5 + 2, none⟩ = some (.int .i64 xz) ∧ w.cell? ⟨b, off + k * 5 + 3, none⟩ = some (.string xs) ∧ w.cell? ⟨b, off + k * 5 + 4, none⟩ = some (.bool xb) ∧ w.cell? ⟨b', off' + k * 2, none⟩ = some (.string xn) ∧ w.cell? ⟨b', off' + k * 2 + 1, none⟩ = some (.iface T u)) (first | go_keep | exact ⟨q0, q1, q2, q3, q4, p0, p1⟩ | exact K4.out) (first
          | (go_simp; go_at_call 22; refine (IS.out _).mono ?_; rintro e w2 ⟨rfl, hb2⟩; have K4 := hid (show w2.cell? ⟨b, off + k * 5, none⟩ = some (.string xn) ∧ w2.cell? ⟨b, off + k * 5 + 1, none⟩ = some (.int .i64 xk) ∧ w2.cell? ⟨b, off + k * 5 + 2, none⟩ = some (.int .i64 xz) ∧ w2.cell? ⟨b, off + k * 5 + 3, none⟩ = some (.string xs) ∧ w2.cell? ⟨b, off + k * 5 + 4, none⟩ = some (.bool xb) ∧ w2.cell? ⟨b', off' + k * 2, none⟩ = some (.string xn) ∧ w2.cell? ⟨b', off' + k * 2 + 1, none⟩ = some (.iface T u) from ⟨(hb2.cell (p := ⟨b, off + k * 5, none⟩) hbw).trans q0, (hb2.cell (p := ⟨b, off + k * 5 + 1, none⟩) hbw).trans q1, (hb2.cell (p := ⟨b, off + k * 5 + 2, none⟩) hbw).trans q2, (hb2.cell (p := ⟨b, off + k * 5 + 3, none⟩) hbw).trans q3, (hb2.cell (p := ⟨b, off + k * 5 + 4, none⟩) hbw).trans q4, (hb2.cell (p := ⟨b', off' + k * 2, none⟩) hbw').trans p0, (hb2.cell (p := ⟨b', off' + k * 2 + 1, none⟩) hbw').trans p1⟩); have HB2 := hid hb2; clear hb2)) | fail
        all_goals
          go_wp2_with fail
          go_meet
          exact ⟨rfl, hid (((Below.refl _ wr).drew).trans HB2.out)⟩
      · obtain ⟨rfl, hB⟩ := hcut
        have B2 := hid (Hw.out.trans (hB.out.mono Hw.out.size))
        go_wp2_with fail
        exact ⟨⟨k + 1, by omega, by push_cast; rfl, B2⟩, by simp [intOf]; omega⟩
    · have d1 : decide (k < n) = false := decide_eq_false hlt
      go_wp2_with fail
      go_ret
      exact ⟨rfl, Hw.out⟩
end Go.Proofs.YtfcppchjikmioaaGreat
