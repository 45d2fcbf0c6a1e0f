/-
  burnishlaw02.good and same.
-/
import Derived.Test.YtfcppchjikmioaaGreatWtE
import Derived.RegionTactic
import Derived.RegionCalls
namespace Go.Proofs.YtfcppchjikmioaaGreat
open Go.RowKit Go.Lib

/-- of a wish what its kind uses -/
def nrm (w : Wi) : Wi := if w.kind = 1 then ⟨w.nm, w.kind, w.n, ⟨#[]⟩, w.b⟩ else if w.kind = 2 then ⟨w.nm, w.kind, 0, w.s, w.b⟩ else if w.kind = 3 then ⟨w.nm, w.kind, 0, ⟨#[]⟩, w.b⟩ else w
theorem wi_info : (Tryz.prog.info? 25).map (fun i => (i.zero, i.size, i.bytes)) = some (some (.agg #[.string ByteArray.empty, .int .i64 0, .int .i64 0, .string ByteArray.empty, .bool false]), 5, 56) := by kernel_rfl
theorem nrm_size (w : Wi) (m : Nat) (h : w.nm.size ≤ m ∧ w.s.size ≤ m) : (nrm w).nm.size ≤ m ∧ (nrm w).s.size ≤ m := by
  unfold nrm
  split
  · exact ⟨h.1, Nat.zero_le _⟩
  · split
    · exact h
    · split
      · exact ⟨h.1, Nat.zero_le _⟩
      · exact h
set_option maxRecDepth 100000 in
set_option maxHeartbeats 8000000 in
theorem lgood_any (A : Option Addr) (c n B0 : Nat) (l : List Wi) (W : World) (hn : n = l.length) (h : Rd W B0 5 A l.length (l.flatMap encWi)) (hB0 : B0 ≤ W.heap.size) (hm : l.length ≤ 1000) (hs : ∀ x ∈ l, x.nm.size ≤ 1000000 ∧ x.s.size ≤ 1000000) :
    Calls Tryz.prog 9 #[.slice A n c] W fun e w' => (∃ b, e = .returned (.bool b) ∧ (b = true ↔ GoodP (l.map nrm))) ∧ Below W.heap.size W w' := by
  obtain ⟨i0, hi0, hz0, hz1, hz2⟩ := info_parts wi_info
  have Hi0 := hid hi0
  have Hz0 := hid hz0
  have Hz1 := hid hz1
  have Hz2 := hid hz2
  clear hi0 hz0 hz1 hz2
  have H := hid h
  have HN := hid hn
  have HS := hid hs
  have hn1 : n ≤ 1000 := by omega
  clear h hs hn hm
  go_enter Tryz.func9, Tryz.ntmps9
  go_upto_region 3 with (fail)
  go_loopw [3, 9] (fun o i wr => ∃ (k : Nat) (A' : Option Addr) (c' : Nat), k ≤ n ∧ i = .int .i64 (k : Int) ∧ o = .slice A' k c' ∧ Hid (wr.ownsRow W.heap.size 25 5 (.slice A' k c') k (((l.take k).map nrm).flatMap encWi)) ∧ Hid (Below W.heap.size W wr)) (fun _ i _ => n - (intOf i).toNat)
  case atStart => exact ⟨0, _, _, by omega, rfl, rfl, hid (empty_row2 W _ 5), hid ((Below.refl _ _).alloc (Nat.le_refl _) _)⟩
  case round =>
    obtain ⟨k, A', c', hk, rfl, rfl, Ho, Hw⟩ := hrel
    by_cases hlt : k < n
    · have d1 : decide (k < n) = true := decide_eq_true hlt
      have hkl : k < l.length := by have := HN.out; omega
      obtain ⟨b, off, rfl, hb, q0, q1, q2, q3, q4⟩ := wi_at (H.out.below Hw.out hB0) hkl
      have Htk := hid (show ((l.take (k + 1)).map nrm).flatMap encWi = ((l.take k).map nrm).flatMap encWi ++ encWi (nrm l[k]) from by
        rw [List.take_succ_eq_append_getElem hkl, List.map_append, List.flatMap_append]
        simp)
      generalize l[k] = x at *
      obtain ⟨xn, xk, xz, xs, xb⟩ := x
      dsimp only at q0 q1 q2 q3 q4
      by_cases k1 : xk = 1
      · subst k1
        have OO := hid (show (wr.alloc (.cells #[.string xn, .int .i64 1, .int .i64 xz, .string ⟨#[]⟩, .bool xb] 25)).ownsRow W.heap.size 25 5 (.slice A' k c') k (((l.take k).map nrm).flatMap encWi) from own_below Ho.out ((Below.refl wr.heap.size wr).alloc (Nat.le_refl _) _) (Nat.le_refl _))
        have BB := hid (show Below W.heap.size W (wr.alloc (.cells #[.string xn, .int .i64 1, .int .i64 xz, .string ⟨#[]⟩, .bool xb] 25)) from Hw.out.alloc Hw.out.size _)
        have HT := hid (Htk.out.trans (show _ = ((l.take k).map nrm).flatMap encWi ++ [.string xn, .int .i64 1, .int .i64 xz, .string ⟨#[]⟩, .bool xb] from by rw [show nrm ⟨xn, 1, xz, xs, xb⟩ = ⟨xn, 1, xz, ⟨#[]⟩, xb⟩ from rfl]; rfl))
        clear Htk
        go_wp2_with (at_builtin; (refine wpList_app _ rfl _ _ _ rfl W.heap.size 25 i0 (.agg #[.string ByteArray.empty, .int .i64 0, .int .i64 0, .string ByteArray.empty, .bool false]) 5 56 Tryz.underlying22 Hi0.out Hz0.out Hz1.out Hz2.out rfl (by omega) A' k c' _ rfl (OO.out.alloc _) _ _ 1 1 [.string xn, .int .i64 1, .int .i64 xz, .string ⟨#[]⟩, .bool xb] rfl (rd_one _ _ _ _ (blk_new2 _ _ _ _)) (by simp) (by simp [Value.oneCell']) (by simp [maxLen] <;> omega) (by omega) (by have := BB.out.size; simp at this; simp <;> omega) ?_; intro A4 c4 w4 ha4; obtain ⟨o4, _, b4, _⟩ := ha4; have O4 := hid o4; have B4 := hid ((BB.out.alloc (BB.out.size) _).trans b4); clear o4 b4))
        go_roundw
        case rel => exact ⟨k + 1, A4, c4, by omega, by go_num, rfl, hid (by rw [HT.out]; exact O4.out), B4⟩
        case measure => simp [intOf]; omega
      have e1 : (xk == 1) = false := by rw [beq_eq_false_iff_ne]; exact k1
      by_cases k2 : xk = 2
      · subst k2
        have OO := hid (show (wr.alloc (.cells #[.string xn, .int .i64 2, .int .i64 0, .string xs, .bool xb] 25)).ownsRow W.heap.size 25 5 (.slice A' k c') k (((l.take k).map nrm).flatMap encWi) from own_below Ho.out ((Below.refl wr.heap.size wr).alloc (Nat.le_refl _) _) (Nat.le_refl _))
        have BB := hid (show Below W.heap.size W (wr.alloc (.cells #[.string xn, .int .i64 2, .int .i64 0, .string xs, .bool xb] 25)) from Hw.out.alloc Hw.out.size _)
        have HT := hid (Htk.out.trans (show _ = ((l.take k).map nrm).flatMap encWi ++ [.string xn, .int .i64 2, .int .i64 0, .string xs, .bool xb] from by rw [show nrm ⟨xn, 2, xz, xs, xb⟩ = ⟨xn, 2, 0, xs, xb⟩ from rfl]; rfl))
        clear Htk
        go_wp2_with (at_builtin; (refine wpList_app _ rfl _ _ _ rfl W.heap.size 25 i0 (.agg #[.string ByteArray.empty, .int .i64 0, .int .i64 0, .string ByteArray.empty, .bool false]) 5 56 Tryz.underlying22 Hi0.out Hz0.out Hz1.out Hz2.out rfl (by omega) A' k c' _ rfl (OO.out.alloc _) _ _ 1 1 [.string xn, .int .i64 2, .int .i64 0, .string xs, .bool xb] rfl (rd_one _ _ _ _ (blk_new2 _ _ _ _)) (by simp) (by simp [Value.oneCell']) (by simp [maxLen] <;> omega) (by omega) (by have := BB.out.size; simp at this; simp <;> omega) ?_; intro A4 c4 w4 ha4; obtain ⟨o4, _, b4, _⟩ := ha4; have O4 := hid o4; have B4 := hid ((BB.out.alloc (BB.out.size) _).trans b4); clear o4 b4))
        go_roundw
        case rel => exact ⟨k + 1, A4, c4, by omega, by go_num, rfl, hid (by rw [HT.out]; exact O4.out), B4⟩
        case measure => simp [intOf]; omega
      have e2 : (xk == 2) = false := by rw [beq_eq_false_iff_ne]; exact k2
      by_cases k3 : xk = 3
      · subst k3
        have OO := hid (show (wr.alloc (.cells #[.string xn, .int .i64 3, .int .i64 0, .string ⟨#[]⟩, .bool xb] 25)).ownsRow W.heap.size 25 5 (.slice A' k c') k (((l.take k).map nrm).flatMap encWi) from own_below Ho.out ((Below.refl wr.heap.size wr).alloc (Nat.le_refl _) _) (Nat.le_refl _))
        have BB := hid (show Below W.heap.size W (wr.alloc (.cells #[.string xn, .int .i64 3, .int .i64 0, .string ⟨#[]⟩, .bool xb] 25)) from Hw.out.alloc Hw.out.size _)
        have HT := hid (Htk.out.trans (show _ = ((l.take k).map nrm).flatMap encWi ++ [.string xn, .int .i64 3, .int .i64 0, .string ⟨#[]⟩, .bool xb] from by rw [show nrm ⟨xn, 3, xz, xs, xb⟩ = ⟨xn, 3, 0, ⟨#[]⟩, xb⟩ from rfl]; rfl))
        clear Htk
        go_wp2_with (at_builtin; (refine wpList_app _ rfl _ _ _ rfl W.heap.size 25 i0 (.agg #[.string ByteArray.empty, .int .i64 0, .int .i64 0, .string ByteArray.empty, .bool false]) 5 56 Tryz.underlying22 Hi0.out Hz0.out Hz1.out Hz2.out rfl (by omega) A' k c' _ rfl (OO.out.alloc _) _ _ 1 1 [.string xn, .int .i64 3, .int .i64 0, .string ⟨#[]⟩, .bool xb] rfl (rd_one _ _ _ _ (blk_new2 _ _ _ _)) (by simp) (by simp [Value.oneCell']) (by simp [maxLen] <;> omega) (by omega) (by have := BB.out.size; simp at this; simp <;> omega) ?_; intro A4 c4 w4 ha4; obtain ⟨o4, _, b4, _⟩ := ha4; have O4 := hid o4; have B4 := hid ((BB.out.alloc (BB.out.size) _).trans b4); clear o4 b4))
        go_roundw
        case rel => exact ⟨k + 1, A4, c4, by omega, by go_num, rfl, hid (by rw [HT.out]; exact O4.out), B4⟩
        case measure => simp [intOf]; omega
      have e3 : (xk == 3) = false := by rw [beq_eq_false_iff_ne]; exact k3
      · have Hnr := hid (show nrm ⟨xn, xk, xz, xs, xb⟩ = ⟨xn, xk, xz, xs, xb⟩ from by unfold nrm; rw [if_neg k1, if_neg k2, if_neg k3])
        clear k1 k2 k3
        have OO := hid (show (wr.alloc (.cells #[.string xn, .int .i64 xk, .int .i64 xz, .string xs, .bool xb] 25)).ownsRow W.heap.size 25 5 (.slice A' k c') k (((l.take k).map nrm).flatMap encWi) from own_below Ho.out ((Below.refl wr.heap.size wr).alloc (Nat.le_refl _) _) (Nat.le_refl _))
        have BB := hid (show Below W.heap.size W (wr.alloc (.cells #[.string xn, .int .i64 xk, .int .i64 xz, .string xs, .bool xb] 25)) from Hw.out.alloc Hw.out.size _)
        have HT := hid (Htk.out.trans (show _ = ((l.take k).map nrm).flatMap encWi ++ [.string xn, .int .i64 xk, .int .i64 xz, .string xs, .bool xb] from by rw [Hnr.out]; rfl))
        clear Htk
        go_wp2_with (at_builtin; (refine wpList_app _ rfl _ _ _ rfl W.heap.size 25 i0 (.agg #[.string ByteArray.empty, .int .i64 0, .int .i64 0, .string ByteArray.empty, .bool false]) 5 56 Tryz.underlying22 Hi0.out Hz0.out Hz1.out Hz2.out rfl (by omega) A' k c' _ rfl (OO.out.alloc _) _ _ 1 1 [.string xn, .int .i64 xk, .int .i64 xz, .string xs, .bool xb] rfl (rd_one _ _ _ _ (blk_new2 _ _ _ _)) (by simp) (by simp [Value.oneCell']) (by simp [maxLen] <;> omega) (by omega) (by have := BB.out.size; simp at this; simp <;> omega) ?_; intro A4 c4 w4 ha4; obtain ⟨o4, _, b4, _⟩ := ha4; have O4 := hid o4; have B4 := hid ((BB.out.alloc (BB.out.size) _).trans b4); clear o4 b4))
        go_roundw
        case rel => exact ⟨k + 1, A4, c4, by omega, by go_num, rfl, hid (by rw [HT.out]; exact O4.out), B4⟩
        case measure => simp [intOf]; omega
    · have d1 : decide (k < n) = false := decide_eq_false hlt
      have hkn : k = n := by omega
      have hlm : (l.take k).map nrm = l.map nrm := by rw [List.take_of_length_le (by have := HN.out; omega)]
      rw [hlm] at Ho
      have hcc : k ≤ c' := by
        obtain ⟨A2, c2, e, h2⟩ := own_form Ho.out
        injection e with _ _ e
        omega
      have hR := own_rd Ho.out
      have hkl : k = (l.map nrm).length := by rw [List.length_map, hkn]; exact HN.out
      have RG := hid (rgood_any A' c' k wr.heap.size (l.map nrm) wr hkl hcc (by rw [← hkl]; exact hR) (Nat.le_refl _) (fun x hx => by
        obtain ⟨y, hy, rfl⟩ := List.mem_map.1 hx
        exact nrm_size y 1000000 (HS.out y hy)))
      clear hR hkl hlm hkn
      go_wp2_with (go_at_call 27; refine RG.out.mono ?_; rintro e w2 ⟨⟨b2, rfl, hb2⟩, hB2⟩)
      go_ret
      exact ⟨⟨b2, rfl, hb2⟩, Hw.out.trans (hB2.mono Hw.out.size)⟩
end Go.Proofs.YtfcppchjikmioaaGreat
