/-
  block.Prices: which tokens are refused.
-/
import Derived.Test.YthhllollhjpheaaBkV
import Derived.Test.YthhllollhjpheaaExpU
namespace Go.Proofs.Ythhllollhjpheaa
open Go.RowKit

theorem exp_one (t : Int × Int) : expRes 258 [t] = if tgood t = true then (if t.1 = 0 then 0 else 2) else 6 := by
  unfold expRes
  rw [if_neg (by omega), scan, scan]
  unfold terr
  by_cases h : tgood t = true
  · have hg := tgood_true.1 h
    rw [if_neg (show ¬ tgood t = false by rw [h]; decide), if_pos h]
    by_cases h0 : t.1 = 0
    · rw [if_neg (show ¬ (0 < t.1 ∧ (0 : Int) < t.2) by omega), if_neg (show ¬ (258 : Int) < 0 + tn t by unfold tn; split <;> omega), if_pos rfl, if_pos h0]
    · rw [if_pos (show 0 < t.1 ∧ (0 : Int) < t.2 by omega), if_neg (by decide), if_neg h0]
  · have hf : tgood t = false := by simpa using h
    rw [if_pos hf, if_neg (by decide), if_neg h]
set_option maxRecDepth 100000 in
set_option maxHeartbeats 4000000 in
theorem bad_any (t : Int × Int) (W : World) : Calls Try.prog 41 #[.agg #[.int .i64 t.1, .int .i64 t.2]] W fun e w' => e = .returned (.bool (!tgood t)) ∧ Below W.heap.size W w' := by
  have hb1 := (Below.refl W.heap.size W).alloc (Nat.le_refl _) (.cells #[.int .i64 t.1, .int .i64 t.2] 54)
  have Hb := hid hb1
  have K := hid (Blk.new W 54 #[.int .i64 t.1, .int .i64 t.2])
  have q0 := K.out.cell 0
  have q1 := K.out.cell 1
  simp only [List.getElem?_toArray, List.getElem?_cons_zero, List.getElem?_cons_succ] at q0 q1
  have hq := K.out.lt
  have HE := hid (exp_one t)
  have ET := hid (fun (w : World) => (progExpandU_any (some ⟨w.heap.size, 0, none⟩) 1 [t] 258 (w.alloc (.cells #[.int .i64 t.1, .int .i64 t.2] 54)) (rd_block (Blk.new w 54 _) rfl) (by simp)).mono fun e w' h => (show ∃ v, e = .returned (.tuple #[v, errv (expRes 258 [t])]) ∧ Below w.heap.size w w' from by
    obtain ⟨A, c, he, _, hb⟩ := h
    exact ⟨_, he, ((Below.refl _ _).alloc (Nat.le_refl _) _).trans (hb.mono (by simp))⟩))
  have e0 : ∀ w : World, (Go.binOp .eql 33 .nilIface (.iface 40 (.int .i64 6))).run Try.prog w = .ok (.bool false) w := fun w => by kernel_rfl
  have e2 : ∀ w : World, (Go.binOp .eql 33 (.iface 40 (.int .i64 2)) (.iface 40 (.int .i64 6))).run Try.prog w = .ok (.bool false) w := fun w => by kernel_rfl
  have e6 : ∀ w : World, (Go.binOp .eql 33 (.iface 40 (.int .i64 6)) (.iface 40 (.int .i64 6))).run Try.prog w = .ok (.bool true) w := fun w => by kernel_rfl
  clear hb1
  go_enter Try.func41, Try.ntmps41
  go_upto_region 1 with (fail)
  generalize W.alloc (.cells #[.int .i64 t.1, .int .i64 t.2] 54) = w0 at *
  go_wp2_with fail
  refine (ET.out w0).mono ?_
  rintro e w1 ⟨v, rfl, b1⟩
  have B1 := hid (Hb.out.trans (b1.mono Hb.out.size))
  clear b1 ET
  rw [HE.out]
  have HEv := HE.out
  clear HEv
  by_cases h : tgood t = true
  · rw [if_pos h]
    have HT := hid h
    clear h
    by_cases h0 : t.1 = 0
    · rw [if_pos h0, show errv 0 = .nilIface from rfl]
      go_wp2_with fail
      go_ret
      exact ⟨by rw [HT.out]; rfl, B1.out⟩
    · rw [if_neg h0, show errv 2 = .iface 40 (.int .i64 2) from rfl]
      go_wp2_with fail
      go_ret
      exact ⟨by rw [HT.out]; rfl, B1.out⟩
  · have HT := hid (show tgood t = false by simpa using h)
    rw [if_neg h, show errv 6 = .iface 40 (.int .i64 6) from rfl]
    clear h
    go_wp2_with fail
    go_ret
    exact ⟨by rw [HT.out]; rfl, B1.out⟩
theorem tok_atP {w : World} {B : Nat} {A : Option Addr} {l : List (Int × Int)} (h : Rd w B 2 A l.length (l.flatMap encTok)) {j : Nat} (hj : j < l.length) :
    ∃ b off, A = some ⟨b, off, none⟩ ∧ b < B ∧ w.cell? ⟨b, off + j * 2, none⟩ = some (.int .i64 l[j].1) ∧ w.cell? ⟨b, off + j * 2 + 1, none⟩ = some (.int .i64 l[j].2) := by
  obtain ⟨b, off, hA, hb, hc⟩ := Rd.at_ h hj (by omega)
  have e := fun k (hk : k < 2) => flat_at encTok 2 l (fun _ _ => rfl) j k l[j] (List.getElem?_eq_getElem hj) hk
  exact ⟨b, off, hA, hb, hc (j * 2) _ (by have := e 0 (by decide); rw [Nat.add_zero] at this; rw [this]; rfl), hc (j * 2 + 1) _ (by rw [e 1 (by decide)]; rfl)⟩
set_option maxRecDepth 100000 in
set_option maxHeartbeats 4000000 in
theorem idxBad_any (A : Option Addr) (c : Nat) (l : List (Int × Int)) (W : World) (hr : Rd W W.heap.size 2 A l.length (l.flatMap encTok)) (hm : l.length ≤ 1000000) :
    Calls Try.prog 60 #[.slice A l.length c, .func (.func 41) #[] #[]] W fun e w' => ∃ r : Int, e = .returned (.int .i64 r) ∧ ((r < 0 ∧ l.all tgood = true) ∨ (0 ≤ r ∧ l.all tgood = false)) ∧ Below W.heap.size W w' := by
  have Hr := hid hr
  clear hr
  go_enter Try.func60, Try.ntmps60
  go_wp2
  go_loopw [8] (fun i wr => ∃ j : Nat, j ≤ l.length ∧ i = .int .i64 j ∧ (l.take j).all tgood = true ∧ Below W.heap.size W wr) (fun i _ => l.length - (intOf i).toNat)
  case atStart => exact ⟨0, by omega, rfl, rfl, Below.refl _ _⟩
  case round =>
    obtain ⟨j, hj, rfl, hno, hb⟩ := hrel
    have Hno := hid hno
    have Hb := hid hb
    by_cases hlt : j < l.length
    · obtain ⟨b, off, rfl, hbb, h0, h1⟩ := tok_atP (rd_up Hr.out hb) hlt
      have Hs := hid (show (l.take (j + 1)).all tgood = ((l.take j).all tgood && tgood l[j]) by
        rw [List.take_succ_eq_append_getElem hlt, List.all_append]
        simp)
      have Hmem := hid (List.getElem_mem hlt)
      have BA := hid (bad_any l[j] wr)
      have HJ := hid (show tgood l[j] = false → l.all tgood = false from fun h => by
        rw [← Bool.not_eq_true, List.all_eq_true]
        intro h2
        have := h2 _ Hmem.out
        rw [h] at this
        cases this)
      generalize l[j] = t at *
      obtain ⟨t1, t2⟩ := t
      clear hno hb Hmem
      go_wp2_with fail
      refine BA.out.mono ?_
      rintro e w1 ⟨rfl, b1⟩
      have B1 := hid (Hb.out.trans (b1.mono Hb.out.size))
      clear b1 BA
      cases hg : tgood (t1, t2) with
      | true =>
        rw [Bool.not_true]
        have HG := hid hg
        clear hg
        go_wp2_with fail
        go_roundw
        case rel => exact ⟨j + 1, by omega, by go_num, by rw [Hs.out, Hno.out, HG.out]; rfl, B1.out⟩
        case measure => simp [intOf]; omega
      | false =>
        rw [Bool.not_false]
        have HG := hid hg
        clear hg
        go_wp2_with fail
        go_ret
        exact ⟨j, rfl, .inr ⟨by omega, HJ.out HG.out⟩, B1.out⟩
    · clear hno hb
      go_wp2
      go_ret
      have e : j = l.length := by omega
      subst e
      exact ⟨-1, rfl, .inl ⟨by omega, by have := Hno.out; rwa [List.take_length] at this⟩, Hb.out⟩
set_option maxRecDepth 100000 in
theorem contBad_any (A : Option Addr) (c : Nat) (l : List (Int × Int)) (W : World) (hr : Rd W W.heap.size 2 A l.length (l.flatMap encTok)) (hm : l.length ≤ 1000000) :
    Calls Try.prog 40 #[.slice A l.length c, .func (.func 41) #[] #[]] W fun e w' => e = .returned (.bool (!l.all tgood)) ∧ Below W.heap.size W w' := by
  have HI := hid (idxBad_any A c l W hr hm)
  clear hr
  go_enter Try.func40, Try.ntmps40
  go_wp2_with fail
  refine HI.out.mono ?_
  rintro e w1 ⟨r, rfl, hcase, b1⟩
  have B1 := hid b1
  clear b1 HI
  rcases hcase with ⟨h1, h2⟩ | ⟨h1, h2⟩
  · have H2 := hid h2
    clear h2
    have d1 : decide (0 ≤ r) = false := decide_eq_false (by omega)
    go_wp2_with fail
    go_ret
    exact ⟨by rw [H2.out]; rfl, B1.out⟩
  · have H2 := hid h2
    clear h2
    have d1 : decide (0 ≤ r) = true := decide_eq_true h1
    go_wp2_with fail
    go_ret
    exact ⟨by rw [H2.out]; rfl, B1.out⟩
end Go.Proofs.Ythhllollhjpheaa
