/-
  burnishref02.digits, plain and Text.
-/
import Derived.Test.YtfcppchjikmioaaGreatWtB
import Derived.Test.YtfcppchjikmioaaGreatUtD
import Derived.Test.YtfcppchjikmioaaGreatWpR
import Derived.Deep.DeepCutAuto
import Derived.Deep.CutRange
import Derived.Deep.CutBlock
namespace Go.Proofs.YtfcppchjikmioaaGreat
open Go.RowKit Go.Lib

/-- the digits of a number in front of more text -/
def decT : Nat → List UInt8
  | 0 => []
  | n + 1 => decL (n + 1)
theorem run_convert_rune (w : World) (x : Int) : (Go.convert 21 9 (.int .i32 x)).run Tryz.prog w = .ok (.string (Utf8.encode x)) w := by
  kernel_rfl
theorem decT_step (m : Nat) (h : 0 < m) : decT m = decT (m / 10) ++ [UInt8.ofNat (48 + m % 10)] := by
  obtain ⟨k, rfl⟩ : ∃ k, m = k + 1 := ⟨m - 1, by omega⟩
  show decL (k + 1) = _
  by_cases h10 : k + 1 < 10
  · rw [decL_small _ h10, show (k + 1) / 10 = 0 from by omega, show (k + 1) % 10 = k + 1 from by omega]
    rfl
  · rw [decL_big _ h10, decL_small ((k + 1) % 10) (by omega)]
    obtain ⟨q, hq⟩ : ∃ q, (k + 1) / 10 = q + 1 := ⟨(k + 1) / 10 - 1, by omega⟩
    rw [hq]
    rfl
theorem decT_pos (m : Nat) (h : 0 < m) : decT m = decL m := by
  obtain ⟨k, rfl⟩ : ∃ k, m = k + 1 := ⟨m - 1, by omega⟩
  rfl
set_option maxRecDepth 100000 in
set_option maxHeartbeats 2000000 in
theorem digs_loop (z : Int) (N : Nat) (hz : z.natAbs = N) (h1 : z ≠ 0) (h2 : N ≤ 999999999) (W : World) : Calls Tryz.prog 29 #[.int .i64 z] W fun e w' => e = .returned (.string ⟨((if z < 0 then [45] else []) ++ decL N).toArray⟩) ∧ w' = W := by
  have HL := hid (show (decL N).length ≤ 1000000000 from by have := decL_len N; omega)
  have d0 : (z == 0) = false := by rw [beq_eq_false_iff_ne]; exact h1
  by_cases hneg : z < 0
  · have d1 : decide (z < 0) = true := decide_eq_true hneg
    rw [if_pos hneg]
    have hneg2 : wrap64 (-z) = (N : Int) := by unfold wrap64; omega
    go_enter Tryz.func29, Tryz.ntmps29
    go_upto_region 8 with (fail)
    go_loop [0, 4] (fun n v => ∃ (m : Nat) (t : List UInt8), n = .int .i64 (m : Int) ∧ v = .string ⟨t.toArray⟩ ∧ m ≤ N ∧ t.length ≤ 1000000000 ∧ Hid (decL N = decT m ++ t)) (fun n _ => (intOf n).toNat)
    case atStart => exact ⟨N, [], by first | rfl | (congr 1; omega), rfl, Nat.le_refl _, by simp, hid (by rw [decT_pos N (by omega), List.append_nil])⟩
    case round =>
      obtain ⟨m, t, rfl, rfl, hm, ht, HD⟩ := hrel
      by_cases h0 : 0 < m
      · have e0 : decide ((0 : Int) < (m : Int)) = true := decide_eq_true (by omega)
        obtain ⟨d, hd10⟩ : ∃ d, d = m % 10 := ⟨_, rfl⟩
        have hdl : d < 10 := by omega
        obtain ⟨bb, hbb⟩ : ∃ bb, bb = UInt8.ofNat (48 + d) := ⟨_, rfl⟩
        have e2 : ((m : Int)).tmod 10 = (d : Int) := by rw [Int.tmod_eq_emod_of_nonneg (by omega)]; omega
        have cvt : ∀ w, (Go.convert 21 9 (.int .i32 (48 + (d : Int)))).run Tryz.prog w = .ok (.string ⟨#[bb]⟩) w := fun w => by rw [hbb, ← enc_digit d hdl]; exact run_convert_rune w _
        have e3 : ((m : Int)).tdiv 10 = ((m / 10 : Nat) : Int) := by rw [Int.tdiv_eq_ediv_of_nonneg (by omega)]; omega
        have hcat : ¬ 9223372036854775807 < 1 + t.length := by omega
        have hd := decT_step m h0
        have HD2 := hid (show decL N = decT (m / 10) ++ (bb :: t) from by rw [HD.out, hd, List.append_assoc, hbb, hd10]; rfl)
        have hl := HL.out
        rw [HD2.out, List.length_append, List.length_cons] at hl
        clear hd hd10 hbb
        go_wp2_with fail
        exact ⟨⟨m / 10, bb :: t, by congr 1, by show Value.string (⟨#[bb]⟩ ++ ⟨t.toArray⟩) = _; congr 1, by omega, by rw [List.length_cons]; omega, HD2⟩, by simp [intOf]; omega⟩
      · have e0 : decide ((0 : Int) < (m : Int)) = false := decide_eq_false (by omega)
        have hcat : ¬ 9223372036854775807 < 1 + t.length := by omega
        have h00 : m = 0 := by omega
        have HE := hid (show decL N = t from by rw [HD.out, h00]; rfl)
        go_wp2_with fail
        go_ret
        refine ⟨?_, rfl⟩
        rw [HE.out]
        show Ending.returned (.string (_ ++ _)) = _
        congr 2
  · have d1 : decide (z < 0) = false := decide_eq_false hneg
    rw [if_neg hneg]
    have hz2 : z = (N : Int) := by omega
    subst hz2
    go_enter Tryz.func29, Tryz.ntmps29
    go_upto_region 8 with (fail)
    go_loop [0, 4] (fun n v => ∃ (m : Nat) (t : List UInt8), n = .int .i64 (m : Int) ∧ v = .string ⟨t.toArray⟩ ∧ m ≤ N ∧ t.length ≤ 1000000000 ∧ Hid (decL N = decT m ++ t)) (fun n _ => (intOf n).toNat)
    case atStart => exact ⟨N, [], by first | rfl | (congr 1; omega), rfl, Nat.le_refl _, by simp, hid (by rw [decT_pos N (by omega), List.append_nil])⟩
    case round =>
      obtain ⟨m, t, rfl, rfl, hm, ht, HD⟩ := hrel
      by_cases h0 : 0 < m
      · have e0 : decide ((0 : Int) < (m : Int)) = true := decide_eq_true (by omega)
        obtain ⟨d, hd10⟩ : ∃ d, d = m % 10 := ⟨_, rfl⟩
        have hdl : d < 10 := by omega
        obtain ⟨bb, hbb⟩ : ∃ bb, bb = UInt8.ofNat (48 + d) := ⟨_, rfl⟩
        have e2 : ((m : Int)).tmod 10 = (d : Int) := by rw [Int.tmod_eq_emod_of_nonneg (by omega)]; omega
        have cvt : ∀ w, (Go.convert 21 9 (.int .i32 (48 + (d : Int)))).run Tryz.prog w = .ok (.string ⟨#[bb]⟩) w := fun w => by rw [hbb, ← enc_digit d hdl]; exact run_convert_rune w _
        have e3 : ((m : Int)).tdiv 10 = ((m / 10 : Nat) : Int) := by rw [Int.tdiv_eq_ediv_of_nonneg (by omega)]; omega
        have hcat : ¬ 9223372036854775807 < 1 + t.length := by omega
        have hd := decT_step m h0
        have HD2 := hid (show decL N = decT (m / 10) ++ (bb :: t) from by rw [HD.out, hd, List.append_assoc, hbb, hd10]; rfl)
        have hl := HL.out
        rw [HD2.out, List.length_append, List.length_cons] at hl
        clear hd hd10 hbb
        go_wp2_with fail
        exact ⟨⟨m / 10, bb :: t, by congr 1, by show Value.string (⟨#[bb]⟩ ++ ⟨t.toArray⟩) = _; congr 1, by omega, by rw [List.length_cons]; omega, HD2⟩, by simp [intOf]; omega⟩
      · have e0 : decide ((0 : Int) < (m : Int)) = false := decide_eq_false (by omega)
        have hcat : ¬ 9223372036854775807 < 0 + t.length := by omega
        have h00 : m = 0 := by omega
        have HE := hid (show decL N = t from by rw [HD.out, h00]; rfl)
        go_wp2_with fail
        go_ret
        refine ⟨?_, rfl⟩
        rw [HE.out]
        show Ending.returned (.string (_ ++ _)) = _
        congr 2
theorem rdigits_any (z : Int) (h : -999999999 ≤ z ∧ z ≤ 999999999) (W : World) : Calls Tryz.prog 29 #[.int .i64 z] W fun e w' => e = .returned (.string ⟨(decZ z).toArray⟩) ∧ w' = W := by
  by_cases h0 : z = 0
  · subst h0
    go_enter Tryz.func29, Tryz.ntmps29
    go_wp2
    go_ret
    exact ⟨by rw [decZ, if_neg (by omega), if_neg (by omega), show (0 : Int).natAbs = 0 from rfl, decL_small 0 (by omega)]; rfl, rfl⟩
  · refine (digs_loop z z.natAbs rfl h0 (by omega) W).mono ?_
    rintro e w' ⟨rfl, rfl⟩
    refine ⟨?_, rfl⟩
    have e : decZ z = (if z < 0 then [45] else []) ++ decL z.natAbs := by
      unfold decZ
      rw [if_neg (show ¬ (z < -999999999 ∨ 999999999 < z) from by omega)]
      split <;> rfl
    rw [e]
/-- where a walk through a text stands -/
def posOf (w : World) (g : Nat) : Nat := match w.heap[g]? with
  | some (.stringIter _ p) => p
  | _ => 0
theorem posOf_of {w : World} {g p : Nat} {s : ByteArray} (h : w.heap[g]? = some (.stringIter s p)) : posOf w g = p := by unfold posOf; rw [h]
theorem list_nil {s : ByteArray} : (s.toList == []) = decide (s.size = 0) := by
  rw [ByteArray.toList_eq]
  by_cases h : s.size = 0
  · rw [decide_eq_true h]
    have : s.data.toList = [] := List.eq_nil_of_length_eq_zero h
    rw [this]
    rfl
  · rw [decide_eq_false h, beq_eq_false_iff_ne]
    intro e
    exact h (by have := congrArg List.length e; exact this)
set_option maxRecDepth 100000 in
set_option maxHeartbeats 2000000 in
theorem rplain_any (s : ByteArray) (hw : rnWhole s = true) (W : World) : Calls Tryz.prog 30 #[.string s] W fun e w' => e = .returned (.bool (plainS s)) ∧ Below W.heap.size W w' := by
  have hall := idx_all s s.size s.size 0 (by omega) (by omega) hw
  replace hall : decide (0 ≤ Lib.idxFunc (fun x => !isSm (x : Int)) true s) = !(rnL s).all isSm := hall
  by_cases h1 : s.size = 0
  · have e1 : (s.toList == []) = true := by rw [list_nil]; exact decide_eq_true h1
    have hp : plainS s = false := by unfold plainS; rw [decide_eq_false (show ¬ 0 < (s.size : Int) from by omega)]; rfl
    rw [hp]
    clear hall hp
    go_enter Tryz.func30, Tryz.ntmps30
    go_wp2_with fail
    go_ret
    exact ⟨rfl, Below.refl _ _⟩
  have e1 : (s.toList == []) = false := by rw [list_nil]; exact decide_eq_false h1
  have p1 : decide (0 < (s.size : Int)) = true := decide_eq_true (by omega)
  by_cases h2 : 16 < (s.size : Int)
  · have e2 : decide (16 < (s.size : Int)) = true := decide_eq_true h2
    have hp : plainS s = false := by unfold plainS; rw [p1, decide_eq_false (show ¬ (s.size : Int) ≤ 16 from by omega)]; rfl
    rw [hp]
    clear hall hp
    go_enter Tryz.func30, Tryz.ntmps30
    go_wp2_with fail
    go_ret
    exact ⟨rfl, Below.refl _ _⟩
  have e2 : decide (16 < (s.size : Int)) = false := decide_eq_false h2
  have p2 : decide ((s.size : Int) ≤ 16) = true := decide_eq_true (by omega)
  by_cases h3 : (s.toList == trueS) = true
  · have hp : plainS s = false := by unfold plainS; rw [p1, p2, h3]; rfl
    have e3 : (s.toList == [116, 114, 117, 101]) = true := h3
    rw [hp]
    clear hall hp h3
    go_enter Tryz.func30, Tryz.ntmps30
    go_wp2_with fail
    go_ret
    exact ⟨rfl, Below.refl _ _⟩
  replace h3 : (s.toList == trueS) = false := by simpa using h3
  have e3 : (s.toList == [116, 114, 117, 101]) = false := h3
  by_cases h4 : (s.toList == falseS) = true
  · have hp : plainS s = false := by unfold plainS; rw [p1, p2, h3, h4]; rfl
    have e4 : (s.toList == [102, 97, 108, 115, 101]) = true := h4
    rw [hp]
    clear hall hp h3 h4
    go_enter Tryz.func30, Tryz.ntmps30
    go_wp2_with fail
    go_ret
    exact ⟨rfl, Below.refl _ _⟩
  replace h4 : (s.toList == falseS) = false := by simpa using h4
  have e4 : (s.toList == [102, 97, 108, 115, 101]) = false := h4
  have HP := hid (show plainS s = (rnL s).all isSm from by unfold plainS; rw [p1, p2, h3, h4, hall]; simp)
  clear hall h3 h4 p1 p2
  go_enter Tryz.func30, Tryz.ntmps30
  go_upto_region 4 with (fail)
  have hit : (W.iter s 0).heap[W.heap.size]? = some (.stringIter s 0) := World.alloc_heap_new W _
  have hb0 : Below W.heap.size W (W.iter s 0) := (Below.refl _ _).alloc (Nat.le_refl _) (.stringIter s 0)
  obtain ⟨gi, hgi⟩ : ∃ gi, gi = W.heap.size := ⟨_, rfl⟩
  have hgi2 : W.heap.size ≤ gi := by rw [hgi]; exact Nat.le_refl _
  rw [← hgi] at hit ⊢
  have Hit := hid hit
  have Hb0 := hid hb0
  have HW := hid hw
  generalize W.iter s 0 = w0 at *
  clear hgi hit hb0 hw
  go_loopw [] (fun wr => ∃ (pos f : Nat), s.size - pos < f ∧ Hid ((rnL s).all isSm = (rnFrom s f pos).all isSm) ∧ Hid (rnW s f pos = true) ∧ Hid (wr.heap[gi]? = some (.stringIter s pos)) ∧ Hid (Below W.heap.size W wr)) (fun wr => s.size - posOf wr gi)
  case atStart => exact ⟨0, s.size + 1, by omega, hid rfl, hid HW.out, Hit, Hb0⟩
  case round =>
    obtain ⟨pos, f, hf, HR, HV, Hi, B⟩ := hrel
    obtain ⟨f1, hf1⟩ : ∃ f1, f = f1 + 1 := ⟨f - 1, by omega⟩
    by_cases hp : pos < s.size
    · obtain ⟨rr, hrr⟩ : ∃ rr : Int, rr = ((Utf8.decode s pos).1 : Int) := ⟨_, rfl⟩
      obtain ⟨np, hnp⟩ : ∃ np, np = pos + (Utf8.decode s pos).2 := ⟨_, rfl⟩
      obtain ⟨w1, hw1⟩ : ∃ w1, w1 = wr.iterAt gi s np := ⟨_, rfl⟩
      have hnx : ∀ ty, (Instr.next (.pointer (some ⟨gi, 0, none⟩)) true ty).run Tryz.prog wr = .ok (.tuple #[.bool true, .int .i64 pos, .int .i32 rr]) w1 := fun ty => by
        rw [hw1, hnp, hrr]
        exact run_next_any_at wr gi s pos ty Hi.out hp
      have hit1 := hid (show w1.heap[gi]? = some (.stringIter s np) by rw [hw1]; exact iterAt_heap wr gi s pos np Hi.out)
      have hg1 : wr.grownBy w1 (some gi) := by rw [hw1]; exact ⟨rfl, rfl, rfl, by rw [iterAt_size]; exact Nat.le_refl _, fun i _ hne => iterAt_other wr gi i s np (fun e => hne (by rw [e]))⟩
      have B1 := hid (below_other B.out hg1 B.out.size (fun r e => by injection e with e; omega))
      have hps := dec_pos hp
      have hok : okAt s pos = true := by
        have h := HV.out
        rw [hf1, rnW, if_pos hp] at h
        cases ho : okAt s pos
        · rw [ho] at h; cases h
        · rfl
      have HV1 := hid (show rnW s f1 np = true from by
        have h := HV.out
        rw [hf1, rnW, if_pos hp, if_pos hok] at h
        rw [hnp]
        exact h)
      have HR1 := hid (show (rnL s).all isSm = (isSm rr && (rnFrom s f1 np).all isSm) from by
        rw [HR.out, hf1, rnFrom, if_pos ⟨hp, hok⟩, List.all_cons, hrr, hnp])
      have hnf : s.size - np < f1 := by omega
      have hms : s.size - posOf w1 gi < s.size - posOf wr gi := by rw [posOf_of hit1.out, posOf_of Hi.out]; omega
      have Hms := hid hms
      clear hrr hnp hg1 hf1 hf HR HV Hi B hps hw1 hok hms
      cases hs : isSm rr
      · have HF := hid (show (rnL s).all isSm = false from by rw [HR1.out, hs]; rfl)
        have hsm := rsm_any rr
        rw [hs] at hsm
        clear hs
        go_wp2_with (go_at_call 55; refine (hsm _).mono ?_; rintro e w' ⟨rfl, rfl⟩)
        go_ret
        exact ⟨by rw [HP.out, HF.out]; rfl, B1.out⟩
      · have HF := hid (show (rnL s).all isSm = (rnFrom s f1 np).all isSm from by rw [HR1.out, hs]; rfl)
        have hsm := rsm_any rr
        rw [hs] at hsm
        clear hs
        go_wp2_with (go_at_call 55; refine (hsm _).mono ?_; rintro e w' ⟨rfl, rfl⟩)
        exact ⟨⟨np, f1, hnf, HF, HV1, hit1, B1⟩, Hms.out⟩
    · have hnx : ∀ ty, (Instr.next (.pointer (some ⟨gi, 0, none⟩)) true ty).run Tryz.prog wr = _ := fun ty => run_next_end_at wr gi s pos ty Hi.out hp
      have HF := hid (show (rnL s).all isSm = true from by rw [HR.out, hf1, rnFrom, if_neg (fun h => hp h.1)]; rfl)
      go_wp2_with fail
      go_ret
      exact ⟨by rw [HP.out, HF.out]; rfl, B.out⟩
end Go.Proofs.YtfcppchjikmioaaGreat
