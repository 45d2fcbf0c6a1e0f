/-
  block.sound, block.check and the reference's Fits: which tokens come to a text.
  The reference's Fits; block.check.
-/
import Derived.Test.YthhllollhjpheaaBkP
import Derived.Test.YthhllollhjpheaaExpRef
import Derived.BigQuiet
import Derived.Deep.DeepCutAuto
import Derived.Deep.CutRange
namespace Go.Proofs.Ythhllollhjpheaa
open Go.RowKit

theorem fit_step {text : List Int} {l : List (Int × Int)} {j k : Nat} (hj : j < l.length) : fitM text k (l.drop j) = (fitT text k l[j] && fitM text (k + tln l[j]) (l.drop (j + 1))) := by
  rw [List.drop_eq_getElem_cons hj, fitM]
theorem fit_no {text : List Int} {l : List (Int × Int)} {j k : Nat} {t : Int × Int} (hj : j < l.length) (ht : l[j] = t) (h : fitT text k t = false) : fitM text k (l.drop j) = false := by
  rw [fit_step hj, ht, h, Bool.false_and]
theorem fit_yes {text : List Int} {l : List (Int × Int)} {j k n : Nat} {t : Int × Int} (hj : j < l.length) (ht : l[j] = t) (h : fitT text k t = true) (hn : tln t = n) : fitM text k (l.drop j) = fitM text (k + n) (l.drop (j + 1)) := by
  rw [fit_step hj, ht, h, hn, Bool.true_and]
theorem fitT_iff {text : List Int} {k : Nat} {t : Int × Int} : fitT text k t = true ↔ tgood t = true ∧ k + tln t ≤ text.length ∧ (if t.1 = 0 then text.getD k 0 = t.2 else ∀ i, i < tln t → farB text t.2 (k + i) = true) := by
  unfold fitT
  rw [Bool.and_eq_true, Bool.and_eq_true, decide_eq_true_iff]
  split
  · rw [beq_iff_eq]
  · rw [List.all_eq_true]
    simp only [List.mem_range]
theorem fitT_no {text : List Int} {k : Nat} {t : Int × Int} (h : ¬ (tgood t = true ∧ k + tln t ≤ text.length ∧ (if t.1 = 0 then text.getD k 0 = t.2 else ∀ i, i < tln t → farB text t.2 (k + i) = true))) : fitT text k t = false := by
  cases h1 : fitT text k t with
  | false => rfl
  | true => exact absurd (fitT_iff.1 h1) h
theorem tln_cases (a b : Int) : ((tln (a, b) : Nat) : Int) = if 0 < a then a else 1 := by rw [tln_eq]; rfl
theorem okTok_bd {t : Int × Int} (h : okTok t) : -9223372036854775808 ≤ t.1 ∧ t.1 ≤ 9223372036854775807 ∧ -9223372036854775808 ≤ t.2 ∧ t.2 ≤ 9223372036854775807 := by
  obtain ⟨h1, h2⟩ := h
  simp [Lit.wf, IntKind.min, IntKind.max, IntKind.signed, IntKind.bits] at h1 h2
  omega
theorem one_of {n : Nat} (h : (n : Int) = if (0 : Int) < 0 then 0 else 1) : n = 1 := by
  rw [if_neg (by omega)] at h
  omega
theorem beq_cast (a b : Nat) : ((a : Int) == (b : Int)) = (a == b) := by
  by_cases h : a = b
  · rw [h, beq_self_eq_true, beq_self_eq_true]
  · rw [beq_eq_false_iff_ne.2 h, beq_eq_false_iff_ne.2 (by omega)]
theorem text_isB {text : List Int} (h : ∀ x ∈ text, isB x) (k : Nat) : isB (text.getD k 0) := getD_isB h k

set_option maxRecDepth 100000 in
set_option maxHeartbeats 8000000 in
theorem sound10_any (A B : Option Addr) (c d : Nat) (l : List (Int × Int)) (text : List Int) (W : World) (hr : Rd W W.heap.size 2 A l.length (l.flatMap encTok)) (ht : Rd W W.heap.size 1 B text.length (bytesV text)) (hm : l.length ≤ 1000000) (hm2 : text.length ≤ 1000000) (hok : ∀ t ∈ l, okTok t) (hB : ∀ x ∈ text, isB x) :
    Calls Try.prog 34 #[.slice A l.length c, .slice B text.length d] W fun e w' => e = .returned (.bool (fitM text 0 l)) ∧ Below W.heap.size W w' := by
  have Hr := hid hr
  have Ht := hid ht
  have Hok := hid hok
  have HB := hid hB
  clear hr ht hok hB
  go_enter Try.func34, Try.ntmps34
  go_wp2
  go_loopw [5, 12] (fun kv i wr => ∃ (j k : Nat), j ≤ l.length ∧ k ≤ text.length ∧ i = .int .i64 j ∧ kv = .int .i64 k ∧ fitM text 0 l = fitM text k (l.drop j) ∧ Below W.heap.size W wr) (fun _ i _ => l.length - (intOf i).toNat)
  case atStart => exact ⟨0, 0, by omega, by omega, rfl, rfl, rfl, Below.refl _ _⟩
  case round =>
    obtain ⟨j, k, hj, hk, rfl, rfl, hf, hb⟩ := hrel
    have Hf := hid hf
    clear hf
    by_cases hlt : j < l.length
    · obtain ⟨b, off, rfl, hbb, h0, h1⟩ := tok_at (Hr.out.below hb (Nat.le_refl _)) hlt
      obtain ⟨t, htj⟩ : ∃ t, l[j] = t := ⟨_, rfl⟩
      have Htj := hid htj
      have hto := Hok.out _ (List.getElem_mem hlt)
      rw [htj] at h0 h1 hto
      obtain ⟨a, dd⟩ := t
      have Hno := hid (fun h => Hf.out.trans (fit_no (k := k) hlt Htj.out h))
      have Hyes := hid (fun n h hn => Hf.out.trans (fit_yes (k := k) (n := n) hlt Htj.out h hn))
      have ha := okTok_bd hto
      obtain ⟨ha1, ha2, hd1, hd2⟩ := ha
      simp only at ha1 ha2 hd1 hd2 h0 h1
      clear hto htj
      obtain ⟨n, hn⟩ : ∃ n, n = tln (a, dd) := ⟨_, rfl⟩
      have hnc := tln_cases a dd
      rw [← hn] at hnc
      have Hn := hid hn
      clear hn
      have hmx : (if a < 1 then (1 : Int) else a) = (n : Int) := by rw [hnc]; (repeat' split) <;> omega
      have hn1 : 1 ≤ n := by split at hnc <;> omega
      have Hnc := hid hnc
      have hal := hid (Below.alloc hb hb.size (.cells #[.int .i64 a, .int .i64 dd] 54))
      have g0 := hb.size
      have hrdT := (Ht.out.below hal.out (Nat.le_refl _))
      have HrdT := hid hrdT
      clear hnc hrdT
      go_upto_region 6 with (fail)
      clear hmx
      by_cases hfar : text.length - k < n
      · have e := Hno.out (fitT_no fun h => by have := h.2.1; rw [← Hn.out] at this; omega)
        go_wp2
        go_ret
        exact ⟨by rw [e]; rfl, hal.out⟩
      by_cases hz : a = 0
      · subst hz
        have hn' : n = 1 := one_of Hnc.out
        subst hn'
        obtain ⟨bt, ot, rfl, hbt, p0⟩ := byte_at HrdT.out (show k < text.length by omega)
        have hx := text_isB HB.out k
        generalize hxx : text.getD k 0 = x at *
        have Hxx := hid hxx
        unfold isB at hx
        clear hxx
        by_cases hne : dd = x
        · subst hne
          have e := Hyes.out 1 (fitT_iff.2 ⟨tgood_true.2 (.inl ⟨rfl, hx.1, hx.2⟩), by rw [← Hn.out]; omega, by rw [if_pos rfl]; exact Hxx.out⟩) Hn.out.symm
          have E := hid e
          clear e
          go_upto_region 9 with (fail)
          go_quiet (fail)
          go_wp2
          go_loop [9] (fun v => v = .int .i64 k) (fun _ => 0)
          case atStart => rfl
          case round =>
            obtain rfl := hrel
            go_wp2
            go_roundw
            case rel => exact ⟨j + 1, k + 1, by omega, by omega, by go_num, by go_num, E.out, below_drewN hal.out nq⟩
            case measure => simp [intOf]; omega
        · have e := Hno.out (fitT_no fun h => by have := h.2.2; rw [if_pos rfl, Hxx.out] at this; exact hne this.symm)
          go_upto_region 9 with (fail)
          go_quiet (fail)
          go_wp2
          go_ret
          exact ⟨by rw [e]; rfl, below_drewN hal.out nq⟩
      by_cases hform : a < 3 ∨ 258 < a ∨ dd < 1 ∨ 32768 < dd
      · have e := Hno.out (fitT_no fun h => by have := tgood_true.1 h.1; simp only at this; omega)
        have E := hid e
        clear e
        rcases (show a < 3 ∨ (¬ a < 3 ∧ 258 < a) ∨ (¬ a < 3 ∧ ¬ 258 < a ∧ dd < 1) ∨ (¬ a < 3 ∧ ¬ 258 < a ∧ ¬ dd < 1 ∧ 32768 < dd) by omega) with g | ⟨g1, g2⟩ | ⟨g1, g2, g3⟩ | ⟨g1, g2, g3, g4⟩
        all_goals
          clear hform
          go_wp2
          go_ret
          exact ⟨by rw [E.out]; rfl, hal.out⟩
      have hg : tgood (a, dd) = true := tgood_true.2 (.inr (by simp only; omega))
      have Hg := hid hg
      obtain ⟨D, rfl⟩ : ∃ D : Nat, dd = (D : Int) := ⟨dd.toNat, by omega⟩
      have han : a = (n : Int) := by have := Hnc.out; rw [if_pos (by omega)] at this; omega
      subst han
      have g3 : ¬ (n : Int) < 3 := by omega
      have g4 : ¬ 258 < (n : Int) := by omega
      have g5 : ¬ (D : Int) < 1 := by omega
      have g6 : ¬ 32768 < (D : Int) := by omega
      clear hg hform
      go_wp2
      have Z0 : (wr.alloc (.cells #[.int .i64 (n : Int), .int .i64 (D : Int)] 54)).cell? ⟨wr.heap.size, 0, none⟩ = some (.int .i64 (n : Int)) := (Blk.new wr _ _).cell 0
      have Z1 : (wr.alloc (.cells #[.int .i64 (n : Int), .int .i64 (D : Int)] 54)).cell? ⟨wr.heap.size, 1, none⟩ = some (.int .i64 (D : Int)) := (Blk.new wr _ _).cell 1
      have hz3 : wr.heap.size < (wr.alloc (.cells #[.int .i64 (n : Int), .int .i64 (D : Int)] 54)).heap.size := (Blk.new wr _ _).lt
      generalize wr.alloc (.cells #[.int .i64 (n : Int), .int .i64 (D : Int)] 54) = wz at *
      generalize wr.heap.size = gz at *
      go_loopw [9] (fun v w2 => ∃ i q0 : Nat, v = .int .i64 i ∧ k ≤ i ∧ i ≤ k + n ∧ w2 = wz.drewN q0 ∧ ∀ q, k ≤ q → q < i → farB text D q = true) (fun v _ => k + n - (intOf v).toNat)
      case atStart => exact ⟨k, 0, rfl, by omega, by omega, rfl, fun q h1 h2 => by omega⟩
      case round =>
        obtain ⟨i, q0, rfl, hi1, hi2, rfl, hall⟩ := hrel
        have Hall := hid hall
        clear hall
        by_cases hlt2 : i < k + n
        · have hin : ((i : Int) < (k : Int) + (n : Int)) := by omega
          by_cases hD : D ≤ i
          · obtain ⟨bt, ot, rfl, hbt, p0⟩ := byte_at HrdT.out (show i < text.length by omega)
            obtain ⟨bt2, ot2, hA2, _, p1⟩ := byte_at HrdT.out (show i - D < text.length by omega)
            obtain ⟨rfl, rfl⟩ : bt = bt2 ∧ ot = ot2 := by simpa using hA2
            have hfq : farB text D i = (text.getD i 0 == text.getD (i - D) 0) := by
              unfold farB
              rw [decide_eq_false (by omega), Bool.false_or, Int.toNat_natCast]
            have hDi : (D : Int) ≤ (i : Int) := by omega
            have HFq := hid hfq
            clear hA2 hfq
            generalize text.getD i 0 = x at *
            generalize text.getD (i - D) 0 = y at *
            by_cases hxy : x = y
            · subst hxy
              go_upto_region 16 with (fail)
              go_quiet (fail)
              go_wp2
              go_roundw
              case rel =>
                refine ⟨i + 1, q0 + nq, by go_num, by omega, by omega, by simp, fun q h1 h2 => ?_⟩
                by_cases hq : q = i
                · subst hq; rw [HFq.out]; exact beq_self_eq_true _
                · exact Hall.out q h1 (by omega)
              case measure => simp [intOf]; omega
            · have e := Hno.out (fitT_no fun h => by
                have h2 := h.2.2
                rw [if_neg hz] at h2
                have := h2 (i - k) (by rw [← Hn.out]; omega)
                rw [show k + (i - k) = i by omega, HFq.out] at this
                exact hxy (beq_iff_eq.1 this))
              go_upto_region 16 with (fail)
              go_quiet (fail)
              go_wp2
              go_ret
              exact ⟨by rw [e]; rfl, below_drewN (below_drewN hal.out q0) nq⟩
          · have hDi : ¬ (D : Int) ≤ (i : Int) := by omega
            have hfq : farB text D i = true := by unfold farB; rw [decide_eq_true (by omega), Bool.true_or]
            have HFq := hid hfq
            clear hfq
            go_upto_region 16 with (fail)
            go_quiet (fail)
            go_wp2
            go_roundw
            case rel =>
              refine ⟨i + 1, q0 + nq, by go_num, by omega, by omega, by simp, fun q h1 h2 => ?_⟩
              by_cases hq : q = i
              · subst hq; exact HFq.out
              · exact Hall.out q h1 (by omega)
            case measure => simp [intOf]; omega
        · have hin : ¬ ((i : Int) < (k : Int) + (n : Int)) := by omega
          have e := Hyes.out n (fitT_iff.2 ⟨Hg.out, by rw [← Hn.out]; omega, by rw [if_neg hz]; exact fun q hq => Hall.out (k + q) (by omega) (by rw [← Hn.out] at hq; omega)⟩) Hn.out.symm
          have E := hid e
          clear e
          go_wp2
          go_roundw
          case rel => exact ⟨j + 1, k + n, by omega, by omega, by go_num, by go_num, E.out, below_drewN hal.out q0⟩
          case measure => simp [intOf]; omega
    · have e : j = l.length := by omega
      subst e
      have e : fitM text 0 l = (k == text.length) := by rw [Hf.out, List.drop_length, fitM]
      have E := hid e
      clear e
      go_wp2
      go_ret
      exact ⟨by rw [E.out, ← beq_cast]; rfl, hb⟩
end Go.Proofs.Ythhllollhjpheaa

namespace Go.Proofs.Ythhllollhjpheaa
open Go.RowKit

set_option maxRecDepth 100000 in
set_option maxHeartbeats 8000000 in
theorem fits10_any (A B : Option Addr) (c d : Nat) (l : List (Int × Int)) (text : List Int) (W : World) (hr : Rd W W.heap.size 2 A l.length (l.flatMap encTok)) (ht : Rd W W.heap.size 1 B text.length (bytesV text)) (hm : l.length ≤ 1000000) (hm2 : text.length ≤ 1000000) (hB : ∀ x ∈ text, isB x) :
    Calls Try.prog 8 #[.slice A l.length c, .slice B text.length d] W fun e w' => e = .returned (.bool (fitM text 0 l)) ∧ Below W.heap.size W w' := by
  have Hr := hid hr
  have Ht := hid ht
  have HB := hid hB
  clear hr ht hB
  go_enter Try.func8, Try.ntmps8
  go_wp2
  go_loopw [5, 6] (fun kv i wr => ∃ (j k : Nat), j ≤ l.length ∧ k ≤ text.length ∧ i = .int .i64 j ∧ kv = .int .i64 k ∧ fitM text 0 l = fitM text k (l.drop j) ∧ Below W.heap.size W wr) (fun _ i _ => l.length - (intOf i).toNat)
  case atStart => exact ⟨0, 0, by omega, by omega, rfl, rfl, rfl, Below.refl _ _⟩
  case round =>
    obtain ⟨j, k, hj, hk, rfl, rfl, hf, hb⟩ := hrel
    have Hf := hid hf
    clear hf
    by_cases hlt : j < l.length
    · obtain ⟨b, off, rfl, hbb, h0, h1⟩ := tok_at (Hr.out.below hb (Nat.le_refl _)) hlt
      obtain ⟨t, htj⟩ : ∃ t, l[j] = t := ⟨_, rfl⟩
      have Htj := hid htj
      rw [htj] at h0 h1
      obtain ⟨a, dd⟩ := t
      have Hno := hid (fun h => Hf.out.trans (fit_no (k := k) hlt Htj.out h))
      have Hyes := hid (fun n h hn => Hf.out.trans (fit_yes (k := k) (n := n) hlt Htj.out h hn))
      simp only at h0 h1
      clear htj
      have g0 := hb.size
      have hg := refGood a dd (tgood (a, dd)) rfl
      cases hgd : tgood (a, dd) with
      | false =>
        rw [hgd] at hg
        have e := Hno.out (fitT_no fun h => by rw [hgd] at h; exact absurd h.1 (by decide))
        have E := hid e
        have Hal := hid (Below.alloc hb hb.size (.cells #[.int .i64 a, .int .i64 dd] 54))
        clear e hgd
        go_wp2_with fail
        refine (hg _).mono ?_
        rintro e w1 ⟨rfl, hb1⟩
        go_wp2
        go_ret
        exact ⟨by rw [E.out]; rfl, Hal.out.trans (hb1.mono Hal.out.size)⟩
      | true =>
        rw [hgd] at hg
        have Hg := hid hgd
        obtain ⟨n, hn⟩ : ∃ n, n = tln (a, dd) := ⟨_, rfl⟩
        have hnc := tln_cases a dd
        rw [← hn] at hnc
        have Hn := hid hn
        have htg := tgood_true.1 hgd
        simp only at htg
        clear hgd hn
        have Hal := hid (Below.alloc hb hb.size (.cells #[.int .i64 a, .int .i64 dd] 54))
        have Z := hid (Blk.new wr 54 #[.int .i64 a, .int .i64 dd])
        go_wp2_with fail
        refine (hg _).mono ?_
        rintro e w1 ⟨rfl, hb1⟩
        have Hal1 := hid (Hal.out.trans (hb1.mono Hal.out.size))
        have Z1 := hid (Z.out.below hb1 Z.out.lt)
        have HrdT := hid (Ht.out.below Hal1.out (Nat.le_refl _))
        clear hg Hal Z hb1 h0 h1
        generalize wr.heap.size = gz at *
        have z0 := Z1.out.cell 0
        have z1 := Z1.out.cell 1
        have z3 := Z1.out.lt
        simp only [List.getElem?_toArray, List.getElem?_cons_zero, List.getElem?_cons_succ] at z0 z1
        by_cases hz : a = 0
        · subst hz
          have hn' : n = 1 := one_of hnc
          subst hn'
          clear hnc htg
          by_cases hfar : text.length < k + 1
          · have e := Hno.out (fitT_no fun h => by have := h.2.1; rw [← Hn.out] at this; omega)
            have E := hid e
            clear e
            go_wp2
            go_ret
            exact ⟨by rw [E.out]; rfl, Hal1.out⟩
          go_wp2
          obtain ⟨bt, ot, rfl, hbt, p0⟩ := byte_at HrdT.out (show k < text.length by omega)
          have hx := text_isB HB.out k
          unfold isB at hx
          generalize hxx : text.getD k 0 = x at *
          have Hxx := hid hxx
          clear hxx
          go_loopw [9] (fun v w2 => ∃ i q0 : Nat, v = .int .i64 i ∧ k ≤ i ∧ i ≤ k + 1 ∧ w2 = w1.drewN q0 ∧ (k < i → dd = x)) (fun v _ => k + 1 - (intOf v).toNat)
          case atStart => exact ⟨k, 0, rfl, by omega, by omega, rfl, fun h => by omega⟩
          case round =>
            obtain ⟨i, q0, rfl, hi1, hi2, rfl, hall⟩ := hrel
            by_cases hik : i = k
            · subst hik
              clear hall
              have hin : ((i : Int) < (i : Int) + 1) := by omega
              by_cases hne : x = dd
              · subst hne
                go_upto_region 16 with (fail)
                go_quiet (fail)
                go_upto_region 18 with (fail)
                generalize nq = nq1 at *
                go_quiet (fail)
                go_wp2
                go_roundw
                case rel => exact ⟨i + 1, q0 + nq1 + nq, by go_num, by omega, by omega, by simp [Nat.add_assoc], by simp⟩
                case measure => simp [intOf]
              · have e := Hno.out (fitT_no fun h => by have := h.2.2; rw [if_pos rfl, Hxx.out] at this; exact hne this)
                have E := hid e
                clear e
                go_upto_region 16 with (fail)
                go_quiet (fail)
                go_wp2
                go_ret
                exact ⟨by rw [E.out]; rfl, below_drewN (below_drewN Hal1.out q0) nq⟩
            · have hi : i = k + 1 := by omega
              subst hi
              have hdx := hall (by omega)
              have e := Hyes.out 1 (fitT_iff.2 ⟨Hg.out, by rw [← Hn.out]; omega, by rw [if_pos rfl]; exact Hxx.out.trans hdx.symm⟩) Hn.out.symm
              have E := hid e
              have hin : ¬ (((k + 1 : Nat) : Int) < (k : Int) + 1) := by omega
              clear e hall hik hdx
              go_wp2
              go_roundw
              case rel => exact ⟨j + 1, k + 1, by omega, by omega, by go_num, by go_num, E.out, below_drewN Hal1.out q0⟩
              case measure => simp [intOf]; omega
        obtain ⟨D, rfl⟩ : ∃ D : Nat, dd = (D : Int) := ⟨dd.toNat, by omega⟩
        have han : a = (n : Int) := by rw [if_pos (by omega)] at hnc; omega
        subst han
        have hn3 : 3 ≤ n ∧ n ≤ 258 ∧ 1 ≤ D ∧ D ≤ 32768 := by omega
        have hz2 : 0 < (n : Int) := by omega
        have hz4 : 0 < n := by omega
        have hz5 : decide (0 < n) = true := decide_eq_true hz4
        clear hnc htg
        by_cases hfar : text.length < k + n
        · have e := Hno.out (fitT_no fun h => by have := h.2.1; rw [← Hn.out] at this; omega)
          have E := hid e
          clear e
          go_wp2
          go_ret
          exact ⟨by rw [E.out]; rfl, Hal1.out⟩
        go_wp2
        go_loopw [9] (fun v w2 => ∃ i q0 : Nat, v = .int .i64 i ∧ k ≤ i ∧ i ≤ k + n ∧ w2 = w1.drewN q0 ∧ ∀ q, k ≤ q → q < i → farB text D q = true) (fun v _ => k + n - (intOf v).toNat)
        case atStart => exact ⟨k, 0, rfl, by omega, by omega, rfl, fun q h1 h2 => by omega⟩
        case round =>
          obtain ⟨i, q0, rfl, hi1, hi2, rfl, hall⟩ := hrel
          have Hall := hid hall
          clear hall
          by_cases hlt2 : i < k + n
          · have hin : ((i : Int) < (k : Int) + (n : Int)) := by omega
            by_cases hD : D ≤ i
            · obtain ⟨bt, ot, rfl, hbt, p0⟩ := byte_at HrdT.out (show i < text.length by omega)
              obtain ⟨bt2, ot2, hA2, _, p1⟩ := byte_at HrdT.out (show i - D < text.length by omega)
              obtain ⟨rfl, rfl⟩ : bt = bt2 ∧ ot = ot2 := by simpa using hA2
              have hfq : farB text D i = (text.getD i 0 == text.getD (i - D) 0) := by
                unfold farB
                rw [decide_eq_false (by omega), Bool.false_or, Int.toNat_natCast]
              have hDi : (D : Int) ≤ (i : Int) := by omega
              have HFq := hid hfq
              clear hA2 hfq
              generalize text.getD i 0 = x at *
              generalize text.getD (i - D) 0 = y at *
              by_cases hxy : x = y
              · subst hxy
                go_upto_region 16 with (fail)
                go_quiet (fail)
                go_upto_region 18 with (fail)
                generalize nq = nq1 at *
                go_quiet (fail)
                go_wp2
                go_roundw
                case rel =>
                  refine ⟨i + 1, q0 + nq1 + nq, by go_num, by omega, by omega, by simp [Nat.add_assoc], fun q h1 h2 => ?_⟩
                  by_cases hq : q = i
                  · subst hq; rw [HFq.out]; exact beq_self_eq_true _
                  · exact Hall.out q h1 (by omega)
                case measure => simp [intOf]; omega
              · have e := Hno.out (fitT_no fun h => by
                  have h2 := h.2.2
                  rw [if_neg hz] at h2
                  have := h2 (i - k) (by rw [← Hn.out]; omega)
                  rw [show k + (i - k) = i by omega, HFq.out] at this
                  exact hxy (beq_iff_eq.1 this))
                have E := hid e
                clear e
                go_upto_region 16 with (fail)
                go_quiet (fail)
                go_upto_region 18 with (fail)
                generalize nq = nq1 at *
                go_quiet (fail)
                go_wp2
                go_ret
                exact ⟨by rw [E.out]; rfl, below_drewN (below_drewN (below_drewN Hal1.out q0) nq1) nq⟩
            · have hDi : ¬ 0 ≤ (i : Int) - (D : Int) := by omega
              have hDi2 : ¬ (D : Int) ≤ (i : Int) := by omega
              have hfq : farB text D i = true := by unfold farB; rw [decide_eq_true (by omega), Bool.true_or]
              have HFq := hid hfq
              clear hfq
              go_upto_region 16 with (fail)
              go_quiet (fail)
              go_upto_region 18 with (fail)
              generalize nq = nq1 at *
              go_quiet (fail)
              go_wp2
              go_roundw
              case rel =>
                refine ⟨i + 1, q0 + nq1 + nq, by go_num, by omega, by omega, by simp [Nat.add_assoc], fun q h1 h2 => ?_⟩
                by_cases hq : q = i
                · subst hq; exact HFq.out
                · exact Hall.out q h1 (by omega)
              case measure => simp [intOf]; omega
          · have hin : ¬ ((i : Int) < (k : Int) + (n : Int)) := by omega
            have e := Hyes.out n (fitT_iff.2 ⟨Hg.out, by rw [← Hn.out]; omega, by rw [if_neg hz]; exact fun q hq => Hall.out (k + q) (by omega) (by rw [← Hn.out] at hq; omega)⟩) Hn.out.symm
            have E := hid e
            clear e
            go_wp2
            go_roundw
            case rel => exact ⟨j + 1, k + n, by omega, by omega, by go_num, by go_num, E.out, below_drewN Hal1.out q0⟩
            case measure => simp [intOf]; omega
    · have e : j = l.length := by omega
      subst e
      have e : fitM text 0 l = (k == text.length) := by rw [Hf.out, List.drop_length, fitM]
      have E := hid e
      clear e
      go_wp2
      go_ret
      exact ⟨by rw [E.out, ← beq_cast]; rfl, hb⟩

set_option maxRecDepth 100000 in
set_option maxHeartbeats 8000000 in
theorem check10_any (A B : Option Addr) (c d : Nat) (kind : Int) (l : List (Int × Int)) (text : List Int) (W : World) (hr : Rd W W.heap.size 2 A l.length (l.flatMap encTok)) (ht : Rd W W.heap.size 1 B text.length (bytesV text)) (hm : l.length ≤ 1000000) (hm2 : text.length ≤ 1000000) (hok : ∀ t ∈ l, okTok t) (hB : ∀ x ∈ text, isB x) (g : Bool) (hg : blkGood kind l text = g) :
    Calls Try.prog 26 #[.agg #[.int .i64 kind, .slice A l.length c, .slice B text.length d]] W fun e w' => e = .returned (match (generalizing := false) g with | true => .nilIface | false => .iface 40 (.int .i64 6)) ∧ Below W.heap.size W w' := by
  have hal : Below W.heap.size W (W.alloc (.cells #[.int .i64 kind, .slice A l.length c, .slice B text.length d] 28)) := (Below.refl _ _).alloc (Nat.le_refl _) _
  have hcall := sound10_any A B c d l text (W.alloc (.cells #[.int .i64 kind, .slice A l.length c, .slice B text.length d] 28)) ((hr.below hal (Nat.le_refl _)).more hal.size) ((ht.below hal (Nat.le_refl _)).more hal.size) hm hm2 hok hB
  have Hal := hid hal
  have Hc := hid hcall
  have hmm : (text.length : Int) ≤ 1000000 := by omega
  have z0 := (Blk.new W 28 #[.int .i64 kind, .slice A l.length c, .slice B text.length d]).cell 0
  have z2 := (Blk.new W 28 #[.int .i64 kind, .slice A l.length c, .slice B text.length d]).cell 2
  have z3 := (Blk.new W 28 #[.int .i64 kind, .slice A l.length c, .slice B text.length d]).lt
  simp only [List.getElem?_toArray, List.getElem?_cons_zero, List.getElem?_cons_succ] at z0 z2
  have Zb := hid (Blk.new W 28 #[.int .i64 kind, .slice A l.length c, .slice B text.length d])
  unfold blkGood at hg
  clear hr ht hok hB hal hcall
  go_enter Try.func26, Try.ntmps26
  by_cases h1 : kind < 0
  · have e : g = false := by rw [← hg, decide_eq_false (by omega), Bool.false_and]
    subst e
    clear hg
    go_wp2_with fail
    go_ret
    exact ⟨rfl, Hal.out⟩
  by_cases h2 : 2 < kind
  · have e : g = false := by rw [← hg, decide_eq_false (by omega), Bool.false_and]
    subst e
    clear hg
    go_wp2_with fail
    go_ret
    exact ⟨rfl, Hal.out⟩
  have e : g = (fitM text 0 l && decide (kind = 0 → text.length ≤ 65535)) := by rw [← hg, decide_eq_true (by omega), Bool.true_and]
  have E := hid e
  clear e hg
  cases hf : fitM text 0 l with
  | false =>
    have e : g = false := by rw [E.out, hf, Bool.false_and]
    subst e
    rw [hf] at Hc
    have hc := Hc.out
    clear hf
    go_wp2_with fail
    refine hc.mono ?_
    rintro e w1 ⟨rfl, hb1⟩
    go_wp2_with fail
    go_ret
    exact ⟨rfl, Hal.out.trans (hb1.mono Hal.out.size)⟩
  | true =>
    rw [hf] at Hc
    have hc := Hc.out
    have E2 := hid (show g = decide (kind = 0 → text.length ≤ 65535) by rw [E.out, hf, Bool.true_and])
    clear hf E
    by_cases hk0 : kind = 0
    · subst hk0
      by_cases hbig : 65535 < text.length
      · have e : g = false := by rw [E2.out]; exact decide_eq_false fun h => by have := h rfl; omega
        subst e
        go_wp2_with fail
        refine hc.mono ?_
        rintro e w1 ⟨rfl, hb1⟩
        have q0 := (Zb.out.below hb1 Zb.out.lt).cell 0
        have q2 := (Zb.out.below hb1 Zb.out.lt).cell 2
        simp only [List.getElem?_toArray, List.getElem?_cons_zero, List.getElem?_cons_succ] at q0 q2
        have g2 := hb1.size
        go_wp2_with fail
        go_ret
        exact ⟨rfl, Hal.out.trans (hb1.mono Hal.out.size)⟩
      · have e : g = true := by rw [E2.out]; exact decide_eq_true fun _ => by omega
        subst e
        go_wp2_with fail
        refine hc.mono ?_
        rintro e w1 ⟨rfl, hb1⟩
        have q0 := (Zb.out.below hb1 Zb.out.lt).cell 0
        have q2 := (Zb.out.below hb1 Zb.out.lt).cell 2
        simp only [List.getElem?_toArray, List.getElem?_cons_zero, List.getElem?_cons_succ] at q0 q2
        have g2 := hb1.size
        go_wp2_with fail
        go_ret
        exact ⟨rfl, Hal.out.trans (hb1.mono Hal.out.size)⟩
    · have e : g = true := by rw [E2.out]; exact decide_eq_true fun h => absurd h hk0
      subst e
      go_wp2_with fail
      refine hc.mono ?_
      rintro e w1 ⟨rfl, hb1⟩
      have q0 := (Zb.out.below hb1 Zb.out.lt).cell 0
      have q2 := (Zb.out.below hb1 Zb.out.lt).cell 2
      simp only [List.getElem?_toArray, List.getElem?_cons_zero, List.getElem?_cons_succ] at q0 q2
      have g2 := hb1.size
      go_wp2_with fail
      go_ret
      exact ⟨rfl, Hal.out.trans (hb1.mono Hal.out.size)⟩
end Go.Proofs.Ythhllollhjpheaa
