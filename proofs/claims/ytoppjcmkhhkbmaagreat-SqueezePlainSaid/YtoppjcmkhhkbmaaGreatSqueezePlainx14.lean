/-
  block.sound, block.check and the reference's Fits: which tokens come to a text.
  The reference's Fits; block.check.
  block: the pen (a writer and the first error), symbols written.
  canon.Book.Write: a symbol's code is written; the pen's symbol, book.
  The pen writes a text as it is, and tokens.
-/
import Derived.Test.YtoppjcmkhhkbmaaGreatSqueezePlainx4
import Derived.Test.YtoppjcmkhhkbmaaGreatSqueezePlainx7
import Derived.Test.YtoppjcmkhhkbmaaGreatSqueezePlainx9
import Derived.Test.YtoppjcmkhhkbmaaGreatSqueezePlainx10
import Derived.Test.YtoppjcmkhhkbmaaGreatSqueezePlainx13
import Derived.BigQuiet
import Derived.Deep.DeepCutAuto
import Derived.Deep.CutRange
namespace Go.Proofs.YtoppjcmkhhkbmaaGreat
open Go.RowKit

theorem fit_step {text : List Int} {l : List (Int × Int)} {j k : Nat} (hj : j < l.length) : fitM text k (l.drop j) = (fitT text k l[j] && fitM text (k + tln l[j]) (l.drop (j + 1))) := by
  rw [List.drop_eq_getElem_cons hj, fitM]
theorem fit_no {text : List Int} {l : List (Int × Int)} {j k : Nat} {t : Int × Int} (hj : j < l.length) (ht : l[j] = t) (h : fitT text k t = false) : fitM text k (l.drop j) = false := by
  rw [fit_step hj, ht, h, Bool.false_and]
theorem fit_yes {text : List Int} {l : List (Int × Int)} {j k n : Nat} {t : Int × Int} (hj : j < l.length) (ht : l[j] = t) (h : fitT text k t = true) (hn : tln t = n) : fitM text k (l.drop j) = fitM text (k + n) (l.drop (j + 1)) := by
  rw [fit_step hj, ht, h, hn, Bool.true_and]
theorem fitT_iff {text : List Int} {k : Nat} {t : Int × Int} : fitT text k t = true ↔ tgood t = true ∧ k + tln t ≤ text.length ∧ (if t.1 = 0 then text.getD k 0 = t.2 else ∀ i, i < tln t → farB text t.2 (k + i) = true) := by
  unfold fitT
  rw [Bool.and_eq_true, Bool.and_eq_true, decide_eq_true_iff]
  split
  · rw [beq_iff_eq]
  · rw [List.all_eq_true]
    simp only [List.mem_range]
theorem fitT_no {text : List Int} {k : Nat} {t : Int × Int} (h : ¬ (tgood t = true ∧ k + tln t ≤ text.length ∧ (if t.1 = 0 then text.getD k 0 = t.2 else ∀ i, i < tln t → farB text t.2 (k + i) = true))) : fitT text k t = false := by
  cases h1 : fitT text k t with
  | false => rfl
  | true => exact absurd (fitT_iff.1 h1) h
theorem tln_cases (a b : Int) : ((tln (a, b) : Nat) : Int) = if 0 < a then a else 1 := by rw [tln_eq]; rfl
theorem okTok_bd {t : Int × Int} (h : okTok t) : -9223372036854775808 ≤ t.1 ∧ t.1 ≤ 9223372036854775807 ∧ -9223372036854775808 ≤ t.2 ∧ t.2 ≤ 9223372036854775807 := by
  obtain ⟨h1, h2⟩ := h
  simp [Lit.wf, IntKind.min, IntKind.max, IntKind.signed, IntKind.bits] at h1 h2
  omega
theorem one_of {n : Nat} (h : (n : Int) = if (0 : Int) < 0 then 0 else 1) : n = 1 := by
  rw [if_neg (by omega)] at h
  omega
theorem beq_cast (a b : Nat) : ((a : Int) == (b : Int)) = (a == b) := by
  by_cases h : a = b
  · rw [h, beq_self_eq_true, beq_self_eq_true]
  · rw [beq_eq_false_iff_ne.2 h, beq_eq_false_iff_ne.2 (by omega)]
theorem text_isB {text : List Int} (h : ∀ x ∈ text, isB x) (k : Nat) : isB (text.getD k 0) := getD_isB h k

set_option maxRecDepth 100000 in
set_option maxHeartbeats 8000000 in
theorem sound10_any (A B : Option Addr) (c d : Nat) (l : List (Int × Int)) (text : List Int) (W : World) (hr : Rd W W.heap.size 2 A l.length (l.flatMap encTok)) (ht : Rd W W.heap.size 1 B text.length (bytesV text)) (hm : l.length ≤ 1000000) (hm2 : text.length ≤ 1000000) (hok : ∀ t ∈ l, okTok t) (hB : ∀ x ∈ text, isB x) :
    Calls Tryz.prog 55 #[.slice A l.length c, .slice B text.length d] W fun e w' => e = .returned (.bool (fitM text 0 l)) ∧ Below W.heap.size W w' := by
  have Hr := hid hr
  have Ht := hid ht
  have Hok := hid hok
  have HB := hid hB
  clear hr ht hok hB
  go_enter Tryz.func55, Tryz.ntmps55
  go_wp2
  go_loopw [5, 12] (fun kv i wr => ∃ (j k : Nat), j ≤ l.length ∧ k ≤ text.length ∧ i = .int .i64 j ∧ kv = .int .i64 k ∧ fitM text 0 l = fitM text k (l.drop j) ∧ Below W.heap.size W wr) (fun _ i _ => l.length - (intOf i).toNat)
  case atStart => exact ⟨0, 0, by omega, by omega, rfl, rfl, rfl, Below.refl _ _⟩
  case round =>
    obtain ⟨j, k, hj, hk, rfl, rfl, hf, hb⟩ := hrel
    have Hf := hid hf
    clear hf
    by_cases hlt : j < l.length
    · obtain ⟨b, off, rfl, hbb, h0, h1⟩ := tok_at (Hr.out.below hb (Nat.le_refl _)) hlt
      obtain ⟨t, htj⟩ : ∃ t, l[j] = t := ⟨_, rfl⟩
      have Htj := hid htj
      have hto := Hok.out _ (List.getElem_mem hlt)
      rw [htj] at h0 h1 hto
      obtain ⟨a, dd⟩ := t
      have Hno := hid (fun h => Hf.out.trans (fit_no (k := k) hlt Htj.out h))
      have Hyes := hid (fun n h hn => Hf.out.trans (fit_yes (k := k) (n := n) hlt Htj.out h hn))
      have ha := okTok_bd hto
      obtain ⟨ha1, ha2, hd1, hd2⟩ := ha
      simp only at ha1 ha2 hd1 hd2 h0 h1
      clear hto htj
      obtain ⟨n, hn⟩ : ∃ n, n = tln (a, dd) := ⟨_, rfl⟩
      have hnc := tln_cases a dd
      rw [← hn] at hnc
      have Hn := hid hn
      clear hn
      have hmx : (if a < 1 then (1 : Int) else a) = (n : Int) := by rw [hnc]; (repeat' split) <;> omega
      have hn1 : 1 ≤ n := by split at hnc <;> omega
      have Hnc := hid hnc
      have hal := hid (Below.alloc hb hb.size (.cells #[.int .i64 a, .int .i64 dd] 54))
      have g0 := hb.size
      have hrdT := (Ht.out.below hal.out (Nat.le_refl _))
      have HrdT := hid hrdT
      clear hnc hrdT
      go_upto_region 6 with (fail)
      clear hmx
      by_cases hfar : text.length - k < n
      · have e := Hno.out (fitT_no fun h => by have := h.2.1; rw [← Hn.out] at this; omega)
        go_wp2
        go_ret
        exact ⟨by rw [e]; rfl, hal.out⟩
      by_cases hz : a = 0
      · subst hz
        have hn' : n = 1 := one_of Hnc.out
        subst hn'
        obtain ⟨bt, ot, rfl, hbt, p0⟩ := byte_at HrdT.out (show k < text.length by omega)
        have hx := text_isB HB.out k
        generalize hxx : text.getD k 0 = x at *
        have Hxx := hid hxx
        unfold isB at hx
        clear hxx
        by_cases hne : dd = x
        · subst hne
          have e := Hyes.out 1 (fitT_iff.2 ⟨tgood_true.2 (.inl ⟨rfl, hx.1, hx.2⟩), by rw [← Hn.out]; omega, by rw [if_pos rfl]; exact Hxx.out⟩) Hn.out.symm
          have E := hid e
          clear e
          go_upto_region 9 with (fail)
          go_quiet (fail)
          go_wp2
          go_loop [9] (fun v => v = .int .i64 k) (fun _ => 0)
          case atStart => rfl
          case round =>
            obtain rfl := hrel
            go_wp2
            go_roundw
            case rel => exact ⟨j + 1, k + 1, by omega, by omega, by go_num, by go_num, E.out, below_drewN hal.out nq⟩
            case measure => simp [intOf]; omega
        · have e := Hno.out (fitT_no fun h => by have := h.2.2; rw [if_pos rfl, Hxx.out] at this; exact hne this.symm)
          go_upto_region 9 with (fail)
          go_quiet (fail)
          go_wp2
          go_ret
          exact ⟨by rw [e]; rfl, below_drewN hal.out nq⟩
      by_cases hform : a < 3 ∨ 258 < a ∨ dd < 1 ∨ 32768 < dd
      · have e := Hno.out (fitT_no fun h => by have := tgood_true.1 h.1; simp only at this; omega)
        have E := hid e
        clear e
        rcases (show a < 3 ∨ (¬ a < 3 ∧ 258 < a) ∨ (¬ a < 3 ∧ ¬ 258 < a ∧ dd < 1) ∨ (¬ a < 3 ∧ ¬ 258 < a ∧ ¬ dd < 1 ∧ 32768 < dd) by omega) with g | ⟨g1, g2⟩ | ⟨g1, g2, g3⟩ | ⟨g1, g2, g3, g4⟩
        all_goals
          clear hform
          go_wp2
          go_ret
          exact ⟨by rw [E.out]; rfl, hal.out⟩
      have hg : tgood (a, dd) = true := tgood_true.2 (.inr (by simp only; omega))
      have Hg := hid hg
      obtain ⟨D, rfl⟩ : ∃ D : Nat, dd = (D : Int) := ⟨dd.toNat, by omega⟩
      have han : a = (n : Int) := by have := Hnc.out; rw [if_pos (by omega)] at this; omega
      subst han
      have g3 : ¬ (n : Int) < 3 := by omega
      have g4 : ¬ 258 < (n : Int) := by omega
      have g5 : ¬ (D : Int) < 1 := by omega
      have g6 : ¬ 32768 < (D : Int) := by omega
      clear hg hform
      go_wp2
      have Z0 : (wr.alloc (.cells #[.int .i64 (n : Int), .int .i64 (D : Int)] 54)).cell? ⟨wr.heap.size, 0, none⟩ = some (.int .i64 (n : Int)) := (Blk.new wr _ _).cell 0
      have Z1 : (wr.alloc (.cells #[.int .i64 (n : Int), .int .i64 (D : Int)] 54)).cell? ⟨wr.heap.size, 1, none⟩ = some (.int .i64 (D : Int)) := (Blk.new wr _ _).cell 1
      have hz3 : wr.heap.size < (wr.alloc (.cells #[.int .i64 (n : Int), .int .i64 (D : Int)] 54)).heap.size := (Blk.new wr _ _).lt
      generalize wr.alloc (.cells #[.int .i64 (n : Int), .int .i64 (D : Int)] 54) = wz at *
      generalize wr.heap.size = gz at *
      go_loopw [9] (fun v w2 => ∃ i q0 : Nat, v = .int .i64 i ∧ k ≤ i ∧ i ≤ k + n ∧ w2 = wz.drewN q0 ∧ ∀ q, k ≤ q → q < i → farB text D q = true) (fun v _ => k + n - (intOf v).toNat)
      case atStart => exact ⟨k, 0, rfl, by omega, by omega, rfl, fun q h1 h2 => by omega⟩
      case round =>
        obtain ⟨i, q0, rfl, hi1, hi2, rfl, hall⟩ := hrel
        have Hall := hid hall
        clear hall
        by_cases hlt2 : i < k + n
        · have hin : ((i : Int) < (k : Int) + (n : Int)) := by omega
          by_cases hD : D ≤ i
          · obtain ⟨bt, ot, rfl, hbt, p0⟩ := byte_at HrdT.out (show i < text.length by omega)
            obtain ⟨bt2, ot2, hA2, _, p1⟩ := byte_at HrdT.out (show i - D < text.length by omega)
            obtain ⟨rfl, rfl⟩ : bt = bt2 ∧ ot = ot2 := by simpa using hA2
            have hfq : farB text D i = (text.getD i 0 == text.getD (i - D) 0) := by
              unfold farB
              rw [decide_eq_false (by omega), Bool.false_or, Int.toNat_natCast]
            have hDi : (D : Int) ≤ (i : Int) := by omega
            have HFq := hid hfq
            clear hA2 hfq
            generalize text.getD i 0 = x at *
            generalize text.getD (i - D) 0 = y at *
            by_cases hxy : x = y
            · subst hxy
              go_upto_region 16 with (fail)
              go_quiet (fail)
              go_wp2
              go_roundw
              case rel =>
                refine ⟨i + 1, q0 + nq, by go_num, by omega, by omega, by simp, fun q h1 h2 => ?_⟩
                by_cases hq : q = i
                · subst hq; rw [HFq.out]; exact beq_self_eq_true _
                · exact Hall.out q h1 (by omega)
              case measure => simp [intOf]; omega
            · have e := Hno.out (fitT_no fun h => by
                have h2 := h.2.2
                rw [if_neg hz] at h2
                have := h2 (i - k) (by rw [← Hn.out]; omega)
                rw [show k + (i - k) = i by omega, HFq.out] at this
                exact hxy (beq_iff_eq.1 this))
              go_upto_region 16 with (fail)
              go_quiet (fail)
              go_wp2
              go_ret
              exact ⟨by rw [e]; rfl, below_drewN (below_drewN hal.out q0) nq⟩
          · have hDi : ¬ (D : Int) ≤ (i : Int) := by omega
            have hfq : farB text D i = true := by unfold farB; rw [decide_eq_true (by omega), Bool.true_or]
            have HFq := hid hfq
            clear hfq
            go_upto_region 16 with (fail)
            go_quiet (fail)
            go_wp2
            go_roundw
            case rel =>
              refine ⟨i + 1, q0 + nq, by go_num, by omega, by omega, by simp, fun q h1 h2 => ?_⟩
              by_cases hq : q = i
              · subst hq; exact HFq.out
              · exact Hall.out q h1 (by omega)
            case measure => simp [intOf]; omega
        · have hin : ¬ ((i : Int) < (k : Int) + (n : Int)) := by omega
          have e := Hyes.out n (fitT_iff.2 ⟨Hg.out, by rw [← Hn.out]; omega, by rw [if_neg hz]; exact fun q hq => Hall.out (k + q) (by omega) (by rw [← Hn.out] at hq; omega)⟩) Hn.out.symm
          have E := hid e
          clear e
          go_wp2
          go_roundw
          case rel => exact ⟨j + 1, k + n, by omega, by omega, by go_num, by go_num, E.out, below_drewN hal.out q0⟩
          case measure => simp [intOf]; omega
    · have e : j = l.length := by omega
      subst e
      have e : fitM text 0 l = (k == text.length) := by rw [Hf.out, List.drop_length, fitM]
      have E := hid e
      clear e
      go_wp2
      go_ret
      exact ⟨by rw [E.out, ← beq_cast]; rfl, hb⟩
end Go.Proofs.YtoppjcmkhhkbmaaGreat

namespace Go.Proofs.YtoppjcmkhhkbmaaGreat
open Go.RowKit
set_option maxRecDepth 100000 in
set_option maxHeartbeats 8000000 in
theorem check10_any (A B : Option Addr) (c d : Nat) (kind : Int) (l : List (Int × Int)) (text : List Int) (W : World) (hr : Rd W W.heap.size 2 A l.length (l.flatMap encTok)) (ht : Rd W W.heap.size 1 B text.length (bytesV text)) (hm : l.length ≤ 1000000) (hm2 : text.length ≤ 1000000) (hok : ∀ t ∈ l, okTok t) (hB : ∀ x ∈ text, isB x) (g : Bool) (hg : blkGood kind l text = g) :
    Calls Tryz.prog 58 #[.agg #[.int .i64 kind, .slice A l.length c, .slice B text.length d]] W fun e w' => e = .returned (match (generalizing := false) g with | true => .nilIface | false => .iface 35 (.int .i64 6)) ∧ Below W.heap.size W w' := by
  have hal : Below W.heap.size W (W.alloc (.cells #[.int .i64 kind, .slice A l.length c, .slice B text.length d] 48)) := (Below.refl _ _).alloc (Nat.le_refl _) _
  have hcall := sound10_any A B c d l text (W.alloc (.cells #[.int .i64 kind, .slice A l.length c, .slice B text.length d] 48)) ((hr.below hal (Nat.le_refl _)).more hal.size) ((ht.below hal (Nat.le_refl _)).more hal.size) hm hm2 hok hB
  have Hal := hid hal
  have Hc := hid hcall
  have hmm : (text.length : Int) ≤ 1000000 := by omega
  have z0 := (Blk.new W 48 #[.int .i64 kind, .slice A l.length c, .slice B text.length d]).cell 0
  have z2 := (Blk.new W 48 #[.int .i64 kind, .slice A l.length c, .slice B text.length d]).cell 2
  have z3 := (Blk.new W 48 #[.int .i64 kind, .slice A l.length c, .slice B text.length d]).lt
  simp only [List.getElem?_toArray, List.getElem?_cons_zero, List.getElem?_cons_succ] at z0 z2
  have Zb := hid (Blk.new W 48 #[.int .i64 kind, .slice A l.length c, .slice B text.length d])
  unfold blkGood at hg
  clear hr ht hok hB hal hcall
  go_enter Tryz.func58, Tryz.ntmps58
  by_cases h1 : kind < 0
  · have e : g = false := by rw [← hg, decide_eq_false (by omega), Bool.false_and]
    subst e
    clear hg
    go_wp2_with fail
    go_ret
    exact ⟨rfl, Hal.out⟩
  by_cases h2 : 2 < kind
  · have e : g = false := by rw [← hg, decide_eq_false (by omega), Bool.false_and]
    subst e
    clear hg
    go_wp2_with fail
    go_ret
    exact ⟨rfl, Hal.out⟩
  have e : g = (fitM text 0 l && decide (kind = 0 → text.length ≤ 65535)) := by rw [← hg, decide_eq_true (by omega), Bool.true_and]
  have E := hid e
  clear e hg
  cases hf : fitM text 0 l with
  | false =>
    have e : g = false := by rw [E.out, hf, Bool.false_and]
    subst e
    rw [hf] at Hc
    have hc := Hc.out
    clear hf
    go_wp2_with fail
    refine hc.mono ?_
    rintro e w1 ⟨rfl, hb1⟩
    go_wp2_with fail
    go_ret
    exact ⟨rfl, Hal.out.trans (hb1.mono Hal.out.size)⟩
  | true =>
    rw [hf] at Hc
    have hc := Hc.out
    have E2 := hid (show g = decide (kind = 0 → text.length ≤ 65535) by rw [E.out, hf, Bool.true_and])
    clear hf E
    by_cases hk0 : kind = 0
    · subst hk0
      by_cases hbig : 65535 < text.length
      · have e : g = false := by rw [E2.out]; exact decide_eq_false fun h => by have := h rfl; omega
        subst e
        go_wp2_with fail
        refine hc.mono ?_
        rintro e w1 ⟨rfl, hb1⟩
        have q0 := (Zb.out.below hb1 Zb.out.lt).cell 0
        have q2 := (Zb.out.below hb1 Zb.out.lt).cell 2
        simp only [List.getElem?_toArray, List.getElem?_cons_zero, List.getElem?_cons_succ] at q0 q2
        have g2 := hb1.size
        go_wp2_with fail
        go_ret
        exact ⟨rfl, Hal.out.trans (hb1.mono Hal.out.size)⟩
      · have e : g = true := by rw [E2.out]; exact decide_eq_true fun _ => by omega
        subst e
        go_wp2_with fail
        refine hc.mono ?_
        rintro e w1 ⟨rfl, hb1⟩
        have q0 := (Zb.out.below hb1 Zb.out.lt).cell 0
        have q2 := (Zb.out.below hb1 Zb.out.lt).cell 2
        simp only [List.getElem?_toArray, List.getElem?_cons_zero, List.getElem?_cons_succ] at q0 q2
        have g2 := hb1.size
        go_wp2_with fail
        go_ret
        exact ⟨rfl, Hal.out.trans (hb1.mono Hal.out.size)⟩
    · have e : g = true := by rw [E2.out]; exact decide_eq_true fun h => absurd h hk0
      subst e
      go_wp2_with fail
      refine hc.mono ?_
      rintro e w1 ⟨rfl, hb1⟩
      have q0 := (Zb.out.below hb1 Zb.out.lt).cell 0
      have q2 := (Zb.out.below hb1 Zb.out.lt).cell 2
      simp only [List.getElem?_toArray, List.getElem?_cons_zero, List.getElem?_cons_succ] at q0 q2
      have g2 := hb1.size
      go_wp2_with fail
      go_ret
      exact ⟨rfl, Hal.out.trans (hb1.mono Hal.out.size)⟩
end Go.Proofs.YtoppjcmkhhkbmaaGreat

namespace Go.Proofs.YtoppjcmkhhkbmaaGreat
open Go.RowKit Cd

/-- a row whose block's type is known -/
def TRow (w : World) (t : TypeId) (A : Option Addr) (xs : List Value) : Prop := xs = [] ∨ ∃ b off cs, A = some ⟨b, off, none⟩ ∧ Blk w b t cs ∧ ∀ j u, xs[j]? = some u → cs[off + j]? = some u
theorem TRow.rd {w : World} {t : TypeId} {A : Option Addr} {xs : List Value} (h : TRow w t A xs) {size n : Nat} (hl : xs.length = n * size) : Rd w w.heap.size size A n xs := by
  refine ⟨hl, fun hp => ?_⟩
  rcases h with h | ⟨b, off, cs, hA, hb, hc⟩
  · rw [h] at hp; exact absurd hp (Nat.lt_irrefl 0)
  · exact ⟨b, off, hA, hb.lt, fun j u hu => (hb.cell (off + j)).trans (hc j u hu)⟩
theorem TRow.below {w w' : World} {t : TypeId} {A : Option Addr} {xs : List Value} (h : TRow w t A xs) (hb : Below w.heap.size w w') : TRow w' t A xs := by
  rcases h with h | ⟨b, off, cs, hA, hB, hc⟩
  · exact .inl h
  · exact .inr ⟨b, off, cs, hA, hB.below hb hB.lt, hc⟩
theorem TRow.own {w : World} {base size n c : Nat} {t : TypeId} {A : Option Addr} {xs : List Value} (h : w.ownsRow base t size (.slice A n c) n xs) : TRow w t A xs := by
  have h1 := h.1
  rcases h.2 with ⟨h2, h3⟩ | ⟨g, cap, cur, h2, h3, h4, h5, h6, h7, h8⟩
  · left
    rw [h3, Nat.zero_mul] at h1
    exact List.eq_nil_of_length_eq_zero h1
  · right
    injection h2 with h2 _ _
    refine ⟨g, 0, cur, h2, h4, fun j u hu => ?_⟩
    rw [Nat.zero_add]
    rw [← h8] at hu
    rw [List.getElem?_take] at hu
    split at hu
    · rw [← Array.getElem?_toList]; exact hu
    · cases hu
/-- the pen, its writer, the writer's bytes may have turned; no more -/
structure TwP (gp g : Nat) (A A' : Option Addr) (w w' : World) : Prop where
  os : w'.os = w.os
  tape : w'.tape = w.tape
  output : w'.output = w.output
  size : w.heap.size ≤ w'.heap.size
  same : ∀ k, k < w.heap.size → k ≠ gp → k ≠ g → (∀ a, A = some a → a.block ≠ k) → w'.heap[k]? = w.heap[k]?
  new : ∀ a', A' = some a' → (∃ a, A = some a ∧ a'.block = a.block) ∨ w.heap.size ≤ a'.block
section
variable {gp g base c : Nat} {A A1 A2 : Option Addr} {w w1 w2 : World} {L : List Int}
theorem TwP.refl (gp g : Nat) (A : Option Addr) (w : World) : TwP gp g A A w w := ⟨rfl, rfl, rfl, Nat.le_refl _, fun _ _ _ _ _ => rfl, fun a h => .inl ⟨a, h, rfl⟩⟩
theorem TwP.of_tw (h : Tw g A A1 w w1) : TwP gp g A A1 w w1 := ⟨h.os, h.tape, h.output, h.size, fun k h1 _ h3 h4 => h.same k h1 h3 h4, h.new⟩
theorem TwP.trans (h : TwP gp g A A1 w w1) (k : TwP gp g A1 A2 w1 w2) : TwP gp g A A2 w w2 := by
  refine ⟨k.os.trans h.os, k.tape.trans h.tape, k.output.trans h.output, Nat.le_trans h.size k.size, fun i hi hp hg ha => ?_, fun a ha => ?_⟩
  · refine (k.same i (Nat.lt_of_lt_of_le hi h.size) hp hg fun a e => ?_).trans (h.same i hi hp hg ha)
    rcases h.new a e with ⟨a0, e0, e1⟩ | e1
    · rw [e1]; exact ha a0 e0
    · omega
  · rcases k.new a ha with ⟨a0, e0, e1⟩ | e1
    · rcases h.new a0 e0 with ⟨a1, e2, e3⟩ | e2
      · exact .inl ⟨a1, e2, e1.trans e3⟩
      · exact .inr (by omega)
    · exact .inr (Nat.le_trans h.size e1)
theorem TwP.below (h : TwP gp g A A1 w w1) (hb : Below w1.heap.size w1 w2) : TwP gp g A A1 w w2 := h.trans (.of_tw (.of_below g A1 hb))
theorem TwP.pen (h : TwP gp g A A1 w w1) (i : Nat) (u : Value) : TwP gp g A A1 w (w1.setCell ⟨gp, i, none⟩ u) :=
  h.trans ⟨rfl, rfl, rfl, by simp [World.setCell], fun k _ hp _ _ => Below.heap_setCell w1 _ u k hp, fun a h => .inl ⟨a, h, rfl⟩⟩
theorem TwP.low (h : TwP gp g A A1 w w1) (hp : base ≤ gp) (hg : base ≤ g) (ha : ∀ a, A = some a → base ≤ a.block) (hs : base ≤ w.heap.size) : Below base w w1 :=
  ⟨h.os, h.tape, h.output, h.size, fun k hk => h.same k (by omega) (by omega) (by omega) (fun a e => by have := ha a e; omega)⟩
/-- the pen in memory, without an error -/
structure PenS (w : World) (gp g : Nat) (A : Option Addr) (c base : Nat) (L : List Int) : Prop where
  pen : Blk w gp 169 #[.pointer (some ⟨g, 0, none⟩), .nilIface]
  wr : WrS w g false A c base L
  bs : base ≤ w.heap.size
theorem blk_ne {w : World} {g h : Nat} {t u : TypeId} {cs ds : Array Value} (a : Blk w g t cs) (b : Blk w h u ds) (ht : t ≠ u) : g ≠ h := by
  intro e
  subst e
  have h2 := a.symm.trans b
  injection h2 with h2
  injection h2 with _ h3
  exact ht h3
theorem buf_ne {k : Nat} {t : TypeId} {cs : Array Value} (h : PenS w gp g A c base L) (hb : Blk w k t cs) (ht : t ≠ 5) : ∀ a, A = some a → a.block ≠ k := by
  intro a ha e
  have h3 := own_blk_ne h.wr.row hb (fun h => ht h.symm)
  rw [ha] at h3
  exact h3 (by rw [← e]; rfl)
/-- a block of another type stays -/
theorem TwP.blk {k : Nat} {t : TypeId} {cs : Array Value} (t1 : TwP gp g A A1 w w1) (h : PenS w gp g A c base L) (hb : Blk w k t cs) (n1 : t ≠ 169) (n2 : t ≠ 165) (n3 : t ≠ 5) : Blk w1 k t cs :=
  (t1.same k hb.lt (blk_ne hb h.pen n1) (blk_ne hb h.wr.blk n2) (buf_ne h hb n3)).trans hb
theorem TwP.row {t : TypeId} {X : Option Addr} {xs : List Value} (t1 : TwP gp g A A1 w w1) (h : PenS w gp g A c base L) (hr : TRow w t X xs) (n1 : t ≠ 169) (n2 : t ≠ 165) (n3 : t ≠ 5) : TRow w1 t X xs := by
  rcases hr with hr | ⟨b, off, cs, hA, hB, hc⟩
  · exact .inl hr
  · exact .inr ⟨b, off, cs, hA, t1.blk h hB n1 n2 n3, hc⟩
theorem PenS.below (h : PenS w gp g A c base L) (hb : Below w.heap.size w w1) : PenS w1 gp g A c base L := ⟨h.pen.below hb h.pen.lt, h.wr.below' hb, Nat.le_trans h.bs hb.size⟩
end
set_option maxRecDepth 100000 in
set_option maxHeartbeats 4000000 in
theorem penPut_any (gp g : Nat) (A : Option Addr) (c base : Nat) (L : List Int) (n : Int) (k : Nat) (n0 : 0 ≤ n) (n1 : n < 2 ^ k) (hk : k ≤ 32) (W : World) (h : PenS W gp g A c base L) (hm : L.length ≤ 90000000) :
    Calls Tryz.prog 106 #[.pointer (some ⟨gp, 0, none⟩), .int .i64 n, .int .i64 (k : Int)] W fun e w' => e = .returned (.tuple #[]) ∧ ∃ A' c', PenS w' gp g A' c' base (L ++ dgS false n k) ∧ TwP gp g A A' W w' := by
  have hput := putS_any false g A c base L n k n0 n1 hk W h.wr hm h.bs
  have H := hid h
  have q0 := h.pen.cell 0
  have q1 := h.pen.cell 1
  simp only [List.getElem?_toArray, List.getElem?_cons_zero, List.getElem?_cons_succ] at q0 q1
  have hgp := h.pen.lt
  clear h
  go_enter Tryz.func106, Tryz.ntmps106
  go_wp2_with fail
  refine hput.mono ?_
  rintro e w1 ⟨rfl, A', c', hW, hT⟩
  have P1 := hid (hT.other H.out.wr H.out.pen (by decide) (by decide))
  have r1 := P1.out.cell 1
  simp only [List.getElem?_toArray, List.getElem?_cons_zero, List.getElem?_cons_succ] at r1
  have hgp1 := P1.out.lt
  have fz := fun i => P1.out.frozen i
  have P2 := P1.out.set_ 1 .nilIface
  have W2 : WrS (w1.setCell ⟨gp, 1, none⟩ .nilIface) g false A' c' base (L ++ dgS false n k) := ⟨hW.blk.far (p := ⟨gp, 1, none⟩) (fun e => blk_ne P1.out hW.blk (by decide) e.symm) _, ownsRow_setCell_other hW.row (fun e => own_blk_ne hW.row P1.out (by decide) e.symm) _, hW.ok, hW.gb⟩
  have HP := hid (show PenS (w1.setCell ⟨gp, 1, none⟩ .nilIface) gp g A' c' base (L ++ dgS false n k) from ⟨P2, W2, by have := H.out.bs; have := hT.size; simp [World.setCell]; omega⟩)
  have HT := hid ((TwP.of_tw (gp := gp) hT).pen 1 .nilIface)
  clear P2 W2 hW hT hput q0 q1
  go_wp2
  go_end0
  exact ⟨rfl, A', c', HP.out, HT.out⟩
end Go.Proofs.YtoppjcmkhhkbmaaGreat

namespace Go.Proofs.YtoppjcmkhhkbmaaGreat
open Go.RowKit Cd

theorem TRow.tw {w w1 : World} {g base c : Nat} {A A1 : Option Addr} {L : List Int} {t : TypeId} {X : Option Addr} {xs : List Value} (t1 : Tw g A A1 w w1) (h : WrS w g false A c base L) (hr : TRow w t X xs) (n2 : t ≠ 165) (n3 : t ≠ 5) : TRow w1 t X xs := by
  rcases hr with hr | ⟨b, off, cs, hA, hB, hc⟩
  · exact .inl hr
  · exact .inr ⟨b, off, cs, hA, t1.other h hB n2 n3, hc⟩
theorem TRow.ints {w : World} {X : Option Addr} {l : List Int} {t : TypeId} (h : TRow w t X (intsV l)) : RdI w w.heap.size X l := by
  unfold RdI
  rw [intsV_eq]
  exact h.rd (by rw [intsV_length, Nat.mul_one])
/-- a book to be written with -/
structure BV where
  cs : Array Value
  LA : Option Addr
  Lc : Nat
  CA : Option Addr
  Cc : Nat
structure WB (w : World) (gb : Nat) (l : List Int) (b : BV) : Prop where
  blk : Blk w gb 261 b.cs
  c0 : b.cs[0]? = some (.slice b.LA l.length b.Lc)
  c1 : b.cs[1]? = some (.slice b.CA l.length b.Cc)
  rl : TRow w 3 b.LA (intsV l)
  rc : TRow w 3 b.CA (intsV (codesL l))
theorem codesL_len (l : List Int) : (codesL l).length = l.length := by unfold codesL; rw [asg_length, List.length_replicate]
theorem WB.of {w : World} {gb : Nat} {l : List Int} {b : BM} (h : BK w gb b) (hB : BookOf l b) : WB w gb l ⟨bookCs b, b.LA, b.Lc, b.CA, b.Cc⟩ := by
  have h0 := bookCs_at b 0 (by omega)
  have h1 := bookCs_at b 1 (by omega)
  have e0 : bookCell b 0 = .slice b.LA b.lens.length b.Lc := rfl
  have e1 : bookCell b 1 = .slice b.CA b.codes.length b.Cc := rfl
  rw [e0, hB.lens] at h0
  rw [e1, hB.codes, codesL_len] at h1
  have hl := h.len
  have hc := h.cod
  rw [hB.lens] at hl
  rw [hB.codes] at hc
  exact ⟨h.blk, h0, h1, TRow.own hl, TRow.own hc⟩
theorem WB.tw {w w1 : World} {g base c gb : Nat} {A A1 : Option Addr} {L l : List Int} {b : BV} (h : WB w gb l b) (t1 : Tw g A A1 w w1) (hw : WrS w g false A c base L) : WB w1 gb l b :=
  ⟨t1.other hw h.blk (by decide) (by decide), h.c0, h.c1, h.rl.tw t1 hw (by decide) (by decide), h.rc.tw t1 hw (by decide) (by decide)⟩
theorem WB.twp {w w1 : World} {gp g base c gb : Nat} {A A1 : Option Addr} {L l : List Int} {b : BV} (h : WB w gb l b) (t1 : TwP gp g A A1 w w1) (hp : PenS w gp g A c base L) : WB w1 gb l b :=
  ⟨t1.blk hp h.blk (by decide) (by decide) (by decide), h.c0, h.c1, t1.row hp h.rl (by decide) (by decide) (by decide), t1.row hp h.rc (by decide) (by decide) (by decide)⟩
theorem WB.below {w w1 : World} {gb : Nat} {l : List Int} {b : BV} (h : WB w gb l b) (hb : Below w.heap.size w w1) : WB w1 gb l b := ⟨h.blk.below hb h.blk.lt, h.c0, h.c1, h.rl.below hb, h.rc.below hb⟩
set_option maxRecDepth 100000 in
set_option maxHeartbeats 4000000 in
theorem has_any (gb : Nat) (b : BV) (l : List Int) (s : Nat) (W : World) (h : WB W gb l b) (hs : 0 < l.getD s 0) :
    Calls Tryz.prog 190 #[.pointer (some ⟨gb, 0, none⟩), .int .i64 (s : Int)] W fun e w' => e = .returned (.bool true) ∧ W = w' := by
  have hsl := getD_in hs
  have q0 := (h.blk.cell 0).trans h.c0
  have hgb := h.blk.lt
  obtain ⟨bo, oo, hA, hbo, p0⟩ := int_at h.rl.ints hsl
  rw [getD_at] at p0
  rw [hA] at q0
  generalize l.getD s 0 = x at *
  generalize l.length = n at *
  clear h hA
  go_enter Tryz.func190, Tryz.ntmps190
  go_wp2
  go_ret
  exact ⟨rfl, rfl⟩
theorem code_bd {l : List Int} (hl : lensB l = true) {s : Nat} (hs : 0 < l.getD s 0) : 0 ≤ (codesL l).getD s 0 ∧ (codesL l).getD s 0 ≤ 65536 ∧ 1 ≤ lenOf l s ∧ lenOf l s ≤ 16 := by
  obtain ⟨m, _, _, hn1, hn16, hcd, _, hle, _⟩ := sym_at hl (getD_in hs) hs
  have hkr := (sl_ok hl).kraft
  have h1 := Nat.div_le_self (tot (m.map fun s => (s, lenOf l s))) (pw (lenOf l s))
  rw [hcd]
  generalize tot (m.map fun s => (s, lenOf l s)) / pw (lenOf l s) = q at *
  omega
theorem dg_one (b : Int) (hb : isBit b) : dgS false b 1 = [b] := by
  have : dgS false b 1 = [b / 2 ^ 0 % 2] := rfl
  rw [this]
  unfold isBit at hb
  rcases hb with h | h <;> subst h <;> rfl
theorem cdB_get (l : List Int) (s j : Nat) (hj : j < (cdB l s).length) : (cdB l s)[j] = (codesL l).getD s 0 / 2 ^ (lenOf l s - 1 - j) % 2 := by
  have hj2 := hj
  rw [cdB_len] at hj2
  have := cdB_at l s j hj2
  rw [List.getD_eq_getElem?_getD, List.getElem?_eq_getElem hj] at this
  exact this
set_option maxRecDepth 100000 in
set_option maxHeartbeats 8000000 in
theorem bookWrite_any (gb g : Nat) (b : BV) (l : List Int) (s : Nat) (A : Option Addr) (c base : Nat) (L : List Int) (W : World) (h : WB W gb l b) (hl : lensB l = true) (hs : 0 < l.getD s 0) (hw : WrS W g false A c base L) (hm : L.length ≤ 80000000) (hB : base ≤ W.heap.size) :
    Calls Tryz.prog 168 #[.pointer (some ⟨gb, 0, none⟩), .pointer (some ⟨g, 0, none⟩), .int .i64 (s : Int)] W fun e w' => e = .returned .nilIface ∧ ∃ A' c', WrS w' g false A' c' base (L ++ cdB l s) ∧ Tw g A A' W w' := by
  have hsl := getD_in hs
  obtain ⟨hc0, hc1, hn1, hn16⟩ := code_bd hl hs
  have hhas := has_any gb b l s W h hs
  have q0 := (h.blk.cell 0).trans h.c0
  have hgb := h.blk.lt
  obtain ⟨bo, oo, hA, hbo, p0⟩ := int_at h.rl.ints hsl
  rw [getD_at] at p0
  rw [hA] at q0
  obtain ⟨n, hn⟩ : ∃ n, n = lenOf l s := ⟨_, rfl⟩
  have hx : l.getD s 0 = (n : Int) := by rw [hn]; unfold lenOf; omega
  rw [hx] at p0
  rw [← hn] at hn1 hn16
  obtain ⟨D, hD⟩ : ∃ D, D = cdB l s := ⟨_, rfl⟩
  obtain ⟨C, hC⟩ : ∃ C, C = (codesL l).getD s 0 := ⟨_, rfl⟩
  have hDl : D.length = n := by rw [hD, cdB_len, hn]
  have HDg := hid (fun j (hj : j < D.length) => show D[j] = C / 2 ^ (n - 1 - j) % 2 by subst hD; rw [cdB_get, ← hC, ← hn])
  rw [← hC] at hc0 hc1
  rw [← hD]
  have HC := hid hC
  have H := hid h
  have Hw := hid hw
  have HDl := hid hDl
  obtain ⟨N, hN⟩ : ∃ N, N = l.length := ⟨_, rfl⟩
  rw [← hN] at q0 hsl
  have HN := hid hN
  clear h hw hA hx hn hD hC hs hDl hN
  go_enter Tryz.func168, Tryz.ntmps168
  go_wp2_with fail
  refine hhas.mono ?_
  rintro e w1 ⟨rfl, rfl⟩
  go_upto_region 4 with (fail)
  clear q0 p0 hbo hhas
  go_loopw [7] (fun i wr => ∃ (j : Nat) (A1 : Option Addr) (c1 : Nat), j ≤ n ∧ i = .int .i64 ((n : Int) - 1 - j) ∧ Hid (WrS wr g false A1 c1 base (L ++ D.take j)) ∧ Hid (Tw g A A1 W wr)) (fun i _ => ((intOf i) + 1).toNat)
  case atStart => exact ⟨0, A, c, by omega, by first | rfl | (congr 1; omega), hid (by rw [List.take_zero, List.append_nil]; exact Hw.out), hid (Tw.refl g A W)⟩
  case round =>
    obtain ⟨j, A1, c1, hj, rfl, M, T⟩ := hrel
    by_cases hlt : j < n
    · obtain ⟨d, hd⟩ : ∃ d, d = n - 1 - j := ⟨_, rfl⟩
      have ei : (n : Int) - 1 - j = (d : Int) := by omega
      rw [ei]
      have hmp : min d 64 = d := by omega
      have HB1 := hid (H.out.tw T.out Hw.out)
      have q1 := (HB1.out.blk.cell 1).trans HB1.out.c1
      have hgb1 := HB1.out.blk.lt
      obtain ⟨bc, oc, hA, hbc, p1⟩ := int_at HB1.out.rc.ints (j := s) (by rw [codesL_len, ← HN.out]; exact hsl)
      rw [getD_at, ← HC.out] at p1
      rw [hA, ← HN.out] at q1
      have hDj : D[j]'(by rw [HDl.out]; exact hlt) = C / 2 ^ d % 2 := by rw [HDg.out, hd]
      have hDt : D.take (j + 1) = D.take j ++ [C / 2 ^ d % 2] := by rw [take_one (by rw [HDl.out]; exact hlt), hDj]
      have HDt := hid hDt
      have hpp : (0 : Int) < 2 ^ d := Int.pow_pos (by omega)
      have h3 : 0 ≤ C / 2 ^ d := Int.ediv_nonneg hc0 (Int.le_of_lt hpp)
      have h4 : C / 2 ^ d ≤ C := Int.ediv_le_self _ hc0
      have hand : bits .and .i64 (C / 2 ^ d) 1 = C / 2 ^ d % 2 := i64_mask 1 (by omega) (C / 2 ^ d) h3 (by omega)
      have hbt : isBit (C / 2 ^ d % 2) := by unfold isBit; omega
      have Hand := hid hand
      have hdd : d < n := by omega
      have hjd := hid (show ((n : Int) - 1 - ((j + 1 : Nat) : Int)) = (d : Int) - 1 by omega)
      have hput := putS_any false g A1 c1 base (L ++ D.take j) (C / 2 ^ d % 2) 1 (by omega) (by omega) (by omega) wr M.out (by rw [List.length_append, List.length_take]; omega) (Nat.le_trans hB T.out.size)
      rw [dg_one _ hbt] at hput
      clear hA hDj hDt h3 h4 hpp hand hbt ei hd
      go_wp2_with fail
      rw [Hand.out]
      refine hput.mono ?_
      rintro e w3 ⟨rfl, A2, c2, M2, T2⟩
      have M3 := hid (show WrS w3 g false A2 c2 base (L ++ D.take (j + 1)) from by rw [HDt.out, ← List.append_assoc]; exact M2)
      have T3 := hid (T.out.trans T2)
      clear M2 T2 q1 p1 hput
      go_wp2
      go_roundw
      case rel => exact ⟨j + 1, A2, c2, by omega, by rw [hjd.out], M3, T3⟩
      case measure => simp [intOf]
    · have hjn : j = n := by omega
      subst hjn
      have hneg : ((j : Int) - 1 - j) = -1 := by omega
      rw [hneg]
      have M3 := hid (show WrS wr g false A1 c1 base (L ++ D) from by have h := M.out; rw [List.take_of_length_le (by rw [HDl.out]; exact Nat.le_refl _)] at h; exact h)
      clear M hneg
      go_wp2
      go_ret
      exact ⟨rfl, A1, c1, M3.out, T.out⟩
set_option maxRecDepth 100000 in
set_option maxHeartbeats 4000000 in
theorem penSym_any (gb gp g : Nat) (b : BV) (l : List Int) (s : Nat) (A : Option Addr) (c base : Nat) (L : List Int) (W : World) (h : WB W gb l b) (hl : lensB l = true) (hs : 0 < l.getD s 0) (hp : PenS W gp g A c base L) (hm : L.length ≤ 80000000) :
    Calls Tryz.prog 143 #[.pointer (some ⟨gp, 0, none⟩), .pointer (some ⟨gb, 0, none⟩), .int .i64 (s : Int)] W fun e w' => e = .returned (.tuple #[]) ∧ ∃ A' c', PenS w' gp g A' c' base (L ++ cdB l s) ∧ TwP gp g A A' W w' := by
  have hput := bookWrite_any gb g b l s A c base L W h hl hs hp.wr hm hp.bs
  have H := hid hp
  have q0 := hp.pen.cell 0
  have q1 := hp.pen.cell 1
  simp only [List.getElem?_toArray, List.getElem?_cons_zero, List.getElem?_cons_succ] at q0 q1
  have hgp := hp.pen.lt
  clear h hp hl hs
  go_enter Tryz.func143, Tryz.ntmps143
  go_wp2_with fail
  refine hput.mono ?_
  rintro e w1 ⟨rfl, A', c', hW, hT⟩
  have P1 := hid (hT.other H.out.wr H.out.pen (by decide) (by decide))
  have r1 := P1.out.cell 1
  simp only [List.getElem?_toArray, List.getElem?_cons_zero, List.getElem?_cons_succ] at r1
  have hgp1 := P1.out.lt
  have fz := fun i => P1.out.frozen i
  have P2 := P1.out.set_ 1 .nilIface
  have W2 : WrS (w1.setCell ⟨gp, 1, none⟩ .nilIface) g false A' c' base (L ++ cdB l s) := ⟨hW.blk.far (p := ⟨gp, 1, none⟩) (fun e => blk_ne P1.out hW.blk (by decide) e.symm) _, ownsRow_setCell_other hW.row (fun e => own_blk_ne hW.row P1.out (by decide) e.symm) _, hW.ok, hW.gb⟩
  have HP := hid (show PenS (w1.setCell ⟨gp, 1, none⟩ .nilIface) gp g A' c' base (L ++ cdB l s) from ⟨P2, W2, by have := H.out.bs; have := hT.size; simp [World.setCell]; omega⟩)
  have HT := hid ((TwP.of_tw (gp := gp) hT).pen 1 .nilIface)
  clear P2 W2 hW hT hput q0 q1
  go_wp2
  go_end0
  exact ⟨rfl, A', c', HP.out, HT.out⟩
theorem PenS.again {w : World} {gp g base c : Nat} {A : Option Addr} {L : List Int} (h : PenS w gp g A c base L) : PenS (w.setCell ⟨gp, 1, none⟩ .nilIface) gp g A c base L :=
  ⟨h.pen.set_ 1 .nilIface, ⟨h.wr.blk.far (p := ⟨gp, 1, none⟩) (fun e => blk_ne h.pen h.wr.blk (by decide) e.symm) _, ownsRow_setCell_other h.wr.row (fun e => own_blk_ne h.wr.row h.pen (by decide) e.symm) _, h.wr.ok, h.wr.gb⟩, by have := h.bs; simp [World.setCell]; omega⟩
set_option maxRecDepth 100000 in
set_option maxHeartbeats 4000000 in
theorem penBook_any (gp g : Nat) (X : Option Addr) (xc : Nat) (l : List Int) (A : Option Addr) (c base : Nat) (L : List Int) (W : World) (hX : TRow W 3 X (intsV l)) (hl : lensB l = true) (hn : X = none → xc = 0) (hp : PenS W gp g A c base L) :
    Calls Tryz.prog 142 #[.pointer (some ⟨gp, 0, none⟩), .slice X l.length xc] W fun e w' => ∃ gb b, e = .returned (.pointer (some ⟨gb, 0, none⟩)) ∧ WB w' gb l b ∧ PenS w' gp g A c base L ∧ TwP gp g A A W w' := by
  have hnb := newBook_any X xc l W hX.ints hn (by have := (lensB_iff.1 hl).1; omega)
  have H := hid hp
  have Hl := hid hl
  clear hX hl hn hp
  go_enter Tryz.func142, Tryz.ntmps142
  go_wp2_with fail
  refine hnb.mono ?_
  intro e w1 hE
  rcases hE with ⟨h1, _⟩ | ⟨_, gb, bm, rfl, _, hK, hB, hb⟩
  · rw [Hl.out] at h1; exact absurd h1 (by decide)
  have P1 := hid (H.out.below hb)
  have T1 := hid ((TwP.refl gp g A W).below hb)
  have B1 := hid (WB.of hK hB)
  have q1 := P1.out.pen.cell 1
  simp only [List.getElem?_toArray, List.getElem?_cons_zero, List.getElem?_cons_succ] at q1
  have hgp := P1.out.pen.lt
  have fz := fun i => P1.out.pen.frozen i
  have P2 := hid P1.out.again
  have T2 := hid (T1.out.pen 1 .nilIface)
  have B2 := hid (B1.out.twp ((TwP.refl gp g A w1).pen 1 .nilIface) P1.out)
  clear hnb hb hK hB P1 T1 B1
  go_wp2
  go_ret
  exact ⟨gb, _, rfl, B2.out, P2.out, T2.out⟩
end Go.Proofs.YtoppjcmkhhkbmaaGreat

namespace Go.Proofs.YtoppjcmkhhkbmaaGreat
open Go.RowKit Cd

/-- bytes that the pen does not turn -/
def TextIn (w : World) (gp g : Nat) (A X : Option Addr) (xs : List Value) : Prop := xs = [] ∨ ∃ b off, X = some ⟨b, off, none⟩ ∧ b < w.heap.size ∧ b ≠ gp ∧ b ≠ g ∧ (∀ a, A = some a → a.block ≠ b) ∧ ∀ j u, xs[j]? = some u → w.cell? ⟨b, off + j, none⟩ = some u
theorem TextIn.rd {w : World} {gp g : Nat} {A X : Option Addr} {xs : List Value} (h : TextIn w gp g A X xs) {size n : Nat} (hl : xs.length = n * size) : Rd w w.heap.size size X n xs := by
  refine ⟨hl, fun hp => ?_⟩
  rcases h with h | ⟨b, off, hA, hb, _, _, _, hc⟩
  · rw [h] at hp; exact absurd hp (Nat.lt_irrefl 0)
  · exact ⟨b, off, hA, hb, hc⟩
theorem TextIn.below {w w1 : World} {gp g : Nat} {A X : Option Addr} {xs : List Value} (h : TextIn w gp g A X xs) (hb : Below w.heap.size w w1) : TextIn w1 gp g A X xs := by
  rcases h with h | ⟨b, off, h1, h2, h3, h4, h5, h6⟩
  · exact .inl h
  · exact .inr ⟨b, off, h1, Nat.lt_of_lt_of_le h2 hb.size, h3, h4, h5, fun j u hu => (Below.cell hb (p := ⟨b, off + j, none⟩) h2).trans (h6 j u hu)⟩
theorem TextIn.twp {w w1 : World} {gp g : Nat} {A A1 X : Option Addr} {xs : List Value} (h : TextIn w gp g A X xs) (t : TwP gp g A A1 w w1) : TextIn w1 gp g A1 X xs := by
  rcases h with h | ⟨b, off, hA, hb, h1, h2, h3, hc⟩
  · exact .inl h
  · refine .inr ⟨b, off, hA, Nat.lt_of_lt_of_le hb t.size, h1, h2, fun a ha => ?_, fun j u hu => ?_⟩
    · rcases t.new a ha with ⟨a0, e0, e1⟩ | e1
      · rw [e1]; exact h3 a0 e0
      · omega
    · exact (World.cell?_of_block (w := w) (w' := w1) (a := ⟨b, off + j, none⟩) (t.same b hb h1 h2 h3)).trans (hc j u hu)
theorem TextIn.of {w : World} {gp g base c size n B : Nat} {A X : Option Addr} {L : List Int} {xs : List Value} (h : Rd w B size X n xs) (hB : B ≤ base) (hp : PenS w gp g A c base L) (hgp : base ≤ gp) : TextIn w gp g A X xs := by
  by_cases h0 : 0 < xs.length
  · obtain ⟨b, off, hX, hb, hc⟩ := h.2 h0
    have := hp.bs
    exact .inr ⟨b, off, hX, by omega, by omega, by have := hp.wr.gb; omega, fun a ha => by have := (hp.wr.far a ha).1; omega, hc⟩
  · exact .inl (List.eq_nil_of_length_eq_zero (by omega))
theorem text_isB8 {text : List Int} (h : ∀ x ∈ text, isB x) (k : Nat) : isB (text.getD k 0) := getD_isB h k
theorem getD_at' {l : List Int} {j : Nat} (hj : j < l.length) : l.getD j 0 = l[j] := (getD_at hj).symm
theorem lt256 {x : Int} (h : x ≤ 255) : x < 2 ^ 8 := by
  have e8 : (2 : Int) ^ 8 = 256 := by decide
  omega
theorem rep_snoc (L : List Int) (j : Nat) : L ++ List.replicate j 0 ++ dgS false 0 1 = L ++ List.replicate (j + 1) 0 := by
  rw [dg_one 0 (.inl rfl), List.append_assoc]
  congr 1
  rw [List.replicate_succ']
set_option maxRecDepth 100000 in
set_option maxHeartbeats 8000000 in
theorem penStored_any (gp g : Nat) (X : Option Addr) (xc : Nat) (text : List Int) (A : Option Addr) (c base : Nat) (L : List Int) (W : World) (hX : TextIn W gp g A X (bytesV text)) (hB : ∀ x ∈ text, isB x) (hm : text.length ≤ 65535) (hL : L.length ≤ 70000000) (hp : PenS W gp g A c base L) :
    Calls Tryz.prog 107 #[.pointer (some ⟨gp, 0, none⟩), .slice X text.length xc] W fun e w' => e = .returned (.tuple #[]) ∧ ∃ A' c', PenS w' gp g A' c' base (L ++ stB L.length text) ∧ TwP gp g A A' W w' := by
  have H := hid hp
  have HX := hid hX
  have HB := hid hB
  obtain ⟨f, hf⟩ : ∃ f, f = (8 - L.length % 8) % 8 := ⟨_, rfl⟩
  have Hf := hid hf
  have hf8 : f < 8 := by omega
  obtain ⟨LL, hLL⟩ : ∃ n, n = L.length := ⟨_, rfl⟩
  have HLL := hid hLL
  rw [← hLL] at hL hf ⊢
  clear hX hB hp hLL
  go_enter Tryz.func107, Tryz.ntmps107
  go_upto_region 0 with (fail)
  go_loopw [] (fun wr => ∃ (j : Nat) (A1 : Option Addr) (c1 : Nat), j ≤ f ∧ Hid (PenS wr gp g A1 c1 base (L ++ List.replicate j 0)) ∧ Hid (TwP gp g A A1 W wr)) (fun wr => LL + f - lnOf g wr)
  case atStart => exact ⟨0, A, c, by omega, hid (by rw [List.replicate_zero, List.append_nil]; exact H.out), hid (TwP.refl gp g A W)⟩
  case round =>
    obtain ⟨j, A1, c1, hj, M, T⟩ := hrel
    have q0 := M.out.pen.cell 0
    simp only [List.getElem?_toArray, List.getElem?_cons_zero] at q0
    have hgp := M.out.pen.lt
    have cLen := lenS_any false g A1 c1 base _ wr M.out.wr
    have ekj : (L ++ List.replicate j (0 : Int)).length = LL + j := by rw [List.length_append, List.length_replicate, HLL.out]
    have hln : lnOf g wr = LL + j := by rw [lnOf_eq (M.out.wr.blk.cell 2), ekj]
    rw [ekj] at cLen
    have Hln := hid hln
    obtain ⟨kj, hkj⟩ : ∃ k, k = LL + j := ⟨_, rfl⟩
    rw [← hkj] at cLen
    have Hkj := hid hkj
    by_cases hlt : j < f
    · have d1 : ¬ kj % 8 = 0 := by have := Hf.out; have := HLL.out; omega
      have d2 : decide (kj % 8 = 0) = false := decide_eq_false d1
      have d3 : ¬ (kj : Int) % 8 = 0 := by omega
      have hput := penPut_any gp g A1 c1 base (L ++ List.replicate j 0) 0 1 (by omega) (by decide) (by omega) wr M.out (by rw [ekj]; omega)
      rw [rep_snoc] at hput
      clear d1 hln hkj ekj
      go_wp2_with fail
      refine cLen.mono ?_
      rintro e w2 ⟨rfl, rfl⟩
      go_wp2_with fail
      refine hput.mono ?_
      rintro e w3 ⟨rfl, A2, c2, M2, T2⟩
      have hl3 : Hid (lnOf g w3 = LL + j + 1) := hid (by rw [lnOf_eq (M2.wr.blk.cell 2), List.length_append, List.length_replicate, ← HLL.out]; omega)
      have M3 := hid M2
      have T3 := hid (T.out.trans T2)
      clear M2 T2 q0 hput
      go_wp2
      go_roundw
      case rel => exact ⟨j + 1, A2, c2, by omega, M3, T3⟩
      case measure => rw [hl3.out, Hln.out]; omega
    · have hjf : j = f := by omega
      subst hjf
      have d1 : kj % 8 = 0 := by have := Hf.out; have := HLL.out; omega
      have d2 : decide (kj % 8 = 0) = true := decide_eq_true d1
      have d3 : (kj : Int) % 8 = 0 := by omega
      have hmm : (text.length : Int) ≤ 65535 := by omega
      have HX1 := hid (HX.out.twp T.out)
      have e16 : (2 : Int) ^ 16 = 65536 := by decide
      have hput1 := penPut_any gp g A1 c1 base (L ++ List.replicate j 0) (text.length : Int) 16 (by omega) (by omega) (by omega) wr M.out (by rw [ekj]; omega)
      clear d1 hln hkj e16
      go_wp2_with fail
      refine cLen.mono ?_
      rintro e w2 ⟨rfl, rfl⟩
      go_wp2_with fail
      refine hput1.mono ?_
      rintro e w3 ⟨rfl, A3, c3, M3, T3⟩
      have e16 : (2 : Int) ^ 16 = 65536 := by decide
      have hput2 := penPut_any gp g A3 c3 base _ (65535 - (text.length : Int)) 16 (by omega) (by omega) (by omega) w3 M3 (by rw [List.length_append, ekj, dgS_len]; omega)
      have T4 := hid (T.out.trans T3)
      clear hput1 M3 T3 cLen q0 e16
      go_wp2_with fail
      refine hput2.mono ?_
      rintro e w5 ⟨rfl, A5, c5, M5, T5⟩
      obtain ⟨P, hP⟩ : ∃ P, P = L ++ List.replicate j 0 ++ dgS false (text.length : Int) 16 ++ dgS false (65535 - (text.length : Int)) 16 := ⟨_, rfl⟩
      rw [← hP] at M5
      have hPl : P.length ≤ 70000100 := by rw [hP, List.length_append, List.length_append, ekj, dgS_len, dgS_len]; omega
      have HP := hid hP
      have M6 := hid M5
      have T6 := hid (T4.out.trans T5)
      clear hput2 M5 T5 T4 M T hP ekj
      go_wp2
      go_loopw [26] (fun i wr => ∃ (q : Nat) (A7 : Option Addr) (c7 : Nat), q ≤ text.length ∧ i = .int .i64 (q : Int) ∧ Hid (PenS wr gp g A7 c7 base (P ++ bytB (text.take q))) ∧ Hid (TwP gp g A A7 W wr)) (fun i _ => text.length - (intOf i).toNat)
      case atStart => exact ⟨0, A5, c5, by omega, rfl, hid (by rw [List.take_zero]; show PenS w5 gp g A5 c5 base (P ++ []); rw [List.append_nil]; exact M6.out), T6⟩
      case round =>
        obtain ⟨q, A7, c7, hq, rfl, M7, T7⟩ := hrel
        by_cases hql : q < text.length
        · obtain ⟨b, off, rfl, hbb, p0⟩ := byte_at ((HX.out.twp T7.out).rd (n := text.length) (size := 1) (by simp [bytesV])) hql
          have hx := text_isB8 HB.out q
          have hstep : P ++ bytB (text.take q) ++ dgS false (text.getD q 0) 8 = P ++ bytB (text.take (q + 1)) := by
            rw [List.take_succ_eq_append_getElem hql, getD_at' hql]
            unfold bytB
            rw [List.flatMap_append, List.append_assoc]
            simp
          have hput := penPut_any gp g A7 c7 base (P ++ bytB (text.take q)) (text.getD q 0) 8 hx.1 (lt256 hx.2) (by omega) wr M7.out (by rw [List.length_append, bytB_len, List.length_take]; omega)
          rw [hstep] at hput
          unfold isB at hx
          clear hstep
          generalize text.getD q 0 = y at *
          go_wp2_with fail
          refine hput.mono ?_
          rintro e w8 ⟨rfl, A8, c8, M8, T8⟩
          have M9 := hid M8
          have T9 := hid (T7.out.trans T8)
          clear M8 T8 hput p0
          go_wp2
          go_roundw
          case rel => exact ⟨q + 1, A8, c8, by omega, by go_num, M9, T9⟩
          case measure => simp [intOf]; omega
        · have e : q = text.length := by omega
          subst e
          rw [List.take_length] at M7
          have E := hid (show P ++ bytB text = L ++ stB LL text by
            rw [HP.out]
            unfold stB padB
            rw [HLL.out, ← Hf.out]
            simp only [List.append_assoc])
          go_wp2
          go_end0
          exact ⟨rfl, A7, c7, by rw [← E.out]; exact M7.out, T7.out⟩
end Go.Proofs.YtoppjcmkhhkbmaaGreat
