/-
  BlockPrices: for every tokens the law returns true: what they cost comes of best lengths. No condition.
-/
import Derived.Test.YthhllollhjpheaaBkPk
import Derived.Test.YthhllollhjpheaaBkLw
import Derived.Test.YthhllollhjpheaaBkOp
import Derived.Maps.Own
import Derived.Maps.Views
namespace Go.Proofs.Ythhllollhjpheaa.BlockPrices
open Go.ChangeShapes Go.WideShapes Go.ChangeAt Go.RowKit Go.Proofs.Ythhllollhjpheaa
def erP (g : Bool) : Value := match g with | true => .nilIface | false => .iface 40 (.int .i64 6)
set_option maxRecDepth 100000 in
set_option maxHeartbeats 4000000 in
theorem walk_far (A : Option Addr) (c : Nat) (l : List (Int × Int)) (W : World) (hm : 300 < l.length) :
    Calls Try.prog 5 #[.slice A l.length c] W fun e w' => e = .returned (.bool true) ∧ Below W.heap.size W w' := by
  go_enter Try.func5, Try.ntmps5
  go_wp2_with fail
  refine (alive10 W).mono ?_
  rintro e w1 ⟨rfl, hb1⟩
  have B1 := hid hb1
  clear hb1
  have d1 : decide (300 < l.length) = true := decide_eq_true hm
  have d2 : decide ((300 : Int) < (l.length : Int)) = true := decide_eq_true (by omega)
  go_wp2_with fail
  go_ret
  exact ⟨rfl, B1.out⟩
/-- what Prices answered, as a value of three slices -/
theorem prices_as (A : Option Addr) (c : Nat) (l : List (Int × Int)) (W : World) (hr : Rd W W.heap.size 2 A l.length (l.flatMap encTok)) (hm : l.length ≤ 300) :
    Calls Try.prog 17 #[.slice A l.length c] W fun e w' => ∃ (A1 A2 A3 : Option Addr) (n1 n2 n3 : Nat), e = .returned (.tuple #[.agg #[.slice A1 n1 n1, .slice A2 n2 n2, .slice A3 n3 n3], erP (l.all tgood)]) ∧
      (l.all tgood = false → n1 = 0) ∧ (l.all tgood = true → ∃ gA gB gC, A1 = some ⟨gA, 0, none⟩ ∧ A2 = some ⟨gB, 0, none⟩ ∧ A3 = some ⟨gC, 0, none⟩ ∧ n1 = 256 ∧ n2 = 259 ∧ n3 = 30 ∧
        Blk w' gA 3 (intsV (prLit l)).toArray ∧ Blk w' gB 3 (intsV (prLen l)).toArray ∧ Blk w' gC 3 (intsV (prDst l)).toArray) ∧ Below W.heap.size W w' := by
  refine (prices_any A c l W hr (by omega)).mono ?_
  rintro e w' ⟨he, hb⟩
  cases hg : l.all tgood with
  | true =>
    rw [if_pos hg] at he
    obtain ⟨gA, gB, gC, rfl, _, _, _, _, _, _, h1, h2, h3⟩ := he
    exact ⟨_, _, _, 256, 259, 30, rfl, fun h => (by cases h), fun _ => ⟨gA, gB, gC, rfl, rfl, rfl, rfl, rfl, rfl, h1, h2, h3⟩, hb⟩
  | false =>
    rw [if_neg (by rw [hg]; decide)] at he
    subst he
    exact ⟨none, none, none, 0, 0, 0, rfl, fun _ => rfl, fun h => (by cases h), hb⟩
theorem pay {a x : Int} (h0 : 0 ≤ a) (h1 : a ≤ 301) (h2 : 0 ≤ x) (h3 : x ≤ 16) : (16 * x).tmod 16 = 0 ∧ (a * (16 * x)).tdiv 16 = a * x ∧ 0 ≤ a * (16 * x) ∧ a * (16 * x) ≤ 77056 ∧ 0 ≤ a * x ∧ a * x ≤ 4816 := by
  have h4 : 0 ≤ a * x := Int.mul_nonneg h0 h2
  have h5 : a * x ≤ 301 * 16 := Int.mul_le_mul h1 h3 h2 (by omega)
  have e : a * (16 * x) = 16 * (a * x) := by rw [← Int.mul_assoc, Int.mul_comm a 16, Int.mul_assoc]
  rw [e]
  refine ⟨Int.mul_tmod_right 16 x, ?_, by omega, by omega, h4, by omega⟩
  rw [Int.mul_tdiv_cancel_left _ (by omega)]
theorem costTo_bd {c L : List Int} (hc : cntB c 301) (hL : ∀ x ∈ L, 0 ≤ x ∧ x ≤ 16) : ∀ j : Nat, 0 ≤ costTo c L j ∧ costTo c L j ≤ j * 4816
  | 0 => ⟨Int.le_refl 0, by simp [costTo]⟩
  | j + 1 => by
    have h1 := costTo_bd hc hL j
    have h2 := cntB_at hc (by omega) j
    have h3 := cntB_at (b := 16) (c := L) hL (by omega) j
    have h4 := (pay h2.1 h2.2 h3.1 h3.2).2.2.2.2
    rw [costTo]
    push_cast
    omega
theorem row_cell {w : World} {g : Nat} {xs : List Int} (h : Blk w g 3 (intsV xs).toArray) {j : Nat} (hj : j < xs.length) : w.cell? ⟨g, j, none⟩ = some (.int .i64 (xs.getD j 0)) := by
  rw [h.cell j, List.getElem?_toArray]
  unfold intsV
  rw [List.getElem?_map, List.getElem?_eq_getElem hj, ← getD_at hj]
  rfl
theorem map_getD (f : Nat → Int) (n : Nat) {j : Nat} (hj : j < n) : ((List.range n).map f).getD j 0 = f j := by
  rw [List.getD_eq_getElem?_getD, List.getElem?_map, List.getElem?_range hj]
  rfl
theorem grown_cell {w w' : World} {row : Option Nat} (h : w.grownBy w' row) {p : Addr} (h1 : p.block < w.heap.size) (h2 : some p.block ≠ row) : w'.cell? p = w.cell? p := by
  unfold World.cell?
  rw [h.block p.block h1 h2]
/-- the first symbol of a length that has not come up ahead of n -/
def topN (n : Nat) : Nat := if n ≤ 3 then 257 else lsN ((n - 1 : Nat) : Int) + 1
theorem top_all : ∀ k : Fin 256, (lsN ((k.val + 3 : Nat) : Int) = topN (k.val + 3) ∨ lsN ((k.val + 3 : Nat) : Int) + 1 = topN (k.val + 3)) ∧ topN (k.val + 4) = lsN ((k.val + 3 : Nat) : Int) + 1 := by decide +kernel
theorem top_at {n : Nat} (h1 : 3 ≤ n) (h2 : n < 259) : (lsN (n : Int) = topN n ∨ lsN (n : Int) + 1 = topN n) ∧ topN (n + 1) = lsN (n : Int) + 1 := by
  have := top_all ⟨n - 3, by omega⟩
  simp only at this
  rw [show n - 3 + 3 = n by omega, show n - 3 + 4 = n + 1 by omega] at this
  exact this
theorem top_end : topN 259 = 286 := by decide +kernel
/-- what the map of seen symbols says ahead of n -/
def SeenD (D : DataW Unit) (n : Nat) : Prop := Maps.IsMap D ∧ (∀ s : Nat, topN n ≤ s → D.atKey (.int .i64 (s : Int)) (.lit (.int .i64 0)) = .lit (.int .i64 0)) ∧
  ∀ s : Nat, 257 ≤ s → s < topN n → ∃ v : Int, 1 ≤ v ∧ v ≤ n ∧ D.atKey (.int .i64 (s : Int)) (.lit (.int .i64 0)) = .lit (.int .i64 v)
theorem SeenD.put {D : DataW Unit} {n : Nat} (h : SeenD D n) (h1 : 3 ≤ n) (h2 : n < 259) {v : Int} (hv : D.atKey (.int .i64 ((lsN (n : Int) : Nat) : Int)) (.lit (.int .i64 0)) = .lit (.int .i64 v)) : SeenD (D.put (.int .i64 ((lsN (n : Int) : Nat) : Int)) (.lit (.int .i64 (v + 1)))) (n + 1) := by
  obtain ⟨hm, h0, hs⟩ := h
  obtain ⟨ht, ht2⟩ := top_at h1 h2
  have hb := lsN_bd (n : Int)
  have hne : ∀ s : Nat, s ≠ lsN (n : Int) → (Lit.int .i64 (s : Int)) ≠ (Lit.int .i64 ((lsN (n : Int) : Nat) : Int)) := fun s h e => by
    injection e with e1 e2
    exact h (by omega)
  refine ⟨hm.put _ _, fun s hs2 => ?_, fun s hs1 hs2 => ?_⟩
  · rw [Maps.atKey_put_other (hne s (by omega)), h0 s (by omega)]
  · by_cases e : s = lsN (n : Int)
    · subst e
      refine ⟨v + 1, ?_, ?_, Maps.atKey_put_same (k := .int .i64 ((lsN (n : Int) : Nat) : Int)) hm trivial _ _⟩
      all_goals
        rcases ht with ht | ht
        · rw [h0 _ (by omega)] at hv
          injection hv with hv
          injection hv with _ hv
          omega
        · obtain ⟨v', a, b, c⟩ := hs (lsN (n : Int)) (by omega) (by omega)
          rw [c] at hv
          injection hv with hv
          injection hv with _ hv
          push_cast
          omega
    · obtain ⟨v', a, b, c⟩ := hs s hs1 (by omega)
      exact ⟨v', a, by push_cast; omega, by rw [Maps.atKey_put_other (hne s e)]; exact c⟩
theorem blk_rdi {w : World} {g : Nat} {xs : List Int} (h : Blk w g 3 (intsV xs).toArray) : RdI w w.heap.size (some ⟨g, 0, none⟩) xs :=
  RdI.of_cells h.lt fun j hj => by rw [getD_at hj]; exact row_cell h hj
theorem dext_bd2 {j : Nat} (h : j < 30) : 0 ≤ dextra (j : Int) ∧ dextra (j : Int) ≤ 13 := by
  unfold dextra
  split <;> omega
theorem dsc_bd {c : List Int} (hc : cntB c 301) : ∀ x ∈ dsc (itemsOf c), 0 ≤ x ∧ x ≤ 1099511627776 := fun x hx => by
  unfold dsc at hx
  obtain ⟨y, hy, rfl⟩ := List.mem_map.1 (List.mem_reverse.1 hx)
  obtain ⟨s, h1, _, rfl⟩ := items_mem c _ y ((isort_perm (itemsTo c c.length)).mem_iff.1 hy)
  have := hc _ (List.getElem_mem h1)
  rw [getD_at h1] at this
  show 0 ≤ c.getD s 0 ∧ c.getD s 0 ≤ _
  omega
theorem dsc_300 {c : List Int} (h : c.length ≤ 300) : (dsc (itemsOf c)).length ≤ 300 := by
  rw [dsc_len]
  exact Nat.le_trans (itemsOf_le _) h
theorem grTr {a b c : World} {r : Option Nat} (h : a.grownBy b r) (k : b.grownBy c r) : a.grownBy c r :=
  ⟨k.os.trans h.os, k.tape.trans h.tape, k.output.trans h.output, Nat.le_trans h.size k.size, fun i hi hr => (k.block i (by have := h.size; omega) hr).trans (h.block i hi hr)⟩
theorem seen_start : SeenD (.map []) 3 := by
  refine ⟨?_, fun s _ => ?_, fun s h1 h2 => ?_⟩
  · exact ⟨[], rfl⟩
  · rfl
  · rw [show topN 3 = 257 from rfl] at h2
    omega
theorem cntM_next (l : List (Int × Int)) {j : Nat} (hj : j < l.length) : cntM (l.take (j + 1)) = cntStep (cntM (l.take j)) l[j] := by
  unfold cntM
  rw [List.take_succ_eq_append_getElem hj, List.foldl_append]
  rfl
theorem cnt_cell1 {w : World} {gL gD : Nat} {c : List Int × List Int} (h : CntW w gL gD c) {s : Nat} (hs : s < c.1.length) : w.cell? ⟨gL, s, none⟩ = some (.int .i64 (c.1.getD s 0)) := by
  rw [h.1.cell s, List.getElem?_toArray]
  unfold intsV
  rw [List.getElem?_map, List.getElem?_eq_getElem hs, ← getD_at hs]
  rfl
theorem cnt_cell2 {w : World} {gL gD : Nat} {c : List Int × List Int} (h : CntW w gL gD c) {s : Nat} (hs : s < c.2.length) : w.cell? ⟨gD, s, none⟩ = some (.int .i64 (c.2.getD s 0)) := by
  rw [h.2.cell s, List.getElem?_toArray]
  unfold intsV
  rw [List.getElem?_map, List.getElem?_eq_getElem hs, ← getD_at hs]
  rfl
set_option maxRecDepth 100000 in
set_option maxHeartbeats 16000000 in
theorem walk_near (A : Option Addr) (c : Nat) (l : List (Int × Int)) (W : World) (hr : Rd W W.heap.size 2 A l.length (l.flatMap encTok)) (hm : l.length ≤ 300) :
    Calls Try.prog 5 #[.slice A l.length c] W fun e w' => e = .returned (.bool true) ∧ Below W.heap.size W w' := by
  have Hr := hid hr
  clear hr
  go_enter Try.func5, Try.ntmps5
  go_wp2_with fail
  refine (alive10 W).mono ?_
  rintro e w1 ⟨rfl, hb1⟩
  have B1 := hid hb1
  have PC := hid (prices_as A c l w1 (rd_up Hr.out hb1) hm)
  clear hb1
  have d1 : decide (300 < l.length) = false := decide_eq_false (by omega)
  have d2 : decide ((300 : Int) < (l.length : Int)) = false := decide_eq_false (by omega)
  go_wp2_with fail
  refine PC.out.mono ?_
  rintro e w2 ⟨A1, A2, A3, n1, n2, n3, rfl, hbad, hgood, b2⟩
  have HBad := hid hbad
  have HGood := hid hgood
  have B2 := hid (B1.out.trans (b2.mono B1.out.size))
  clear b2 B1 PC hbad hgood d1 d2
  have hal := (Below.refl w2.heap.size w2).alloc (Nat.le_refl _) (.cells #[.slice A1 n1 n1, .slice A2 n2 n2, .slice A3 n3 n3] 50)
  have Q3 := hid (Blk.new w2 50 #[.slice A1 n1 n1, .slice A2 n2 n2, .slice A3 n3 n3])
  have B3 := hid (B2.out.trans (hal.mono B2.out.size))
  have b23 := hid hal
  clear hal
  obtain ⟨i0, hi0, hz0, hz1, hz2⟩ := info_parts int_info
  have mkA : ∀ w : World, (Instr.makeSlice 48 (.int .i64 286) (.int .i64 286)).run Try.prog w = .ok (.slice (some ⟨w.heap.size, 0, none⟩) 286 286) (w.alloc (.cells (intsV (List.replicate 286 0)).toArray 3)) := by
    intro w
    have h := run_make (P := Try.prog) w 48 3 i0 (.int .i64 0) Try.underlying48 hi0 hz0 .i64 .i64 286 286 (by omega) (by omega) (by rw [hz2]; omega) (by omega)
    rw [hz1, made_list _ _ rfl, List.toArray_replicate] at h
    rw [zrow 286]
    exact h
  have mkB : ∀ w : World, (Instr.makeSlice 48 (.int .i64 30) (.int .i64 30)).run Try.prog w = .ok (.slice (some ⟨w.heap.size, 0, none⟩) 30 30) (w.alloc (.cells (intsV (List.replicate 30 0)).toArray 3)) := by
    intro w
    have h := run_make (P := Try.prog) w 48 3 i0 (.int .i64 0) Try.underlying48 hi0 hz0 .i64 .i64 30 30 (by omega) (by omega) (by rw [hz2]; omega) (by omega)
    rw [hz1, made_list _ _ rfl, List.toArray_replicate] at h
    rw [zrow 30]
    exact h
  clear hi0 hz0 hz1 hz2
  go_upto_region 6 with (fail)
  generalize w2.alloc (.cells #[.slice A1 n1 n1, .slice A2 n2 n2, .slice A3 n3 n3] 50) = w3 at *
  obtain ⟨g3, hg3⟩ : ∃ g, g = w2.heap.size := ⟨_, rfl⟩
  rw [← hg3] at Q3 ⊢
  clear hg3
  refine set_lit (S := (Nat × Nat) × World) [0, 1]
    (fun x i => [.slice (some ⟨x.1.1, 0, none⟩) 286 286, .slice (some ⟨x.1.2, 0, none⟩) 30 30, .slice (some ⟨x.1.1, 0, none⟩) 286 286, .slice (some ⟨x.1.2, 0, none⟩) 30 30].getD i undef)
    (fun x => x.2) (fun lz x => Below w3.heap.size w3 x.2 ∧ (lz.getD 0 false = true → w3.heap.size ≤ x.1.1 ∧ Blk x.2 x.1.1 3 (intsV (List.replicate 286 0)).toArray) ∧ (lz.getD 1 false = true → w3.heap.size ≤ x.1.2 ∧ Blk x.2 x.1.2 3 (intsV (List.replicate 30 0)).toArray) ∧ (lz.getD 0 false = true → lz.getD 1 false = true → x.1.1 ≠ x.1.2))
    (fun i => if i = 2 then [0] else if i = 3 then [1] else []) ?af (((0, 0), w3.drew)) (by kernel_rfl) (by kernel_rfl) (by kernel_rfl) (by kernel_rfl) (by kernel_rfl) rfl ?hR0 ?haf ?hy ?hQ
  case haf =>
    intro x
    simp only [actOf, dstAt, List.length_cons, List.length_nil, Nat.reduceAdd, List.getElem?_cons_zero, List.getElem?_cons_succ, Option.bind_some, if_true, List.getD_cons_zero, List.getD_cons_succ, Act.put, List.setIfInBounds_toArray, List.set_cons_zero, List.set_cons_succ]
    rfl
  case hR0 => exact ⟨(Below.refl _ _).drew, fun h => absurd h (by decide), fun h => absurd h (by decide), fun h => absurd h (by decide)⟩
  case hy =>
    intro s xw hR
    obtain ⟨⟨gL, gD⟩, wx⟩ := xw
    obtain ⟨hb, rA, rB, nAB⟩ := hR
    have hb : Below w3.heap.size w3 wx := hb
    have rA : s 0 = true → w3.heap.size ≤ gL ∧ Blk wx gL 3 (intsV (List.replicate 286 0)).toArray := rA
    have rB : s 1 = true → w3.heap.size ≤ gD ∧ Blk wx gD 3 (intsV (List.replicate 30 0)).toArray := rB
    have hsz := hb.size
    simp only [AllY]
    refine ⟨?_, ?_, ?_, ?_, trivial⟩
    case refine_1 =>
      intro hs hd
      refine .inl ⟨.slice (some ⟨wx.heap.size, 0, none⟩) 286 286, wx.alloc (.cells (intsV (List.replicate 286 0)).toArray 3), by simp [execOp, go_sem, mkA, Act.eval], ((wx.heap.size, gD), wx.alloc (.cells (intsV (List.replicate 286 0)).toArray 3)), ⟨hb.alloc hsz _, fun _ => ⟨hsz, Blk.new _ _ _⟩, fun h => ?_, fun h h' => ?_⟩, rfl, rfl, fun j hj hc hne => ?_⟩
      · have h : (s 1 || 1 == 0) = true := h
        simp at h
        exact ⟨(rB h).1, (rB h).2.alloc _⟩
      · have h' : (s 1 || 1 == 0) = true := h'
        simp at h'
        have := (rB h').2.lt
        show wx.heap.size ≠ gD
        omega
      · have hj : j < 4 := hj
        rcases (show j = 0 ∨ j = 1 ∨ j = 2 ∨ j = 3 by omega) with rfl | rfl | rfl | rfl <;> first | rfl | exact absurd rfl hne | exact absurd hc (by decide)
    case refine_2 =>
      intro hs hd
      refine .inl ⟨.slice (some ⟨wx.heap.size, 0, none⟩) 30 30, wx.alloc (.cells (intsV (List.replicate 30 0)).toArray 3), by simp [execOp, go_sem, mkB, Act.eval], ((gL, wx.heap.size), wx.alloc (.cells (intsV (List.replicate 30 0)).toArray 3)), ⟨hb.alloc hsz _, fun h => ?_, fun _ => ⟨hsz, Blk.new _ _ _⟩, fun h h' => ?_⟩, rfl, rfl, fun j hj hc hne => ?_⟩
      · have h : (s 0 || 0 == 1) = true := h
        simp at h
        exact ⟨(rA h).1, (rA h).2.alloc _⟩
      · have h : (s 0 || 0 == 1) = true := h
        simp at h
        have := (rA h).2.lt
        show gL ≠ wx.heap.size
        omega
      · have hj : j < 4 := hj
        rcases (show j = 0 ∨ j = 1 ∨ j = 2 ∨ j = 3 by omega) with rfl | rfl | rfl | rfl <;> first | rfl | exact absurd rfl hne | exact absurd hc (by decide)
    all_goals exact fun _ _ => .inl (by simp [execOp, go_sem, Act.eval])
  case hQ =>
    rintro ⟨⟨gL, gD⟩, w4⟩ hR
    obtain ⟨b4, rA, rB, nAB⟩ := hR
    have b4 : Below w3.heap.size w3 w4 := b4
    have KL := hid (rA rfl)
    have KD := hid (rB rfl)
    have nLD := nAB rfl rfl
    have hLge : w3.heap.size ≤ gL := KL.out.1
    have hDge : w3.heap.size ≤ gD := KD.out.1
    have nLD : gL ≠ gD := nLD
    have b34 := hid b4
    clear b4 rA rB nAB mkA mkB
    have C4 := hid (show CntW (w4.setCell ⟨gL, 256, none⟩ (.int .i64 1)) gL gD cnt0 by
      have h : CntW w4 gL gD (List.replicate 286 0, List.replicate 30 0) := ⟨KL.out.2, KD.out.2⟩
      exact h.set1 nLD 256 1)
    have b35 := hid (b34.out.setCell (p := ⟨gL, 256, none⟩) hLge (.int .i64 1))
    have kl256 := KL.out.2.cell 256
    have fz := fun o => KL.out.2.frozen o
    have kll := KL.out.2.lt
    rw [List.getElem?_toArray, show (intsV (List.replicate 286 0))[256]? = some (.int .i64 0) from by unfold intsV; rw [List.map_replicate, List.getElem?_replicate]; rfl] at kl256
    go_upto_region 8 with (fail)
    clear kl256 fz kll KL KD
    generalize w4.setCell ⟨gL, 256, none⟩ (.int .i64 1) = w5 at *
    go_wp2
    go_loopw [43] (fun i wr => ∃ j : Nat, j ≤ l.length ∧ i = .int .i64 (j : Int) ∧ Hid ((l.take j).all tgood = true) ∧ Hid (Below w3.heap.size w3 wr) ∧ Hid (CntW wr gL gD (cntM (l.take j)))) (fun i _ => l.length - (intOf i).toNat)
    case atStart => exact ⟨0, by omega, rfl, hid rfl, b35, C4⟩
    case round =>
      obtain ⟨j, hj, rfl, HA, G, C⟩ := hrel
      have hGs := G.out.size
      have BW := hid (B3.out.trans (G.out.mono B3.out.size))
      by_cases hlt : j < l.length
      · obtain ⟨b, off, rfl, hbb, h0, h1⟩ := tok_atP (rd_up Hr.out BW.out) hlt
        have Hs := hid (show (l.take (j + 1)).all tgood = ((l.take j).all tgood && tgood l[j]) by
          rw [List.take_succ_eq_append_getElem hlt, List.all_append]
          simp)
        have HN := hid (cntM_next l hlt)
        have HJ := hid (show tgood l[j] = false → l.all tgood = false from fun h => by
          rw [← Bool.not_eq_true, List.all_eq_true]
          intro h2
          have := h2 _ (List.getElem_mem hlt)
          rw [h] at this
          cases this)
        generalize l[j] = t at *
        obtain ⟨t1, t2⟩ := t
        have hal := (Below.refl wr.heap.size wr).alloc (Nat.le_refl _) (.cells #[.int .i64 t1, .int .i64 t2] 54)
        have T6 := hid (Blk.new wr 54 #[.int .i64 t1, .int .i64 t2])
        have G6 := hid (G.out.trans (hal.mono hGs))
        have C6 := hid (CntW.below C.out hal)
        clear hal G C BW
        simp only at h0 h1
        go_upto_region 11 with (fail)
        generalize wr.alloc (.cells #[.int .i64 t1, .int .i64 t2] 54) = w6 at *
        obtain ⟨g8, hg8⟩ : ∃ g, g = wr.heap.size := ⟨_, rfl⟩
        have hg8K : w3.heap.size ≤ g8 := by omega
        rw [← hg8] at T6 ⊢
        clear hg8 h0 h1
        have q0 := T6.out.cell 0
        have q1 := T6.out.cell 1
        simp only [List.getElem?_toArray, List.getElem?_cons_zero, List.getElem?_cons_succ] at q0 q1
        have hq := T6.out.lt
        obtain ⟨gd, hgd⟩ : ∃ g, tgood (t1, t2) = g := ⟨_, rfl⟩
        have RG := hid (refGood t1 t2 gd hgd w6)
        go_wp2_with fail
        refine RG.out.mono ?_
        rintro e w7 ⟨rfl, b7⟩
        have G7 := hid (G6.out.trans (b7.mono G6.out.size))
        have C7 := hid (CntW.below C6.out b7)
        have T7 := hid (T6.out.below b7 T6.out.lt)
        clear b7 RG G6 C6 T6 q0 q1 hq
        have q0 := T7.out.cell 0
        have q1 := T7.out.cell 1
        simp only [List.getElem?_toArray, List.getElem?_cons_zero, List.getElem?_cons_succ] at q0 q1
        have hq := T7.out.lt
        cases gd with
        | false =>
          have ha := HJ.out hgd
          have hn1 := HBad.out ha
          subst hn1
          rw [ha]
          have Q7 := hid (Q3.out.below G7.out Q3.out.lt)
          have y0 := Q7.out.cell 0
          have y1 := Q7.out.cell 1
          have y2 := Q7.out.cell 2
          simp only [List.getElem?_toArray, List.getElem?_cons_zero, List.getElem?_cons_succ] at y0 y1 y2
          have hy := Q7.out.lt
          have BF := hid (B3.out.trans (G7.out.mono B3.out.size))
          clear ha hgd HJ HBad HGood
          simp only [erP]
          go_wp2_with (first | (go_at_call 12; refine (is_no 6 6 (by decide) _).mono ?_; rintro e wb ⟨rfl, rfl⟩))
          go_ret
          exact ⟨rfl, BF.out⟩
        | true =>
          have HTG := hid hgd
          have htb := tgood_true.1 hgd
          simp only at htb
          have hlen := cnt_len (l.take j)
          have hbd := cntM_B (l.take j)
          have HAn := hid (show (l.take (j + 1)).all tgood = true by rw [Hs.out, HA.out, HTG.out]; rfl)
          have htk : (l.take j).length ≤ 300 := by rw [List.length_take]; omega
          clear hgd HJ Hs HA
          by_cases ht0 : t1 = 0
          · subst ht0
            obtain ⟨s, rfl⟩ : ∃ s : Nat, t2 = (s : Int) := ⟨t2.toNat, by omega⟩
            have hs : s < 256 := by omega
            have cc := cnt_cell1 C7.out (s := s) (by rw [hlen.1]; omega)
            have hbs := cntB_at hbd.1 (by omega) s
            have fz := fun o => C7.out.1.frozen o
            have hl := C7.out.1.lt
            have CN := hid (show CntW (w7.setCell ⟨gL, s, none⟩ (.int .i64 ((cntM (l.take j)).1.getD s 0 + 1))) gL gD (cntM (l.take (j + 1))) by
              rw [HN.out]
              exact C7.out.set1 nLD s _)
            have GN := hid (G7.out.setCell (p := ⟨gL, s, none⟩) hLge (.int .i64 ((cntM (l.take j)).1.getD s 0 + 1)))
            generalize (cntM (l.take j)).1.getD s 0 = x at *
            clear HN hbd hlen htb
            go_wp2_with fail
            go_roundw
            case rel => exact ⟨j + 1, by omega, by go_num, HAn, GN, CN⟩
            case measure => simp [intOf]; omega
          · have hb : 3 ≤ t1 ∧ t1 ≤ 258 ∧ 1 ≤ t2 ∧ t2 ≤ 32768 := by omega
            have hls := lsN_bd t1
            have hds := dsN_bd t2
            have RL := hid (rlen9_any t1 w7)
            have d0 : (t1 == 0) = false := by simpa using ht0
            go_wp2_with fail
            refine RL.out.mono ?_
            rintro e w8 ⟨rfl, b8⟩
            have G8 := hid (G7.out.trans (b8.mono G7.out.size))
            have C8 := hid (CntW.below C7.out b8)
            have T8 := hid (T7.out.below b8 T7.out.lt)
            clear b8 RL G7 C7 T7 q0 q1 hq d0
            have HNs := hid (show cntM (l.take (j + 1)) = (incL (cntM (l.take j)).1 (lsN t1), incL (cntM (l.take j)).2 (dsN t2)) by
              rw [HN.out]
              unfold cntStep
              rw [if_neg ht0])
            generalize lsN t1 = s at *
            have cc := cnt_cell1 C8.out (s := s) (by rw [hlen.1]; omega)
            have hbs := cntB_at hbd.1 (by omega) s
            have fz := fun o => C8.out.1.frozen o
            have hl := C8.out.1.lt
            have CN := hid (show CntW (w8.setCell ⟨gL, s, none⟩ (.int .i64 ((cntM (l.take j)).1.getD s 0 + 1))) gL gD (incL (cntM (l.take j)).1 s, (cntM (l.take j)).2) from
              CntW.set1 (c := (cntM (l.take j)).1) (d := (cntM (l.take j)).2) C8.out nLD s _)
            have GN := hid (G8.out.setCell (p := ⟨gL, s, none⟩) hLge (.int .i64 ((cntM (l.take j)).1.getD s 0 + 1)))
            have TN := hid (T8.out.far (p := ⟨gL, s, none⟩) (blk_ne T8.out C8.out.1 (by decide)) (.int .i64 ((cntM (l.take j)).1.getD s 0 + 1)))
            obtain ⟨x, hx⟩ : ∃ x, x = (cntM (l.take j)).1.getD s 0 := ⟨_, rfl⟩
            rw [← hx] at cc hbs CN GN TN
            clear hx HN htb
            go_upto_region 16 with (fail)
            obtain ⟨w9, hw9⟩ : ∃ w9, w9 = w8.setCell ⟨gL, s, none⟩ (.int .i64 (x + 1)) := ⟨_, rfl⟩
            rw [← hw9] at CN GN TN ⊢
            clear hw9 cc hbs fz hl G8 C8 T8
            have q0 := TN.out.cell 0
            have q1 := TN.out.cell 1
            simp only [List.getElem?_toArray, List.getElem?_cons_zero, List.getElem?_cons_succ] at q0 q1
            have hq := TN.out.lt
            have RD := hid (rdist9_any t2 w9)
            go_wp2_with fail
            refine RD.out.mono ?_
            rintro e w10 ⟨rfl, b10⟩
            have G10 := hid (GN.out.trans (b10.mono GN.out.size))
            have C10 := hid (CntW.below CN.out b10)
            clear b10 RD GN CN TN q0 q1 hq
            generalize dsN t2 = z at *
            have cc := cnt_cell2 C10.out (s := z) (by show z < (cntM (l.take j)).2.length; rw [hlen.2]; omega)
            have hbs := cntB_at hbd.2 (by omega) z
            have fz := fun o => C10.out.2.frozen o
            have hl := C10.out.2.lt
            have CN := hid (show CntW (w10.setCell ⟨gD, z, none⟩ (.int .i64 ((cntM (l.take j)).2.getD z 0 + 1))) gL gD (cntM (l.take (j + 1))) by
              rw [HNs.out]
              exact CntW.set2 C10.out nLD z _)
            have GN := hid (G10.out.setCell (p := ⟨gD, z, none⟩) hDge (.int .i64 ((cntM (l.take j)).2.getD z 0 + 1)))
            simp only at cc
            generalize (cntM (l.take j)).2.getD z 0 = y at *
            clear HNs hbd hlen
            go_wp2_with fail
            go_roundw
            case rel => exact ⟨j + 1, by omega, by go_num, HAn, GN, CN⟩
            case measure => simp [intOf]; omega
      · obtain rfl : j = l.length := by omega
        rw [List.take_length] at HA C
        have hall := HA.out
        obtain ⟨gA, gB, gC, rfl, rfl, rfl, rfl, rfl, rfl, kA, kB, kC⟩ := HGood.out hall
        rw [hall]
        have Hgt := hid (fun t (ht : t ∈ l) => List.all_eq_true.1 hall t ht)
        have b2r := hid (b23.out.trans (G.out.mono b23.out.size))
        have KA := hid (kA.below b2r.out kA.lt)
        have KB := hid (kB.below b2r.out kB.lt)
        have KC := hid (kC.below b2r.out kC.lt)
        have Q := hid (Q3.out.below G.out Q3.out.lt)
        clear hall HA HBad HGood kA kB kC b35 C4 b34
        simp only [erP]
        have y0 := Q.out.cell 0
        have y1 := Q.out.cell 1
        have y2 := Q.out.cell 2
        simp only [List.getElem?_toArray, List.getElem?_cons_zero, List.getElem?_cons_succ] at y0 y1 y2
        have hy := Q.out.lt
        have hlen := cnt_len l
        have hbd := cntM_B l
        have hcB : cntB (cntM l).1 301 := cntB_more hbd.1 (by omega)
        have hdB : cntB (cntM l).2 301 := cntB_more hbd.2 (by omega)
        have hPG := own_good Hgt.out
        have HcB := hid hcB
        have HdB := hid hdB
        have HbL := hid hPG.bL
        have HbD := hid hPG.bD
        have HLen := hid hlen
        clear hbd hcB hdB hPG hlen
        go_wp2
        go_loop [9, 10, 108] (fun sm us i => ∃ j : Nat, j ≤ 256 ∧ i = .int .i64 (j : Int) ∧ sm = .int .i64 (costTo (cntM l).1 (ownM l).L j) ∧ us = .int .i64 (((1 + usedTo (cntM l).1 j : Nat)) : Int)) (fun _ _ i => 256 - (intOf i).toNat)
        case atStart => exact ⟨0, by omega, rfl, rfl, rfl⟩
        case round =>
          obtain ⟨j, hj, rfl, rfl, rfl⟩ := hrel
          by_cases hlt : j < 256
          · have d0 : decide (j < 256) = true := decide_eq_true hlt
            have kv := row_cell KA.out (j := j) (by unfold prLit; rw [List.length_map, List.length_range]; exact hlt)
            have ev : (prLit l).getD j 0 = ofM (cntM l).1 (ownM l).L j 0 := map_getD _ 256 hlt
            rw [ev] at kv
            have cv := cnt_cell1 C.out (s := j) (by rw [HLen.out.1]; omega)
            have hcj := cntB_at HcB.out (by omega) j
            have hLj := cntB_at (b := 16) (c := (ownM l).L) HbL.out (by omega) j
            have hsum := costTo_bd HcB.out HbL.out j
            have HC := hid (show costTo (cntM l).1 (ownM l).L (j + 1) = costTo (cntM l).1 (ownM l).L j + (cntM l).1.getD j 0 * (ownM l).L.getD j 0 from rfl)
            have HU := hid (usedTo_next (cntM l).1 (j := j) (by rw [HLen.out.1]; omega))
            have hus : usedTo (cntM l).1 j ≤ 286 := by
              have h1 := (List.length_filter_le (fun x => decide ((0 : Int) < x)) ((cntM l).1.take j))
              rw [List.length_take] at h1
              have h2 := HLen.out.1
              unfold usedTo usedN
              omega
            unfold ofM at kv
            clear ev
            obtain ⟨sm, hsm⟩ : ∃ sm, sm = costTo (cntM l).1 (ownM l).L j := ⟨_, rfl⟩
            rw [← hsm] at hsum HC ⊢
            obtain ⟨us, hus2⟩ : ∃ us, us = usedTo (cntM l).1 j := ⟨_, rfl⟩
            rw [← hus2] at hus HU ⊢
            generalize (cntM l).1.getD j 0 = cj at *
            generalize (ownM l).L.getD j 0 = x at *
            clear hsm hus2
            by_cases hc0 : cj = 0
            · subst hc0
              rw [if_pos rfl] at kv
              have HC2 := hid (show costTo (cntM l).1 (ownM l).L (j + 1) = sm by rw [HC.out]; omega)
              have HU2 := hid (show usedTo (cntM l).1 (j + 1) = us by rw [HU.out, if_neg (by decide), Nat.add_zero])
              clear HC HU hcj
              go_wp2
              go_round
              case rel => exact ⟨j + 1, by omega, by go_num, by rw [HC2.out], by rw [HU2.out]⟩
              case measure => simp [intOf]; omega
            · rw [if_neg hc0, Int.add_zero] at kv
              obtain ⟨p1, p2, p3, p4, p5, p6⟩ := pay hcj.1 hcj.2 hLj.1 hLj.2
              have HC2 := hid (show costTo (cntM l).1 (ownM l).L (j + 1) = sm + cj * x from HC.out)
              have HU2 := hid (show usedTo (cntM l).1 (j + 1) = us + 1 by rw [HU.out, if_pos (by omega)])
              have hpos : 0 < cj := by omega
              have d3 : decide (0 < cj) = true := decide_eq_true hpos
              have d4 : (cj == 0) = false := by simpa using hc0
              clear HC HU
              obtain ⟨n, hn⟩ : ∃ n, n = 16 * x := ⟨_, rfl⟩
              rw [← hn] at kv p1 p2 p3 p4
              obtain ⟨q, hq2⟩ : ∃ q, q = cj * x := ⟨_, rfl⟩
              rw [← hq2] at p2 p5 p6 HC2
              clear hn hq2
              go_wp2
              go_round
              case rel => exact ⟨j + 1, by omega, by go_num, by rw [HC2.out], by rw [HU2.out]; go_num⟩
              case measure => simp [intOf]; omega
          · obtain rfl : j = 256 := by omega
            have LA := hid (lens_any wr)
            go_wp2_with fail
            refine LA.out.mono ?_
            rintro e w11 ⟨rfl, hb11, hsz11, _, hc2⟩
            have b12 := hid (hb11.alloc hb11.size (.map #[] 0))
            have OM := hid (World.ownsMap_made (H := Unit) w11 Try.prog 3 (plainElem Try.prog 3))
            have TB := hid (fun k (hk : k < 29) => (((Below.refl w11.heap.size w11).alloc (Nat.le_refl _) (.map #[] 0)).cell (p := ⟨wr.heap.size + 1, k, none⟩) (by show wr.heap.size + 1 < w11.heap.size; omega)).trans (hc2 k hk))
            have hwr11 : wr.heap.size + 2 ≤ w11.heap.size := by omega
            clear hb11 hsz11 hc2 LA
            have mkm := @run_makeMap Try.prog
            go_upto_region 32 with (fail)
            generalize w11.alloc (.map #[] 0) = w12 at *
            obtain ⟨gm, hgm⟩ : ∃ g, g = w11.heap.size := ⟨_, rfl⟩
            have hgmr : wr.heap.size + 2 ≤ gm := by omega
            rw [← hgm] at OM ⊢
            clear hgm hwr11
            have hA := KA.out.lt
            have hB := KB.out.lt
            have hCl := KC.out.lt
            have hL1 := C.out.1.lt
            have hL2 := C.out.2.lt
            have hQl := Q.out.lt
            have PX := hid (fun (w : World) (h : w12.grownBy w (some gm)) => (show Blk w gB 3 (intsV (prLen l)).toArray ∧ Blk w g3 50 #[.slice (some ⟨gA, 0, none⟩) 256 256, .slice (some ⟨gB, 0, none⟩) 259 259, .slice (some ⟨gC, 0, none⟩) 30 30] ∧ CntW w gL gD (cntM l) ∧ (∀ k, k < 29 → w.cell? ⟨wr.heap.size + 1, k, none⟩ = some (.int .i64 (lextra (257 + (k : Int))))) ∧ Blk w gC 3 (intsV (prDst l)).toArray from by
              have ne : ∀ k, k < wr.heap.size + 2 → some k ≠ some gm := fun k hk e => by injection e with e; omega
              refine ⟨(KB.out.below b12.out hB).grown h (ne _ (by omega)), (Q.out.below b12.out hQl).grown h (ne _ (by omega)), ⟨(C.out.1.below b12.out hL1).grown h (ne _ (by omega)), (C.out.2.below b12.out hL2).grown h (ne _ (by omega))⟩, fun k hk => ?_, (KC.out.below b12.out hCl).grown h (ne _ (by omega))⟩
              exact (grown_cell h (p := ⟨wr.heap.size + 1, k, none⟩) (by have := OM.out.lt; show wr.heap.size + 1 < w12.heap.size; omega) (ne (wr.heap.size + 1) (by omega))).trans (TB.out k hk)))
            have KI := hid (Maps.int_keyed Try.underlying3)
            have hz : ∀ w : World, (zeroValue 3).run Try.prog w = .ok (.int .i64 0) w := fun w => by kernel_rfl
            have HZ := hid hz
            clear hz y0 y1 y2 hy
            have BF := hid (B3.out.trans ((G.out.trans (b12.out.mono hGs)).mono B3.out.size))
            have hWgm : W.heap.size ≤ gm := by have := B3.out.size; omega
            obtain ⟨rb, hrb⟩ : ∃ r, r = wr.heap.size := ⟨_, rfl⟩
            rw [← hrb] at PX hgmr ⊢
            clear hrb hA hB hCl hL1 hL2 hQl KA KB KC Q C TB b12 G mkm hj hlt BW B2 b23 b2r
            go_wp2
            go_loopw [9, 10, 16] (fun sm us i wq => ∃ n : Nat, 3 ≤ n ∧ n ≤ 259 ∧ i = .int .i64 (n : Int) ∧ sm = .int .i64 (costTo (cntM l).1 (ownM l).L 256 + (costTo (cntM l).1 (ownM l).L (topN n) - costTo (cntM l).1 (ownM l).L 257)) ∧ us = .int .i64 (((1 + usedTo (cntM l).1 256 + (usedTo (cntM l).1 (topN n) - usedTo (cntM l).1 257) : Nat)) : Int) ∧ Hid (w12.grownBy wq (some gm)) ∧ Hid (∃ D : DataW Unit, wq.ownsMap Try.prog 3 (plainElem Try.prog 3) gm n D ∧ SeenD D n)) (fun _ _ i _ => 259 - (intOf i).toNat)
            case atStart => exact ⟨3, by omega, by omega, rfl, by rw [show topN 3 = 257 from rfl, Int.sub_self, Int.add_zero], by rw [show topN 3 = 257 from rfl, Nat.sub_self, Nat.add_zero]; push_cast; rfl, hid (World.grownBy.refl _ _), hid ⟨_, OM.out.mono (by omega), seen_start⟩⟩
            case round =>
              obtain ⟨n, hn3, hn, rfl, rfl, rfl, HG, HO⟩ := hrel
              have hGs3 := HG.out.size
              by_cases hlt : n < 259
              · obtain ⟨ht, ht2⟩ := top_at hn3 hlt
                have hls := lsN_bd (n : Int)
                have RL := hid (rlen9_any (n : Int) wr)
                have d0 : decide (n < 259) = true := decide_eq_true hlt
                go_wp2_with fail
                refine RL.out.mono ?_
                rintro e w13 ⟨rfl, b13⟩
                have G13 := hid (grown_below1 HG.out b13)
                have O13 : Hid (∃ D : DataW Unit, w13.ownsMap Try.prog 3 (plainElem Try.prog 3) gm n D ∧ SeenD D n) := hid (by
                  obtain ⟨D, h1, h2⟩ := HO.out
                  exact ⟨D, h1.kept (row := none) ⟨b13.os, b13.tape, b13.output, b13.size, fun k hk _ => b13.block k hk⟩ (by simp), h2⟩)
                clear b13 RL HG HO d0
                have hG13 := G13.out.size
                obtain ⟨XB, XQ, XC, XE, _⟩ := PX.out _ G13.out
                have y0 := XQ.cell 0
                have y1 := XQ.cell 1
                have y2 := XQ.cell 2
                simp only [List.getElem?_toArray, List.getElem?_cons_zero, List.getElem?_cons_succ] at y0 y1 y2
                have hy := XQ.lt
                have kv := row_cell XB (j := n) (by unfold prLen; rw [List.length_map, List.length_range]; exact hlt)
                have ev : (prLen l).getD n 0 = ofM (cntM l).1 (ownM l).L (lsN (n : Int)) (lextra (lsN (n : Int) : Nat)) := (map_getD _ 259 hlt).trans (by unfold lenA; rw [if_neg (by omega)])
                rw [ev] at kv
                have cv := cnt_cell1 XC (s := lsN (n : Int)) (by rw [HLen.out.1]; omega)
                have xv := XE (lsN (n : Int) - 257) (by omega)
                rw [show (257 : Int) + ((lsN (n : Int) - 257 : Nat) : Int) = ((lsN (n : Int) : Nat) : Int) by omega] at xv
                have hxb := lext_bd2' (n : Int)
                have hcj := cntB_at HcB.out (by omega) (lsN (n : Int))
                have hLj := cntB_at (b := 16) (c := (ownM l).L) HbL.out (by omega) (lsN (n : Int))
                have HP := hid (show ∀ (D : DataW Unit) (v : Int), SeenD D n → D.atKey (.int .i64 ((lsN (n : Int) : Nat) : Int)) (.lit (.int .i64 0)) = .lit (.int .i64 v) → SeenD (D.put (.int .i64 ((lsN (n : Int) : Nat) : Int)) (.lit (.int .i64 (v + 1)))) (n + 1) from fun D v h hv => h.put hn3 hlt hv)
                have HS := hid (show costTo (cntM l).1 (ownM l).L 256 + (costTo (cntM l).1 (ownM l).L (topN (n + 1)) - costTo (cntM l).1 (ownM l).L 257) = costTo (cntM l).1 (ownM l).L 256 + (costTo (cntM l).1 (ownM l).L (topN n) - costTo (cntM l).1 (ownM l).L 257) + (if lsN (n : Int) = topN n then (cntM l).1.getD (lsN (n : Int)) 0 * (ownM l).L.getD (lsN (n : Int)) 0 else 0) by
                  rw [ht2]
                  by_cases h : lsN (n : Int) = topN n
                  · have hc : costTo (cntM l).1 (ownM l).L (lsN (n : Int) + 1) = costTo (cntM l).1 (ownM l).L (lsN (n : Int)) + (cntM l).1.getD (lsN (n : Int)) 0 * (ownM l).L.getD (lsN (n : Int)) 0 := rfl
                    rw [if_pos h, hc, h]
                    omega
                  · rw [if_neg h, ← (show topN n = lsN (n : Int) + 1 by omega)]
                    omega)
                have HU := hid (show 1 + usedTo (cntM l).1 256 + (usedTo (cntM l).1 (topN (n + 1)) - usedTo (cntM l).1 257) = 1 + usedTo (cntM l).1 256 + (usedTo (cntM l).1 (topN n) - usedTo (cntM l).1 257) + (if lsN (n : Int) = topN n ∧ 0 < (cntM l).1.getD (lsN (n : Int)) 0 then 1 else 0) by
                  have hmm := usedTo_mono (cntM l).1 (topN n - 257) 257
                  rw [show 257 + (topN n - 257) = topN n by omega] at hmm
                  have hnx := usedTo_next (cntM l).1 (j := lsN (n : Int)) (by rw [HLen.out.1]; omega)
                  rw [ht2]
                  by_cases h : lsN (n : Int) = topN n
                  · rw [hnx, h]
                    by_cases h2 : 0 < (cntM l).1.getD (topN n) 0
                    · rw [if_pos h2, if_pos ⟨rfl, h2⟩]
                      omega
                    · rw [if_neg h2, if_neg (fun h => h2 h.2)]
                      omega
                  · rw [if_neg (fun h2 => h h2.1), ← (show topN n = lsN (n : Int) + 1 by omega)]
                    omega)
                have CV := hid (fun (w : World) (h : w12.grownBy w (some gm)) => cnt_cell1 (PX.out w h).2.2.1 (s := lsN (n : Int)) (by rw [HLen.out.1]; omega))
                have hsb := costTo_bd HcB.out HbL.out
                have hs1 := hsb 256
                have hs2 := hsb 257
                have hs3 := hsb (topN n)
                have htn : topN n ≤ 286 := by omega
                have hs4 : -3000000 ≤ costTo (cntM l).1 (ownM l).L 256 + (costTo (cntM l).1 (ownM l).L (topN n) - costTo (cntM l).1 (ownM l).L 257) ∧ costTo (cntM l).1 (ownM l).L 256 + (costTo (cntM l).1 (ownM l).L (topN n) - costTo (cntM l).1 (ownM l).L 257) ≤ 5000000 := by omega
                have hub : ∀ j, usedTo (cntM l).1 j ≤ 286 := by
                  intro j
                  have h1 := (List.length_filter_le (fun x => decide ((0 : Int) < x)) ((cntM l).1.take j))
                  rw [List.length_take] at h1
                  have h2 := HLen.out.1
                  unfold usedTo usedN
                  omega
                have hu4 : 1 + usedTo (cntM l).1 256 + (usedTo (cntM l).1 (topN n) - usedTo (cntM l).1 257) ≤ 1000 := by
                  have := hub 256
                  have := hub (topN n)
                  omega
                clear hs1 hs2 hs3 hsb hub
                generalize costTo (cntM l).1 (ownM l).L 256 + (costTo (cntM l).1 (ownM l).L (topN n) - costTo (cntM l).1 (ownM l).L 257) = sm at *
                generalize 1 + usedTo (cntM l).1 256 + (usedTo (cntM l).1 (topN n) - usedTo (cntM l).1 257) = us at *
                obtain ⟨o, ho, ho1⟩ : ∃ o : Int, ofM (cntM l).1 (ownM l).L (lsN (n : Int)) (lextra (lsN (n : Int) : Nat)) = o + 16 * lextra (lsN (n : Int) : Nat) ∧ o = if (cntM l).1.getD (lsN (n : Int)) 0 = 0 then 240 else 16 * (ownM l).L.getD (lsN (n : Int)) 0 := by
                  refine ⟨_, ?_, rfl⟩
                  unfold ofM
                  split <;> omega
                rw [ho] at kv
                clear ev XB XQ XC XE ho
                generalize lextra (lsN (n : Int) : Nat) = ex at *
                generalize (cntM l).1.getD (lsN (n : Int)) 0 = cj at *
                generalize (ownM l).L.getD (lsN (n : Int)) 0 = x at *
                have ho2 : 0 ≤ o ∧ o ≤ 256 := by split at ho1 <;> omega
                generalize lsN (n : Int) = s at *
                obtain ⟨vv, hvv⟩ : ∃ v, v = o + 16 * ex := ⟨_, rfl⟩
                rw [← hvv] at kv
                have HO1 := hid ho1
                clear ho1
                go_upto_region 36 with (fail)
                go_quiet (fail)
                obtain ⟨w14, hw14⟩ : ∃ w, w = w13.drewN nq := ⟨_, rfl⟩
                have G14 : Hid (w12.grownBy w14 (some gm)) := hid (by
                  rw [hw14]
                  exact ⟨G13.out.os, G13.out.tape, G13.out.output, G13.out.size, G13.out.block⟩)
                have O14 : Hid (∃ D : DataW Unit, w14.ownsMap Try.prog 3 (plainElem Try.prog 3) gm n D ∧ SeenD D n) := hid (by
                  rw [hw14]
                  exact O13.out)
                rw [← hw14]
                clear hw14 cv kv xv y0 y1 y2 hy hvv G13 O13
                obtain ⟨D, OMn, SD⟩ := O14.out
                obtain ⟨v, hrun, hat, hwv⟩ := OMn.lookup_int (q := .i64) KI.out Try.underlying59 Try.underlying3 (HZ.out w14) (key := .int .i64 (s : Int)) (kl := .int .i64 (s : Int)) (Maps.keyOf_int_mk Try.underlying3 (WalkArith.wf_i64 ⟨by omega, by omega⟩))
                have hv1 : (s = topN n → v = 0) ∧ (s + 1 = topN n → 1 ≤ v) ∧ 0 ≤ v ∧ v ≤ n := by
                  rcases ht with h | h
                  · have h0 := SD.2.1 s (by omega)
                    rw [h0] at hat
                    injection hat with hat
                    injection hat with _ hat
                    omega
                  · obtain ⟨v', a, b, c⟩ := SD.2.2 s (by omega) (by omega)
                    rw [c] at hat
                    injection hat with hat
                    injection hat with _ hat
                    omega
                have hwf : (Lit.int .i64 (v + 1)).wf = true := WalkArith.wf_i64 ⟨by omega, by omega⟩
                have hws : (Lit.int .i64 (s : Int)).wf = true := WalkArith.wf_i64 ⟨by omega, by omega⟩
                obtain ⟨w15, hrun2, O15, G15⟩ := OMn.update KI.out Try.underlying59 (by unfold maxLen; omega) (key := .int .i64 (s : Int)) (kl := .int .i64 (s : Int)) (val := .int .i64 (v + 1)) (Maps.keyOf_int_mk Try.underlying3 hws) (plainElem_int Try.underlying3 hwf)
                have G16 := hid (grTr G14.out G15)
                have cv4 := CV.out _ G14.out
                have cv5 := CV.out _ G16.out
                obtain ⟨v3, hrun3, hat3, _⟩ := O15.lookup_int (q := .i64) KI.out Try.underlying59 Try.underlying3 (HZ.out w15) (key := .int .i64 (s : Int)) (kl := .int .i64 (s : Int)) (Maps.keyOf_int_mk Try.underlying3 hws)
                have hv3 : v3 = v + 1 := by
                  rw [Maps.atKey_put_same (k := .int .i64 (s : Int)) SD.1 trivial] at hat3
                  injection hat3 with hat3
                  injection hat3 with _ hat3
                  exact hat3.symm
                have OX := hid (show ∃ D : DataW Unit, w15.ownsMap Try.prog 3 (plainElem Try.prog 3) gm (n + 1) D ∧ SeenD D (n + 1) from ⟨_, O15, HP.out D v SD hat⟩)
                have hvb : 0 ≤ v ∧ v ≤ 300 := by omega
                have d5 : s = topN n → (v3 == 1) = true := fun h => by rw [hv3, hv1.1 h]; rfl
                have d6 : s + 1 = topN n → (v3 == 1) = false := fun h => by
                  have := hv1.2.1 h
                  rw [beq_eq_false_iff_ne]
                  omega
                clear hv3 hat3 hv1 hat hwv hwf hws O15 G15 OMn SD O14 G14 HP CV
                by_cases hc0 : cj = 0
                · subst hc0
                  have e := HO1.out
                  rw [if_pos rfl] at e
                  subst e
                  have HU2 := hid (HU.out.trans (by rw [if_neg (fun h => by omega)]; rfl : _ = us))
                  have HS2 := hid (HS.out.trans (by rw [Int.zero_mul, ite_self, Int.add_zero] : _ = sm))
                  clear HU HS HO1 hcj hxb hLj
                  rcases ht with hte | hte
                  · have d7 := d5 hte
                    clear d5 d6 hte
                    go_wp2
                    go_roundw
                    case rel => exact ⟨n + 1, by omega, by omega, by go_num, by rw [HS2.out], by rw [HU2.out], G16, OX⟩
                    case measure => simp [intOf]; omega
                  · have d7 := d6 hte
                    clear d5 d6 hte
                    go_wp2
                    go_roundw
                    case rel => exact ⟨n + 1, by omega, by omega, by go_num, by rw [HS2.out], by rw [HU2.out], G16, OX⟩
                    case measure => simp [intOf]; omega
                · obtain ⟨p1, p2, p3, p4, p5, p6⟩ := pay hcj.1 hcj.2 hLj.1 hLj.2
                  have e := HO1.out
                  rw [if_neg hc0] at e
                  rw [← e] at p1 p2 p3 p4
                  have d3 : decide (0 < cj) = true := decide_eq_true (by omega)
                  have d4 : (cj == 0) = false := by simpa using hc0
                  clear e HO1 hxb hLj
                  rcases ht with hte | hte
                  · have d7 := d5 hte
                    have HU2 := hid (HU.out.trans (by rw [if_pos ⟨hte, by omega⟩] : _ = us + 1))
                    have HS2 := hid (HS.out.trans (by rw [if_pos hte] : _ = sm + cj * x))
                    obtain ⟨q, hq2⟩ : ∃ q, q = cj * x := ⟨_, rfl⟩
                    rw [← hq2] at p2 p5 p6 HS2
                    clear d5 d6 hq2 HU HS hte
                    go_wp2
                    go_roundw
                    case rel => exact ⟨n + 1, by omega, by omega, by go_num, by rw [HS2.out], by rw [HU2.out]; go_num, G16, OX⟩
                    case measure => simp [intOf]; omega
                  · have d7 := d6 hte
                    have HU2 := hid (HU.out.trans (by rw [if_neg (fun h => by omega)]; rfl : _ = us))
                    have HS2 := hid (HS.out.trans (by rw [if_neg (by omega), Int.add_zero] : _ = sm))
                    clear d5 d6 HU HS hte
                    go_wp2
                    go_roundw
                    case rel => exact ⟨n + 1, by omega, by omega, by go_num, by rw [HS2.out], by rw [HU2.out], G16, OX⟩
                    case measure => simp [intOf]; omega
              · obtain rfl : n = 259 := by omega
                rw [top_end]
                have HS := hid (show costTo (cntM l).1 (ownM l).L 256 + (costTo (cntM l).1 (ownM l).L 286 - costTo (cntM l).1 (ownM l).L 257) = costTo (cntM l).1 (ownM l).L 256 + (costTo (cntM l).1 (ownM l).L 286 - costTo (cntM l).1 (ownM l).L 257) from rfl)
                have HU := hid (show 1 + usedTo (cntM l).1 256 + (usedTo (cntM l).1 286 - usedTo (cntM l).1 257) = usedTo (cntM l).1 286 by
                  have h1 := (used_all Hgt.out).2
                  have h2 := usedTo_mono (cntM l).1 29 257
                  rw [show 257 + 29 = 286 from rfl] at h2
                  omega)
                rw [HU.out]
                obtain ⟨sm, hsm⟩ : ∃ sm, sm = costTo (cntM l).1 (ownM l).L 256 + (costTo (cntM l).1 (ownM l).L 286 - costTo (cntM l).1 (ownM l).L 257) := ⟨_, rfl⟩
                rw [← hsm]
                have HSM := hid hsm
                have hsb := costTo_bd HcB.out HbL.out
                have hs1 := hsb 256
                have hs2 := hsb 257
                have hs3 := hsb 286
                have hs4 : -3000000 ≤ sm ∧ sm ≤ 5000000 := by omega
                clear HS HU hsm hs1 hs2 hs3 hsb HO HZ KI OM
                have b3r := hid (BF.out.grown HG.out BF.out.size (fun k e => by injection e with e; omega))
                have DA := hid (dists_any wr)
                go_wp2_with fail
                refine DA.out.mono ?_
                rintro e w13 ⟨rfl, hb13, hsz13, _, hc13⟩
                have G13 := hid (grown_below1 HG.out hb13)
                have B13 := hid (b3r.out.trans (hb13.mono b3r.out.size))
                have EX := hid hc13
                obtain ⟨_, XQ, XC, _, XD⟩ := PX.out _ G13.out
                have KC := hid XD
                have C := hid XC
                have y0 := XQ.cell 0
                have y1 := XQ.cell 1
                have y2 := XQ.cell 2
                simp only [List.getElem?_toArray, List.getElem?_cons_zero, List.getElem?_cons_succ] at y0 y1 y2
                have hy := XQ.lt
                obtain ⟨rd, hrd⟩ : ∃ r, r = wr.heap.size := ⟨_, rfl⟩
                rw [← hrd] at EX ⊢
                clear PX G13 HG DA b3r XQ XC XD hb13 hsz13 hc13 hrd
                go_wp2
                go_loop [19, 214] (fun far i => ∃ j : Nat, j ≤ 30 ∧ i = .int .i64 (j : Int) ∧ far = .int .i64 (costTo (cntM l).2 (ownM l).D j)) (fun _ i => 30 - (intOf i).toNat)
                case atStart => exact ⟨0, by omega, rfl, rfl⟩
                case round =>
                  obtain ⟨j, hj, rfl, rfl⟩ := hrel
                  by_cases hlt : j < 30
                  · have d0 : decide (j < 30) = true := decide_eq_true hlt
                    have kv := row_cell KC.out (j := j) (by unfold prDst; rw [List.length_map, List.length_range]; exact hlt)
                    have ev : (prDst l).getD j 0 = ofM (cntM l).2 (ownM l).D j (dextra (j : Nat)) := map_getD _ 30 hlt
                    rw [ev] at kv
                    have cv := cnt_cell2 C.out (s := j) (by rw [HLen.out.2]; omega)
                    have xv := EX.out j hlt
                    have hcj := cntB_at HdB.out (by omega) j
                    have hLj := cntB_at (b := 16) (c := (ownM l).D) HbD.out (by omega) j
                    have hsum := costTo_bd HdB.out HbD.out j
                    have hxb := dext_bd2 hlt
                    have HC := hid (show costTo (cntM l).2 (ownM l).D (j + 1) = costTo (cntM l).2 (ownM l).D j + (cntM l).2.getD j 0 * (ownM l).D.getD j 0 from rfl)
                    obtain ⟨o, ho, ho1⟩ : ∃ o : Int, ofM (cntM l).2 (ownM l).D j (dextra (j : Nat)) = o + 16 * dextra (j : Nat) ∧ o = if (cntM l).2.getD j 0 = 0 then 240 else 16 * (ownM l).D.getD j 0 := by
                      refine ⟨_, ?_, rfl⟩
                      unfold ofM
                      split <;> omega
                    rw [ho] at kv
                    clear ev ho
                    obtain ⟨fm, hfm⟩ : ∃ fm, fm = costTo (cntM l).2 (ownM l).D j := ⟨_, rfl⟩
                    rw [← hfm] at hsum HC ⊢
                    generalize dextra (j : Nat) = ex at *
                    generalize (cntM l).2.getD j 0 = cj at *
                    generalize (ownM l).D.getD j 0 = x at *
                    have ho2 : 0 ≤ o ∧ o ≤ 256 := by split at ho1 <;> omega
                    obtain ⟨vv, hvv⟩ : ∃ v, v = o + 16 * ex := ⟨_, rfl⟩
                    rw [← hvv] at kv
                    have HO1 := hid ho1
                    clear ho1 hfm
                    go_upto_region 49 with (fail)
                    clear hvv kv xv hxb
                    by_cases hc0 : cj = 0
                    · subst hc0
                      have e := HO1.out
                      rw [if_pos rfl] at e
                      subst e
                      have HC2 := hid (HC.out.trans (by rw [Int.zero_mul, Int.add_zero] : _ = fm))
                      clear HC HO1 hcj hLj
                      go_wp2
                      go_round
                      case rel => exact ⟨j + 1, by omega, by go_num, by rw [HC2.out]⟩
                      case measure => simp [intOf]; omega
                    · obtain ⟨p1, p2, p3, p4, p5, p6⟩ := pay hcj.1 hcj.2 hLj.1 hLj.2
                      have e := HO1.out
                      rw [if_neg hc0] at e
                      rw [← e] at p1 p2 p3 p4
                      have d3 : decide (0 < cj) = true := decide_eq_true (by omega)
                      have d4 : (cj == 0) = false := by simpa using hc0
                      clear e HO1
                      have HC2 := hid (show costTo (cntM l).2 (ownM l).D (j + 1) = fm + cj * x from HC.out)
                      obtain ⟨q, hq2⟩ : ∃ q, q = cj * x := ⟨_, rfl⟩
                      rw [← hq2] at p2 p5 p6 HC2
                      clear hq2 HC
                      go_wp2
                      go_round
                      case rel => exact ⟨j + 1, by omega, by go_num, by rw [HC2.out]⟩
                      case measure => simp [intOf]; omega
                  · obtain rfl : j = 30 := by omega
                    rw [far_cost hm]
                    have h := usedref_any (some ⟨gL, 0, none⟩) 286 (cntM l).1 w13 (blk_rdi C.out.1) (by rw [HLen.out.1]; omega)
                    rw [HLen.out.1] at h
                    have UL := hid h
                    clear h y0 y1 y2 hy EX KC
                    go_wp2_with fail
                    refine UL.out.mono ?_
                    rintro e w14 ⟨A6, c6, rfl, ho6, hb6⟩
                    have D6 := hid (own_rdi' ho6 rfl)
                    have B14 := hid (B13.out.trans (hb6.mono B13.out.size))
                    have C14 := hid (CntW.below C.out hb6)
                    have BA := hid (bestref_all A6 c6 15 (dsc (itemsOf (cntM l).1)) w14 D6.out (dsc_300 (by rw [HLen.out.1]; omega)) (by omega) (dsc_bd HcB.out))
                    clear ho6 hb6 UL B13 C D6
                    go_wp2_with fail
                    refine BA.out.mono ?_
                    rintro e w15 ⟨rfl, hb7⟩
                    have B15 := hid (B14.out.trans (hb7.mono B14.out.size))
                    have C15 := hid (CntW.below C14.out hb7)
                    have HE := hid (fun (least : Int) => end_cost Hgt.out hm HSM.out (least := least))
                    have hub : usedTo (cntM l).1 286 ≤ 286 := by
                      have h1 := (List.length_filter_le (fun x => decide ((0 : Int) < x)) ((cntM l).1.take 286))
                      rw [List.length_take] at h1
                      unfold usedTo usedN
                      omega
                    clear hb7 B14 C14 BA HSM
                    have h := usedref_any (some ⟨gD, 0, none⟩) 30 (cntM l).2 w15 (blk_rdi C15.out.2) (by rw [HLen.out.2]; omega)
                    rw [HLen.out.2] at h
                    have UD := hid h
                    clear h
                    generalize usedTo (cntM l).1 286 = us at *
                    generalize bestFn (dsc (itemsOf (cntM l).1)) 15 = z1 at *
                    by_cases hu : us = 1
                    · subst hu
                      have he := HE.out 1 (by rw [if_pos rfl])
                      have d1 : decide ((1 : Int) ≤ 1 - sm) = true := decide_eq_true he.1
                      have d2 : decide ((1 : Int) - sm ≤ 15) = true := decide_eq_true he.2
                      clear HE
                      go_upto_region 58 with (fail)
                      go_wp2_with fail
                      refine UD.out.mono ?_
                      rintro e w16 ⟨A7, c7, rfl, ho7, hb8⟩
                      have D7 := hid (own_rdi' ho7 rfl)
                      have B16 := hid (B15.out.trans (hb8.mono B15.out.size))
                      have BD := hid (bestref_all A7 c7 15 (dsc (itemsOf (cntM l).2)) w16 D7.out (dsc_300 (by rw [HLen.out.2]; omega)) (by omega) (dsc_bd HdB.out))
                      clear ho7 hb8 UD B15 D7 C15
                      go_wp2_with fail
                      refine BD.out.mono ?_
                      rintro e w17 ⟨rfl, hb9⟩
                      have B17 := hid (B16.out.trans (hb9.mono B16.out.size))
                      clear hb9 B16 BD
                      generalize bestFn (dsc (itemsOf (cntM l).2)) 15 = z2 at *
                      go_wp2
                      go_ret
                      exact ⟨ret_bool (by simp), B17.out⟩
                    · have he := HE.out z1 (by rw [if_neg hu])
                      have d1 : decide ((1 : Int) ≤ z1 - sm) = true := decide_eq_true he.1
                      have d2 : decide (z1 - sm ≤ 15) = true := decide_eq_true he.2
                      have d3 : ((us : Int) == 1) = false := by rw [beq_eq_false_iff_ne]; omega
                      clear HE
                      go_upto_region 58 with (fail)
                      go_wp2_with fail
                      refine UD.out.mono ?_
                      rintro e w16 ⟨A7, c7, rfl, ho7, hb8⟩
                      have D7 := hid (own_rdi' ho7 rfl)
                      have B16 := hid (B15.out.trans (hb8.mono B15.out.size))
                      have BD := hid (bestref_all A7 c7 15 (dsc (itemsOf (cntM l).2)) w16 D7.out (dsc_300 (by rw [HLen.out.2]; omega)) (by omega) (dsc_bd HdB.out))
                      clear ho7 hb8 UD B15 D7 C15
                      go_wp2_with fail
                      refine BD.out.mono ?_
                      rintro e w17 ⟨rfl, hb9⟩
                      have B17 := hid (B16.out.trans (hb9.mono B16.out.size))
                      clear hb9 B16 BD
                      generalize bestFn (dsc (itemsOf (cntM l).2)) 15 = z2 at *
                      go_wp2
                      go_ret
                      exact ⟨ret_bool (by simp), B17.out⟩
theorem walk (A : Option Addr) (c : Nat) (l : List (Int × Int)) (W : World) (hr : Rd W W.heap.size 2 A l.length (l.flatMap encTok)) :
    Calls Try.prog 5 #[.slice A l.length c] W fun e w' => e = .returned (.bool true) ∧ Below W.heap.size W w' := by
  by_cases hm : l.length ≤ 300
  · exact walk_near A c l W hr hm
  · exact walk_far A c l W (by omega)
set_option maxRecDepth 100000 in
theorem lifted (os : Os) (started : os.Started) (H : Type) (enc : TypeId × Value → H) :
    ReturnsInHanded {} Try.checked os 5 .any (Rows.blockPricesSpec.pre6 enc Try.prog Try.f5 Rows.blockPricesRow.domain false) (Rows.blockPricesSpec.post enc Try.prog Try.f5 false true false false) :=
  law_lifted own laidOut started (by kernel_rfl) Try.func5 rfl rfl Try.underlying4
    (by rw [Try.params5]; intro t ht; simp at ht; rcases ht with rfl <;> exact ⟨by kernel_rfl, of_decide_eq_true (by kernel_rfl)⟩)
    (by
      intro ds h
      match ds, h with
      | [_], _ => exact ⟨rfl, rfl, rfl⟩)
    (ChangeSpec.witness6 (enc := enc) (C := Try.checked) false ⟨#[], #[.slice none 0 0], []⟩ 8 (by kernel_rfl) (by kernel_rfl) (by kernel_rfl) (by kernel_rfl))
    (by
      intro W base args ds ps hval0 hA0
      have hval : ∀ (j : Nat) t v, Try.f5.params[j]? = some t → args[j]? = some v → Value.okWide Try.prog W .any base t v := hval0
      have hA : DataW.TrodAll enc Try.prog W 0 (fun _ => true) true Try.f5.params.toList args.toList ds ps := hA0
      clear hval0 hA0
      rw [Try.params5] at hA hval
      obtain ⟨v0, vs0, d0, ds0, p0, q0, hargs, rfl, rfl, h0, r0⟩ := trodAll_cons hA
      obtain ⟨rfl, rfl, rfl⟩ := trodAll_nil r0
      obtain rfl : args = #[v0] := by cases args; simp_all
      obtain ⟨A0, c0, l0, rfl, hok0, hr0, hz0⟩ := open_toks (hval 0 23 v0 rfl rfl) h0
      exact walk A0 c0 l0 W hr0)

theorem over : Rows.blockPricesRow.holds Try.pinned (OpenSpec.ofChange Rows.blockPricesSpec) :=
  OpenClaim.holds_of_wide 5 Try.f5 rfl rfl rfl rfl rfl rfl rfl ⟨rfl, rfl, rfl, rfl, rfl⟩ rfl rfl rfl rfl rfl (by kernel_rfl) Try.func5 (by kernel_rfl)
    (of_decide_eq_true (by kernel_rfl)) (by unfold Func.isWrapper; first | (rw [if_pos (by decide +kernel)]; kernel_rfl) | (rw [if_neg (by decide +kernel)]; exact ⟨rfl, rfl⟩))
    (fun os started H enc _ => lifted os started H enc)

theorem proved : Rows.BlockPricesSaid := over
#print axioms proved
end Go.Proofs.Ythhllollhjpheaa.BlockPrices
