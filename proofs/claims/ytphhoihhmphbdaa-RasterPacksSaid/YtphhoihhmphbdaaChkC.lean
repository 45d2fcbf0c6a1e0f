/-
  slices.Chunk as an iterator: what its rounds keep.
  slices.Chunk of []uint8 as an iterator.
  slices.Chunk of []int as an iterator.
-/
import Derived.Test.YtphhoihhmphbdaaSlc
import Derived.Test.YtphhoihhmphbdaaReg
import Derived.Test.YtphhoihhmphbdaaRgf
import Derived.RangeFuncNested
import Derived.RangeFuncBound
import Derived.RangeFuncCalls
import Derived.RangeFuncLeaves
import Derived.RangeFuncFrom
import Derived.Shelf.Abstract
import Derived.Shelf.RegionOpen
import Derived.OwnWalkIn
import Derived.TacticsInMore
import Derived.LoopNIn
import Derived.LoopIn
import Derived.BigQuiet
import Derived.Deep.QuietTactic
import Derived.Deep.RegionHeld3
namespace Go.Proofs.Ytphhoihhmphbdaa
open Go.RowKit Go.Shelf

/-- what a round keeps: the two boxes that the iterator reads -/
def Kp2 (b : Nat) (W W' : World) : Prop := ∀ k, b ≤ k → k ≤ b + 1 → W'.heap[k]? = W.heap[k]?
theorem kp2_t {b : Nat} {A B C : World} (h : Kp2 b A B) (k : Kp2 b B C) : Kp2 b A C := fun i h1 h2 => (k i h1 h2).trans (h i h1 h2)
theorem kp2_b {b : Nat} {w : World} (hb : b + 1 < w.heap.size) (W : World) (l : Nat) (o o' : Obj) (hl : w.heap.size ≤ l) (h : W.heap[l]? = some o) (_ : o.isCells = false) (_ : o.isWalk = false) : Kp2 b W (W.putObj l o') := fun k _ h2 =>
  (grownBy_putObj' W l o').block k (by have := (Array.getElem?_eq_some_iff.1 h).1; omega) (by simp; omega)
theorem kp2_below {b B : Nat} {W W' : World} (h : Below B W W') (hb : b + 1 < B) : Kp2 b W W' := fun k _ h2 => h.block k (by omega)
end Go.Proofs.Ytphhoihhmphbdaa

namespace Go.Proofs.Ytphhoihhmphbdaa
open Go.RowKit Go.Shelf
attribute [local go_sem] Oper.semAt_some

/-- a chunk by its number -/
abbrev encCB (A : Option Addr) (n m : Nat) (j : Nat) : Array Value := #[.slice (A.map (·.add (j * m * 1))) (min m (n - j * m)) (min m (n - j * m))]
/-- the two boxes: the slice, the chunks' length -/
def BxCB (W : World) (b : Nat) (A : Option Addr) (n c m : Nat) : Prop := Blk W b 28 #[.slice A n c] ∧ Blk W (b + 1) 3 #[.int .i64 (m : Int)]
theorem BxCB.keep {W W' : World} {b : Nat} {A : Option Addr} {n c m : Nat} (h : BxCB W b A n c m) (hk : Kp2 b W W') : BxCB W' b A n c m :=
  ⟨(hk b (Nat.le_refl _) (by omega)).trans h.1, (hk (b + 1) (by omega) (by omega)).trans h.2⟩
theorem BxCB.below {W W' : World} {B b : Nat} {A : Option Addr} {n c m : Nat} (h : BxCB W b A n c m) (hb : Below B W W') (hB : b + 1 < B) : BxCB W' b A n c m :=
  ⟨h.1.below hb (by omega), h.2.below hb (by omega)⟩
set_option maxRecDepth 100000 in
theorem slc3CB (A : Option Addr) (n c x e : Nat) (hx : x + e ≤ n) (he : 0 < e) (hc : n ≤ c) (w : World) : (Instr.slice 28 (.slice A n c) (some (.int .i64 (x : Int))) (some (.int .i64 ((x : Int) + (e : Int)))) (some (.int .i64 ((x : Int) + (e : Int))))).run Try.prog w = .ok (.slice (A.map (·.add (x))) e e) w := by
  have h : sliced A x (x + e) (x + e) 1 = .slice (A.map (·.add (x))) e e := by
    unfold sliced
    rw [if_neg (by omega), show x + e - x = e by omega, Nat.mul_one]
  rw [← h, run_slice_lhm (P := Try.prog) (w := w) 28 A n c Try.underlying28 .i64 .i64 .i64 (x : Int) ((x : Int) + (e : Int)) ((x : Int) + (e : Int)) (by omega) (by omega) (by omega) (by omega)]
  rfl
set_option maxRecDepth 100000 in
theorem slc1CB (A : Option Addr) (n c x : Nat) (hx : x ≤ n) (w : World) : ∃ A3 c3, (Instr.slice 28 (.slice A n c) (some (.int .i64 (x : Int))) none none).run Try.prog w = .ok (.slice A3 (n - x) c3) w ∧ ∀ w2, (Instr.slice 28 (.slice A n c) (some (.int .i64 (x : Int))) none none).run Try.prog w2 = .ok (.slice A3 (n - x) c3) w2 := by
  have h : ∀ w2, (Instr.slice 28 (.slice A n c) (some (.int .i64 (x : Int))) none none).run Try.prog w2 = .ok (sliced A x n c 1) w2 := by
    intro w2
    rw [run_slice_l (P := Try.prog) (w := w2) 28 A n c Try.underlying28 .i64 (x : Int) (by omega) (by omega)]
    rfl
  exact ⟨_, _, h w, h⟩
set_option maxRecDepth 100000 in
set_option maxHeartbeats 4000000 in
theorem chunkCB_ix (N b : Nat) (hN : 1 ≤ N) (A : Option Addr) (n c m : Nat) (hm : 1 ≤ m) (hm2 : m ≤ 10000000) (hn : n ≤ 10000000) (hc : n ≤ c) (W0 : World) (hb0 : BxCB W0 b A n c m) :
    SeqIx Fence.wide N Try.prog 83 #[.pointer (some ⟨b, 0, none⟩), .pointer (some ⟨b + 1, 0, none⟩)] (encCB A n m) (Kp2 b) ((n + m - 1) / m) W0 := fun lp J Jx W hW hJ hJx hY h0 => by
  have HB := hid (hb0.below hW hb0.2.lt)
  have HJ := hid hJ
  have HY := hid hY
  clear hb0 hJ hY hJx
  refine callsIn_of_wp Try.func83 rfl trivial ?_ rfl
  simp only [Try.ntmps83, List.size_toArray, List.length_cons, List.length_nil, Nat.reduceAdd, Nat.reduceSub, Array.replicate_succ, Array.replicate_zero, List.push_toArray, List.append_toArray, List.nil_append, List.cons_append]
  gi_wp2
  gi_loopw [4] (fun i wr => ∃ j x : Nat, i = .int .i64 (x : Int) ∧ x ≤ n + m ∧ Hid (x = j * m) ∧ J j wr ∧ BxCB wr b A n c m ∧ Hid (x < n + m ∨ j = 0) ∧ Hid (j ≤ (n + m - 1) / m)) (fun i _ => n + m - (intOf i).toNat)
  case atStart => exact ⟨0, 0, rfl, by omega, hid (Nat.zero_mul m).symm, h0, HB.out, hid (.inr rfl), hid (Nat.zero_le _)⟩
  case round =>
    obtain ⟨j, x, rfl, hx, HX, hj, hbx, HLt, HJle⟩ := hrel
    have Hj := hid hj
    have Hbx := hid hbx
    have r0 := hbx.1.cell 0
    have r1 := hbx.2.cell 0
    have l1 := hbx.2.lt
    have l0 : b < wr.heap.size := by omega
    simp only [List.getElem?_toArray, List.getElem?_cons_zero] at r0 r1
    clear hj hbx h0 HB
    by_cases hlt : x < n
    · have d2 : decide (x < n) = true := decide_eq_true hlt
      have d2i : decide ((x : Int) < (n : Int)) = true := decide_eq_true (by omega)
      obtain ⟨A3, c3, _, hs1⟩ := slc1CB A n c x (by omega) wr
      obtain ⟨e, he⟩ : ∃ e, e = min m (n - x) := ⟨_, rfl⟩
      have he0 : 0 < e := by omega
      have hee : x + e ≤ n := by omega
      have hmin : (if (m : Int) ≤ ((n - x : Nat) : Int) then (m : Int) else ((n - x : Nat) : Int)) = (e : Int) := by split <;> omega
      have hmin2 : (if ((n - x : Nat) : Int) < (m : Int) then ((n - x : Nat) : Int) else (m : Int)) = (e : Int) := by split <;> omega
      have hs3 := fun w => slc3CB A n c x e hee he0 hc w
      have HE := hid he
      have hjq : j < (n + m - 1) / m := by
        rw [Nat.lt_div_iff_mul_lt (by omega)]
        have := HX.out
        have h2 := Nat.mul_comm m j
        omega
      have HJQ := hid hjq
      clear he hjq
      obtain ⟨lx, hlx⟩ : ∃ lx, lx = n - x := ⟨_, rfl⟩
      rw [← hlx] at hs1 hmin hmin2
      have Hlx := hid hlx
      have hlx1 : lx ≤ 10000000 := by omega
      clear hlx
      gi_wp2
      refine wpIn_wide.2 ?_
      go_quiet (fail)
      have hmin3 : (if lx < m then (lx : Int) else (m : Int)) = (e : Int) := by split <;> omega
      rw [hmin3]
      have hb1 := below_drewN (Below.refl wr.heap.size wr) nq
      have hj1 := HJ.out _ _ _ none Hj.out ⟨hb1.os, hb1.tape, hb1.output, hb1.size, fun k hk _ => hb1.block k hk⟩ (by simp)
      have Hbx1 := hid (Hbx.out.below hb1 Hbx.out.2.lt)
      obtain ⟨w1, hw1⟩ : ∃ w1, w1 = wr.drewN nq := ⟨_, rfl⟩
      rw [← hw1] at hj1 Hbx1 ⊢
      obtain ⟨f1, t1, a1, bd1, hy1, hR1⟩ := HY.out j w1 HJQ.out hj1
      have heq : encCB A n m j = #[.slice (A.map (·.add (x))) e e] := by
        show #[Value.slice (A.map (·.add (j * m * 1))) (min m (n - j * m)) (min m (n - j * m))] = _
        rw [← HX.out, ← HE.out, Nat.mul_one]
      rw [heq] at hy1
      have HR := hid hR1
      clear hb1 hj1 hw1 hR1 r0 r1 l0 l1 Hj Hbx heq hmin hmin2 hmin3 hs1
      have r0 := Hbx1.out.1.cell 0
      have r1 := Hbx1.out.2.cell 0
      have l1 := Hbx1.out.2.lt
      have l0 : b < w1.heap.size := by omega
      simp only [List.getElem?_toArray, List.getElem?_cons_zero] at r0 r1
      gi_wp2
      refine HR.out.mono ?_
      rintro ev W1 (⟨rfl, hJ1, hk1⟩ | ⟨rfl, hx1⟩)
      · have Hb4 := hid (Hbx1.out.keep hk1)
        have HJ1 := hid hJ1
        clear hk1 hJ1 r0 r1 l0 l1 Hbx1
        have r0 := Hb4.out.1.cell 0
        have r1 := Hb4.out.2.cell 0
        have l1 := Hb4.out.2.lt
        have l0 : b < W1.heap.size := by omega
        simp only [List.getElem?_toArray, List.getElem?_cons_zero] at r0 r1
        gi_wp2
        go_roundw
        case rel => exact ⟨j + 1, x + m, by go_num, by omega, hid (by rw [Nat.succ_mul, ← HX.out]), HJ1.out, Hb4.out, hid (.inl (by omega)), hid HJQ.out⟩
        case measure => simp [intOf]; omega
      · gi_wp2
        refine bodyPost_ret (results_none rfl _ _ _) rfl ?_
        exact ⟨⟨_, rfl⟩, .inr hx1⟩
    · have d2 : decide (x < n) = false := decide_eq_false hlt
      have d2i : decide ((x : Int) < (n : Int)) = false := decide_eq_false (by omega)
      gi_wp2
      go_end0
      have h1 := HJle.out
      have h2 : (n + m - 1) / m ≤ j := by
        rw [Nat.div_le_iff_le_mul_add_pred (by omega)]
        have := HX.out
        have h3 := Nat.mul_comm m j
        omega
      have e : j = (n + m - 1) / m := by omega
      rw [← e]
      exact ⟨⟨_, rfl⟩, .inl Hj.out⟩
theorem chunkFCB_any (A : Option Addr) (n c m : Nat) (hm : 1 ≤ m) (W : World) :
    Calls Try.prog 36 #[.slice A n c, .int .i64 (m : Int)] W fun e w' => e = .returned (.func (.func 83) #[] #[.pointer (some ⟨W.heap.size, 0, none⟩), .pointer (some ⟨W.heap.size + 1, 0, none⟩)]) ∧ BxCB w' W.heap.size A n c m ∧ Below W.heap.size W w' ∧ w'.heap.size = W.heap.size + 2 := by
  have h2 := Blk.new (W.alloc (.cells #[.slice A n c] 28)) 3 #[.int .i64 (m : Int)]
  simp only [World.size_alloc] at h2
  have d1 : decide ((m : Int) < 1) = false := decide_eq_false (by omega)
  go_enter Try.func36, Try.ntmps36
  go_wp2
  go_ret
  exact ⟨rfl, ⟨(Blk.new W 28 #[.slice A n c]).alloc _, h2⟩, ((Below.refl _ _).alloc (Nat.le_refl _) _).alloc (by simp) _, by simp⟩
end Go.Proofs.Ytphhoihhmphbdaa

namespace Go.Proofs.Ytphhoihhmphbdaa
open Go.RowKit Go.Shelf
attribute [local go_sem] Oper.semAt_some

/-- a chunk by its number -/
abbrev encCI (A : Option Addr) (n m : Nat) (j : Nat) : Array Value := #[.slice (A.map (·.add (j * m * 1))) (min m (n - j * m)) (min m (n - j * m))]
/-- the two boxes: the slice, the chunks' length -/
def BxCI (W : World) (b : Nat) (A : Option Addr) (n c m : Nat) : Prop := Blk W b 25 #[.slice A n c] ∧ Blk W (b + 1) 3 #[.int .i64 (m : Int)]
theorem BxCI.keep {W W' : World} {b : Nat} {A : Option Addr} {n c m : Nat} (h : BxCI W b A n c m) (hk : Kp2 b W W') : BxCI W' b A n c m :=
  ⟨(hk b (Nat.le_refl _) (by omega)).trans h.1, (hk (b + 1) (by omega) (by omega)).trans h.2⟩
theorem BxCI.below {W W' : World} {B b : Nat} {A : Option Addr} {n c m : Nat} (h : BxCI W b A n c m) (hb : Below B W W') (hB : b + 1 < B) : BxCI W' b A n c m :=
  ⟨h.1.below hb (by omega), h.2.below hb (by omega)⟩
set_option maxRecDepth 100000 in
theorem slc3CI (A : Option Addr) (n c x e : Nat) (hx : x + e ≤ n) (he : 0 < e) (hc : n ≤ c) (w : World) : (Instr.slice 25 (.slice A n c) (some (.int .i64 (x : Int))) (some (.int .i64 ((x : Int) + (e : Int)))) (some (.int .i64 ((x : Int) + (e : Int))))).run Try.prog w = .ok (.slice (A.map (·.add (x))) e e) w := by
  have h : sliced A x (x + e) (x + e) 1 = .slice (A.map (·.add (x))) e e := by
    unfold sliced
    rw [if_neg (by omega), show x + e - x = e by omega, Nat.mul_one]
  rw [← h, run_slice_lhm (P := Try.prog) (w := w) 25 A n c Try.underlying25 .i64 .i64 .i64 (x : Int) ((x : Int) + (e : Int)) ((x : Int) + (e : Int)) (by omega) (by omega) (by omega) (by omega)]
  rfl
set_option maxRecDepth 100000 in
theorem slc1CI (A : Option Addr) (n c x : Nat) (hx : x ≤ n) (w : World) : ∃ A3 c3, (Instr.slice 25 (.slice A n c) (some (.int .i64 (x : Int))) none none).run Try.prog w = .ok (.slice A3 (n - x) c3) w ∧ ∀ w2, (Instr.slice 25 (.slice A n c) (some (.int .i64 (x : Int))) none none).run Try.prog w2 = .ok (.slice A3 (n - x) c3) w2 := by
  have h : ∀ w2, (Instr.slice 25 (.slice A n c) (some (.int .i64 (x : Int))) none none).run Try.prog w2 = .ok (sliced A x n c 1) w2 := by
    intro w2
    rw [run_slice_l (P := Try.prog) (w := w2) 25 A n c Try.underlying25 .i64 (x : Int) (by omega) (by omega)]
    rfl
  exact ⟨_, _, h w, h⟩
set_option maxRecDepth 100000 in
set_option maxHeartbeats 4000000 in
theorem chunkCI_ix (N b : Nat) (hN : 1 ≤ N) (A : Option Addr) (n c m : Nat) (hm : 1 ≤ m) (hm2 : m ≤ 10000000) (hn : n ≤ 10000000) (hc : n ≤ c) (W0 : World) (hb0 : BxCI W0 b A n c m) :
    SeqIx Fence.wide N Try.prog 87 #[.pointer (some ⟨b, 0, none⟩), .pointer (some ⟨b + 1, 0, none⟩)] (encCI A n m) (Kp2 b) ((n + m - 1) / m) W0 := fun lp J Jx W hW hJ hJx hY h0 => by
  have HB := hid (hb0.below hW hb0.2.lt)
  have HJ := hid hJ
  have HY := hid hY
  clear hb0 hJ hY hJx
  refine callsIn_of_wp Try.func87 rfl trivial ?_ rfl
  simp only [Try.ntmps87, List.size_toArray, List.length_cons, List.length_nil, Nat.reduceAdd, Nat.reduceSub, Array.replicate_succ, Array.replicate_zero, List.push_toArray, List.append_toArray, List.nil_append, List.cons_append]
  gi_wp2
  gi_loopw [4] (fun i wr => ∃ j x : Nat, i = .int .i64 (x : Int) ∧ x ≤ n + m ∧ Hid (x = j * m) ∧ J j wr ∧ BxCI wr b A n c m ∧ Hid (x < n + m ∨ j = 0) ∧ Hid (j ≤ (n + m - 1) / m)) (fun i _ => n + m - (intOf i).toNat)
  case atStart => exact ⟨0, 0, rfl, by omega, hid (Nat.zero_mul m).symm, h0, HB.out, hid (.inr rfl), hid (Nat.zero_le _)⟩
  case round =>
    obtain ⟨j, x, rfl, hx, HX, hj, hbx, HLt, HJle⟩ := hrel
    have Hj := hid hj
    have Hbx := hid hbx
    have r0 := hbx.1.cell 0
    have r1 := hbx.2.cell 0
    have l1 := hbx.2.lt
    have l0 : b < wr.heap.size := by omega
    simp only [List.getElem?_toArray, List.getElem?_cons_zero] at r0 r1
    clear hj hbx h0 HB
    by_cases hlt : x < n
    · have d2 : decide (x < n) = true := decide_eq_true hlt
      have d2i : decide ((x : Int) < (n : Int)) = true := decide_eq_true (by omega)
      obtain ⟨A3, c3, _, hs1⟩ := slc1CI A n c x (by omega) wr
      obtain ⟨e, he⟩ : ∃ e, e = min m (n - x) := ⟨_, rfl⟩
      have he0 : 0 < e := by omega
      have hee : x + e ≤ n := by omega
      have hmin : (if (m : Int) ≤ ((n - x : Nat) : Int) then (m : Int) else ((n - x : Nat) : Int)) = (e : Int) := by split <;> omega
      have hmin2 : (if ((n - x : Nat) : Int) < (m : Int) then ((n - x : Nat) : Int) else (m : Int)) = (e : Int) := by split <;> omega
      have hs3 := fun w => slc3CI A n c x e hee he0 hc w
      have HE := hid he
      have hjq : j < (n + m - 1) / m := by
        rw [Nat.lt_div_iff_mul_lt (by omega)]
        have := HX.out
        have h2 := Nat.mul_comm m j
        omega
      have HJQ := hid hjq
      clear he hjq
      obtain ⟨lx, hlx⟩ : ∃ lx, lx = n - x := ⟨_, rfl⟩
      rw [← hlx] at hs1 hmin hmin2
      have Hlx := hid hlx
      have hlx1 : lx ≤ 10000000 := by omega
      clear hlx
      gi_wp2
      refine wpIn_wide.2 ?_
      go_quiet (fail)
      have hmin3 : (if lx < m then (lx : Int) else (m : Int)) = (e : Int) := by split <;> omega
      rw [hmin3]
      have hb1 := below_drewN (Below.refl wr.heap.size wr) nq
      have hj1 := HJ.out _ _ _ none Hj.out ⟨hb1.os, hb1.tape, hb1.output, hb1.size, fun k hk _ => hb1.block k hk⟩ (by simp)
      have Hbx1 := hid (Hbx.out.below hb1 Hbx.out.2.lt)
      obtain ⟨w1, hw1⟩ : ∃ w1, w1 = wr.drewN nq := ⟨_, rfl⟩
      rw [← hw1] at hj1 Hbx1 ⊢
      obtain ⟨f1, t1, a1, bd1, hy1, hR1⟩ := HY.out j w1 HJQ.out hj1
      have heq : encCI A n m j = #[.slice (A.map (·.add (x))) e e] := by
        show #[Value.slice (A.map (·.add (j * m * 1))) (min m (n - j * m)) (min m (n - j * m))] = _
        rw [← HX.out, ← HE.out, Nat.mul_one]
      rw [heq] at hy1
      have HR := hid hR1
      clear hb1 hj1 hw1 hR1 r0 r1 l0 l1 Hj Hbx heq hmin hmin2 hmin3 hs1
      have r0 := Hbx1.out.1.cell 0
      have r1 := Hbx1.out.2.cell 0
      have l1 := Hbx1.out.2.lt
      have l0 : b < w1.heap.size := by omega
      simp only [List.getElem?_toArray, List.getElem?_cons_zero] at r0 r1
      gi_wp2
      refine HR.out.mono ?_
      rintro ev W1 (⟨rfl, hJ1, hk1⟩ | ⟨rfl, hx1⟩)
      · have Hb4 := hid (Hbx1.out.keep hk1)
        have HJ1 := hid hJ1
        clear hk1 hJ1 r0 r1 l0 l1 Hbx1
        have r0 := Hb4.out.1.cell 0
        have r1 := Hb4.out.2.cell 0
        have l1 := Hb4.out.2.lt
        have l0 : b < W1.heap.size := by omega
        simp only [List.getElem?_toArray, List.getElem?_cons_zero] at r0 r1
        gi_wp2
        go_roundw
        case rel => exact ⟨j + 1, x + m, by go_num, by omega, hid (by rw [Nat.succ_mul, ← HX.out]), HJ1.out, Hb4.out, hid (.inl (by omega)), hid HJQ.out⟩
        case measure => simp [intOf]; omega
      · gi_wp2
        refine bodyPost_ret (results_none rfl _ _ _) rfl ?_
        exact ⟨⟨_, rfl⟩, .inr hx1⟩
    · have d2 : decide (x < n) = false := decide_eq_false hlt
      have d2i : decide ((x : Int) < (n : Int)) = false := decide_eq_false (by omega)
      gi_wp2
      go_end0
      have h1 := HJle.out
      have h2 : (n + m - 1) / m ≤ j := by
        rw [Nat.div_le_iff_le_mul_add_pred (by omega)]
        have := HX.out
        have h3 := Nat.mul_comm m j
        omega
      have e : j = (n + m - 1) / m := by omega
      rw [← e]
      exact ⟨⟨_, rfl⟩, .inl Hj.out⟩
theorem chunkFCI_any (A : Option Addr) (n c m : Nat) (hm : 1 ≤ m) (W : World) :
    Calls Try.prog 38 #[.slice A n c, .int .i64 (m : Int)] W fun e w' => e = .returned (.func (.func 87) #[] #[.pointer (some ⟨W.heap.size, 0, none⟩), .pointer (some ⟨W.heap.size + 1, 0, none⟩)]) ∧ BxCI w' W.heap.size A n c m ∧ Below W.heap.size W w' ∧ w'.heap.size = W.heap.size + 2 := by
  have h2 := Blk.new (W.alloc (.cells #[.slice A n c] 25)) 3 #[.int .i64 (m : Int)]
  simp only [World.size_alloc] at h2
  have d1 : decide ((m : Int) < 1) = false := decide_eq_false (by omega)
  go_enter Try.func38, Try.ntmps38
  go_wp2
  go_ret
  exact ⟨rfl, ⟨(Blk.new W 25 #[.slice A n c]).alloc _, h2⟩, ((Below.refl _ _).alloc (Nat.le_refl _) _).alloc (by simp) _, by simp⟩
end Go.Proofs.Ytphhoihhmphbdaa
