/-
  The Finder's matches as an iterator.
  (*Finder).Longest.
  parse.Greedy.
  squeeze.Fixed.
-/
import Derived.Test.YtoppjcmkhhkbmaaGreatSqueezePlainx16
import Derived.Test.YtoppjcmkhhkbmaaGreatSqueezePlainx17
import Derived.Test.YtoppjcmkhhkbmaaGreatSqueezePlainx19
import Derived.RangeFuncNested
import Derived.RangeFuncBound
import Derived.RangeFuncCalls
import Derived.RangeFuncLeaves
import Derived.RangeFuncFrom
import Derived.Shelf.Abstract
import Derived.Shelf.RegionOpen
import Derived.OwnWalkIn
import Derived.TacticsInMore
import Derived.LoopNIn
import Derived.LoopIn
import Derived.BigQuiet
import Derived.Sort.CutIn
import Derived.Deep.QuietTactic
import Derived.Deep.RegionHeld3
namespace Go.Proofs.YtoppjcmkhhkbmaaGreat
open Go.RowKit Go.Shelf

theorem flen_any (B T g : Nat) (l : List Int) (W : World) (h : FnR W B T g l) : Calls Tryz.prog 147 #[.pointer (some ⟨g, 0, none⟩)] W fun e w' => e = .returned (.int .i64 (l.length : Int)) ∧ w' = W := by
  obtain ⟨A, c, gp, _, h1, _, _⟩ := h
  have q0 := (h1.cell 0).trans rfl
  have hg := h1.lt
  clear h1
  go_enter Tryz.func147, Tryz.ntmps147
  go_wp2
  go_ret
  exact ⟨rfl, rfl⟩
/-- the two boxes that the iterator reads -/
def BxF (W : World) (b g p : Nat) : Prop := Blk W b 113 #[.pointer (some ⟨g, 0, none⟩)] ∧ Blk W (b + 1) 3 #[.int .i64 (p : Int)]
def KpF (B T b : Nat) (W W' : World) : Prop := KpR B T W W' ∧ KpR b (b + 2) W W'
def BtS (W : World) (B T b g p : Nat) (l : List Int) : Prop := FnR W B T g l ∧ BxF W b g p
theorem BtS.keep {W W' : World} {B T b g p : Nat} {l : List Int} (h : BtS W B T b g p l) (hk : KpF B T b W W') : BtS W' B T b g p l :=
  ⟨h.1.keep hk.1, (hk.2 b (Nat.le_refl _) (by omega)).trans h.2.1, (hk.2 (b + 1) (by omega) (by omega)).trans h.2.2⟩
theorem KpF.below {W W' : World} {B T b C : Nat} (h : Below C W W') (hT : T ≤ b) (hC : b + 1 < C) : KpF B T b W W' := ⟨KpR.below h (by omega), KpR.below h (by omega)⟩
theorem KpF.trans {B T b : Nat} {x y z : World} (h : KpF B T b x y) (k : KpF B T b y z) : KpF B T b x z := ⟨h.1.trans k.1, h.2.trans k.2⟩
/-- a match by its number -/
def btT (l : List Int) (p k : Nat) : Nat × Nat := (impM (txF l) l.length p p).getD k (0, 0)
abbrev encBt (l : List Int) (p : Nat) (k : Nat) : Array Value := #[.agg #[.int .i64 (((btT l p k).1 : Nat) : Int), .int .i64 (((btT l p k).2 : Nat) : Int)]]
/-- what the chain's walk holds in memory -/
theorem BtS.cells {w : World} {B T b g p : Nat} {l : List Int} (h : BtS w B T b g p l) (hT : T ≤ b) : w.cell? ⟨b, 0, none⟩ = some (.pointer (some ⟨g, 0, none⟩)) ∧ w.cell? ⟨b + 1, 0, none⟩ = some (.int .i64 (p : Int)) ∧ b < w.heap.size ∧ b + 1 < w.heap.size ∧ T ≤ w.heap.size :=
  ⟨(h.2.1.cell 0).trans rfl, (h.2.2.cell 0).trans rfl, h.2.1.lt, h.2.2.lt, by have := h.2.1.lt; omega⟩
structure BtR (J : Nat → World → Prop) (B T b g p : Nat) (l : List Int) (k bst : Nat) (wr : World) : Prop where
  ch : ∃ ll, ChJ (txF l) l.length p k bst ll ∧ J ll.length wr
  st : BtS wr B T b g p l
theorem bt_up {B0 n : Nat} {J : Nat → World → Prop} (HJ : AbidesFrom B0 J) {x y : World} {B T b g p : Nat} {l : List Int} (hT : T ≤ b) (hb : Below x.heap.size x y) (h : J n x ∧ BtS x B T b g p l) : J n y ∧ BtS y B T b g p l :=
  ⟨HJ _ _ _ none h.1 ⟨hb.os, hb.tape, hb.output, hb.size, fun k hk _ => hb.block k hk⟩ (by simp), h.2.keep (KpF.below hb hT h.2.2.2.lt)⟩
theorem fn_text {w : World} {B T g : Nat} {l : List Int} (h : FnR w B T g l) (hT : T ≤ w.heap.size) : ∃ A c gp, Blk w g 175 #[.slice A l.length c, .slice (some ⟨gp, 0, none⟩) l.length l.length] ∧ Blk w gp 3 (intsV (pvRow l l.length)).toArray ∧ Rd w w.heap.size 1 A l.length (bytesV l) := by
  obtain ⟨A, c, gp, h0, h1, h2, h3⟩ := h
  exact ⟨A, c, gp, h1, h2, Rd.more h3.rd hT⟩
theorem prev_cell {w : World} {gp : Nat} {l : List Int} (h : Blk w gp 3 (intsV (pvRow l l.length)).toArray) {i : Nat} (hi : i < l.length) : w.cell? ⟨gp, i, none⟩ = some (.int .i64 ((pvM (txF l) l.length i : Int) - 1)) := by
  rw [h.cell i, pvRow_at l l.length hi, if_pos hi]
set_option maxRecDepth 100000 in
set_option maxHeartbeats 8000000 in
theorem better_ix (N b : Nat) (hN : 1 ≤ N) (B T g p : Nat) (l : List Int) (hp : p < l.length) (hm : l.length ≤ 32768) (hB : ∀ x ∈ l, isB x) (W0 : World) (hT : T ≤ b) (h0 : BtS W0 B T b g p l) :
    SeqIx Fence.wide N Tryz.prog 146 #[.pointer (some ⟨b + 1, 0, none⟩), .pointer (some ⟨b, 0, none⟩)] (encBt l p) (KpF B T b) (impM (txF l) l.length p p).length W0 := fun lp J Jx W hW hJ hJx hY hJ0 => by
  have hb1 := h0.2.2.lt
  have HB := hid (h0.keep (KpF.below hW hT hb1))
  have HJ := hid hJ
  have HY := hid hY
  have HJ0 := hid hJ0
  have HBy := hid hB
  have r0 := HB.out.2.1.cell 0
  have r1 := HB.out.2.2.cell 0
  have l1 := HB.out.2.2.lt
  have l0 : b < W.heap.size := by omega
  simp only [List.getElem?_toArray, List.getElem?_cons_zero] at r0 r1
  have LN := hid (fun (w : World) (h : BtS w B T b g p l) => flen_any B T g l w h.1)
  clear h0 hJ hY hJx hJ0 hB
  have c0 : decide ((p : Int) < 0) = false := decide_eq_false (by omega)
  have c1 : decide ((l.length : Int) ≤ (p : Int)) = false := decide_eq_false (by omega)
  have c1n : decide (l.length ≤ p) = false := decide_eq_false (by omega)
  refine callsIn_of_wp Tryz.func146 rfl trivial ?_ rfl
  simp only [Tryz.ntmps146, List.size_toArray, List.length_cons, List.length_nil, Nat.reduceAdd, Nat.reduceSub, Array.replicate_succ, Array.replicate_zero, List.push_toArray, List.append_toArray, List.nil_append, List.cons_append]
  gi_wp2_with fail
  refine wpIn_wide.2 ?_
  go_quiet ((go_at_call 147; exact Calls.quiet_of_same (LN.out _ (HB.out.keep (KpF.below (below_drewN (Below.refl W.heap.size W) _) hT l1)))))
  clear LN c0 c1
  obtain ⟨w1, hw1⟩ : ∃ w, w = W.drewN nq := ⟨_, rfl⟩
  have B1 := hid (show Below W.heap.size W w1 from hw1 ▸ below_drewN (Below.refl W.heap.size W) nq)
  rw [← hw1]
  have S1 := hid (HB.out.keep (KpF.below B1.out hT l1))
  have HJ1 := hid (HJ.out _ _ _ none HJ0.out ⟨B1.out.os, B1.out.tape, B1.out.output, B1.out.size, fun k hk _ => B1.out.block k hk⟩ (by simp))
  clear hw1 r0 r1 l0 l1 HJ0 HB
  have r0 := S1.out.2.1.cell 0
  have r1 := S1.out.2.2.cell 0
  have l1 := S1.out.2.2.lt
  have l0 : b < w1.heap.size := by omega
  simp only [List.getElem?_toArray, List.getElem?_cons_zero] at r0 r1
  obtain ⟨A, c, gp, F1, P1, T1⟩ := fn_text S1.out.1 (by omega)
  have q0 := F1.cell 0
  have q1 := F1.cell 1
  simp only [List.getElem?_toArray, List.getElem?_cons_zero, List.getElem?_cons_succ] at q0 q1
  have lF := F1.lt
  have pc := prev_cell P1 hp
  have ST := hid (ChJ.start (txF l) l.length p)
  generalize pvM (txF l) l.length p = k0 at *
  clear F1 P1 T1
  gi_wp2_with fail
  refine wpIn_wide.2 ?_
  go_quiet (fail)
  have R0 : Hid (BtR J B T b g p l k0 2 (w1.drewN nq)) := hid ⟨⟨[], ST.out, HJ.out _ _ _ none HJ1.out ⟨rfl, rfl, rfl, Nat.le_refl _, fun _ _ _ => rfl⟩ (by simp)⟩, S1.out.keep (KpF.below (below_drewN (Below.refl w1.heap.size w1) nq) hT l1)⟩
  generalize w1.drewN nq = w2 at *
  clear pc q0 q1 lF l1 l0 r0 r1 HJ1 S1 ST B1
  gi_wp2_with fail
  gi_loopw [4, 5] (fun i4 i5 wr => ∃ (k bst : Nat) (kz : Int), k ≤ p ∧ 2 ≤ bst ∧ bst ≤ 258 ∧ i4 = .int .i64 (bst : Int) ∧ i5 = .int .i64 kz ∧ kz = (k : Int) - 1 ∧ Hid (BtR J B T b g p l k bst wr)) (fun _ i5 _ => (intOf i5 + 1).toNat)
  case atStart => 
    obtain ⟨⟨ll, c1, _⟩, _⟩ := R0.out
    exact ⟨k0, 2, _, c1.bd.2.2, by omega, by omega, rfl, rfl, rfl, R0⟩
  case round =>
    obtain ⟨k, bst, kz, hk, hb1, hb2, rfl, rfl, hkz, HR⟩ := hrel
    clear R0
    cases k with
    | zero =>
      obtain rfl : kz = -1 := by rw [hkz]; rfl
      clear hkz
      gi_wp2
      go_end0
      obtain ⟨⟨ll, c1, c2⟩, _⟩ := HR.out
      rw [← c1.full (by omega) (.inl rfl)]
      exact ⟨⟨_, rfl⟩, .inl c2⟩
    | succ k =>
      obtain rfl : kz = (k : Int) := by rw [hkz]; push_cast; omega
      clear hkz
      have d1 : decide ((0 : Int) ≤ (k : Int)) = true := decide_eq_true (by omega)
      have d2 : decide ((p : Int) - (k : Int) ≤ 32768) = true := decide_eq_true (by omega)
      obtain ⟨y0, y1, l0, l1, hTw⟩ := HR.out.st.cells hT
      obtain ⟨ll, c1, hJl⟩ := HR.out.ch
      have C1 := hid c1
      have HJl := hid hJl
      have hck := c1.next
      have hst := c1.step
      have HN := hid hck
      have HST := hid hst
      have hlcle := lcp_end (txF l) l.length k p (by omega)
      have hlc2 := lcp_le (txF l) l.length k p
      have HNOT := hid (fun (h : txF l (k + bst) ≠ txF l (p + bst)) => lcp_not (L := l.length) h)
      clear c1 hJl hck hst
      obtain ⟨A, c, gp, F1, P1, T1⟩ := fn_text HR.out.st.1 hTw
      have q0 := F1.cell 0
      have q1 := F1.cell 1
      simp only [List.getElem?_toArray, List.getElem?_cons_zero, List.getElem?_cons_succ] at q0 q1
      have lF := F1.lt
      gi_upto_region 5 with (fail)
      by_cases e1 : bst = 258
      · have e1i : ((bst : Int) == 258) = true := by rw [e1]; rfl
        refine wpIn_wide.2 ?_
        go_quiet (fail)
        have HU := hid (bt_up HJ.out hT (below_drewN (Below.refl wr.heap.size wr) nq) ⟨HJl.out, HR.out.st⟩)
        generalize wr.drewN nq = w4 at *
        gi_wp2
        refine bodyPost_ret (results_none rfl _ _ _) rfl ?_
        have e := C1.out.full (by omega) (.inr (.inl e1))
        rw [← e]
        exact ⟨⟨_, rfl⟩, .inl HU.out.1⟩
      have e1i : ((bst : Int) == 258) = false := by rw [beq_eq_false_iff_ne]; omega
      by_cases e2 : l.length ≤ p + bst
      · have e2i : decide ((l.length : Int) ≤ (p : Int) + (bst : Int)) = true := decide_eq_true (by omega)
        refine wpIn_wide.2 ?_
        go_quiet (fail)
        have HU := hid (bt_up HJ.out hT (below_drewN (Below.refl wr.heap.size wr) nq) ⟨HJl.out, HR.out.st⟩)
        generalize wr.drewN nq = w4 at *
        gi_wp2
        refine bodyPost_ret (results_none rfl _ _ _) rfl ?_
        have e := C1.out.full (by omega) (.inr (.inr e2))
        rw [← e]
        exact ⟨⟨_, rfl⟩, .inl HU.out.1⟩
      have e2i : decide ((l.length : Int) ≤ (p : Int) + (bst : Int)) = false := decide_eq_false (by omega)
      refine wpIn_wide.2 ?_
      go_quiet (fail)
      have HU := hid (bt_up HJ.out hT (below_drewN (Below.refl wr.heap.size wr) nq) ⟨HJl.out, HR.out.st⟩)
      generalize wr.drewN nq = w4 at *
      clear y0 y1 l0 l1 hTw q0 q1 lF F1 P1 T1 HR HJl
      obtain ⟨y0, y1, l0, l1, hTw⟩ := HU.out.2.cells hT
      obtain ⟨A, c, gp, F1, P1, T1⟩ := fn_text HU.out.2.1 hTw
      have q0 := F1.cell 0
      have q1 := F1.cell 1
      simp only [List.getElem?_toArray, List.getElem?_cons_zero, List.getElem?_cons_succ] at q0 q1
      have lF := F1.lt
      have pc := prev_cell P1 (i := k) (by omega)
      obtain ⟨bk, off, rfl, hbk, k1⟩ := byte_at T1 (j := k + bst) (by omega)
      obtain ⟨bk2, off2, e3, _, k2⟩ := byte_at T1 (j := p + bst) (by omega)
      injection e3 with e3
      injection e3 with e3 e3'
      subst e3 e3'
      have b1 : k + bst < l.length := by omega
      have b2 : p + bst < l.length := by omega
      gi_upto_region 6 with (fail)
      clear F1 P1 hbk
      by_cases hx : l.getD (k + bst) 0 = l.getD (p + bst) 0
      · rw [← hx] at k2
        have hxx := hx
        clear hxx
        generalize l.getD (k + bst) 0 = x at *
        clear hx HNOT
        refine wpIn_wide.2 ?_
        go_quiet (fail)
        have HU2 := hid (bt_up HJ.out hT (below_drewN (Below.refl w4.heap.size w4) nq) HU.out)
        generalize w4.drewN nq = w5 at *
        clear y0 y1 l0 l1 hTw T1 q0 q1 lF pc k1 k2 HU
        obtain ⟨y0, y1, l0, l1, hTw⟩ := HU2.out.2.cells hT
        obtain ⟨A, c, gp, F1, P1, T1⟩ := fn_text HU2.out.2.1 hTw
        have FX := hid F1
        have TX := hid T1
        clear T1 P1
        have CM := hid (fun (w : World) (h : Rd w w.heap.size 1 A l.length (bytesV l)) => common_any A c l k p w h (by omega) (by omega) (by omega))
        clear F1
        gi_upto_region 7 with (fail)
        refine wpIn_wide.2 ?_
        refine free_lit (S := World) (fun i => i == 6)
          (fun x i => [.pointer (some ⟨g, 0, none⟩), .pointer (some ⟨g, 0, none⟩), .pointer (some ⟨g, 0, none⟩), .slice A l.length c, .int .i64 (k : Int), .int .i64 (p : Int), .int .i64 ((lcpM (txF l) l.length k p : Nat) : Int), .int .i64 ((lcpM (txF l) l.length k p : Nat) : Int)].getD i undef)
          (fun x => x) (fun k x => match k with | 0 => x = w5.drew | 1 => Below w5.heap.size w5 x | _ => False)
          (fun i => if i ≤ 6 then 0 else 1) (fun i => 1) (fun _ => false) (fun _ => false) ?af ?ab 1 (w5.drew) (by kernel_rfl) (by kernel_rfl) (by kernel_rfl) (by kernel_rfl) (by kernel_rfl) (by kernel_rfl) (by kernel_rfl) rfl rfl ?haf ?hab ?hy ?hQ
        case haf =>
          intro x
          simp only [actOf, dstAt, List.length_cons, List.length_nil, Nat.reduceAdd, List.getElem?_cons_zero, List.getElem?_cons_succ, Option.bind_some, if_true, List.getD_cons_zero, List.getD_cons_succ, Act.put, List.setIfInBounds_toArray, List.set_cons_zero, List.set_cons_succ]
          rfl
        case hab =>
          intro x
          simp only [actOf, dstAt, List.length_cons, List.length_nil, Nat.reduceAdd, List.getElem?_cons_zero, List.getElem?_cons_succ, Option.bind_some, Bool.not_false, if_true, List.getD_cons_zero, List.getD_cons_succ, Act.put, List.setIfInBounds_toArray, List.set_cons_zero, List.set_cons_succ]
          rfl
        case hy =>
          intro j x hR
          have hb : Below w5.heap.size w5 x := by
            match j, hR with
            | 0, h => rw [show x = w5.drew from h]; exact (Below.refl _ _).drew
            | 1, h => exact h
          have HV := hid (bt_up HJ.out hT hb HU2.out)
          obtain ⟨z0, z1, m0, m1, hTw2⟩ := HV.out.2.cells hT
          have f0 := (FX.out.below hb FX.out.lt).cell 0
          simp only [List.getElem?_toArray, List.getElem?_cons_zero] at f0
          simp only [AllY]
          refine ⟨?_, ?_, ?_, ?_, ?_, ?_, ?_, ?_, trivial⟩
          case refine_7 =>
            intro hk
            obtain rfl : j = 0 := hk
            obtain rfl : x = w5.drew := hR
            refine .inr (.inr ⟨148, #[.slice A l.length c, .int .i64 (k : Int), .int .i64 (p : Int)], w5.drew, by simp [go_sem, Act.eval], ?_⟩)
            refine (CM.out w5.drew TX.out.drew).mono ?_
            rintro e w6 ⟨rfl, b6⟩
            exact ⟨_, rfl, w6, (Below.refl _ _).drew.trans b6, rfl, rfl, fun i hi hd hn => by
              have hd : (if i ≤ 6 then 0 else 1) ≤ 0 := hd
              have hn : i ≠ 6 := hn
              rcases (show i = 0 ∨ i = 1 ∨ i = 2 ∨ i = 3 ∨ i = 4 ∨ i = 5 by
                by_cases h : i ≤ 6
                · omega
                · rw [if_neg h] at hd; omega) with rfl | rfl | rfl | rfl | rfl | rfl <;> rfl⟩
          all_goals exact fun _ _ => .inl (by simp [execOp, go_sem, Act.eval, z0, z1, f0])
        case hQ =>
          rintro w6 hR
          have b6 : Below w5.heap.size w5 w6 := hR
          have HV := hid (bt_up HJ.out hT b6 HU2.out)
          clear b6 hR FX TX CM y0 y1 l0 l1 hTw HU2
          obtain ⟨z0, z1, m0, m1, hTw2⟩ := HV.out.2.cells hT
          obtain ⟨A6, c6, gp6, F6, P6, _⟩ := fn_text HV.out.2.1 hTw2
          have t0 := F6.cell 0
          have t1 := F6.cell 1
          simp only [List.getElem?_toArray, List.getElem?_cons_zero, List.getElem?_cons_succ] at t0 t1
          have lF6 := F6.lt
          have pc6 := prev_cell P6 (i := k) (by omega)
          clear F6 P6
          generalize lcpM (txF l) l.length k p = n at *
          by_cases hlt : bst < n
          · have dlt : decide ((bst : Int) < (n : Int)) = true := decide_eq_true (by omega)
            have HS3 := HST.out
            rw [if_pos hlt, if_pos hlt] at HS3
            have HS4 := hid HS3
            obtain ⟨hN1, hN2⟩ := HN.out hlt
            obtain ⟨f1, tt1, a1, bd1, hy1, hR1⟩ := HY.out ll.length w6 hN1 HV.out.1
            have heq : encBt l p ll.length = #[.agg #[.int .i64 (n : Int), .int .i64 ((p : Int) - (k : Int))]] := by
              show #[Value.agg #[.int .i64 (((btT l p ll.length).1 : Nat) : Int), .int .i64 (((btT l p ll.length).2 : Nat) : Int)]] = _
              rw [show btT l p ll.length = (n, p - k) from hN2]
              show #[Value.agg #[.int .i64 (n : Int), .int .i64 ((p - k : Nat) : Int)]] = _
              rw [show ((p - k : Nat) : Int) = (p : Int) - (k : Int) by omega]
            rw [heq] at hy1
            have HR1 := hid hR1
            clear hR1 heq HN HST HS3 hN1 hN2
            gi_upto_region 10 with (fail)
            gi_wp2
            refine HR1.out.mono ?_
            rintro e W1 (⟨rfl, hJ1, hk1⟩ | ⟨rfl, hx1⟩)
            · have S1 := hid (HV.out.2.keep hk1)
              have HJ1 := hid hJ1
              clear hk1 hJ1 HR1 HV z0 z1 m0 m1 hTw2 t0 t1 lF6 pc6 hy1
              obtain ⟨z0, z1, m0, m1, hTw2⟩ := S1.out.cells hT
              obtain ⟨A6, c6, gp6, F6, P6, _⟩ := fn_text S1.out.1 hTw2
              have t0 := F6.cell 0
              have t1 := F6.cell 1
              simp only [List.getElem?_toArray, List.getElem?_cons_zero, List.getElem?_cons_succ] at t0 t1
              have lF6 := F6.lt
              have pc6 := prev_cell P6 (i := k) (by omega)
              clear F6 P6
              gi_wp2_with fail
              go_roundw
              case rel => exact ⟨pvM (txF l) l.length k, n, _, Nat.le_trans (pv_le _ _ k) (by omega), by omega, by omega, rfl, rfl, rfl, hid ⟨⟨_, HS4.out, by rw [List.length_append]; exact HJ1.out⟩, S1.out⟩⟩
              case measure => have := pv_le (txF l) l.length k; simp [intOf]; omega
            · gi_wp2
              refine bodyPost_ret (results_none rfl _ _ _) rfl ?_
              exact ⟨⟨_, rfl⟩, .inr hx1⟩
          · have dlt : decide ((bst : Int) < (n : Int)) = false := decide_eq_false (by omega)
            have HS3 := HST.out
            rw [if_neg hlt, if_neg hlt] at HS3
            have HS4 := hid HS3
            clear HS3 HN HST
            gi_wp2_with fail
            go_roundw
            case rel => exact ⟨pvM (txF l) l.length k, bst, _, Nat.le_trans (pv_le _ _ k) (by omega), by omega, by omega, rfl, rfl, rfl, hid ⟨⟨_, HS4.out, HV.out.1⟩, HV.out.2⟩⟩
            case measure => have := pv_le (txF l) l.length k; simp [intOf]; omega
      · have hnl := HNOT.out hx
        have HS2 := HST.out
        rw [if_neg hnl, if_neg hnl] at HS2
        have HS3 := hid HS2
        generalize l.getD (k + bst) 0 = x at *
        generalize l.getD (p + bst) 0 = y at *
        have hne : (x == y) = false := by rw [beq_eq_false_iff_ne]; exact hx
        clear HS2 hx HNOT HST HN hnl
        refine wpIn_wide.2 ?_
        go_quiet (fail)
        have HV := hid (bt_up HJ.out hT (below_drewN (Below.refl w4.heap.size w4) nq) HU.out)
        have pc2 := (HV.out.2.cells hT)
        obtain ⟨z0, z1, m0, m1, hTw2⟩ := pc2
        obtain ⟨A6, c6, gp6, F6, P6, _⟩ := fn_text HV.out.2.1 hTw2
        have t0 := F6.cell 0
        have t1 := F6.cell 1
        simp only [List.getElem?_toArray, List.getElem?_cons_zero, List.getElem?_cons_succ] at t0 t1
        have lF6 := F6.lt
        have pc6 := prev_cell P6 (i := k) (by omega)
        generalize w4.drewN nq = w5 at *
        clear F6 P6 y0 y1 l0 l1 hTw T1 q0 q1 lF pc k1 k2
        gi_wp2_with fail
        go_roundw
        case rel => exact ⟨pvM (txF l) l.length k, bst, _, Nat.le_trans (pv_le _ _ k) (by omega), by omega, by omega, rfl, rfl, rfl, hid ⟨⟨_, HS3.out, HV.out.1⟩, HV.out.2⟩⟩
        case measure => have := pv_le (txF l) l.length k; simp [intOf]; omega
end Go.Proofs.YtoppjcmkhhkbmaaGreat

namespace Go.Proofs.YtoppjcmkhhkbmaaGreat
open Go.RowKit Go.Shelf
attribute [local go_sem] Oper.semAt_some

/-- behind the assign code of a round whose variable is boxed -/
def BoxQ (P : Nat → Nat → World → Prop) (a1 : Nat → Nat → Act) (k : Nat) (a' : Act) (w : World) : Prop := ∃ Bx, P k Bx w ∧ a' = a1 k Bx
theorem boxQ_own {P : Nat → Nat → World → Prop} {a1 : Nat → Nat → Act} {B : Nat} (h : ∀ k Bx, OwnFrom B (fun (_ : Unit) => P k Bx)) (k : Nat) (a' : Act) : OwnFrom B (fun (_ : Unit) => BoxQ P a1 k a') := fun _ w w' row hs hg hr => by
  obtain ⟨Bx, e1, e2⟩ := hs
  exact ⟨Bx, h k Bx () w w' row e1 hg hr, e2⟩
theorem kpF_t {B T b : Nat} {x y z : World} (h : KpF B T b x y) (k : KpF B T b y z) : KpF B T b x z := h.trans k
theorem kpF_b {B T b : Nat} {w : World} (hT : T ≤ b) (hb : b + 1 < w.heap.size) (W : World) (l : Nat) (o o' : Obj) (hl : w.heap.size ≤ l) (_ : W.heap[l]? = some o) (_ : o.isCells = false) (_ : o.isWalk = false) : KpF B T b W (W.putObj l o') :=
  ⟨fun k _ h2 => World.putObj_heap_other (by omega), fun k _ h2 => World.putObj_heap_other (by omega)⟩
theorem betterF_any (g p : Nat) (W : World) : Calls Tryz.prog 111 #[.pointer (some ⟨g, 0, none⟩), .int .i64 (p : Int)] W fun e w' => e = .returned (.func (.func 146) #[] #[.pointer (some ⟨W.heap.size + 1, 0, none⟩), .pointer (some ⟨W.heap.size, 0, none⟩)]) ∧ BxF w' W.heap.size g p ∧ Below W.heap.size W w' ∧ w'.heap.size = W.heap.size + 2 := by
  have h2 := Blk.new (W.alloc (.cells #[.pointer (some ⟨g, 0, none⟩)] 113)) 3 #[.int .i64 (p : Int)]
  simp only [World.size_alloc] at h2
  go_enter Tryz.func111, Tryz.ntmps111
  go_wp2
  go_ret
  exact ⟨rfl, ⟨(Blk.new W 113 #[.pointer (some ⟨g, 0, none⟩)]).alloc _, h2⟩, ((Below.refl _ _).alloc (Nat.le_refl _) _).alloc (by simp) _, by simp⟩
/-- the longest so far -/
def tB (l : List Int) (p : Nat) : Nat → Nat × Nat
  | 0 => (0, 0)
  | k + 1 => btT l p k
/-- what Longest's loop holds -/
structure LgS (W w : World) (gr : Nat) (t : Nat × Nat) : Prop where
  res : Blk w gr 54 #[.int .i64 0, .int .i64 0]
  best : Blk w (gr + 1) 54 #[.int .i64 (t.1 : Int), .int .i64 (t.2 : Int)]
  below : Below W.heap.size W w
  top : gr + 4 ≤ w.heap.size
set_option maxRecDepth 100000 in
set_option maxHeartbeats 8000000 in
theorem longest_any (B T g p : Nat) (l : List Int) (hp : p < l.length) (hm : l.length ≤ 32768) (hB : ∀ x ∈ l, isB x) (W : World) (hT : T ≤ W.heap.size) (h : FnR W B T g l) :
    Calls Tryz.prog 72 #[.pointer (some ⟨g, 0, none⟩), .int .i64 (p : Int)] W fun e w' => (∃ t : Nat × Nat, e = .returned (.tuple #[.agg #[.int .i64 (t.1 : Int), .int .i64 (t.2 : Int)], .bool (decide (0 < t.1))]) ∧ t = tB l p (impM (txF l) l.length p p).length) ∧ Below W.heap.size W w' := by
  have HF := hid h
  have HBy := hid hB
  clear h hB
  obtain ⟨gr, hgr⟩ : ∃ g, g = W.heap.size := ⟨_, rfl⟩
  obtain ⟨w0, hw0⟩ : ∃ w, w = (W.alloc (.cells #[.int .i64 0, .int .i64 0] 54)).alloc (.cells #[.int .i64 0, .int .i64 0] 54) := ⟨_, rfl⟩
  have b0 : Below W.heap.size W w0 := hw0 ▸ ((Below.refl _ _).alloc (Nat.le_refl _) _).alloc (by simp) _
  have z1 : Blk w0 gr 54 #[.int .i64 0, .int .i64 0] := by rw [hw0, hgr]; exact (Blk.new W _ _).alloc _
  have z2 : Blk w0 (gr + 1) 54 #[.int .i64 0, .int .i64 0] := by
    have h2 := Blk.new (W.alloc (.cells #[.int .i64 0, .int .i64 0] 54)) 54 #[.int .i64 0, .int .i64 0]
    simp only [World.size_alloc] at h2
    rw [hw0, hgr]
    exact h2
  have hs0 : w0.heap.size = gr + 2 := by rw [hw0, hgr]; simp
  have HX := hid (betterF_any g p w0)
  refine (callsIn_wide (n := 9)).1 ?_
  refine callsIn_of_wp_marks Tryz.func72 rfl trivial ?_ rfl
  refine wpIn_wide.2 ?_
  simp only [Tryz.ntmps72, List.size_toArray, List.length_cons, List.length_nil, Nat.reduceAdd, Nat.reduceSub, Array.replicate_succ, Array.replicate_zero, List.push_toArray, List.append_toArray, List.nil_append, List.cons_append]
  go_upto_region 2 with (fail)
  rw [← hw0, ← hgr]
  have HW0 := hid hw0
  have HGR := hid hgr
  clear hw0 hgr
  go_wp2_with fail
  refine HX.out.mono ?_
  rintro e x0 ⟨rfl, hbx, hb3, hsz⟩
  have hx0 : x0.heap.size = gr + 4 := by rw [hsz, hs0]
  have hTb : T ≤ gr + 2 := by have := HGR.out; omega
  rw [hs0] at hbx hb3 ⊢
  have bx := hid (b0.trans (hb3.mono (by have := HGR.out; omega)))
  have ST := hid (show BtS x0 B T (gr + 2) g p l from ⟨HF.out.keep (KpR.below bx.out hT), hbx⟩)
  have L0 := hid (show LgS W x0 gr (tB l p 0) from ⟨z1.below hb3 (by omega), z2.below hb3 (by omega), bx.out, by omega⟩)
  have HS := hid hx0
  clear hbx hb3 hsz hs0 z1 z2 b0 HX HW0 HF bx
  go_wp2_with fail
  refine' wpIn_wide.1 (range_ix (n := 9) (F := Fence.wide) rfl (by omega) (gf := 146) (lb := #[.pointer (some ⟨gr + 2 + 1, 0, none⟩), .pointer (some ⟨gr + 2, 0, none⟩)]) rfl trivial (enters_of Tryz.func146 (by kernel_rfl) rfl)
    (better_ix 8 (gr + 2) (by omega) B T g p l hp hm HBy.out x0 hTb ST.out) kpF_t (kpF_b (b := gr + 2) (w := x0) hTb (by have := HS.out; omega)) (Below.refl _ _) (fun _ => rfl)
    (fun k w => LgS W w gr (tB l p k))
    (fun _ => False)
    ?hI ?hJx ?h0
    (BoxQ (fun k Bx w => x0.heap.size ≤ Bx ∧ Blk w Bx 54 #[.int .i64 (((btT l p k).1 : Nat) : Int), .int .i64 (((btT l p k).2 : Nat) : Int)]) _) ?hAx ?assign ?body ?done ?stop)
  case hI =>
    rintro k w w' row e1 hg hr
    exact ⟨blk_othQ e1.res hg (fun r e => (hr r e).2), blk_othQ e1.best hg (fun r e => (hr r e).2), below_othQ e1.below hg e1.below.size (fun r e => by have := (hr r e).1; have := HS.out; have := HGR.out; omega), Nat.le_trans e1.top hg.size⟩
  case hJx => exact fun _ _ _ _ h _ _ => h.elim
  case h0 => exact L0.out
  case hAx =>
    refine boxQ_own ?_
    rintro k Bx _ w w' row ⟨e1, e2⟩ hg hr
    exact ⟨e1, blk_othQ e2 hg (fun r e => (hr r e).2)⟩
  case assign =>
    rintro lp k w K hk e1 hK
    have E1 := hid e1
    have hbw := e1.below.size
    have hlb := e1.best.lt
    have htp := e1.top
    clear e1
    obtain ⟨Bx, hBx⟩ : ∃ B, B = w.heap.size := ⟨_, rfl⟩
    gi_wp2
    rw [← hBx]
    have hgs := HGR.out
    have hAl : Below w.heap.size w (w.alloc (.cells #[.int .i64 (((btT l p k).1 : Nat) : Int), .int .i64 (((btT l p k).2 : Nat) : Int)] 54)) := (Below.refl _ w).alloc (Nat.le_refl _) _
    refine hK _ _ ((KeepsOthers.alloc _ _).from _) (KpF.below hAl hTb (by omega)) ⟨E1.out.res.alloc _, E1.out.best.alloc _, E1.out.below.trans (hAl.mono hbw), by rw [World.size_alloc]; omega⟩ ⟨Bx, ⟨by rw [hBx, HS.out]; exact htp, by rw [hBx]; exact Blk.new w _ _⟩, ?eqa⟩
    case eqa => exact Eq.refl _
  case body =>
    rintro lp k a' w hlB ⟨r0, hr0⟩ hk e1 ⟨Bx, ⟨hBx, bX⟩, ha⟩
    dsimp only at ha
    subst ha
    have E1 := hid e1
    have q0 := bX.cell 0
    have q1 := bX.cell 1
    simp only [List.getElem?_toArray, List.getElem?_cons_zero, List.getElem?_cons_succ] at q0 q1
    have z0 := e1.best.cell 0
    have z1 := e1.best.cell 1
    simp only [List.getElem?_toArray, List.getElem?_cons_zero, List.getElem?_cons_succ] at z0 z1
    have f0 := fun o => e1.best.frozen o
    have hlb := e1.best.lt
    have hlx := bX.lt
    have hne : Bx ≠ gr + 1 := by have := HS.out; omega
    clear e1
    gi_wp2
    have hgs := HGR.out
    refine ⟨((KeepsOthers.setCell _ _ _).trans (KeepsOthers.setCell _ _ _)).from _, ⟨fun j _ h2 => ?_, fun j h1 _ => ?_⟩, ⟨(E1.out.res.far (by show gr ≠ gr + 1; omega) _).far (by show gr ≠ gr + 1; omega) _, (E1.out.best.set_ 0 _).set_ 1 _, (E1.out.below.setCell (p := ⟨gr + 1, 0, none⟩) (by show W.heap.size ≤ gr + 1; omega) _).setCell (p := ⟨gr + 1, 1, none⟩) (by show W.heap.size ≤ gr + 1; omega) _, by rw [World.size_setCell, World.size_setCell]; exact E1.out.top⟩⟩
    · exact (Below.heap_setCell _ _ _ j (by show j ≠ gr + 1; omega)).trans (Below.heap_setCell _ _ _ j (by show j ≠ gr + 1; omega))
    · exact (Below.heap_setCell _ _ _ j (by show j ≠ gr + 1; omega)).trans (Below.heap_setCell _ _ _ j (by show j ≠ gr + 1; omega))
  case done =>
    rintro D w hD e1 hK
    have E1 := hid e1
    have HD := hid hK
    have z0 := e1.best.cell 0
    have z1 := e1.best.cell 1
    simp only [List.getElem?_toArray, List.getElem?_cons_zero, List.getElem?_cons_succ] at z0 z1
    have hlb := e1.best.lt
    clear e1 hK
    obtain ⟨t, ht⟩ : ∃ t, t = tB l p (impM (txF l) l.length p p).length := ⟨_, rfl⟩
    rw [← ht] at z0 z1 E1
    have HT := hid ht
    clear ht
    go_upto_region 5 with (fail)
    refine free_lit (S := World) (fun i => i == 4)
      (fun x i => [.agg #[.int .i64 (t.1 : Int), .int .i64 (t.2 : Int)], .pointer (some ⟨gr + 1, 0, none⟩), .int .i64 (t.1 : Int), .bool (decide (0 < t.1)), undef, .bool (decide (0 < t.1))].getD i undef)
      (fun x => x) (fun k x => match k with | 0 => x = w.drew | 1 => x = (w.drew.setCell ⟨gr, 0, none⟩ (.int .i64 (t.1 : Int))).setCell ⟨gr, 1, none⟩ (.int .i64 (t.2 : Int)) | _ => False)
      (fun i => if i = 5 then 1 else 0) (fun i => if i = 0 then 0 else 1) (fun _ => false) (fun _ => false) ?af ?ab 1 (w.drew) (by kernel_rfl) (by kernel_rfl) (by kernel_rfl) (by kernel_rfl) (by kernel_rfl) (by kernel_rfl) (by kernel_rfl) rfl rfl ?haf ?hab ?hy ?hQ
    case haf =>
      intro x
      simp only [actOf, dstAt, List.length_cons, List.length_nil, Nat.reduceAdd, List.getElem?_cons_zero, List.getElem?_cons_succ, Option.bind_some, if_true, List.getD_cons_zero, List.getD_cons_succ, Act.put, List.setIfInBounds_toArray, List.set_cons_zero, List.set_cons_succ]
      rfl
    case hab =>
      intro x
      simp only [actOf, dstAt, List.length_cons, List.length_nil, Nat.reduceAdd, List.getElem?_cons_zero, List.getElem?_cons_succ, Option.bind_some, Bool.not_false, if_true, List.getD_cons_zero, List.getD_cons_succ, Act.put, List.setIfInBounds_toArray, List.set_cons_zero, List.set_cons_succ]
      rfl
    case hy =>
      intro j x hR
      have c0 : x.cell? ⟨gr + 1, 0, none⟩ = some (.int .i64 (t.1 : Int)) ∧ x.cell? ⟨gr + 1, 1, none⟩ = some (.int .i64 (t.2 : Int)) := by
        match j, hR with
        | 0, h => rw [show x = w.drew from h]; exact ⟨z0, z1⟩
        | 1, h => 
          rw [show x = (w.drew.setCell ⟨gr, 0, none⟩ (.int .i64 (t.1 : Int))).setCell ⟨gr, 1, none⟩ (.int .i64 (t.2 : Int)) from h]
          have hB := ((E1.out.best.drew.far (p := ⟨gr, 0, none⟩) (by show gr + 1 ≠ gr; omega) (.int .i64 (t.1 : Int))).far (p := ⟨gr, 1, none⟩) (by show gr + 1 ≠ gr; omega) (.int .i64 (t.2 : Int)))
          exact ⟨hB.cell 0, hB.cell 1⟩
      obtain ⟨c0, c1⟩ := c0
      simp only [AllY]
      refine ⟨?_, ?_, ?_, ?_, ?_, ?_, trivial⟩
      case refine_5 =>
        intro hk
        obtain rfl : j = 0 := hk
        have hx : x = w.drew := hR
        have hbx : Blk x gr 54 #[.int .i64 0, .int .i64 0] := by rw [hx]; exact E1.out.res.drew
        have y0 := hbx.cell 0
        have y1 := hbx.cell 1
        simp only [List.getElem?_toArray, List.getElem?_cons_zero, List.getElem?_cons_succ] at y0 y1
        have fr := fun o => hbx.frozen o
        refine .inr (.inl ⟨(x.setCell ⟨gr, 0, none⟩ (.int .i64 (t.1 : Int))).setCell ⟨gr, 1, none⟩ (.int .i64 (t.2 : Int)), by simp [execOp, go_sem, Act.eval, y0, y1, fr], rfl, _, by rw [hx]; exact rfl, rfl, rfl, fun i hi hd hn => rfl⟩)
      all_goals
        intro _ hk
        refine .inl ?_
        simp [execOp, go_sem, Act.eval, c0, c1] 
    case hQ =>
      rintro x hR
      replace hR : x = (w.drew.setCell ⟨gr, 0, none⟩ (.int .i64 (t.1 : Int))).setCell ⟨gr, 1, none⟩ (.int .i64 (t.2 : Int)) := hR
      have hgs := HGR.out
      have hDg : D ≠ gr := by have := HS.out; omega
      have D2 := hid (show x.heap[D]? = some (.deferred (some [])) by
        rw [hR]
        exact (Below.heap_setCell _ _ _ D (by show D ≠ gr; omega)).trans ((Below.heap_setCell _ _ _ D (by show D ≠ gr; omega)).trans HD.out))
      have R2 := hid (show Blk x gr 54 #[.int .i64 (t.1 : Int), .int .i64 (t.2 : Int)] by rw [hR]; exact (E1.out.res.drew.set_ 0 _).set_ 1 _)
      have B2 := hid (show Below W.heap.size W x by rw [hR]; exact ((E1.out.below.trans (Below.refl _ w).drew).setCell (p := ⟨gr, 0, none⟩) (by show W.heap.size ≤ gr; omega) _).setCell (p := ⟨gr, 1, none⟩) (by show W.heap.size ≤ gr; omega) _)
      clear hR z0 z1 HD hgs
      go_wp2_with fail
      refine ⟨by simp, .inl ⟨_, _, rfl, run_takeDeferred D2.out, ?_⟩⟩
      have f6 := R2.out.grown (grownBy_putObj' x D (.deferred none)) (by have := HGR.out; simp; omega)
      have fb := below_othQ B2.out (grownBy_putObj' x D (.deferred none)) B2.out.size (fun r e => by cases e; have := HS.out; have := HGR.out; omega)
      generalize hwf : World.putObj _ D _ = wf at *
      have y0 := f6.cell 0
      have y1 := f6.cell 1
      simp only [List.getElem?_toArray, List.getElem?_cons_zero, List.getElem?_cons_succ] at y0 y1
      refine ⟨.tuple #[.agg #[.int .i64 (t.1 : Int), .int .i64 (t.2 : Int)], .bool (decide (0 < t.1))], ?_, ⟨t, rfl, HT.out⟩, fb⟩
      simp [results, Tryz.results72, go_sem, y0, y1]
  case stop => exact fun _ _ _ h _ => h.elim
end Go.Proofs.YtoppjcmkhhkbmaaGreat

namespace Go.Proofs.YtoppjcmkhhkbmaaGreat
open Go.RowKit Go.Shelf

/-- what Longest hands out is the greedy parse's token -/
theorem gt_long (l : List Int) {p : Nat} (hm : l.length ≤ 32768) (hp : p < l.length) :
    (0 < (tB l p (impM (txF l) l.length p p).length).1 ∧ gtM (txF l) l.length p = (((tB l p (impM (txF l) l.length p p).length).1 : Int), ((tB l p (impM (txF l) l.length p p).length).2 : Int)) ∧ 3 ≤ (tB l p (impM (txF l) l.length p p).length).1 ∧ (tB l p (impM (txF l) l.length p p).length).1 ≤ 258) ∨
    ((tB l p (impM (txF l) l.length p p).length).1 = 0 ∧ gtM (txF l) l.length p = (0, l.getD p 0)) := by
  have e : min p 32768 = p := by omega
  have hs := lg_spec (txF l) l.length p p
  rcases imp_last (txF l) l.length p p with ⟨h1, h2⟩ | ⟨h1, h2⟩
  · refine .inr ⟨by rw [h1]; rfl, ?_⟩
    unfold gtM
    rw [e, h2, if_pos rfl]
  · obtain ⟨k, hk⟩ : ∃ k, (impM (txF l) l.length p p).length = k + 1 := ⟨(impM (txF l) l.length p p).length - 1, by have := List.length_pos_iff.2 h1; omega⟩
    have et : tB l p (impM (txF l) l.length p p).length = lgM (txF l) l.length p p := by
      rw [hk]
      show (impM (txF l) l.length p p).getD k (0, 0) = _
      rw [← h2, hk, Nat.add_sub_cancel]
    have hin : lgM (txF l) l.length p p ∈ impM (txF l) l.length p p := by
      rw [← h2, hk, Nat.add_sub_cancel, List.getD_eq_getElem?_getD, List.getElem?_eq_getElem (by omega)]
      exact List.getElem_mem _
    obtain ⟨h3, h4, h5, _⟩ := imp_in (txF l) l.length p p _ hin
    rw [et]
    refine .inl ⟨by omega, ?_, h3, h4⟩
    unfold gtM
    rw [e, if_neg (by omega)]
/-- what parse.Greedy's loop holds -/
structure GrS (W w : World) (T g : Nat) (A0 A : Option Addr) (c n : Nat) (l : List Int) (done : List (Int × Int)) : Prop where
  src : Rd w W.heap.size 1 A0 l.length (bytesV l)
  fin : FnR w W.heap.size T g l
  row : w.ownsRow T 54 2 (.slice A n c) n (done.flatMap encTok)
  top : T ≤ w.heap.size
  below : Below W.heap.size W w
theorem GrS.low {W w w' : World} {T g c n : Nat} {A0 A : Option Addr} {l : List Int} {done : List (Int × Int)} (h : GrS W w T g A0 A c n l done) (hb : Below w.heap.size w w') : GrS W w' T g A0 A c n l done :=
  ⟨h.src.below hb h.below.size, h.fin.keep (KpR.below hb h.top), own_below h.row hb (Nat.le_refl _), Nat.le_trans h.top hb.size, h.below.trans (hb.mono h.below.size)⟩
def GreedyEnd (l : List Int) (W : World) (e : Ending) (w' : World) : Prop :=
  ∃ A c, e = .returned (.tuple #[.slice A (grM l).length c, .nilIface]) ∧ w'.ownsRow W.heap.size 54 2 (.slice A (grM l).length c) (grM l).length ((grM l).flatMap encTok) ∧ Below W.heap.size W w'
set_option maxRecDepth 100000 in
set_option maxHeartbeats 8000000 in
theorem greedy_any (A : Option Addr) (c : Nat) (l : List Int) (W : World) (h : Rd W W.heap.size 1 A l.length (bytesV l)) (hc : l.length ≤ c) (hA : A = none → c = 0) (hm : l.length ≤ 32768) (hB : ∀ x ∈ l, isB x) :
    Calls Tryz.prog 33 #[.slice A l.length c] W (GreedyEnd l W) := by
  obtain ⟨i0, hi0, hz0, hz1, hz2⟩ := info_parts tok_infoB
  have Hi0 := hid hi0
  have Hz0 := hid hz0
  have Hz1 := hid hz1
  have Hz2 := hid hz2
  have H := hid h
  have HB := hid hB
  have FD := hid (finder_any A c l W h hc hA (by omega) hB)
  clear hi0 hz0 hz1 hz2 h hB hA
  go_enter Tryz.func33, Tryz.ntmps33
  go_wp2_with fail
  refine FD.out.mono ?_
  rintro e w1 ⟨g, rfl, hF, hb1⟩
  have S0 := hid (show GrS W w1 w1.heap.size g A none 0 0 l [] from ⟨H.out.below hb1 (Nat.le_refl _), hF, World.ownsRow_nil _ _ _ _, Nat.le_refl _, hb1⟩)
  have hT := hb1.size
  obtain ⟨T, hTe⟩ : ∃ T, T = w1.heap.size := ⟨_, rfl⟩
  rw [← hTe] at S0 hT
  clear hF hb1 FD hTe
  go_wp2_with fail
  go_loopw [6, 7] (fun o i wr => ∃ (p n : Nat) (done : List (Int × Int)) (A' : Option Addr) (c' : Nat), p ≤ l.length ∧ i = .int .i64 (p : Int) ∧ o = .slice A' n c' ∧ n = done.length ∧ n ≤ p ∧ Hid (grM l = done ++ grA l p) ∧ Hid (GrS W wr T g A A' c' n l done)) (fun _ i _ => l.length - (intOf i).toNat)
  case atStart => exact ⟨0, 0, [], none, 0, by omega, rfl, rfl, rfl, Nat.le_refl _, hid rfl, S0⟩
  case round =>
    obtain ⟨p, n, done, A', c', hp, rfl, rfl, hn, hnp, HG, HS⟩ := hrel
    clear S0
    have Hn := hid hn
    clear hn
    by_cases hlt : p < l.length
    · have d1 : decide ((p : Int) < (l.length : Int)) = true := decide_eq_true (by omega)
      have LG := hid (longest_any W.heap.size T g p l hlt hm HB.out wr HS.out.top HS.out.fin)
      have HGT := hid (gt_long l hm hlt)
      have HST := hid (HG.out.trans (by rw [grA_step hlt, List.append_cons]))
      clear HG
      go_wp2_with fail
      refine LG.out.mono ?_
      rintro e w2 ⟨⟨t, rfl, ht⟩, hb2⟩
      have HS2 := hid (HS.out.low hb2)
      rw [← ht] at HGT
      have hlt2 := fun (k : Nat) (e : Value.ownBlock (.slice A' n c') = some k) => (own_lt2 HS2.out.row e).1
      obtain ⟨a, b⟩ := t
      clear ht HS LG hb2
      rcases HGT.out with ⟨ha, hg1, ha3, ha4⟩ | ⟨ha, hg1⟩
      · have dg : decide (0 < a) = true := decide_eq_true ha
        have HG1 := hid hg1
        have ha3 : 3 ≤ a := ha3
        have ha4 : a ≤ 258 := ha4
        have HLN := hid (prT_gt HB.out hlt).2.1
        clear hg1 HGT
        go_upto_region 10 with (fail)
        have HS3 := hid (HS2.out.low ((Below.refl _ w2).alloc (Nat.le_refl _) (.cells #[.int .i64 (a : Int), .int .i64 (b : Int)] 54)))
        have KB := hid (Blk.new w2 54 #[.int .i64 (a : Int), .int .i64 (b : Int)])
        generalize w2.alloc (.cells #[.int .i64 (a : Int), .int .i64 (b : Int)] 54) = w3 at *
        obtain ⟨kb, hkb⟩ : ∃ k, k = w2.heap.size := ⟨_, rfl⟩
        rw [← hkb] at KB ⊢
        have hne : Value.ownBlock (.slice A' n c') ≠ some kb := fun e => by have := hlt2 kb e; omega
        clear HS2 hkb hlt2
        have q0 := KB.out.cell 0
        have q1 := KB.out.cell 1
        simp only [List.getElem?_toArray, List.getElem?_cons_zero, List.getElem?_cons_succ] at q0 q1
        have lK := KB.out.lt
        have hT3 := HS3.out.top
        go_upto_region 11 with (at_builtin; go_loud (refine wpList_app _ rfl _ _ _ rfl T 54 i0 (.agg #[.int .i64 0, .int .i64 0]) 2 16 Tryz.underlying40 Hi0.out Hz0.out Hz1.out Hz2.out rfl (by omega) _ n c' _ rfl (HS3.out.row.alloc _) _ _ 1 1 [.int .i64 (a : Int), .int .i64 (b : Int)] rfl (rd_one _ _ _ _ (Blk.new _ _ _)) (by simp) (by intro u hu; simp at hu; rcases hu with rfl | rfl <;> rfl) (by simp only [maxLen]; omega) (by omega) (by simp; omega) ?_); rintro A3 c3 w4 ⟨hown3, hgr3, hb3, _⟩)
        have KB4 := hid ((KB.out.alloc (.cells #[.int .i64 (a : Int), .int .i64 (b : Int)] 54)).grown hgr3 (fun e => hne e.symm))
        have hal := (Below.refl w3.heap.size w3).alloc (Nat.le_refl _) (.cells #[.int .i64 (a : Int), .int .i64 (b : Int)] 54)
        have HS4 := hid (show GrS W w4 T g A A3 c3 (n + 1) l (done ++ [gtM (txF l) l.length p]) from
          ⟨(HS3.out.src.below hal HS3.out.below.size).below hb3 hT, (HS3.out.fin.keep (KpR.below hal HS3.out.top)).keep (KpR.below hb3 (Nat.le_refl _)), by rw [HG1.out, List.flatMap_append]; exact hown3, Nat.le_trans (Nat.le_trans HS3.out.top hal.size) hb3.size, (HS3.out.below.trans (hal.mono HS3.out.below.size)).trans (hb3.mono hT)⟩)
        clear hown3 hgr3 hb3 hal HS3 KB q0 q1 lK
        have q0 := KB4.out.cell 0
        have q1 := KB4.out.cell 1
        simp only [List.getElem?_toArray, List.getElem?_cons_zero, List.getElem?_cons_succ] at q0 q1
        have lK := KB4.out.lt
        have mx : (if (a : Int) < 1 then (1 : Int) else (a : Int)) = (a : Int) := if_neg (by omega)
        go_wp2
        go_roundw
        case rel => exact ⟨p + tln (gtM (txF l) l.length p), n + 1, _, A3, c3, HLN.out, by rw [HG1.out, tln_mat ha3]; go_num, rfl, by rw [List.length_append, ← Hn.out]; rfl, by have := tln_pos (gtM (txF l) l.length p); omega, HST, HS4⟩
        case measure => simp [intOf]; omega
      · have ha : a = 0 := ha
        have dg : decide (0 < a) = false := decide_eq_false (by omega)
        have HG1 := hid hg1
        have HLN := hid (prT_gt HB.out hlt).2.1
        obtain ⟨bk, off, rfl, hbk, k0⟩ := byte_at HS2.out.src hlt
        have hxb := getD_isB HB.out p
        unfold isB at hxb
        have hbk2 : bk < w2.heap.size := by have := HS2.out.below.size; omega
        clear hg1 HGT
        generalize l.getD p 0 = x at *
        subst ha
        go_upto_region 10 with (fail)
        have HS3 := hid (HS2.out.low ((Below.refl _ w2).alloc (Nat.le_refl _) (.cells #[.int .i64 0, .int .i64 x] 54)))
        have KB := hid (Blk.new w2 54 #[.int .i64 0, .int .i64 x])
        generalize w2.alloc (.cells #[.int .i64 0, .int .i64 x] 54) = w3 at *
        obtain ⟨kb, hkb⟩ : ∃ k, k = w2.heap.size := ⟨_, rfl⟩
        rw [← hkb] at KB ⊢
        have hne : Value.ownBlock (.slice A' n c') ≠ some kb := fun e => by have := hlt2 kb e; omega
        clear HS2 hkb hlt2 k0
        have q0 := KB.out.cell 0
        have q1 := KB.out.cell 1
        simp only [List.getElem?_toArray, List.getElem?_cons_zero, List.getElem?_cons_succ] at q0 q1
        have lK := KB.out.lt
        have hT3 := HS3.out.top
        go_upto_region 11 with (at_builtin; go_loud (refine wpList_app _ rfl _ _ _ rfl T 54 i0 (.agg #[.int .i64 0, .int .i64 0]) 2 16 Tryz.underlying40 Hi0.out Hz0.out Hz1.out Hz2.out rfl (by omega) _ n c' _ rfl (HS3.out.row.alloc _) _ _ 1 1 [.int .i64 0, .int .i64 x] rfl (rd_one _ _ _ _ (Blk.new _ _ _)) (by simp) (by intro u hu; simp at hu; rcases hu with rfl | rfl <;> rfl) (by simp only [maxLen]; omega) (by omega) (by simp; omega) ?_); rintro A3 c3 w4 ⟨hown3, hgr3, hb3, _⟩)
        have KB4 := hid ((KB.out.alloc (.cells #[.int .i64 0, .int .i64 x] 54)).grown hgr3 (fun e => hne e.symm))
        have hal := (Below.refl w3.heap.size w3).alloc (Nat.le_refl _) (.cells #[.int .i64 0, .int .i64 x] 54)
        have HS4 := hid (show GrS W w4 T g (some ⟨bk, off, none⟩) A3 c3 (n + 1) l (done ++ [gtM (txF l) l.length p]) from
          ⟨(HS3.out.src.below hal HS3.out.below.size).below hb3 hT, (HS3.out.fin.keep (KpR.below hal HS3.out.top)).keep (KpR.below hb3 (Nat.le_refl _)), by rw [HG1.out, List.flatMap_append]; exact hown3, Nat.le_trans (Nat.le_trans HS3.out.top hal.size) hb3.size, (HS3.out.below.trans (hal.mono HS3.out.below.size)).trans (hb3.mono hT)⟩)
        clear hown3 hgr3 hb3 hal HS3 KB q0 q1 lK
        have q0 := KB4.out.cell 0
        have q1 := KB4.out.cell 1
        simp only [List.getElem?_toArray, List.getElem?_cons_zero, List.getElem?_cons_succ] at q0 q1
        have lK := KB4.out.lt
        go_wp2
        go_roundw
        case rel => exact ⟨p + tln (gtM (txF l) l.length p), n + 1, _, A3, c3, HLN.out, by rw [HG1.out, tln_lit]; go_num, rfl, by rw [List.length_append, ← Hn.out]; rfl, by have := tln_pos (gtM (txF l) l.length p); omega, HST, HS4⟩
        case measure => simp [intOf]; omega
    · obtain rfl : p = l.length := by omega
      have d1 : decide ((l.length : Int) < (l.length : Int)) = false := decide_eq_false (by omega)
      rw [grA_end (Nat.le_refl _), List.append_nil] at HG
      go_wp2
      go_ret2
      have e := HG.out
      have e2 := Hn.out
      subst e2
      unfold GreedyEnd
      rw [e]
      exact ⟨A', c', rfl, own_base HS.out.row hT, HS.out.below⟩
end Go.Proofs.YtoppjcmkhhkbmaaGreat

namespace Go.Proofs.YtoppjcmkhhkbmaaGreat
open Go.RowKit Go.Shelf

theorem bits_smallQ {kind : Int} {l : List (Int × Int)} {text : List Int} (h : blkGood kind l text = true) : bitsM kind l text ≤ 20000 + 50 * l.length + 8 * text.length := by
  obtain ⟨h0, h2, hf, _⟩ := good_parts h
  have hg := fit_good hf
  by_cases hk : kind = 0
  · subst hk
    have : bitsM 0 l text = 42 + 8 * text.length := rfl
    omega
  · have h1 := headK_bd (kind := kind) hg
    have h3 := body_bd (plan_good (kind := kind) hg) hg
    rw [bits_of hk]
    omega
theorem grM_fit {text : List Int} (hB : ∀ x ∈ text, isB x) : fitM text 0 (grM text) = true := prS_fit (prS_grM hB)
theorem grM_good {text : List Int} (hB : ∀ x ∈ text, isB x) : blkGood 1 (grM text) text = true := by
  unfold blkGood
  rw [grM_fit hB]
  simp
set_option maxRecDepth 100000 in
set_option maxHeartbeats 8000000 in
theorem fixed11_any (A : Option Addr) (c : Nat) (text : List Int) (W : World) (h : Rd W W.heap.size 1 A text.length (bytesV text)) (hc : text.length ≤ c) (hA : A = none → c = 0) (hm : text.length ≤ 32768) (hB : ∀ x ∈ text, isB x) :
    Calls Tryz.prog 14 #[.slice A text.length c] W (WroteEnd [⟨1, grM text, text⟩] W) := by
  have H := hid h
  have HB := hid hB
  have CK := hid (fun w => check11_any A c text.length w)
  have GR := hid (fun w (h : Rd w w.heap.size 1 A text.length (bytesV text)) => greedy_any A c text w h hc hA hm hB)
  rw [if_pos (by omega)] at CK
  clear h hB hA
  go_enter Tryz.func14, Tryz.ntmps14
  go_wp2_with fail
  refine (CK.out _).mono ?_
  rintro e wx ⟨rfl, rfl⟩
  go_wp2_with fail
  refine (GR.out W H.out).mono ?_
  rintro e w1 ⟨A1, c1, rfl, o1, b1⟩
  have O1 := hid o1
  have B1 := hid b1
  have hgl : (grM text).length ≤ text.length := by have := fit_le (grM_fit HB.out); omega
  obtain ⟨n, hn⟩ : ∃ n, n = (grM text).length := ⟨_, rfl⟩
  have Hn := hid hn
  rw [← hn]
  have hal := (Below.refl w1.heap.size w1).alloc (Nat.le_refl _) (.cells #[.int .i64 1, .slice A1 n c1, .slice A text.length c] 48)
  have KB := hid (Blk.new w1 48 #[.int .i64 1, .slice A1 n c1, .slice A text.length c])
  have Hal := hid hal
  clear o1 b1 hn hal CK GR
  go_upto_region 7 with (fail)
  have WR := hid (fun (w2 : World) (kb : Nat) (hb : Below w1.heap.size w1 w2) (hk : Blk w2 kb 48 #[.int .i64 1, .slice A1 n c1, .slice A text.length c]) => write11_any (some ⟨kb, 0, none⟩) 1 [⟨1, A1, c1, A, c, grM text, text⟩] w2 (by
      have := rd_one w2 kb 48 [.int .i64 1, .slice A1 n c1, .slice A text.length c] hk
      have e : [SBk.mk 1 A1 c1 A c (grM text) text].flatMap encSBk = [.int .i64 1, .slice A1 n c1, .slice A text.length c] := by rw [Hn.out]; rfl
      rw [e]
      exact this) (fun b hb2 => by
      rw [List.mem_singleton] at hb2
      subst hb2
      have o2 := own_below O1.out hb (Nat.le_refl _)
      exact ⟨own_rd o2, (H.out.below (B1.out.trans (hb.mono B1.out.size)) (Nat.le_refl _)).more (Nat.le_trans B1.out.size hb.size), grM_good HB.out, by show (grM text).length ≤ 1000000; omega, by show text.length ≤ 1000000; omega, HB.out⟩) (by show 1 ≤ 100000; omega) (by
      have h1 := (wrB_bits (fit_good (grM_fit HB.out)) 0 true (kind := 1) text (by omega) (by omega)).1
      have h2 := bits_smallQ (grM_good HB.out)
      have e : (wrAll 0 ([SBk.mk 1 A1 c1 A c (grM text) text].map SBk.q)).length = (wrB 0 true 1 (grM text) text).length := by
        show (wrB 0 true 1 (grM text) text ++ []).length = _
        rw [List.append_nil]
      rw [e]
      omega))
  have W2 := WR.out _ _ Hal.out KB.out
  have W3 := hid W2
  clear W2 WR
  go_wp2_with fail
  refine W3.out.mono ?_
  rintro e w3 ⟨A3, c3, rfl, o3, b3⟩
  have O3 := hid o3
  have B3 := hid b3
  clear o3 b3
  go_wp2_with fail
  go_ret2
  have hs := B1.out.size
  have hs2 := Hal.out.size
  exact ⟨A3, c3, rfl, own_base O3.out (by omega), (B1.out.trans (Hal.out.mono hs)).trans (B3.out.mono (by omega))⟩
end Go.Proofs.YtoppjcmkhhkbmaaGreat
