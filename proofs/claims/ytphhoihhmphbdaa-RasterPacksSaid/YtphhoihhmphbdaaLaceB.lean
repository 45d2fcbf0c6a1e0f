/-
  lace.Passes as an iterator.
-/
import Derived.Test.YtphhoihhmphbdaaLaceA
import Derived.RangeFuncNested
import Derived.RangeFuncBound
import Derived.RangeFuncCalls
import Derived.RangeFuncLeaves
import Derived.RangeFuncFrom
import Derived.Shelf.Abstract
import Derived.Shelf.RegionOpen
import Derived.OwnWalkIn
import Derived.TacticsInMore
import Derived.LoopNIn
import Derived.LoopIn
namespace Go.Proofs.Ytphhoihhmphbdaa
open Go.RowKit Go.Shelf
attribute [local go_sem] Oper.semAt_some

/-- a pass: its number, its columns and rows -/
abbrev encPs (x : Nat × Int × Int) : Array Value := #[.int .i64 (x.1 : Nat), .agg #[.int .i64 x.2.1, .int .i64 x.2.2]]
def passAt (w h : Int) (p : Nat) : List (Nat × Int × Int) := if 0 < (passM w h p).1 then [(p, passM w h p)] else []
def passesM (w h l : Int) : List (Nat × Int × Int) := if l = 0 then [(0, w, h)] else (List.range 7).flatMap (passAt w h)
theorem pass_len (w h : Int) : ∀ p : Nat, ((List.range p).flatMap (passAt w h)).length ≤ p
  | 0 => by simp
  | p + 1 => by
    have := pass_len w h p
    have h1 : (passAt w h p).length ≤ 1 := by unfold passAt; split <;> simp
    rw [List.range_succ, List.flatMap_append, List.length_append]
    simp only [List.flatMap_cons, List.flatMap_nil, List.append_nil]
    omega
/-- what a round keeps: the three boxes that the iterator reads -/
def Kp3 (b : Nat) (W W' : World) : Prop := ∀ k, b ≤ k → k ≤ b + 2 → W'.heap[k]? = W.heap[k]?
theorem kp3_t {b : Nat} {A B C : World} (h : Kp3 b A B) (k : Kp3 b B C) : Kp3 b A C := fun i h1 h2 => (k i h1 h2).trans (h i h1 h2)
/-- the three boxes -/
def Box3 (W : World) (b : Nat) (x y z : Int) : Prop := Blk W b 3 #[.int .i64 x] ∧ Blk W (b + 1) 3 #[.int .i64 y] ∧ Blk W (b + 2) 3 #[.int .i64 z]
theorem Box3.keep {W W' : World} {b : Nat} {x y z : Int} (h : Box3 W b x y z) (hk : Kp3 b W W') : Box3 W' b x y z :=
  ⟨(hk b (Nat.le_refl _) (by omega)).trans h.1, (hk (b + 1) (by omega) (by omega)).trans h.2.1, (hk (b + 2) (by omega) (by omega)).trans h.2.2⟩
theorem Box3.below {W W' : World} {B b : Nat} {x y z : Int} (h : Box3 W b x y z) (hb : Below B W W') (hB : b + 2 < B) : Box3 W' b x y z :=
  ⟨h.1.below hb (by omega), h.2.1.below hb (by omega), h.2.2.below hb (by omega)⟩

theorem side_yes (n : Int) (h1 : 1 ≤ n) (h2 : n ≤ 65535) (W : World) : Calls Try.prog 80 #[.int .i64 n] W fun e w' => e = .returned (.bool true) ∧ W = w' :=
  (side_any n W).mono fun e w' ⟨he, hw⟩ => ⟨by rw [he]; unfold sideB; rw [decide_eq_true ⟨h1, h2⟩], hw⟩
set_option maxRecDepth 100000 in
set_option maxHeartbeats 4000000 in
theorem passes_stops (n : Nat) (hn : 1 ≤ n) (b : Nat) (w h l : Int) (w1 : 1 ≤ w) (w2 : w ≤ 65535) (h1 : 1 ≤ h) (h2 : h ≤ 65535) (l1 : 0 ≤ l) (l2 : l ≤ 1) (W0 : World) (hb3 : Box3 W0 b w h l) :
    SeqStopsK Fence.wide n Try.prog 79 #[.pointer (some ⟨b, 0, none⟩), .pointer (some ⟨b + 1, 0, none⟩), .pointer (some ⟨b + 2, 0, none⟩)] encPs (Kp3 b) (fun xs => xs = passesM w h l) (fun _ => True) 7 W0 := fun lp J Jx W hW hJ hJx hY h0 => by
  have HB := hid (hb3.below hW hb3.2.2.lt)
  have q0 := HB.out.1.cell 0
  have q1 := HB.out.2.1.cell 0
  have q2 := HB.out.2.2.cell 0
  simp only [List.getElem?_toArray, List.getElem?_cons_zero] at q0 q1 q2
  clear hb3
  by_cases hl : l = 0
  · subst hl
    obtain ⟨f1, t1, a1, b1, hy1, hR1⟩ := hY [] (0, w, h) W h0 (by simp)
    have hy : (Instr.yield lp #[.int .i64 0, .agg #[.int .i64 w, .int .i64 h]]).run Try.prog W = .ok (.round lp f1 t1 a1 b1) W := hy1
    clear hy1
    have HR := hid hR1
    have Hp : Hid (passesM w h 0 = [(0, w, h)]) := rfl
    clear hR1 hY hJ hJx
    refine callsIn_of_wp Try.func79 rfl trivial ?_ rfl
    simp only [Try.ntmps79, List.size_toArray, List.length_cons, List.length_nil, Nat.reduceAdd, Nat.reduceSub, Array.replicate_succ, Array.replicate_zero, List.push_toArray, List.append_toArray, List.nil_append, List.cons_append]
    gi_wp2_with (refine ⟨trivial, ?_⟩; gi_at_call 80; refine (callsIn_wide.2 (side_yes _ (by omega) (by omega) _)).mono ?_; rintro e w' ⟨rfl, rfl⟩)
    refine HR.out.mono ?_
    rintro e W1 (⟨rfl, hJ1, _⟩ | ⟨rfl, hx1⟩)
    · gi_wp2
      refine bodyPost_ret (results_none rfl _ _ _) rfl ?_
      exact ⟨⟨_, rfl⟩, .inl ⟨_, Hp.out.symm, hJ1⟩⟩
    · gi_wp2
      refine bodyPost_ret (results_none rfl _ _ _) rfl ?_
      exact ⟨⟨_, rfl⟩, .inr ⟨_, trivial, hx1⟩⟩
  · have hl1 : l = 1 := by omega
    subst hl1
    have HJ := hid hJ
    have HY := hid hY
    clear hJ hY hJx hl
    refine callsIn_of_wp Try.func79 rfl trivial ?_ rfl
    simp only [Try.ntmps79, List.size_toArray, List.length_cons, List.length_nil, Nat.reduceAdd, Nat.reduceSub, Array.replicate_succ, Array.replicate_zero, List.push_toArray, List.append_toArray, List.nil_append, List.cons_append]
    gi_wp2_with (refine ⟨trivial, ?_⟩; gi_at_call 80; refine (callsIn_wide.2 (side_yes _ (by omega) (by omega) _)).mono ?_; rintro e w' ⟨rfl, rfl⟩)
    gi_loopw [31] (fun i wr => ∃ p : Nat, p ≤ 7 ∧ i = .int .i64 (p : Nat) ∧ J ((List.range p).flatMap (passAt w h)) wr ∧ Box3 wr b w h 1) (fun i _ => 7 - (intOf i).toNat)
    case atStart => exact ⟨0, by omega, rfl, h0, HB.out⟩
    case round =>
      obtain ⟨p, hp, rfl, hj, hbx⟩ := hrel
      have Hj := hid hj
      have Hbx := hid hbx
      have r0 := hbx.1.cell 0
      have r1 := hbx.2.1.cell 0
      simp only [List.getElem?_toArray, List.getElem?_cons_zero] at r0 r1
      clear hj hbx q0 q1 q2 h0 HB
      by_cases hlt : p < 7
      · obtain ⟨pb1, pb2, pb3, pb4⟩ := pass_bd w h p w1 w2 h1 h2
        have Hrg := hid (show (List.range (p + 1)).flatMap (passAt w h) = (List.range p).flatMap (passAt w h) ++ passAt w h p by rw [List.range_succ, List.flatMap_append]; simp)
        have Hpa : Hid (passAt w h p = if 0 < (passM w h p).1 then [(p, passM w h p)] else []) := rfl
        have Hlen := hid (pass_len w h p)
        by_cases hpos : 0 < (passM w h p).1
        · have d : decide (0 < (passM w h p).1) = true := decide_eq_true hpos
          have Hat := hid (Hpa.out.trans (if_pos hpos))
          clear hpos
          gi_wp2_with (refine ⟨trivial, ?_⟩; gi_at_call 81; refine (callsIn_wide.2 (size_any w h p hlt w1 w2 h1 h2 _)).mono ?_; rintro e w3 ⟨rfl, hb⟩; have hb3 := Hbx.out.below hb Hbx.out.2.2.lt; have hj3 := HJ.out _ _ _ none Hj.out ⟨hb.os, hb.tape, hb.output, hb.size, fun k hk _ => hb.block k hk⟩ (by simp); obtain ⟨f1, t1, a1, b1, hy1, hR1⟩ := HY.out ((List.range p).flatMap (passAt w h)) (p, passM w h p) w3 hj3 (by have := Hlen.out; omega); have HR := hid hR1; have Hb3 := hid hb3; clear hj3 hR1 hb hb3; dsimp only [encPs] at hy1)
          refine HR.out.mono ?_
          rintro e W1 (⟨rfl, hJ1, hk1⟩ | ⟨rfl, hx1⟩)
          · have Hb4 := hid (Hb3.out.keep hk1)
            have HJ1 := hid hJ1
            clear hk1 hJ1
            gi_wp2
            go_roundw
            case rel => exact ⟨p + 1, by omega, by go_num, by rw [Hrg.out, Hat.out]; exact HJ1.out, Hb4.out⟩
            case measure => simp [intOf]; omega
          · gi_wp2
            refine bodyPost_ret (results_none rfl _ _ _) rfl ?_
            exact ⟨⟨_, rfl⟩, .inr ⟨_, trivial, hx1⟩⟩
        · have d : decide (0 < (passM w h p).1) = false := decide_eq_false hpos
          have Hat := hid (Hpa.out.trans (if_neg hpos))
          clear hpos
          gi_wp2_with (refine ⟨trivial, ?_⟩; gi_at_call 81; refine (callsIn_wide.2 (size_any w h p hlt w1 w2 h1 h2 _)).mono ?_; rintro e w3 ⟨rfl, hb⟩; have hb3 := Hbx.out.below hb Hbx.out.2.2.lt; have Hj3 := hid (HJ.out _ _ _ none Hj.out ⟨hb.os, hb.tape, hb.output, hb.size, fun k hk _ => hb.block k hk⟩ (by simp)); have Hb3 := hid hb3; clear hb hb3)
          refine ⟨fun _ h => (by cases h), ?_⟩
          gi_wp2
          go_roundw
          case rel => exact ⟨p + 1, by omega, by go_num, by rw [Hrg.out, Hat.out, List.append_nil]; exact Hj3.out, Hb3.out⟩
          case measure => simp [intOf]; omega
      · have e : p = 7 := by omega
        subst e
        gi_wp2
        go_end0
        exact ⟨⟨_, rfl⟩, .inl ⟨_, rfl, Hj.out⟩⟩

end Go.Proofs.Ytphhoihhmphbdaa
