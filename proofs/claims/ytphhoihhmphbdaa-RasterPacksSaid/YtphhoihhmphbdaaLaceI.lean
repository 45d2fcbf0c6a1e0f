/-
  lace.Passes as an iterator whose rounds are told their number.
-/
import Derived.Test.YtphhoihhmphbdaaLaceC
import Derived.Test.YtphhoihhmphbdaaRgf
namespace Go.Proofs.Ytphhoihhmphbdaa
open Go.RowKit Go.Shelf
attribute [local go_sem] Oper.semAt_some

/-- the pass of a round -/
def passI (w h l : Int) (k : Nat) : Nat × Int × Int := (passesM w h l).getD k (0, 0, 0)
abbrev encPi (w h l : Int) (k : Nat) : Array Value := encPs (passI w h l k)
theorem range_split (w h : Int) (p : Nat) (hp : p < 7) (hpos : 0 < (passM w h p).1) : ∃ t, (List.range 7).flatMap (passAt w h) = (List.range p).flatMap (passAt w h) ++ (p, passM w h p) :: t := by
  have e : List.range 7 = List.range p ++ p :: (List.range (6 - p)).map (fun i => p + 1 + i) := by
    have h1 : List.range 7 = List.range (p + (1 + (6 - p))) := by congr 1; omega
    rw [h1, List.range_add, List.range_add]
    simp [Nat.add_assoc]
  refine ⟨((List.range (6 - p)).map (fun i => p + 1 + i)).flatMap (passAt w h), ?_⟩
  rw [e, List.flatMap_append, List.flatMap_cons]
  congr 1
  unfold passAt
  rw [if_pos hpos]
  rfl
theorem len_at (w h : Int) (p : Nat) (hp : p < 7) (hpos : 0 < (passM w h p).1) : ((List.range p).flatMap (passAt w h)).length < (passesM w h 1).length := by
  obtain ⟨t, ht⟩ := range_split w h p hp hpos
  show _ < ((List.range 7).flatMap (passAt w h)).length
  rw [ht, List.length_append, List.length_cons]
  omega
theorem enc_at (w h : Int) (p : Nat) (hp : p < 7) (hpos : 0 < (passM w h p).1) : encPi w h 1 ((List.range p).flatMap (passAt w h)).length = encPs (p, passM w h p) := by
  obtain ⟨t, ht⟩ := range_split w h p hp hpos
  unfold encPi passI
  show encPs (((List.range 7).flatMap (passAt w h)).getD _ _) = _
  rw [ht, List.getD_eq_getElem?_getD, List.getElem?_append_right (Nat.le_refl _), Nat.sub_self]
  rfl
set_option maxRecDepth 100000 in
set_option maxHeartbeats 4000000 in
theorem passes_ix (n : Nat) (hn : 1 ≤ n) (b : Nat) (w h l : Int) (w1 : 1 ≤ w) (w2 : w ≤ 65535) (h1 : 1 ≤ h) (h2 : h ≤ 65535) (l1 : 0 ≤ l) (l2 : l ≤ 1) (W0 : World) (hb3 : Box3 W0 b w h l) :
    SeqIx Fence.wide n Try.prog 79 #[.pointer (some ⟨b, 0, none⟩), .pointer (some ⟨b + 1, 0, none⟩), .pointer (some ⟨b + 2, 0, none⟩)] (encPi w h l) (Kp3 b) (passesM w h l).length W0 := fun lp J Jx W hW hJ hJx hY h0 => by
  have HB := hid (hb3.below hW hb3.2.2.lt)
  have q0 := HB.out.1.cell 0
  have q1 := HB.out.2.1.cell 0
  have q2 := HB.out.2.2.cell 0
  simp only [List.getElem?_toArray, List.getElem?_cons_zero] at q0 q1 q2
  clear hb3
  by_cases hl : l = 0
  · subst hl
    obtain ⟨f1, t1, a1, b1, hy1, hR1⟩ := hY 0 W (by show 0 < 1; omega) h0
    have hy : (Instr.yield lp #[.int .i64 0, .agg #[.int .i64 w, .int .i64 h]]).run Try.prog W = .ok (.round lp f1 t1 a1 b1) W := hy1
    clear hy1
    have HR := hid hR1
    clear hR1 hY hJ hJx
    refine callsIn_of_wp Try.func79 rfl trivial ?_ rfl
    simp only [Try.ntmps79, List.size_toArray, List.length_cons, List.length_nil, Nat.reduceAdd, Nat.reduceSub, Array.replicate_succ, Array.replicate_zero, List.push_toArray, List.append_toArray, List.nil_append, List.cons_append]
    gi_wp2_with (refine ⟨trivial, ?_⟩; gi_at_call 80; refine (callsIn_wide.2 (side_yes _ (by omega) (by omega) _)).mono ?_; rintro e w' ⟨rfl, rfl⟩)
    refine HR.out.mono ?_
    rintro e W1 (⟨rfl, hJ1, _⟩ | ⟨rfl, hx1⟩)
    · gi_wp2
      refine bodyPost_ret (results_none rfl _ _ _) rfl ?_
      exact ⟨⟨_, rfl⟩, .inl hJ1⟩
    · gi_wp2
      refine bodyPost_ret (results_none rfl _ _ _) rfl ?_
      exact ⟨⟨_, rfl⟩, .inr hx1⟩
  · have hl1 : l = 1 := by omega
    subst hl1
    have HJ := hid hJ
    have HY := hid hY
    clear hJ hY hJx hl
    refine callsIn_of_wp Try.func79 rfl trivial ?_ rfl
    simp only [Try.ntmps79, List.size_toArray, List.length_cons, List.length_nil, Nat.reduceAdd, Nat.reduceSub, Array.replicate_succ, Array.replicate_zero, List.push_toArray, List.append_toArray, List.nil_append, List.cons_append]
    gi_wp2_with (refine ⟨trivial, ?_⟩; gi_at_call 80; refine (callsIn_wide.2 (side_yes _ (by omega) (by omega) _)).mono ?_; rintro e w' ⟨rfl, rfl⟩)
    gi_loopw [31] (fun i wr => ∃ p : Nat, p ≤ 7 ∧ i = .int .i64 (p : Nat) ∧ J ((List.range p).flatMap (passAt w h)).length wr ∧ Box3 wr b w h 1) (fun i _ => 7 - (intOf i).toNat)
    case atStart => exact ⟨0, by omega, rfl, h0, HB.out⟩
    case round =>
      obtain ⟨p, hp, rfl, hj, hbx⟩ := hrel
      have Hj := hid hj
      have Hbx := hid hbx
      have r0 := hbx.1.cell 0
      have r1 := hbx.2.1.cell 0
      simp only [List.getElem?_toArray, List.getElem?_cons_zero] at r0 r1
      clear hj hbx q0 q1 q2 h0 HB
      by_cases hlt : p < 7
      · obtain ⟨pb1, pb2, pb3, pb4⟩ := pass_bd w h p w1 w2 h1 h2
        have Hrg := hid (show (List.range (p + 1)).flatMap (passAt w h) = (List.range p).flatMap (passAt w h) ++ passAt w h p by rw [List.range_succ, List.flatMap_append]; simp)
        have Hpa : Hid (passAt w h p = if 0 < (passM w h p).1 then [(p, passM w h p)] else []) := rfl
        by_cases hpos : 0 < (passM w h p).1
        · have d : decide (0 < (passM w h p).1) = true := decide_eq_true hpos
          have Hat := hid (Hpa.out.trans (if_pos hpos))
          have HEN := hid (enc_at w h p hlt hpos)
          have HLT := hid (len_at w h p hlt hpos)
          clear hpos
          gi_wp2_with (refine ⟨trivial, ?_⟩; gi_at_call 81; refine (callsIn_wide.2 (size_any w h p hlt w1 w2 h1 h2 _)).mono ?_; rintro e w3 ⟨rfl, hb⟩; have hb3 := Hbx.out.below hb Hbx.out.2.2.lt; have hj3 := HJ.out _ _ _ none Hj.out ⟨hb.os, hb.tape, hb.output, hb.size, fun k hk _ => hb.block k hk⟩ (by simp); obtain ⟨f1, t1, a1, b1, hy1, hR1⟩ := HY.out ((List.range p).flatMap (passAt w h)).length w3 HLT.out hj3; rw [HEN.out] at hy1; have HR := hid hR1; have Hb3 := hid hb3; clear hj3 hR1 hb hb3; dsimp only [encPs] at hy1)
          refine HR.out.mono ?_
          rintro e W1 (⟨rfl, hJ1, hk1⟩ | ⟨rfl, hx1⟩)
          · have Hb4 := hid (Hb3.out.keep hk1)
            have HJ1 := hid hJ1
            clear hk1 hJ1
            gi_wp2
            go_roundw
            case rel => exact ⟨p + 1, by omega, by go_num, by rw [Hrg.out, Hat.out, List.length_append]; exact HJ1.out, Hb4.out⟩
            case measure => simp [intOf]; omega
          · gi_wp2
            refine bodyPost_ret (results_none rfl _ _ _) rfl ?_
            exact ⟨⟨_, rfl⟩, .inr hx1⟩
        · have d : decide (0 < (passM w h p).1) = false := decide_eq_false hpos
          have Hat := hid (Hpa.out.trans (if_neg hpos))
          clear hpos
          gi_wp2_with (refine ⟨trivial, ?_⟩; gi_at_call 81; refine (callsIn_wide.2 (size_any w h p hlt w1 w2 h1 h2 _)).mono ?_; rintro e w3 ⟨rfl, hb⟩; have hb3 := Hbx.out.below hb Hbx.out.2.2.lt; have Hj3 := hid (HJ.out _ _ _ none Hj.out ⟨hb.os, hb.tape, hb.output, hb.size, fun k hk _ => hb.block k hk⟩ (by simp)); have Hb3 := hid hb3; clear hb hb3)
          refine ⟨fun _ h => (by cases h), ?_⟩
          gi_wp2
          go_roundw
          case rel => exact ⟨p + 1, by omega, by go_num, by rw [Hrg.out, Hat.out, List.append_nil]; exact Hj3.out, Hb3.out⟩
          case measure => simp [intOf]; omega
      · have e : p = 7 := by omega
        subst e
        gi_wp2
        go_end0
        exact ⟨⟨_, rfl⟩, .inl Hj.out⟩

end Go.Proofs.Ytphhoihhmphbdaa
