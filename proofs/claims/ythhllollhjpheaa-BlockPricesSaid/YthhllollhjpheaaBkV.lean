/-
  block.usual, planned, Bits.
  block.Bits.
-/
import Derived.Test.YthhllollhjpheaaBkO
import Derived.Test.YthhllollhjpheaaBkH
import Derived.Test.YthhllollhjpheaaBkA
import Derived.Test.YthhllollhjpheaaRuns
import Derived.Test.YthhllollhjpheaaCanA
import Derived.Test.YthhllollhjpheaaBkL
namespace Go.Proofs.Ythhllollhjpheaa
open Go.RowKit

theorem rep10 (x : Int) (n : Nat) (h1 : 1 ≤ n) (h2 : n ≤ 1000) (W : World) : Calls Try.prog 71 #[.slice (some ⟨W.heap.size, 0, none⟩) 1 1, .int .i64 (n : Int)] (W.alloc (.cells #[.int .i64 x] 3)) fun e w' => ∃ g, e = .returned (.slice (some ⟨g, 0, none⟩) n n) ∧ Blk w' g 3 (intsV (List.replicate n x)).toArray ∧ Below W.heap.size W w' := by
  refine (repeat_any W.heap.size 1 x n _ h1 h2 (by have h := rdi_one W x; rw [World.size_alloc]; exact h)).mono ?_
  rintro e w1 ⟨g, rfl, _, hB, hb⟩
  exact ⟨g, rfl, hB, ((Below.refl W.heap.size W).alloc (Nat.le_refl _) _).trans (hb.mono (by simp))⟩
theorem blkrow10 {w : World} {g n : Nat} {x : Int} (h : Blk w g 3 (intsV (List.replicate n x)).toArray) (hn : n ≤ 1000) : Rd w w.heap.size 1 (some ⟨g, 0, none⟩) n (intsV (List.replicate n x)) :=
  own_rd (own_of_blk (base := 0) (n := n) h (Nat.zero_le _) (by rw [intsV_length, List.length_replicate]) (by unfold maxLen; omega))
theorem parts410 (w4 : World) (g1 g2 g3 g4 : Nat) (h : Blk w4 g1 3 (intsV (List.replicate 144 8)).toArray ∧ Blk w4 g2 3 (intsV (List.replicate 112 9)).toArray ∧ Blk w4 g3 3 (intsV (List.replicate 24 7)).toArray ∧ Blk w4 g4 3 (intsV (List.replicate 8 8)).toArray) :
    PartsCI (w4.alloc (.cells #[.slice (some ⟨g1, 0, none⟩) 144 144, .slice (some ⟨g2, 0, none⟩) 112 112, .slice (some ⟨g3, 0, none⟩) 24 24, .slice (some ⟨g4, 0, none⟩) 8 8] 48)) (w4.alloc (.cells #[.slice (some ⟨g1, 0, none⟩) 144 144, .slice (some ⟨g2, 0, none⟩) 112 112, .slice (some ⟨g3, 0, none⟩) 24 24, .slice (some ⟨g4, 0, none⟩) 8 8] 48)).heap.size w4.heap.size
      [(some ⟨g1, 0, none⟩, 144, 144), (some ⟨g2, 0, none⟩, 112, 112), (some ⟨g3, 0, none⟩, 24, 24), (some ⟨g4, 0, none⟩, 8, 8)] [intsV (List.replicate 144 8), intsV (List.replicate 112 9), intsV (List.replicate 24 7), intsV (List.replicate 8 8)] := by
  refine ⟨Blk.new _ _ _, rfl, ?_⟩
  intro k s l hs hl
  obtain ⟨h1, h2, h3, h4⟩ := h
  rcases k with _ | _ | _ | _ | k
  · injection hs with hs; injection hl with hl; subst hs hl; exact ⟨blkrow10 (h1.alloc _) (by simp), intsV_cells⟩
  · injection hs with hs; injection hl with hl; subst hs hl; exact ⟨blkrow10 (h2.alloc _) (by simp), intsV_cells⟩
  · injection hs with hs; injection hl with hl; subst hs hl; exact ⟨blkrow10 (h3.alloc _) (by simp), intsV_cells⟩
  · injection hs with hs; injection hl with hl; subst hs hl; exact ⟨blkrow10 (h4.alloc _) (by simp), intsV_cells⟩
  · simp at hs
theorem fix_flat : [intsV (List.replicate 144 8), intsV (List.replicate 112 9), intsV (List.replicate 24 7), intsV (List.replicate 8 8)].flatten = intsV fixL := by
  unfold fixL intsV
  simp only [List.flatten_cons, List.flatten_nil, List.append_nil, List.map_append]
theorem row5 {w : World} {base t sz n gp : Nat} {v : Value} {xs : List Value} {cs : Array Value} (ho : w.ownsRow base t sz v n xs) (hz : Blk w gp 70 cs) (ht : t ≠ 70) (u0 u1 u2 u3 u4 : Value) :
    (((((w.setCell ⟨gp, 0, none⟩ u0).setCell ⟨gp, 1, none⟩ u1).setCell ⟨gp, 2, none⟩ u2).setCell ⟨gp, 3, none⟩ u3).setCell ⟨gp, 4, none⟩ u4).ownsRow base t sz v n xs := by
  have z1 := hz.set_ 0 u0
  have z2 := z1.set_ 1 u1
  have z3 := z2.set_ 2 u2
  have z4 := z3.set_ 3 u3
  exact row_set (row_set (row_set (row_set (row_set ho hz ht 0 u0) z1 ht 1 u1) z2 ht 2 u2) z3 ht 3 u3) z4 ht 4 u4
theorem plan_stored {W w : World} {gp : Nat} {a b c d e : Value} (hz : Blk w gp 70 #[a, b, c, d, e]) (p : PlV) (h : PlR w p) (hb : Below W.heap.size W w) (hg : W.heap.size ≤ gp) :
    Blk (((((w.setCell ⟨gp, 0, none⟩ (.slice p.LA p.L.length p.Lc)).setCell ⟨gp, 1, none⟩ (.slice p.DA p.D.length p.Dc)).setCell ⟨gp, 2, none⟩ (.slice p.RA p.R.length p.Rc)).setCell ⟨gp, 3, none⟩ (.slice p.OA p.O.length p.Oc)).setCell ⟨gp, 4, none⟩ (.int .i64 p.h)) gp 70 p.cs ∧
    PlR (((((w.setCell ⟨gp, 0, none⟩ (.slice p.LA p.L.length p.Lc)).setCell ⟨gp, 1, none⟩ (.slice p.DA p.D.length p.Dc)).setCell ⟨gp, 2, none⟩ (.slice p.RA p.R.length p.Rc)).setCell ⟨gp, 3, none⟩ (.slice p.OA p.O.length p.Oc)).setCell ⟨gp, 4, none⟩ (.int .i64 p.h)) p ∧
    Below W.heap.size W (((((w.setCell ⟨gp, 0, none⟩ (.slice p.LA p.L.length p.Lc)).setCell ⟨gp, 1, none⟩ (.slice p.DA p.D.length p.Dc)).setCell ⟨gp, 2, none⟩ (.slice p.RA p.R.length p.Rc)).setCell ⟨gp, 3, none⟩ (.slice p.OA p.O.length p.Oc)).setCell ⟨gp, 4, none⟩ (.int .i64 p.h)) :=
  ⟨((((hz.set_ 0 _).set_ 1 _).set_ 2 _).set_ 3 _).set_ 4 _, ⟨row5 h.ol hz (by decide) _ _ _ _ _, row5 h.od hz (by decide) _ _ _ _ _, row5 h.or_ hz (by decide) _ _ _ _ _, row5 h.oo hz (by decide) _ _ _ _ _⟩,
    ((((hb.setCell (p := ⟨gp, 0, none⟩) hg _).setCell (p := ⟨gp, 1, none⟩) hg _).setCell (p := ⟨gp, 2, none⟩) hg _).setCell (p := ⟨gp, 3, none⟩) hg _).setCell (p := ⟨gp, 4, none⟩) hg _⟩
/-- the plan of a kind -/
def planM (kind : Int) (l : List (Int × Int)) : PlanM := if kind = 1 then ⟨fixL, usuD, [], []⟩ else ownM l
def headK (kind : Int) (l : List (Int × Int)) : Int := if kind = 1 then 0 else headM (ownM l)
def PlanEnd (kind : Int) (l : List (Int × Int)) (W : World) (v : Value) (w' : World) : Prop :=
  ∃ p : PlV, v = .agg p.cs ∧ p.L = (planM kind l).L ∧ p.D = (planM kind l).D ∧ p.R = (planM kind l).R ∧ p.O = (planM kind l).O ∧ p.h = headK kind l ∧ PlR w' p ∧ Below W.heap.size W w'
set_option maxRecDepth 100000 in
set_option maxHeartbeats 8000000 in
theorem usual10_any (l : List (Int × Int)) (W : World) : Calls Try.prog 51 #[] W fun e w' => ∃ v, e = .returned v ∧ PlanEnd 1 l W v w' := by
  have hal := (Below.refl W.heap.size W).alloc (Nat.le_refl _) (.cells #[.slice none 0 0, .slice none 0 0, .slice none 0 0, .slice none 0 0, .int .i64 0] 70)
  have Z0 := hid (Blk.new W 70 #[.slice none 0 0, .slice none 0 0, .slice none 0 0, .slice none 0 0, .int .i64 0])
  have Hal := hid hal
  clear hal
  go_enter Try.func51, Try.ntmps51
  go_upto_region 1 with (fail)
  generalize W.alloc (.cells #[.slice none 0 0, .slice none 0 0, .slice none 0 0, .slice none 0 0, .int .i64 0] 70) = w0 at *
  obtain ⟨gz, hgz⟩ : ∃ gz, gz = W.heap.size := ⟨_, rfl⟩
  have Hgz := hid (show W.heap.size ≤ gz by omega)
  rw [← hgz] at Z0 ⊢
  clear hgz
  go_wp2_with fail
  refine (rep10 8 144 (by decide) (by decide) w0).mono ?_
  rintro e w1 ⟨g1, rfl, hB1, hb1⟩
  go_wp2_with fail
  refine (rep10 9 112 (by decide) (by decide) w1).mono ?_
  rintro e w2 ⟨g2, rfl, hB2, hb2⟩
  go_wp2_with fail
  refine (rep10 7 24 (by decide) (by decide) w2).mono ?_
  rintro e w3 ⟨g3, rfl, hB3, hb3⟩
  go_wp2_with fail
  refine (rep10 8 8 (by decide) (by decide) w3).mono ?_
  rintro e w4 ⟨g4, rfl, hB4, hb4⟩
  have b12 := hb1.size
  have b23 := hb2.size
  have b34 := hb3.size
  have b45 := hb4.size
  have hb24 := hb3.trans (hb4.mono b34)
  have hb14 := hb2.trans (hb24.mono b23)
  have Hb04 := hid (hb1.trans (hb14.mono b12))
  have B4 := hid (And.intro (hB1.below hb14 hB1.lt) (And.intro (hB2.below hb24 hB2.lt) (And.intro (hB3.below hb4 hB3.lt) hB4)))
  clear hB1 hB2 hB3 hB4 hb1 hb2 hb3 hb4 hb24 hb14 b12 b23 b34 b45
  go_wp2_with fail
  have hp := parts410 w4 g1 g2 g3 g4 B4.out
  have hcc := concatI_any w4.heap.size 4 288 _ _ _ hp (by simp) (by simp [intsV_length]) (by decide)
  rw [fix_flat] at hcc
  have ha4 := (Below.refl w4.heap.size w4).alloc (Nat.le_refl _) (.cells #[.slice (some ⟨g1, 0, none⟩) 144 144, .slice (some ⟨g2, 0, none⟩) 112 112, .slice (some ⟨g3, 0, none⟩) 24 24, .slice (some ⟨g4, 0, none⟩) 8 8] 48)
  have Ha4 := hid ha4
  refine hcc.mono ?_
  rintro e w5 ⟨A5, c5, rfl, hown5, hb5⟩
  have Hb5 := hid (Hb04.out.trans ((ha4.trans (hb5.mono ha4.size)).mono Hb04.out.size))
  have O5 := hid (own_base hown5 (Nat.zero_le _))
  clear B4 hp hcc hown5 hb5 ha4 Ha4 Hb04
  go_wp2_with fail
  refine (rep10 5 30 (by decide) (by decide) w5).mono ?_
  rintro e w6 ⟨g6, rfl, hB6, hb6⟩
  have O6 := hid (own_below O5.out hb6 (Nat.le_refl _))
  have D6 := hid (own_of_blk (base := 0) (n := 30) hB6 (Nat.zero_le _) (by rw [intsV_length, List.length_replicate]) (by unfold maxLen; omega))
  have Hb6 := hid (Hb5.out.trans (hb6.mono Hb5.out.size))
  have Z6 := hid (Z0.out.below Hb6.out Z0.out.lt)
  have z0 := Z6.out.cell 0
  have z1 := Z6.out.cell 1
  have z2 := Z6.out.cell 2
  have z3 := Z6.out.cell 3
  have z4 := Z6.out.cell 4
  simp only [List.getElem?_toArray, List.getElem?_cons_zero, List.getElem?_cons_succ] at z0 z1 z2 z3 z4
  have hz := Z6.out.lt
  have fz := fun i => Z6.out.frozen i
  have hfl := fix_lens.2.2.1
  have hul := fix_lens.2.2.2
  have SE := plan_stored Z6.out ⟨fixL, A5, c5, usuD, some ⟨g6, 0, none⟩, 30, [], none, 0, [], none, 0, 0⟩ ⟨by rw [hfl]; exact O6.out, by rw [hul]; exact D6.out, World.ownsRow_nil _ _ _ _, World.ownsRow_nil _ _ _ _⟩ (Hal.out.trans (Hb6.out.mono Hal.out.size)) Hgz.out
  simp only [hfl, hul, List.length_nil] at SE
  have HSE := hid SE
  clear hB6 hb6 Hb5 O5 Z0 SE hfl hul
  go_wp2
  have SE := HSE.out
  clear HSE
  generalize (((((w6.setCell ⟨gz, 0, none⟩ (.slice A5 288 c5)).setCell ⟨gz, 1, none⟩ (.slice (some ⟨g6, 0, none⟩) 30 30)).setCell ⟨gz, 2, none⟩ (.slice none 0 0)).setCell ⟨gz, 3, none⟩ (.slice none 0 0)).setCell ⟨gz, 4, none⟩ (.int .i64 0)) = wE at *
  have r0 := SE.1.cell 0
  have r1 := SE.1.cell 1
  have r2 := SE.1.cell 2
  have r3 := SE.1.cell 3
  have r4 := SE.1.cell 4
  unfold PlV.cs at r0 r1 r2 r3 r4
  simp only [List.getElem?_toArray, List.getElem?_cons_zero, List.getElem?_cons_succ, fix_lens.2.2.1, fix_lens.2.2.2, List.length_nil] at r0 r1 r2 r3 r4
  refine bodyPost_ret (v := .agg #[.slice A5 288 c5, .slice (some ⟨g6, 0, none⟩) 30 30, .slice none 0 0, .slice none 0 0, .int .i64 0]) (by simp [results, Try.results51, go_sem, r0, r1, r2, r3, r4]) rfl ?_
  exact ⟨_, rfl, ⟨fixL, A5, c5, usuD, some ⟨g6, 0, none⟩, 30, [], none, 0, [], none, 0, 0⟩, by unfold PlV.cs; simp only [fix_lens.2.2.1, fix_lens.2.2.2, List.length_nil], rfl, rfl, rfl, rfl, rfl, SE.2.1, SE.2.2⟩
set_option maxRecDepth 100000 in
set_option maxHeartbeats 8000000 in
theorem planned10_any (A B : Option Addr) (c d nB : Nat) (kind : Int) (l : List (Int × Int)) (W : World) (hr : Rd W W.heap.size 2 A l.length (l.flatMap encTok)) (hm : l.length ≤ 1000000) (hg : ∀ t ∈ l, tgood t = true) :
    Calls Try.prog 27 #[.agg #[.int .i64 kind, .slice A l.length c, .slice B nB d]] W fun e w' => ∃ v, e = .returned (.tuple #[v, .nilIface]) ∧ PlanEnd kind l W v w' := by
  have hb1 := (Below.refl W.heap.size W).alloc (Nat.le_refl _) (.cells #[.int .i64 kind, .slice A l.length c, .slice B nB d] 28)
  have hb2 := hb1.alloc hb1.size (.cells #[.slice none 0 0, .slice none 0 0, .slice none 0 0, .slice none 0 0, .int .i64 0] 70)
  have ZB := hid ((Blk.new W 28 #[.int .i64 kind, .slice A l.length c, .slice B nB d]).alloc (.cells #[.slice none 0 0, .slice none 0 0, .slice none 0 0, .slice none 0 0, .int .i64 0] 70))
  have ZP0 := Blk.new (W.alloc (.cells #[.int .i64 kind, .slice A l.length c, .slice B nB d] 28)) 70 #[.slice none 0 0, .slice none 0 0, .slice none 0 0, .slice none 0 0, .int .i64 0]
  rw [World.size_alloc] at ZP0
  have ZP := hid ZP0
  have Hb := hid hb2
  have Hr := hid (rd_up hr hb2)
  have Hg := hid hg
  clear hr hg hb1 hb2 ZP0
  go_enter Try.func27, Try.ntmps27
  go_upto_region 1 with (fail)
  generalize (W.alloc (.cells #[.int .i64 kind, .slice A l.length c, .slice B nB d] 28)).alloc (.cells #[.slice none 0 0, .slice none 0 0, .slice none 0 0, .slice none 0 0, .int .i64 0] 70) = w0 at *
  obtain ⟨gb, hgb⟩ : ∃ g, g = W.heap.size := ⟨_, rfl⟩
  obtain ⟨gz, hgz⟩ : ∃ g, g = W.heap.size + 1 := ⟨_, rfl⟩
  have Hgz := hid (show W.heap.size ≤ gz by omega)
  rw [← hgz] at ZP ⊢
  rw [← hgb] at ZB ⊢
  clear hgz hgb
  have q0 := ZB.out.cell 0
  have q1 := ZB.out.cell 1
  simp only [List.getElem?_toArray, List.getElem?_cons_zero, List.getElem?_cons_succ] at q0 q1
  have hq := ZB.out.lt
  have hS0 := Hb.out.size
  by_cases hk : kind = 1
  · subst hk
    go_wp2_with fail
    refine (usual10_any l _).mono ?_
    rintro e w1 ⟨v, rfl, p, rfl, e1, e2, e3, e4, e5, hR, hb⟩
    have Z1 := hid (ZP.out.below hb ZP.out.lt)
    have SE := plan_stored Z1.out p hR (Hb.out.trans (hb.mono hS0)) Hgz.out
    have z0 := Z1.out.cell 0
    have z1 := Z1.out.cell 1
    have z2 := Z1.out.cell 2
    have z3 := Z1.out.cell 3
    have z4 := Z1.out.cell 4
    simp only [List.getElem?_toArray, List.getElem?_cons_zero, List.getElem?_cons_succ] at z0 z1 z2 z3 z4
    have hz := Z1.out.lt
    have fz := fun i => Z1.out.frozen i
    have HSE := hid SE
    have HE := hid (And.intro e1 (And.intro e2 (And.intro e3 (And.intro e4 e5))))
    clear SE hR hb q0 q1 e1 e2 e3 e4 e5
    obtain ⟨L, LA, Lc, D, DA, Dc, R, RA, Rc, O, OA, Oc, h⟩ := p
    unfold PlV.cs
    simp only at HSE HE ⊢
    go_wp2
    have SE := HSE.out
    clear HSE
    generalize (((((w1.setCell ⟨gz, 0, none⟩ (.slice LA L.length Lc)).setCell ⟨gz, 1, none⟩ (.slice DA D.length Dc)).setCell ⟨gz, 2, none⟩ (.slice RA R.length Rc)).setCell ⟨gz, 3, none⟩ (.slice OA O.length Oc)).setCell ⟨gz, 4, none⟩ (.int .i64 h)) = wE at *
    have r0 := SE.1.cell 0
    have r1 := SE.1.cell 1
    have r2 := SE.1.cell 2
    have r3 := SE.1.cell 3
    have r4 := SE.1.cell 4
    unfold PlV.cs at r0 r1 r2 r3 r4
    simp only [List.getElem?_toArray, List.getElem?_cons_zero, List.getElem?_cons_succ] at r0 r1 r2 r3 r4
    refine bodyPost_ret (v := .tuple #[.agg #[.slice LA L.length Lc, .slice DA D.length Dc, .slice RA R.length Rc, .slice OA O.length Oc, .int .i64 h], .nilIface]) (by simp [results, Try.results27, go_sem, r0, r1, r2, r3, r4]) rfl ?_
    exact ⟨_, rfl, ⟨L, LA, Lc, D, DA, Dc, R, RA, Rc, O, OA, Oc, h⟩, rfl, HE.out.1, HE.out.2.1, HE.out.2.2.1, HE.out.2.2.2.1, HE.out.2.2.2.2, SE.2.1, SE.2.2⟩
  · go_wp2_with fail
    refine (own10_any A c l _ Hr.out hm Hg.out).mono ?_
    rintro e w1 ⟨p, rfl, e1, e2, e3, e4, e5, hR, hb⟩
    have Z1 := hid (ZP.out.below hb ZP.out.lt)
    have SE := plan_stored Z1.out p hR (Hb.out.trans (hb.mono hS0)) Hgz.out
    have z0 := Z1.out.cell 0
    have z1 := Z1.out.cell 1
    have z2 := Z1.out.cell 2
    have z3 := Z1.out.cell 3
    have z4 := Z1.out.cell 4
    simp only [List.getElem?_toArray, List.getElem?_cons_zero, List.getElem?_cons_succ] at z0 z1 z2 z3 z4
    have hz := Z1.out.lt
    have fz := fun i => Z1.out.frozen i
    have HSE := hid SE
    have hp : planM kind l = ownM l := if_neg hk
    have hh : headK kind l = headM (ownM l) := if_neg hk
    have HE := hid (show p.L = (planM kind l).L ∧ p.D = (planM kind l).D ∧ p.R = (planM kind l).R ∧ p.O = (planM kind l).O ∧ p.h = headK kind l by rw [hp, hh]; exact ⟨e1, e2, e3, e4, e5⟩)
    clear SE hR hb q0 q1 e1 e2 e3 e4 e5 hp hh
    obtain ⟨L, LA, Lc, D, DA, Dc, R, RA, Rc, O, OA, Oc, h⟩ := p
    unfold PlV.cs
    simp only at HSE HE ⊢
    go_wp2
    have SE := HSE.out
    clear HSE
    generalize (((((w1.setCell ⟨gz, 0, none⟩ (.slice LA L.length Lc)).setCell ⟨gz, 1, none⟩ (.slice DA D.length Dc)).setCell ⟨gz, 2, none⟩ (.slice RA R.length Rc)).setCell ⟨gz, 3, none⟩ (.slice OA O.length Oc)).setCell ⟨gz, 4, none⟩ (.int .i64 h)) = wE at *
    have r0 := SE.1.cell 0
    have r1 := SE.1.cell 1
    have r2 := SE.1.cell 2
    have r3 := SE.1.cell 3
    have r4 := SE.1.cell 4
    unfold PlV.cs at r0 r1 r2 r3 r4
    simp only [List.getElem?_toArray, List.getElem?_cons_zero, List.getElem?_cons_succ] at r0 r1 r2 r3 r4
    refine bodyPost_ret (v := .tuple #[.agg #[.slice LA L.length Lc, .slice DA D.length Dc, .slice RA R.length Rc, .slice OA O.length Oc, .int .i64 h], .nilIface]) (by simp [results, Try.results27, go_sem, r0, r1, r2, r3, r4]) rfl ?_
    exact ⟨_, rfl, ⟨L, LA, Lc, D, DA, Dc, R, RA, Rc, O, OA, Oc, h⟩, rfl, HE.out.1, HE.out.2.1, HE.out.2.2.1, HE.out.2.2.2.1, HE.out.2.2.2.2, SE.2.1, SE.2.2⟩
end Go.Proofs.Ythhllollhjpheaa

namespace Go.Proofs.Ythhllollhjpheaa
open Go.RowKit

/-- a block's bits behind so many -/
def wrB (k : Nat) (last : Bool) (kind : Int) (l : List (Int × Int)) (text : List Int) : List Int :=
  dgS false (2 * kind + (if last then 1 else 0)) 3 ++ (if kind = 0 then stB (k + 3) text else (if kind = 2 then headB (ownM l).L (ownM l).D (ownM l).R (ownM l).O else []) ++ toksB (planM kind l).L (planM kind l).D l)
theorem plan_good {kind : Int} {l : List (Int × Int)} (hg : ∀ t ∈ l, tgood t = true) : PlG (planM kind l).L (planM kind l).D l := by
  unfold planM
  split
  · exact usual_good hg
  · exact own_good hg
theorem sum_bd {α : Type} (f : α → Int) (b : Int) : ∀ (l : List α), (∀ x ∈ l, 0 ≤ f x ∧ f x ≤ b) → 0 ≤ (l.map f).sum ∧ (l.map f).sum ≤ b * l.length
  | [], _ => by simp
  | x :: l, h => by
    have h1 := sum_bd f b l fun y hy => h y (List.mem_cons_of_mem _ hy)
    have h2 := h x List.mem_cons_self
    rw [List.map_cons, List.sum_cons, List.length_cons]
    push_cast
    rw [Int.mul_add, Int.mul_one]
    omega
theorem head_bd {l : List (Int × Int)} (hg : ∀ t ∈ l, tgood t = true) : 0 ≤ headM (ownM l) ∧ headM (ownM l) ≤ 10000 := by
  obtain ⟨h1, h2, _⟩ := own_runs hg
  have hw := wrN_le (ownM l).O 19
  have hs := sum_bd (runBits (ownM l).O) 14 (ownM l).R fun r hr => by
    have hb := cntB_at (b := 7) h1.b7 (by omega) r.1.toNat
    unfold runBits rb
    (repeat' split) <;> omega
  unfold headM
  omega
theorem headK_bd {kind : Int} {l : List (Int × Int)} (hg : ∀ t ∈ l, tgood t = true) : 0 ≤ headK kind l ∧ headK kind l ≤ 10000 := by
  unfold headK
  split
  · omega
  · exact head_bd hg
theorem body_bd {L D : List Int} {l : List (Int × Int)} (h : PlG L D l) (hg : ∀ t ∈ l, tgood t = true) : 0 ≤ bodyM L D l ∧ bodyM L D l ≤ 16 + 50 * l.length := by
  have hs := sum_bd (tokBits L D) 50 l fun t ht => tokBits_bd h.bL h.bD (hg t ht)
  have := len_bd h.bL 256
  unfold bodyM
  omega
theorem bits_of {kind : Int} {l : List (Int × Int)} {text : List Int} (h1 : kind ≠ 0) : bitsM kind l text = 3 + headK kind l + bodyM (planM kind l).L (planM kind l).D l := by
  unfold bitsM headK planM
  rw [if_neg h1]
  by_cases hk : kind = 1
  · rw [if_pos hk, if_pos hk, if_pos hk]; dsimp only; omega
  · rw [if_neg hk, if_neg hk, if_neg hk]
theorem good_parts {kind : Int} {l : List (Int × Int)} {text : List Int} (h : blkGood kind l text = true) : 0 ≤ kind ∧ kind ≤ 2 ∧ fitM text 0 l = true ∧ (kind = 0 → text.length ≤ 65535) := by
  unfold blkGood at h
  rw [Bool.and_eq_true, Bool.and_eq_true, decide_eq_true_iff, decide_eq_true_iff] at h
  exact ⟨h.1.1, h.1.2, h.2.1, h.2.2⟩
set_option maxRecDepth 100000 in
set_option maxHeartbeats 8000000 in
theorem bits10_any (A B : Option Addr) (c d : Nat) (kind : Int) (l : List (Int × Int)) (text : List Int) (W : World) (hr : Rd W W.heap.size 2 A l.length (l.flatMap encTok)) (ht : Rd W W.heap.size 1 B text.length (bytesV text)) (hm : l.length ≤ 1000000) (hm2 : text.length ≤ 1000000) (hok : ∀ t ∈ l, okTok t) (hB : ∀ x ∈ text, isB x) (g : Bool) (hg : blkGood kind l text = g) :
    Calls Try.prog 9 #[.agg #[.int .i64 kind, .slice A l.length c, .slice B text.length d]] W fun e w' => e = .returned (match (generalizing := false) g with | true => .tuple #[.int .i64 (bitsM kind l text), .nilIface] | false => .tuple #[.int .i64 0, .iface 40 (.int .i64 6)]) ∧ Below W.heap.size W w' := by
  have hb1 := (Below.refl W.heap.size W).alloc (Nat.le_refl _) (.cells #[.int .i64 kind, .slice A l.length c, .slice B text.length d] 28)
  have ZB := hid (Blk.new W 28 #[.int .i64 kind, .slice A l.length c, .slice B text.length d])
  have Hb := hid hb1
  have Hr := hid (rd_up hr hb1)
  have Ht := hid (rd_up ht hb1)
  have hck := check10_any A B c d kind l text _ Hr.out Ht.out hm hm2 hok hB g hg
  have Hg := hid hg
  have hmm : (text.length : Int) ≤ 1000000 := by omega
  clear hr ht hok hB hg hb1
  go_enter Try.func9, Try.ntmps9
  go_upto_region 1 with (fail)
  generalize W.alloc (.cells #[.int .i64 kind, .slice A l.length c, .slice B text.length d] 28) = w0 at *
  obtain ⟨gb, hgb⟩ : ∃ g, g = W.heap.size := ⟨_, rfl⟩
  rw [← hgb] at ZB ⊢
  clear hgb
  have q0 := ZB.out.cell 0
  have q1 := ZB.out.cell 1
  have q2 := ZB.out.cell 2
  simp only [List.getElem?_toArray, List.getElem?_cons_zero, List.getElem?_cons_succ] at q0 q1 q2
  have hq := ZB.out.lt
  have hS0 := Hb.out.size
  cases g with
  | false =>
    go_wp2_with fail
    refine hck.mono ?_
    rintro e w1 ⟨rfl, hb⟩
    go_wp2
    go_ret2
    exact ⟨rfl, Hb.out.trans (hb.mono hS0)⟩
  | true =>
    obtain ⟨k0, k2, hfit, hk0⟩ := good_parts Hg.out
    have hgt := fit_good hfit
    have Hgt := hid hgt
    clear Hg hfit hgt
    go_wp2_with fail
    refine hck.mono ?_
    rintro e w1 ⟨rfl, hb⟩
    have Z1 := hid (ZB.out.below hb ZB.out.lt)
    have Hr1 := hid (rd_up Hr.out hb)
    have Hb1 := hid (Hb.out.trans (hb.mono hS0))
    have y0 := Z1.out.cell 0
    have y1 := Z1.out.cell 1
    have y2 := Z1.out.cell 2
    simp only [List.getElem?_toArray, List.getElem?_cons_zero, List.getElem?_cons_succ] at y0 y1 y2
    have hy := Z1.out.lt
    clear q0 q1 q2 hq hck hb ZB Hr Ht Hb
    by_cases hkz : kind = 0
    · subst hkz
      have E := hid (show bitsM 0 l text = 42 + 8 * (text.length : Int) from if_pos rfl)
      go_wp2
      go_ret2
      exact ⟨by rw [E.out]; rfl, Hb1.out⟩
    · have E := hid (bits_of (l := l) (text := text) hkz)
      have hpl := planned10_any A B c d text.length kind l w1 Hr1.out hm Hgt.out
      go_wp2_with fail
      refine hpl.mono ?_
      rintro e w2 ⟨v, rfl, p, rfl, e1, e2, e3, e4, e5, hR, hb⟩
      clear e3 e4
      have PG := hid (plan_good (kind := kind) Hgt.out)
      have hbb := body_bd (plan_good (kind := kind) Hgt.out) Hgt.out
      have hhb := headK_bd (kind := kind) Hgt.out
      rw [← e1, ← e2] at PG hbb E
      rw [← e5] at hhb E
      have Z2 := hid (Z1.out.below hb Z1.out.lt)
      have Hr2 := hid (rd_up Hr1.out hb)
      have Hb2 := hid (Hb1.out.trans (hb.mono Hb1.out.size))
      have PR := hid hR
      clear y0 y1 y2 hy hpl hR hb e1 e2 e5 Z1 Hr1 Hb1
      obtain ⟨L, LA, Lc, D, DA, Dc, R, RA, Rc, O, OA, Oc, h⟩ := p
      unfold PlV.cs
      simp only at PG hbb E hhb PR ⊢
      have hal := (Below.refl w2.heap.size w2).alloc (Nat.le_refl _) (.cells #[.slice LA L.length Lc, .slice DA D.length Dc, .slice RA R.length Rc, .slice OA O.length Oc, .int .i64 h] 70)
      have Z3 := hid (Z2.out.alloc (.cells #[.slice LA L.length Lc, .slice DA D.length Dc, .slice RA R.length Rc, .slice OA O.length Oc, .int .i64 h] 70))
      have ZP := hid (Blk.new w2 70 #[.slice LA L.length Lc, .slice DA D.length Dc, .slice RA R.length Rc, .slice OA O.length Oc, .int .i64 h])
      have Hr3 := hid (rd_up Hr2.out hal)
      have Hb3 := hid (Hb2.out.trans (hal.mono Hb2.out.size))
      have PR3 := hid (PR.out.below hal)
      clear hal
      go_upto_region 9 with (fail)
      generalize w2.alloc (.cells #[.slice LA L.length Lc, .slice DA D.length Dc, .slice RA R.length Rc, .slice OA O.length Oc, .int .i64 h] 70) = w3 at *
      obtain ⟨gp, hgp⟩ : ∃ g, g = w2.heap.size := ⟨_, rfl⟩
      rw [← hgp] at ZP ⊢
      clear hgp PR Hr2 Hb2 Z2
      have y1 := Z3.out.cell 1
      have z0 := ZP.out.cell 0
      have z1 := ZP.out.cell 1
      have z2 := ZP.out.cell 2
      have z3 := ZP.out.cell 3
      have z4 := ZP.out.cell 4
      simp only [List.getElem?_toArray, List.getElem?_cons_zero, List.getElem?_cons_succ] at y1 z0 z1 z2 z3 z4
      have hy := Z3.out.lt
      have hz := ZP.out.lt
      have hD3 := (Below.refl w3.heap.size w3).drew
      have cB := hid (body10_any (.slice RA R.length Rc) (.slice OA O.length Oc) (.int .i64 h) LA DA A Lc Dc c L D l w3.drew (PR3.out.below hD3).ok.rl (PR3.out.below hD3).ok.rd (rd_up Hr3.out hD3) PG.out.bL PG.out.bD (by have := PG.out.n1; omega) hm PG.out.n0 (fun t ht => ⟨Hgt.out t ht, PG.out.has t ht⟩))
      have Hd3 := hid hD3
      clear hD3
      generalize bodyM L D l = bd at *
      have Zq4 := hid z4
      obtain ⟨hh1, hh2⟩ := hhb
      obtain ⟨hb1, hb2⟩ := hbb
      have w1h : IntKind.i64.wrap (3 + h) = 3 + h := IntWalk.i64_in _ (by omega)
      have w2h : IntKind.i64.wrap (3 + h + bd) = 3 + h + bd := IntWalk.i64_in _ (by omega)
      go_cut [2, 3] from 14 to 35 (fun u v wq => u = .int .i64 (3 + h + bd) ∧ v = .nilIface ∧ Hid (Below w3.heap.size w3 wq))
      case first =>
        go_region_with (go_at_call 28; (with_reducible refine cB.out.mono ?_); rintro e w4 ⟨rfl, hb4⟩; have hb5 : Below w3.heap.size w3 w4 := Hd3.out.trans hb4; have v4 := cell_up Zq4.out hb5 hz; have gw := hb5.size; have Hb4 := hid hb5; clear hb4 hb5)
        all_goals
          go_wp2
          go_meet
          exact ⟨by first | rfl | (show Value.int .i64 (IntKind.i64.wrap (3 + h + bd)) = _; rw [w2h]), rfl, Hb4⟩
      case rest =>
        obtain ⟨rfl, rfl, Hb5⟩ := hcut
        go_wp2
        go_ret2
        exact ⟨by rw [E.out]; rfl, Hb3.out.trans (Hb5.out.mono Hb3.out.size)⟩
end Go.Proofs.Ythhllollhjpheaa
