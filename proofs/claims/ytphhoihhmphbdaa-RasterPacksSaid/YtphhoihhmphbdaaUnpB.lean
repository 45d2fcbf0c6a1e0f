/-
  raster.Unpack walked.
  raster.Unpack of a form that is not good, and of data of the wrong length.
-/
import Derived.Test.YtphhoihhmphbdaaUnpS
import Derived.Test.YtphhoihhmphbdaaChkC
import Derived.Test.YtphhoihhmphbdaaSpdA
import Derived.Test.YtphhoihhmphbdaaSamA
import Derived.Test.YtphhoihhmphbdaaLaceI
import Derived.Test.YtphhoihhmphbdaaRgs
import Derived.BigRegion
import Derived.RegionCalls
import Derived.RegionTactic
namespace Go.Proofs.Ytphhoihhmphbdaa
open Go.RowKit Go.Shelf
attribute [local go_sem] Oper.semAt_some

def RasV (w h : Int) (A : Option Addr) (n c : Nat) : Value := .agg #[.int .i64 w, .int .i64 h, .slice A n c]
def UnpEndA (f : Fm) (b : List Int) (W : World) (e : Ending) (w' : World) : Prop :=
  Below W.heap.size W w' ∧ match unpR f b with
  | none => e = .returned (.tuple #[.agg #[.int .i64 0, .int .i64 0, .slice none 0 0], .iface 42 (.int .i64 2)])
  | some px => ∃ g, e = .returned (.tuple #[.agg #[.int .i64 f.w, .int .i64 f.h, .slice (some ⟨g, 0, none⟩) px.length px.length], .nilIface]) ∧ W.heap.size ≤ g ∧ Blk w' g 62 (px.flatMap encP).toArray
set_option maxRecDepth 100000 in
set_option maxHeartbeats 8000000 in
theorem unpack_go (f : Fm) (PA KA A : Option Addr) (pc kc c n : Nat) (b : List Int) (W : World) (hf : formOk f = true) (hp : RdP W W.heap.size PA f.pal) (hk : RdI W W.heap.size KA f.key) (hpm : f.pal.length ≤ 1000000) (hkm : f.key.length ≤ 1000000)
    (hn : n = b.length) (hd : (n : Int) = dataM f.w f.h f.d f.c f.l) (hm : n ≤ 100000) (hc : n ≤ c) (hA : A = none → c = 0) (hr : Rd W W.heap.size 1 A n (bytesV b)) (ok : ∀ x ∈ b, isB x) :
    Calls Try.prog 9 #[.agg #[.int .i64 f.w, .int .i64 f.h, .int .i64 f.d, .int .i64 f.c, .int .i64 f.l, .slice PA f.pal.length pc, .slice KA f.key.length kc], .slice A n c] W (UnpEndA f b W) := by
  have hh : headErr f.w f.h f.d f.c f.l = 0 := (formOk_parts hf).1
  have Hf := hid hf
  have Hh := hid hh
  have Hp := hid hp
  have Hk := hid hk
  have Hr := hid hr
  have Hok := hid ok
  have Hn := hid hn
  have Hd := hid hd
  have HA := hid hA
  clear hf hh hp hk hr ok hn hd hA
  refine (callsIn_wide (n := 9)).1 ?_
  refine callsIn_of_wp_marks Try.func9 rfl trivial ?_ rfl
  refine wpIn_wide.2 ?_
  simp only [Try.ntmps9, List.size_toArray, List.length_cons, List.length_nil, Nat.reduceAdd, Nat.reduceSub, Array.replicate_succ, Array.replicate_zero, List.push_toArray, List.append_toArray, List.nil_append, List.cons_append]
  have hb := headErr_bnd Hh.out
  obtain ⟨w1, w2, h1, h2, hwh, l1, l2⟩ := hb
  obtain ⟨N, hN⟩ : ∃ N, N = (f.w * f.h).toNat := ⟨_, rfl⟩
  have hwp : 0 ≤ f.w * f.h := Int.mul_nonneg (by omega) (by omega)
  have hmul : f.w * f.h = (N : Int) := by rw [hN, Int.toNat_of_nonneg hwp]
  have hNm : N ≤ 262144 := by omega
  have HN := hid hN
  have hnat : f.w.toNat * f.h.toNat ≤ 262144 := by
    have e : ((f.w.toNat * f.h.toNat : Nat) : Int) = f.w * f.h := by rw [Int.natCast_mul, Int.toNat_of_nonneg (by omega), Int.toNat_of_nonneg (by omega)]
    omega
  have FCk := hid (show ∀ w : World, RdP w w.heap.size PA f.pal → RdI w w.heap.size KA f.key → Calls Try.prog 28 #[.agg #[.int .i64 f.w, .int .i64 f.h, .int .i64 f.d, .int .i64 f.c, .int .i64 f.l, .slice PA f.pal.length pc, .slice KA f.key.length kc]] w (fun e w' => e = .returned .nilIface ∧ Below w.heap.size w w') from fun w h1 h2 => (fcheck_main f PA KA pc kc w Hh.out h1 h2 hpm hkm).mono fun e w' h => by obtain ⟨he, hb⟩ := h; rw [if_pos Hf.out] at he; exact ⟨he, hb⟩)
  have SP := hid (fun (w : World) => (spread_any f.l f.w.toNat f.h.toNat (by omega) (by omega) (by omega) (by omega) (by omega) hnat w))
  rw [Int.toNat_of_nonneg (by omega), Int.toNat_of_nonneg (by omega)] at SP
  have DA := hid (fun (w : World) => data_any f.w f.h f.d f.c f.l w)
  rw [← Hd.out] at DA
  clear hN hwp hnat hwh
  obtain ⟨v0, hv0, B2, B3, B4, B5, B6, B7, BB, BS⟩ := six W #[.int .i64 f.w, .int .i64 f.h, .int .i64 f.d, .int .i64 f.c, .int .i64 f.l, .slice PA f.pal.length pc, .slice KA f.key.length kc] #[.slice A n c] #[.int .i64 0, .int .i64 0, .slice none 0 0] #[.nilIface] #[.int .i64 0, .int .i64 0, .slice none 0 0] #[.int .i64 f.w, .int .i64 f.h, .int .i64 f.d, .int .i64 f.c, .int .i64 f.l]
    38 28 33 35 33 23
  go_upto_region 3 with (fail)
  rw [← hv0]
  clear hv0
  obtain ⟨g2, hg2⟩ : ∃ g, g = W.heap.size := ⟨_, rfl⟩
  have Hg2 := hid hg2
  rw [← hg2] at B2 B3 B4 B5 B6 B7 ⊢
  obtain ⟨g3, hg3⟩ : ∃ g, g = g2 + 1 := ⟨_, rfl⟩
  have Hg3 := hid hg3
  rw [← hg3] at B3 B4 B5 B6 B7 ⊢
  obtain ⟨g4, hg4⟩ : ∃ g, g = g3 + 1 := ⟨_, rfl⟩
  have Hg4 := hid hg4
  rw [← hg4] at B4 B5 B6 B7 ⊢
  obtain ⟨g5, hg5⟩ : ∃ g, g = g4 + 1 := ⟨_, rfl⟩
  have Hg5 := hid hg5
  rw [← hg5] at B5 B6 B7 ⊢
  obtain ⟨g6, hg6⟩ : ∃ g, g = g5 + 1 := ⟨_, rfl⟩
  have Hg6 := hid hg6
  rw [← hg6] at B6 B7 ⊢
  obtain ⟨g7, hg7⟩ : ∃ g, g = g6 + 1 := ⟨_, rfl⟩
  have Hg7 := hid hg7
  rw [← hg7] at B7 ⊢
  clear hg2 hg3 hg4 hg5 hg6 hg7
  have hs0 : W.heap.size ≤ v0.heap.size := BB.size
  have q0 := B2.cell 0
  have q1 := B2.cell 1
  have q2 := B2.cell 2
  have q3 := B2.cell 3
  have q4 := B2.cell 4
  have q5 := B2.cell 5
  have q6 := B2.cell 6
  simp only [List.getElem?_toArray, List.getElem?_cons_zero, List.getElem?_cons_succ] at q0 q1 q2 q3 q4 q5 q6
  have l2 := B2.lt
  have K2 := hid B2
  have K3 := hid B3
  have K4 := hid B4
  have K5 := hid B5
  have K6 := hid B6
  have K7 := hid B7
  have KB := hid BB
  have KS := hid BS
  clear B2 B3 B4 B5 B6 B7 BB BS
  go_wp2_with fail
  refine (FCk.out _ (RdP.below Hp.out KB.out (Nat.le_refl _) |>.more hs0) (Rd.below Hk.out KB.out (Nat.le_refl _) |>.more hs0)).mono ?_
  rintro e u1 ⟨rfl, hb1⟩
  have P2 := hid (K2.out.below hb1 K2.out.lt)
  have P3 := hid (K3.out.below hb1 K3.out.lt)
  have P4 := hid (K4.out.below hb1 K4.out.lt)
  have P5 := hid (K5.out.below hb1 K5.out.lt)
  have P6 := hid (K6.out.below hb1 K6.out.lt)
  have P7 := hid (K7.out.below hb1 K7.out.lt)
  have PB := hid (KB.out.trans (hb1.mono KB.out.size))
  have PS := hid (show W.heap.size + 6 ≤ u1.heap.size by rw [← KS.out]; exact hb1.size)
  clear hb1 K2 K3 K4 K5 K6 K7 KB KS q0 q1 q2 q3 q4 q5 q6 l2 hs0
  go_upto_region 5 with (fail)
  have l3 := P3.out.lt
  have l7 := P7.out.lt
  have DC := hid (DA.out u1.drew)
  refine free_lit (S := World) (fun i => i == 3)
    (fun x i => [.slice A n c, .int .i64 (n : Int), .agg #[.int .i64 f.w, .int .i64 f.h, .int .i64 f.d, .int .i64 f.c, .int .i64 f.l], .int .i64 (n : Int), .bool false, .bool false].getD i undef)
    (fun x => x) (fun k x => match k with | 0 => x = u1.drew | 1 => Below u1.drew.heap.size u1.drew x | _ => False)
    (fun i => if i ≤ 3 then 0 else 1) (fun i => 1) (fun _ => false) (fun _ => false) ?af ?ab 1 (u1.drew) (by kernel_rfl) (by kernel_rfl) (by kernel_rfl) (by kernel_rfl) (by kernel_rfl) (by kernel_rfl) (by kernel_rfl) rfl rfl ?haf ?hab ?hy ?hQ
  case haf =>
    intro x
    simp only [actOf, dstAt, List.length_cons, List.length_nil, Nat.reduceAdd, List.getElem?_cons_zero, List.getElem?_cons_succ, Option.bind_some, if_true, List.getD_cons_zero, List.getD_cons_succ, Act.put, List.setIfInBounds_toArray, List.set_cons_zero, List.set_cons_succ]
    rfl
  case hab =>
    intro x
    simp only [actOf, dstAt, List.length_cons, List.length_nil, Nat.reduceAdd, List.getElem?_cons_zero, List.getElem?_cons_succ, Option.bind_some, Bool.not_false, if_true, List.getD_cons_zero, List.getD_cons_succ, Act.put, List.setIfInBounds_toArray, List.set_cons_zero, List.set_cons_succ]
    rfl
  case hy =>
    intro k x hR
    have hb : Below u1.heap.size u1 x := by
      match k, hR with
      | 0, h => rw [show x = u1.drew from h]; exact (Below.refl _ _).drew
      | 1, h => exact (Below.refl _ _).drew.trans h
    have hC := (P3.out.below hb P3.out.lt).cell 0
    have hD0 := (P7.out.below hb P7.out.lt).cell 0
    have hD1 := (P7.out.below hb P7.out.lt).cell 1
    have hD2 := (P7.out.below hb P7.out.lt).cell 2
    have hD3 := (P7.out.below hb P7.out.lt).cell 3
    have hD4 := (P7.out.below hb P7.out.lt).cell 4
    simp only [List.getElem?_toArray, List.getElem?_cons_zero, List.getElem?_cons_succ] at hC hD0 hD1 hD2 hD3 hD4
    simp only [AllY]
    refine ⟨?_, ?_, ?_, ?_, ?_, ?_, trivial⟩
    case refine_4 =>
      intro hk
      obtain rfl : k = 0 := hk
      obtain rfl : x = u1.drew := hR
      refine .inr (.inr ⟨29, #[.agg #[.int .i64 f.w, .int .i64 f.h, .int .i64 f.d, .int .i64 f.c, .int .i64 f.l]], u1.drew, by simp [go_sem, Act.eval], ?_⟩)
      refine (DC.out).mono ?_
      rintro e w5 ⟨rfl, hb5⟩
      exact ⟨_, rfl, w5, hb5, rfl, rfl, fun i hi hd hn => rfl⟩
    all_goals exact fun _ _ => .inl (by simp [execOp, go_sem, Act.eval, hC, hD0, hD1, hD2, hD3, hD4])
  case hQ =>
    intro u2 hR
    have hb2 : Below u1.heap.size u1 u2 := (Below.refl _ _).drew.trans hR
    show Exit.then _ _ .normal _ u2
    have Q2 := hid (P2.out.below hb2 P2.out.lt)
    have Q3 := hid (P3.out.below hb2 P3.out.lt)
    have Q4 := hid (P4.out.below hb2 P4.out.lt)
    have Q5 := hid (P5.out.below hb2 P5.out.lt)
    have Q6 := hid (P6.out.below hb2 P6.out.lt)
    have Q7 := hid (P7.out.below hb2 P7.out.lt)
    have QB := hid (PB.out.trans (hb2.mono PB.out.size))
    have QS := hid (show W.heap.size + 6 ≤ u2.heap.size from Nat.le_trans PS.out hb2.size)
    clear hR hb2 P2 P3 P4 P5 P6 P7 PB PS DC DA l3 l7
    have q0 := Q7.cell 0
    have q1 := Q7.cell 1
    have q2 := Q7.cell 2
    have q3 := Q7.cell 3
    have q4 := Q7.cell 4
    simp only [List.getElem?_toArray, List.getElem?_cons_zero, List.getElem?_cons_succ] at q0 q1 q2 q3 q4
    have l7 := Q7.out.lt
    go_wp2_with fail
    refine (SP.out u2).mono ?_
    rintro e u3 ⟨A8, c8, n8, rfl, hn8, ho8, hb3⟩
    have Hn8 := hid hn8
    have R2 := hid (Q2.out.below hb3 Q2.out.lt)
    have R3 := hid (Q3.out.below hb3 Q3.out.lt)
    have R4 := hid (Q4.out.below hb3 Q4.out.lt)
    have R5 := hid (Q5.out.below hb3 Q5.out.lt)
    have R6 := hid (Q6.out.below hb3 Q6.out.lt)
    have R7 := hid (Q7.out.below hb3 Q7.out.lt)
    have RB := hid (QB.out.trans (hb3.mono QB.out.size))
    have RS := hid (show W.heap.size + 6 ≤ u3.heap.size from Nat.le_trans QS.out hb3.size)
    have RO := hid (own_base ho8 (show W.heap.size + 6 ≤ u2.heap.size from QS.out))
    clear Q2 Q3 Q4 Q5 Q6 Q7 QB QS q0 q1 q2 q3 q4 l7 hn8 ho8 hb3 SP FCk
    obtain ⟨u4, hu4⟩ : ∃ u, u = u3.alloc (.cells #[.slice A8 n8 c8] 25) := ⟨_, rfl⟩
    obtain ⟨g8, hg8⟩ : ∃ g, g = u3.heap.size := ⟨_, rfl⟩
    go_upto_region 10 with (fail)
    rw [← hu4, ← hg8]
    have hs4 : g8 < u4.heap.size := by rw [hu4, hg8]; simp
    have S8 := hid (show Blk u4 g8 25 #[.slice A8 n8 c8] by rw [hu4, hg8]; exact Blk.new u3 _ _)
    have hb4 : Below u3.heap.size u3 u4 := by rw [hu4]; exact (Below.refl _ _).alloc (Nat.le_refl _) _
    have hr8 : Rd u3 u3.heap.size 1 A8 n8 (intsV (spreadM f.l f.w.toNat f.h.toNat)) := own_rd RO.out
    have R8 := hid (show Rd u4 g8 1 A8 n8 (intsV (spreadM f.l f.w.toNat f.h.toNat)) by rw [hg8]; exact hr8.below hb4 (Nat.le_refl _))
    have F8 := hid (show n8 ≤ c8 ∧ (A8 = none → c8 = 0) ∧ ∀ a, A8 = some a → g7 < a.block from by
      have e6 : g7 < W.heap.size + 6 := by have := Hg2.out; have := Hg3.out; have := Hg4.out; have := Hg5.out; have := Hg6.out; have := Hg7.out; omega
      rcases RO.out.2 with ⟨h1, h2⟩ | ⟨g, cap, cur, h1, h2, _, h3, _⟩
      · injection h1 with h1 h4 h5
        subst h1 h4 h5
        exact ⟨Nat.le_refl _, fun _ => rfl, fun a h => by cases h⟩
      · injection h1 with h1 h4 h5
        subst h1 h5
        refine ⟨h3, ?_, ?_⟩
        · intro h; cases h
        · intro a h
          injection h with h
          subst h
          show g7 < g
          omega)
    have T2 := hid (R2.out.below hb4 R2.out.lt)
    have T3 := hid (R3.out.below hb4 R3.out.lt)
    have T4 := hid (R4.out.below hb4 R4.out.lt)
    have T5 := hid (R5.out.below hb4 R5.out.lt)
    have T6 := hid (R6.out.below hb4 R6.out.lt)
    have T7 := hid (R7.out.below hb4 R7.out.lt)
    have TB := hid (RB.out.trans (hb4.mono RB.out.size))
    have TS := hid (show W.heap.size + 6 ≤ g8 by rw [hg8]; exact RS.out)
    clear hr8 hb4 hu4 hg8 R2 R3 R4 R5 R6 R7 RB RS RO
    have q0 := T7.cell 0
    have q1 := T7.cell 1
    have q2 := T7.cell 2
    have q3 := T7.cell 3
    have q4 := T7.cell 4
    simp only [List.getElem?_toArray, List.getElem?_cons_zero, List.getElem?_cons_succ] at q0 q1 q2 q3 q4
    have l7 := T7.out.lt
    have hmk := room_px N (by omega)
    go_cut [10] from 55 to 65 (fun v wq => ∃ g10 gp, v = .pointer (some ⟨g10, 0, none⟩) ∧ g8 < gp ∧ g8 < g10 ∧ gp ≠ g10 ∧ Hid (Blk wq g10 33 #[.int .i64 f.w, .int .i64 f.h, .slice (some ⟨gp, 0, none⟩) N N]) ∧ Hid (Blk wq gp 62 ((pxZ N).flatMap encP).toArray) ∧ Hid (Below u4.heap.size u4 wq))
    · skip
      refine set_lit (S := (Nat × Nat) × World) [9, 11, 12]
        (fun x i => [.pointer (some ⟨g7, 0, none⟩), .int .i64 f.w, .pointer (some ⟨g7, 1, none⟩), .int .i64 f.h, .pointer (some ⟨g7, 0, none⟩), .int .i64 f.w, .pointer (some ⟨g7, 1, none⟩), .int .i64 f.h, .int .i64 (N : Int), .slice (some ⟨x.1.1, 0, none⟩) N N, .agg #[.int .i64 f.w, .int .i64 f.h, .slice (some ⟨x.1.1, 0, none⟩) N N], .pointer (some ⟨x.1.2, 0, none⟩), undef].getD i undef)
        (fun x => x.2) (fun l x => Below u4.heap.size u4 x.2 ∧ (l.getD 0 false = true → u4.heap.size ≤ x.1.1 ∧ Blk x.2 x.1.1 62 ((pxZ N).flatMap encP).toArray) ∧ (l.getD 1 false = true → l.getD 2 false = false → u4.heap.size ≤ x.1.2 ∧ Blk x.2 x.1.2 33 #[.int .i64 0, .int .i64 0, .slice none 0 0]) ∧ (l.getD 2 false = true → (l.getD 0 false = true ∧ l.getD 1 false = true) ∧ u4.heap.size ≤ x.1.2 ∧ Blk x.2 x.1.2 33 #[.int .i64 f.w, .int .i64 f.h, .slice (some ⟨x.1.1, 0, none⟩) N N]))
        (fun i => if i = 10 then [9] else if i = 12 then [9, 11] else []) ?af2 (((0, 0), u4.drew)) (by kernel_rfl) (by kernel_rfl) (by kernel_rfl) (by kernel_rfl) (by kernel_rfl) rfl ?hR02 ?haf2 ?hy2 ?hQ2
      case haf2 =>
        intro x
        simp only [actOf, dstAt, List.length_cons, List.length_nil, Nat.reduceAdd, List.getElem?_cons_zero, List.getElem?_cons_succ, Option.bind_some, if_true, List.getD_cons_zero, List.getD_cons_succ, Act.put, List.setIfInBounds_toArray, List.set_cons_zero, List.set_cons_succ]
        rfl
      case hR02 => exact ⟨(Below.refl _ _).drew, fun h => absurd h (by decide), fun h => absurd h (by decide), fun h => absurd h (by decide)⟩
      case hy2 =>
        intro s x hR
        obtain ⟨hb, r9, r11, r12⟩ := hR
        have r9 : s 9 = true → u4.heap.size ≤ x.1.1 ∧ Blk x.2 x.1.1 62 ((pxZ N).flatMap encP).toArray := r9
        have r11 : s 11 = true → s 12 = false → u4.heap.size ≤ x.1.2 ∧ Blk x.2 x.1.2 33 #[.int .i64 0, .int .i64 0, .slice none 0 0] := r11
        have r12 : s 12 = true → (s 9 = true ∧ s 11 = true) ∧ u4.heap.size ≤ x.1.2 ∧ Blk x.2 x.1.2 33 #[.int .i64 f.w, .int .i64 f.h, .slice (some ⟨x.1.1, 0, none⟩) N N] := r12
        have hD0 := (T7.out.below hb T7.out.lt).cell 0
        have hD1 := (T7.out.below hb T7.out.lt).cell 1
        simp only [List.getElem?_toArray, List.getElem?_cons_zero, List.getElem?_cons_succ] at hD0 hD1
        have hsz := hb.size
        simp only [AllY]
        refine ⟨?_, ?_, ?_, ?_, ?_, ?_, ?_, ?_, ?_, ?_, ?_, ?_, ?_, trivial⟩
        case refine_10 =>
          intro h9 hd
          refine .inl ⟨.slice (some ⟨x.2.heap.size, 0, none⟩) N N, x.2.alloc (.cells ((pxZ N).flatMap encP).toArray 62), by simp [execOp, go_sem, Act.eval, hmk], ((x.2.heap.size, x.1.2), x.2.alloc (.cells ((pxZ N).flatMap encP).toArray 62)), ⟨hb.alloc hb.size _, fun _ => ⟨hb.size, Blk.new _ _ _⟩, fun h1 h2 => ?_, fun h => ?_⟩, rfl, rfl, fun j hj hc hne => ?_⟩
          · have h1 : (s 11 || 11 == 9) = true := h1
            have h2 : (s 12 || 12 == 9) = false := h2
            simp at h1 h2
            exact ⟨(r11 h1 h2).1, (r11 h1 h2).2.alloc _⟩
          · have h : (s 12 || 12 == 9) = true := h
            simp at h
            exact absurd (r12 h).1.1 (by rw [h9]; decide)
          · have hj : j < 13 := hj
            rcases (show j = 0 ∨ j = 1 ∨ j = 2 ∨ j = 3 ∨ j = 4 ∨ j = 5 ∨ j = 6 ∨ j = 7 ∨ j = 8 ∨ j = 9 ∨ j = 10 ∨ j = 11 ∨ j = 12 by omega) with rfl | rfl | rfl | rfl | rfl | rfl | rfl | rfl | rfl | rfl | rfl | rfl | rfl <;> first | rfl | exact absurd rfl hne | exact absurd hc (by decide)
        case refine_12 =>
          intro h11 hd
          refine .inl ⟨.pointer (some ⟨x.2.heap.size, 0, none⟩), x.2.alloc (.cells #[.int .i64 0, .int .i64 0, .slice none 0 0] 33), by simp [execOp, go_sem], ((x.1.1, x.2.heap.size), x.2.alloc (.cells #[.int .i64 0, .int .i64 0, .slice none 0 0] 33)), ⟨hb.alloc hb.size _, fun h => ?_, fun _ _ => ⟨hb.size, Blk.new _ _ _⟩, fun h => ?_⟩, rfl, rfl, fun j hj hc hne => ?_⟩
          · have h : (s 9 || 9 == 11) = true := h
            simp at h
            exact ⟨(r9 h).1, (r9 h).2.alloc _⟩
          · have h : (s 12 || 12 == 11) = true := h
            simp at h
            exact absurd (r12 h).1.2 (by rw [h11]; decide)
          · have hj : j < 13 := hj
            rcases (show j = 0 ∨ j = 1 ∨ j = 2 ∨ j = 3 ∨ j = 4 ∨ j = 5 ∨ j = 6 ∨ j = 7 ∨ j = 8 ∨ j = 9 ∨ j = 10 ∨ j = 11 ∨ j = 12 by omega) with rfl | rfl | rfl | rfl | rfl | rfl | rfl | rfl | rfl | rfl | rfl | rfl | rfl <;> first | rfl | exact absurd rfl hne | exact absurd hc (by decide)
        case refine_13 =>
          intro h12 hd
          have h9 := hd 9 (by decide)
          have h11 := hd 11 (by decide)
          obtain ⟨s9, k9⟩ := r9 h9
          obtain ⟨s11, k11⟩ := r11 h11 h12
          have hne := blk_neS k9 k11 (by decide)
          have c0 := k11.cell 0
          have c1 := k11.cell 1
          have c2 := k11.cell 2
          simp only [List.getElem?_toArray, List.getElem?_cons_zero, List.getElem?_cons_succ] at c0 c1 c2
          have fz := fun o => k11.frozen o
          have ll := k11.lt
          refine .inr (.inl ⟨((x.2.setCell ⟨x.1.2, 0, none⟩ (.int .i64 f.w)).setCell ⟨x.1.2, 1, none⟩ (.int .i64 f.h)).setCell ⟨x.1.2, 2, none⟩ (.slice (some ⟨x.1.1, 0, none⟩) N N), by simp [execOp, go_sem, Act.eval, c0, c1, c2, fz], rfl, (x.1, ((x.2.setCell ⟨x.1.2, 0, none⟩ (.int .i64 f.w)).setCell ⟨x.1.2, 1, none⟩ (.int .i64 f.h)).setCell ⟨x.1.2, 2, none⟩ (.slice (some ⟨x.1.1, 0, none⟩) N N)), ⟨((hb.setCell s11 _).setCell s11 _).setCell s11 _, fun _ => ⟨s9, ((k9.far hne _).far hne _).far hne _⟩, fun h1 h2 => ?_, fun h => ⟨⟨by show (s 9 || 9 == 12) = true; rw [h9]; rfl, by show (s 11 || 11 == 12) = true; rw [h11]; rfl⟩, s11, ((k11.set_ 0 _).set_ 1 _).set_ 2 _⟩⟩, rfl, rfl, fun j hj hc hne => rfl⟩)
          have h2 : (s 12 || 12 == 12) = false := h2
          simp at h2
        case refine_9 => exact fun _ _ => .inl (by simp [execOp, go_sem, Act.eval, hmul]; exact IntWalk.i64_in _ (by omega))
        all_goals exact fun _ _ => .inl (by simp [execOp, go_sem, Act.eval, hD0, hD1])
      case hQ2 =>
        intro x hR
        obtain ⟨hb, r9, r11, r12⟩ := hR
        obtain ⟨s9, k9⟩ := r9 rfl
        obtain ⟨_, s12, k12⟩ := r12 rfl
        show Exit.then _ _ .normal _ x.2
        go_wp2_with fail
        go_meet
        exact ⟨x.1.2, x.1.1, rfl, by omega, by omega, blk_neS k9 k12 (by decide), hid k12, hid k9, hid hb⟩


    obtain ⟨g10, gp, rfl, o1, o2, o3, X10, XP, XB⟩ := hcut
    obtain ⟨pl, hpl⟩ : ∃ pl, pl = spreadM f.l f.w.toNat f.h.toNat := ⟨_, rfl⟩
    rw [← hpl] at R8 Hn8
    have Hpl := hid hpl
    obtain rfl : n8 = pl.length := Hn8.out
    clear hpl Hn8 hmk q0 q1 q2 q3 q4 l7
    have Y7 := hid (T7.out.below XB.out T7.out.lt)
    have q0 := Y7.cell 0
    have q1 := Y7.cell 1
    have q2 := Y7.cell 2
    have q3 := Y7.cell 3
    have q4 := Y7.cell 4
    simp only [List.getElem?_toArray, List.getElem?_cons_zero, List.getElem?_cons_succ] at q0 q1 q2 q3 q4
    have l7 := Y7.out.lt
    have hch : chan f.c = (manyI f : Nat) := (chan_in (headErr_deep Hh.out).2.2).2.2
    have CH := hid (show ∀ w : World, Calls Try.prog 31 #[.int .i64 f.c] w (fun e w' => e = .returned (.int .i64 (manyI f : Nat)) ∧ w' = w) from fun w => by rw [← hch]; exact channels_same f.c w)
    clear hch
    go_upto_region 11 with (fail)
    go_wp2_with fail
    refine (CH.out wc).mono ?_
    rintro e u5 ⟨rfl, rfl⟩
    obtain ⟨v11, hv11⟩ : ∃ u, u = u5.alloc (.cells #[.int .i64 (manyI f : Nat)] 3) := ⟨_, rfl⟩
    obtain ⟨g11, hg11⟩ : ∃ g, g = u5.heap.size := ⟨_, rfl⟩
    go_upto_region 12 with (fail)
    rw [← hv11, ← hg11]
    have hb11 : Below u5.heap.size u5 v11 := by rw [hv11]; exact (Below.refl _ _).alloc (Nat.le_refl _) _
    have hbx : Below u4.heap.size u4 v11 := XB.out.trans (hb11.mono XB.out.size)
    have hb8 : Below W.heap.size W v11 := TB.out.trans (hbx.mono TB.out.size)
    have hs11 : g11 < v11.heap.size := by rw [hv11, hg11]; simp
    have UB := hid (show UbS W g2 g3 g4 g5 g6 g7 g8 gp g10 g11 f b pl PA KA pc kc 0 0 (pxZ N) v11 from by
      have hpz : (pxZ N).length = N := by simp [pxZ]
      refine ⟨?_, T2.out.below hbx T2.out.lt, ⟨A, c, ?_, ?_, ?_, HA.out⟩, T4.out.below hbx T4.out.lt, T5.out.below hbx T5.out.lt, T6.out.below hbx T6.out.lt, T7.out.below hbx T7.out.lt, ⟨A8, c8, S8.out.below hbx S8.out.lt, ?_, F8.out.1, F8.out.2.1, F8.out.2.2⟩, ?_, XP.out.below hb11 XP.out.lt, ?_, hb8⟩
      · have := Hg2.out; have := Hg3.out; have := Hg4.out; have := Hg5.out; have := Hg6.out; have := Hg7.out; have := TS.out; have := XP.out.lt; have := X10.out.lt
        omega
      · have h := T3.out.below hbx T3.out.lt
        rw [Hn.out] at h
        exact h
      · rw [Nat.sub_zero, List.drop_zero, ← Hn.out, Hg2.out]
        exact Hr.out.below hb8 (Nat.le_refl _)
      · rw [Nat.sub_zero, ← Hn.out]; exact hc
      · rw [Nat.sub_zero, List.drop_zero]
        exact R8.out.below hbx (by omega)
      · rw [hpz]; exact X10.out.below hb11 X10.out.lt
      · rw [hv11, hg11]; exact Blk.new u5 _ _)
    clear hb11 hbx hb8 hv11 hg11 X10 XP XB Y7 T2 T3 T4 T5 T6 T7 TB TS S8 R8 F8 HA q0 q1 q2 q3 q4 l7 CH o1 o2 o3 hs4 Hr u5
    have q0 := UB.out.bh.cell 0
    have q1 := UB.out.bh.cell 1
    have q2 := UB.out.bh.cell 2
    have q3 := UB.out.bh.cell 3
    have q4 := UB.out.bh.cell 4
    simp only [List.getElem?_toArray, List.getElem?_cons_zero, List.getElem?_cons_succ] at q0 q1 q2 q3 q4
    have l7 := UB.out.bh.lt
    go_wp2_with fail
    refine (passesF_any f.w f.h f.l v11).mono ?_
    rintro e x0 ⟨rfl, hbx, hb3, hsz⟩
    have UX := hid (UB.out.below' hb3)
    obtain ⟨g12, hg12⟩ : ∃ g, g = v11.heap.size := ⟨_, rfl⟩
    rw [← hg12] at hbx hsz hs11 ⊢
    have Hbx := hid hbx
    clear hbx hb3 UB q0 q1 q2 q3 q4 l7 hg12 hmul
    go_wp2_with fail
    refine' wpIn_wide.1 (range_ix (n := 9) (F := Fence.wide) rfl (by omega) (gf := 79) (lb := #[.pointer (some ⟨g12, 0, none⟩), .pointer (some ⟨g12 + 1, 0, none⟩), .pointer (some ⟨g12 + 2, 0, none⟩)]) rfl trivial (enters_of Try.func79 (by kernel_rfl) rfl)
      (passes_ix 8 (by omega) g12 f.w f.h f.l w1 w2 h1 h2 l1 l2 x0 Hbx.out) kp3_t (kp3_b (by omega)) (Below.refl _ _) (fun _ => rfl)
      (fun k w => ∃ Q : List Px, allO f b k = Q.map some ∧ UbS W g2 g3 g4 g5 g6 g7 g8 gp g10 g11 f b pl PA KA pc kc (offI f k) Q.length (putAll pl Q (pxZ N)) w ∧ x0.heap.size ≤ w.heap.size)
      (fun w => UbF W g4 g5 f b w)
      ?hI ?hJx ?h0
      (BoxAx (fun k Bx w => x0.heap.size ≤ Bx ∧ Blk w Bx 72 #[.int .i64 (colsI f k : Nat), .int .i64 (rowsI f k : Nat)]) _) ?hAx ?assign ?body ?done ?stop)
    case hI =>
      rintro k w w' row ⟨Q, e1, e2, e3⟩ hg hr
      exact ⟨Q, e1, e2.other hg (fun r e => ⟨by have := (hr r e).1; omega, (hr r e).2⟩), Nat.le_trans e3 hg.size⟩
    case hJx =>
      intro _ w w' row h hg hr
      exact h.other hg (fun r e => ⟨by have := (hr r e).1; have := UX.out.ord; omega, (hr r e).2⟩)
    case h0 => exact ⟨[], rfl, by rw [putAll_nil]; exact UX.out, Nat.le_refl _⟩
    case hAx =>
      refine boxAx_own ?_
      rintro k Bx _ w w' row ⟨e1, e2⟩ hg hr
      exact ⟨e1, e2.oth hg (fun r e => (hr r e).2)⟩
    case assign =>
      rintro lp k w K hk ⟨Q, e1, e2, e3⟩ hK
      have hk2 : k < passN f := hk
      have he : encPi f.w f.h f.l k = #[.int .i64 ((passI f.w f.h f.l k).1 : Nat), .agg #[.int .i64 (colsI f k : Nat), .int .i64 (rowsI f k : Nat)]] := by
        have h := (pass_pos f Hh.out hk2).1
        show #[Value.int .i64 ((passI f.w f.h f.l k).1 : Nat), .agg #[.int .i64 (passI f.w f.h f.l k).2.1, .int .i64 (passI f.w f.h f.l k).2.2]] = _
        rw [h]
      rw [he]
      clear he
      have E2 := hid e2
      clear e2
      obtain ⟨Bx, hBx⟩ : ∃ B, B = w.heap.size := ⟨_, rfl⟩
      gi_wp2
      rw [← hBx]
      refine hK _ _ ((KeepsOthers.alloc _ _).from _) (kp3_below ((Below.refl _ w).alloc (Nat.le_refl _) _) (by omega)) ⟨Q, e1, E2.out.below' ((Below.refl _ w).alloc (Nat.le_refl _) _), by rw [World.size_alloc]; omega⟩ ⟨Bx, ⟨by omega, by rw [hBx]; exact Blk.new w _ _⟩, ?eqa⟩
      case eqa =>
        exact Eq.refl _
    case body =>
      rintro lp k a' w hl ⟨r0, hr0⟩ hk ⟨Q, hQ, hS, hz⟩ ⟨Bx, ⟨hBx, bX⟩, ha⟩
      dsimp only at ha
      subst ha
      have hk2 : k < passN f := hk
      obtain ⟨_, pc1, pc2, pr1, pr2⟩ := pass_pos f Hh.out hk2
      obtain ⟨rl1, rl2, rle, rlb, rlm⟩ := row_pos f Hh.out hk2
      have hoff : offI f k + segI f k ≤ b.length := by
        have h1 := offI_mono f (passN f) (show k + 1 ≤ passN f by omega)
        rw [offI] at h1
        have h2 := offI_all f Hh.out
        have h3 := Hd.out
        have h4 := Hn.out
        rw [h2] at h3
        omega
      have hsg : segI f k = rowsI f k * (1 + rowI f k) := rfl
      have hbl : b.length ≤ 100000 := by rw [← Hn.out]; exact hm
      obtain ⟨co, hco⟩ : ∃ c, c = colsI f k := ⟨_, rfl⟩
      obtain ⟨ro, hro⟩ : ∃ c, c = rowsI f k := ⟨_, rfl⟩
      obtain ⟨rl, hrl⟩ : ∃ c, c = rowI f k := ⟨_, rfl⟩
      obtain ⟨sg, hsg2⟩ : ∃ c, c = segI f k := ⟨_, rfl⟩
      obtain ⟨ok, hok⟩ : ∃ c, c = offI f k := ⟨_, rfl⟩
      rw [← hco, ← hro] at bX ⊢
      rw [← hco] at pc1 pc2 rle rlb rlm
      rw [← hro] at pr1 pr2
      rw [← hrl] at rl1 rl2 rle rlb
      rw [← hsg2, ← hok] at hoff
      rw [← hsg2, ← hro, ← hrl] at hsg
      rw [← hok] at hS
      have Hco := hid hco
      have Hro := hid hro
      have Hrl := hid hrl
      have Hsg2 := hid hsg2
      have Hok2 := hid hok
      have Hsg := hid hsg
      have Hrlb := hid rlb
      have e1 : (ro : Int) * (1 + (rl : Int)) = (sg : Int) := by rw [hsg]; simp
      have hro2 : ro ≤ sg := by rw [hsg]; exact Nat.le_mul_of_pos_right _ (by omega)
      have hrl2 : rl ≤ sg := by rw [hsg]; exact Nat.le_trans (by omega) (Nat.le_mul_of_pos_left _ pr1)
      have RS := hid (show ∀ w : World, Calls Try.prog 33 #[.agg #[.int .i64 f.w, .int .i64 f.h, .int .i64 f.d, .int .i64 f.c, .int .i64 f.l], .int .i64 (co : Nat)] w (fun e w' => e = .returned (.int .i64 (rl : Nat)) ∧ Below w.heap.size w w') from fun w => by rw [← rle]; exact rowSize_all f.w f.h f.d f.c f.l (co : Nat) w Hh.out)
      clear hco hro hrl hsg2 hok hsg rlb rle
      have HS := hid hS
      have HQ := hid hQ
      have BX := hid bX
      have Hr0 := hid hr0
      have q0 := hS.bh.cell 0
      have q1 := hS.bh.cell 1
      have q2 := hS.bh.cell 2
      have q3 := hS.bh.cell 3
      have q4 := hS.bh.cell 4
      simp only [List.getElem?_toArray, List.getElem?_cons_zero, List.getElem?_cons_succ] at q0 q1 q2 q3 q4
      have l7 := hS.bh.lt
      have x0' := (bX.cell 0).trans rfl
      have x1 := (bX.cell 1).trans rfl
      have lx := bX.lt
      clear hS hQ bX hr0
      gi_wp2_with (refine ⟨trivial, ?_⟩; gi_at_call 33; refine (CallsIn.inRound lp (callsIn_wide.2 (RS.out _))).mono ?_; rintro e w1 ⟨rfl, hb1⟩; have x1' := ((BX.out.below hb1 BX.out.lt).cell 1).trans rfl; have lx' := (BX.out.below hb1 BX.out.lt).lt; have Hb1 := hid hb1; clear hb1)
      have S1 := hid (HS.out.below' Hb1.out)
      have BX1 := hid (BX.out.below Hb1.out BX.out.lt)
      have hw1 := Hb1.out.size
      clear q0 q1 q2 q3 q4 l7 x0' x1 x1' lx lx' RS
      obtain ⟨A3, c3, k3, r3, m3, z3⟩ := S1.out.b3
      obtain ⟨n3, hn3⟩ : ∃ n, n = b.length - ok := ⟨_, rfl⟩
      rw [← hn3] at k3 r3 m3
      have Hn3 := hid hn3
      have hsn : sg ≤ n3 := by omega
      obtain ⟨A4, hs4, r4, z4⟩ := slcB_h (b.drop ok) sg hsn m3 z3 r3
      obtain ⟨A6, hs6, r6, z6⟩ := slcB_l (b.drop ok) (sg : Int) sg (n3 - sg) rfl (by rw [List.length_drop, hn3]) (by omega) m3 z3 r3
      rw [List.drop_drop] at r6
      obtain ⟨sb, hsb⟩ : ∃ l, l = (b.drop ok).take sg := ⟨_, rfl⟩
      rw [← hsb] at r4
      have sbl : sb.length = sg := by rw [hsb, List.length_take, List.length_drop]; omega
      have HSb := hid (show sb = segB f b k by unfold segB; rw [← Hok2.out, ← Hsg2.out]; exact hsb)
      have Hbo := hid (show ∀ x ∈ sb, isB x from fun x hx => by rw [hsb] at hx; exact Hok.out x (List.mem_of_mem_drop (List.mem_of_mem_take hx)))
      have hd : deepOk f.d := (headErr_deep Hh.out).1
      obtain ⟨wb, hwb⟩ : ∃ v, v = whM f.d f.c := ⟨_, rfl⟩
      have Hwb := hid hwb
      have wb1 : 1 ≤ wb ∧ wb ≤ 8 := by rw [hwb]; exact whM_bd f.d f.c hd
      have WH := hid (fun w => whole_any f PA KA pc kc hd w)
      have UN := hid (fun (w : World) (h : Rd w w.heap.size 1 A4 sg (bytesV sb)) => unroll_any rl ro wb A4 c3 sg sb w rl1 (by omega) pr1 (by omega) wb1.1 wb1.2 sbl.symm Hsg.out (by omega) (by omega) z4 h Hbo.out)
      unfold UnrEndB at UN
      rw [← hwb] at WH
      have HK3 := hid k3
      have HR4 := hid r4
      have HR6 := hid r6
      have HZ6 := hid z6
      clear hwb hsb hn3 k3 r3 r4 r6 z6 z3 z4 hd
      refine free_round (S := (Value × Value) × World) (fun i => (i == 7) || (i == 8))
        (fun x i => [.slice A3 n3 c3, .int .i64 (sg : Int), .slice A4 sg c3, .int .i64 (rl : Int), .pointer (some ⟨Bx, 1, none⟩), .int .i64 (ro : Int), .agg #[.int .i64 f.w, .int .i64 f.h, .int .i64 f.d, .int .i64 f.c, .int .i64 f.l, .slice PA f.pal.length pc, .slice KA f.key.length kc], .int .i64 wb, .tuple #[x.1.1, x.1.2], .tuple #[x.1.1, x.1.2], x.1.1, x.1.2, x.1.1, x.1.2].getD i undef)
        (fun x => x.2) (fun k x => match k with | 0 => x = ((undef, undef), w1.drew) | 1 => x.1 = (undef, undef) ∧ Below w1.heap.size w1 x.2 | 2 => Below w1.heap.size w1 x.2 ∧ ((kindsOk rl sb ro ∧ ∃ A c, x.1 = (.slice A (ro * rl) c, .nilIface) ∧ x.2.ownsRow w1.heap.size 5 1 (.slice A (ro * rl) c) (ro * rl) (bytesV (unrO rl wb sb ro))) ∨ (¬ kindsOk rl sb ro ∧ x.1 = (.slice none 0 0, .iface 42 (.int .i64 2)))) | _ => False)
        (fun i => if i ≤ 7 then 0 else if i = 8 then 1 else 2) (fun i => 2) (fun _ => false) (fun _ => false) ?af3 ?ab3 2 (((undef, undef), w1.drew)) (by kernel_rfl) (by kernel_rfl) (by kernel_rfl) (by kernel_rfl) (by kernel_rfl) (by kernel_rfl) (by kernel_rfl) rfl rfl ?haf3 ?hab3 ?hy3 ?hQ3
      case haf3 =>
        intro x
        simp only [actOf, dstAt, List.length_cons, List.length_nil, Nat.reduceAdd, List.getElem?_cons_zero, List.getElem?_cons_succ, Option.bind_some, if_true, List.getD_cons_zero, List.getD_cons_succ, Act.put, List.setIfInBounds_toArray, List.set_cons_zero, List.set_cons_succ]
        rfl
      case hab3 =>
        intro x
        simp only [actOf, dstAt, List.length_cons, List.length_nil, Nat.reduceAdd, List.getElem?_cons_zero, List.getElem?_cons_succ, Option.bind_some, Bool.not_false, if_true, List.getD_cons_zero, List.getD_cons_succ, Act.put, List.setIfInBounds_toArray, List.set_cons_zero, List.set_cons_succ]
        rfl
      case hy3 =>
        intro k2 x hR
        have hb : Below w1.heap.size w1 x.2 := by
          match k2, hR with
          | 0, h => rw [show x = ((undef, undef), w1.drew) from h]; exact (Below.refl _ _).drew
          | 1, h => exact h.2
          | 2, h => exact h.1
        have hC := (HK3.out.below hb HK3.out.lt).cell 0
        have hX1 := (BX1.out.below hb BX1.out.lt).cell 1
        have hF0 := (S1.out.bf.below hb S1.out.bf.lt).cell 0
        have hF1 := (S1.out.bf.below hb S1.out.bf.lt).cell 1
        have hF2 := (S1.out.bf.below hb S1.out.bf.lt).cell 2
        have hF3 := (S1.out.bf.below hb S1.out.bf.lt).cell 3
        have hF4 := (S1.out.bf.below hb S1.out.bf.lt).cell 4
        have hF5 := (S1.out.bf.below hb S1.out.bf.lt).cell 5
        have hF6 := (S1.out.bf.below hb S1.out.bf.lt).cell 6
        simp only [List.getElem?_toArray, List.getElem?_cons_zero, List.getElem?_cons_succ] at hC hX1 hF0 hF1 hF2 hF3 hF4 hF5 hF6
        simp only [AllY]
        refine ⟨?_, ?_, ?_, ?_, ?_, ?_, ?_, ?_, ?_, ?_, ?_, ?_, ?_, ?_, trivial⟩
        case refine_8 =>
          intro hk
          obtain rfl : k2 = 0 := hk
          obtain rfl : x = ((undef, undef), w1.drew) := hR
          refine .inr (.inr ⟨35, #[.agg #[.int .i64 f.w, .int .i64 f.h, .int .i64 f.d, .int .i64 f.c, .int .i64 f.l, .slice PA f.pal.length pc, .slice KA f.key.length kc]], w1.drew, by simp [go_sem, Act.eval], ?_⟩)
          refine (WH.out w1.drew).mono ?_
          rintro e w5 ⟨rfl, hb5⟩
          exact ⟨_, rfl, ((undef, undef), w5), ⟨rfl, (Below.refl _ _).drew.trans hb5⟩, rfl, rfl, fun i hi hd hn => rfl⟩
        case refine_9 =>
          intro hk
          obtain rfl : k2 = 1 := hk
          obtain ⟨⟨x1, x2⟩, x3⟩ := x
          obtain ⟨hx, _⟩ := hR
          obtain ⟨rfl, rfl⟩ := Prod.mk.inj hx
          have hsx : w1.heap.size ≤ x3.heap.size := hb.size
          refine .inr (.inr ⟨34, #[.slice A4 sg c3, .int .i64 (rl : Int), .int .i64 (ro : Int), .int .i64 wb], x3, by simp [go_sem, Act.eval], ?_⟩)
          refine (UN.out x3 ((HR4.out.below hb (by have := S1.out.ord; omega)).more (by have := S1.out.ord; omega))).mono ?_
          rintro e w5 ⟨hb5, (⟨hko, A5, c5, rfl, ho5⟩ | ⟨hko, rfl⟩)⟩
          · exact ⟨_, rfl, ((.slice A5 (ro * rl) c5, .nilIface), w5), ⟨hb.trans (hb5.mono hb.size), .inl ⟨hko, A5, c5, rfl, own_base ho5 hb.size⟩⟩, rfl, rfl, fun i hi hd hn => by
              have hd : (if i ≤ 7 then 0 else if i = 8 then 1 else 2) ≤ 1 := hd
              dsimp only
              refine agree_upto 8 ?_ i (by
                rcases Nat.lt_or_ge i 8 with h | h
                · exact h
                · rw [if_neg (by omega), if_neg (by omega)] at hd; omega)
              rfl⟩
          · exact ⟨_, rfl, ((.slice none 0 0, .iface 42 (.int .i64 2)), w5), ⟨hb.trans (hb5.mono hb.size), .inr ⟨hko, rfl⟩⟩, rfl, rfl, fun i hi hd hn => by
              have hd : (if i ≤ 7 then 0 else if i = 8 then 1 else 2) ≤ 1 := hd
              dsimp only
              refine agree_upto 8 ?_ i (by
                rcases Nat.lt_or_ge i 8 with h | h
                · exact h
                · rw [if_neg (by omega), if_neg (by omega)] at hd; omega)
              rfl⟩
        all_goals exact fun _ _ => .inl (by simp [execOp, go_sem, Act.eval, hC, hX1, hF0, hF1, hF2, hF3, hF4, hF5, hF6, hs4])
      case hQ3 =>
        rintro ⟨⟨v1, v2⟩, w5⟩ hR
        show Exit.then _ _ .normal _ w5
        obtain ⟨hb5, (⟨hko, A5, c5, hx, ho5⟩ | ⟨hko, hx⟩)⟩ := hR
        rotate_left
        · obtain ⟨rfl, rfl⟩ := Prod.mk.inj hx
          have S5 := hid (S1.out.below' hb5)
          have HNo := hid (unpR_none (f := f) (b := b) (j := k + 1) (by omega) (passO_bad (by rw [← Hrl.out, ← Hro.out, ← HSb.out]; exact hko)))
          have C5 := hid ((Chg.of_below (G := [g3, g4, g5, g8, gp]) Hb1.out).below hb5)
          clear hko hb5
          have q0 := S5.out.b6.cell 0
          have q1 := S5.out.b6.cell 1
          have q2 := S5.out.b6.cell 2
          simp only [List.getElem?_toArray, List.getElem?_cons_zero, List.getElem?_cons_succ] at q0 q1 q2
          have d0 := S5.out.b4.cell 0
          have d1 := S5.out.b4.cell 1
          have d2 := S5.out.b4.cell 2
          simp only [List.getElem?_toArray, List.getElem?_cons_zero, List.getElem?_cons_succ] at d0 d1 d2
          have e0 := (S5.out.b5.cell 0).trans rfl
          have fz4 := fun o => S5.out.b4.frozen o
          have fz5 := fun o => S5.out.b5.frozen o
          have l4 := S5.out.b4.lt
          have l5 := S5.out.b5.lt
          have l6 := S5.out.b6.lt
          have n45 : g4 ≠ g5 := by have := S5.out.ord; omega
          have n54 : g5 ≠ g4 := by have := S5.out.ord; omega
          clear e0
          have e0 := (S5.out.b5.cell 0).trans rfl
          gi_wp2
          exact ⟨(HS.out.keeps ((((C5.out.set (by simp) _ _).set (by simp) _ _).set (by simp) _ _).set (by simp) _ _)).from _, S5.out.fail HNo.out⟩
        · obtain ⟨rfl, rfl⟩ := Prod.mk.inj hx
          have HKo := hid hko
          have HO5 := hid ho5
          have Hb5 := hid hb5
          have hS5 := S1.out.below' hb5
          have S5 := hid hS5
          have k35 := HK3.out.below hb5 HK3.out.lt
          have K35 := hid k35
          have c3' := (k35.cell 0).trans rfl
          have fz3 := fun o => k35.frozen o
          have l3 := k35.lt
          obtain ⟨nr, hnr⟩ : ∃ n, n = ro * rl := ⟨_, rfl⟩
          have Hnr := hid hnr
          rw [← hnr] at HO5 ⊢
          have hS6 := hS5.data (A := A6) (c := c3 - sg) (n := n3 - sg) (o' := ok + sg) (by rw [Hn3.out]; omega) (HR6.out.below hb5 (by have := S1.out.ord; omega)) (by omega) HZ6.out
          have S6 := hid hS6
          have C6 := hid (((Chg.of_below (G := [g3, g4, g5, g8, gp]) Hb1.out).below hb5).set (g := g3) (by simp) 0 (.slice A6 (n3 - sg) (c3 - sg)))
          clear hko ho5 hb5 hnr hS5 hS6 k35 UN WH HR4 HR6 HZ6
          gi_wp2_with (refine ⟨trivial, ?_⟩; gi_at_call 36; refine (CallsIn.inRound lp (callsIn_wide.2 (chunkFCB_any A5 nr c5 rl rl1 _))).mono ?_; rintro e w7 ⟨rfl, hbx7, hb7, hsz7⟩)
          have S7 := hid (S6.out.below' hb7)
          have C7 := hid (C6.out.below hb7)
          have hg3 : ∀ g ∈ [g3, g4, g5, g8, gp], g < w1.heap.size := fun g hg => Nat.lt_trans (S1.out.gs g hg) (by have := S1.out.ord; omega)
          have O7 := hid ((((Chg.refl [g3, g4, g5, g8, gp] w5).set (g := g3) (by simp) 0 (.slice A6 (n3 - sg) (c3 - sg))).below hb7).own HO5.out hg3)
          have BX7 := hid (C7.out.blk BX.out (fun hm => by have := UX.out.gs Bx hm; have := UX.out.ord; omega))
          have hl7 : w7.heap[lp]? = some (.loop r0) := (C7.out.same lp (Array.getElem?_eq_some_iff.1 Hr0.out).1 (fun hm => by have := UX.out.gs lp hm; have := UX.out.ord; omega)).trans Hr0.out
          simp only [World.size_setCell] at hbx7 hsz7 ⊢
          obtain ⟨g20, hg20⟩ : ∃ g, g = w5.heap.size := ⟨_, rfl⟩
          rw [← hg20] at hbx7 hsz7 ⊢
          have HBX7 := hid hbx7
          have hg11 : g11 < g20 := by rw [hg20]; have := S5.out.ord; omega
          have hw7 : x0.heap.size ≤ w7.heap.size := Nat.le_trans hz C7.out.size
          have hww7 := C7.out.size
          clear hb7 hbx7 c3' fz3 l3 hg20 hx S6 C6 S5 K35 HO5 hs4 hs6 m3
          have hNr : (nr + rl - 1) / rl = ro := by rw [Hnr.out]; exact chunks_n ro rl rl1
          have hnm : nr ≤ 10000000 := by rw [Hnr.out]; have := Hsg.out; have h2 : ro * rl ≤ ro * (1 + rl) := Nat.mul_le_mul_left _ (by omega); omega
          refine range_ixN (l₀ := lp) (r₀ := r0) rfl hl7 (by omega) (gf := 83) (lb := #[.pointer (some ⟨g20, 0, none⟩), .pointer (some ⟨g20 + 1, 0, none⟩)]) rfl trivial (enters_of Try.func83 (by kernel_rfl) rfl)
            (chunkCB_ix 6 g20 (by omega) A5 nr c5 rl rl1 (by omega) hnm ?hcap w7 HBX7.out) kp2_t (kp2_b (by omega)) (Below.refl _ _) (fun _ => rfl)
            (fun y w => ∃ Q2 : List Px, allO f b k ++ rowsO f b k y = Q2.map some ∧ UbS W g2 g3 g4 g5 g6 g7 g8 gp g10 g11 f b pl PA KA pc kc (ok + sg) Q2.length (putAll pl Q2 (pxZ N)) w ∧ Chg [g3, g4, g5, g8, gp] w7 w)
            (fun w => UbF W g4 g5 f b w ∧ Chg [g3, g4, g5, g8, gp] w7 w)
            ?hI2 ?hJx2 ?h02 (PlAx ?a2) (fun k a' => plAx_own k a') ?assign2 ?body2 ?done2 ?stop2
          case hcap =>
            rcases O7.out.2 with ⟨h1, h2⟩ | ⟨g, cap, cur, h1, _, _, h3, _⟩
            · rw [h2]; exact Nat.zero_le _
            · injection h1 with h1 h4 h5
              rw [h5]; exact h3
          case hI2 =>
            rintro y w' w2 row ⟨Q2, e1, e2, e3⟩ hg hr
            exact ⟨Q2, e1, e2.other hg (fun r e => ⟨by have := (hr r e).1; omega, (hr r e).2⟩), e3.other hg (fun r e => (hr r e).1)⟩
          case hJx2 =>
            rintro _ w' w2 row ⟨e1, e2⟩ hg hr
            exact ⟨e1.other hg (fun r e => ⟨by have := (hr r e).1; have := UX.out.ord; omega, (hr r e).2⟩), e2.other hg (fun r e => (hr r e).1)⟩
          case h02 => exact ⟨Q, by rw [HQ.out]; simp [rowsO], S7.out, Chg.refl _ _⟩
          case assign2 =>
            rintro lq y w' K hy hi hK
            have hy2 : y < ro := by rw [← hNr]; exact hy
            have hin : y * rl + rl ≤ nr := chunk_in Hnr.out hy2
            have he : encCB A5 nr rl y = #[.slice (A5.map (·.add (y * rl))) rl rl] := by
              show #[Value.slice (A5.map (·.add (y * rl * 1))) (min rl (nr - y * rl)) (min rl (nr - y * rl))] = _
              rw [Nat.mul_one, Nat.min_eq_left (by omega)]
            rw [he]
            have HI := hid hi
            clear he hi
            gi_wp2
            refine hK _ _ (KeepsFrom.refl _ _) (fun _ _ _ => rfl) HI.out ?eqa2
            case eqa2 => exact Eq.refl _
          case body2 =>
            rintro lq y a' w' hlq ⟨rq, hrq⟩ hy ⟨Q2, e1, e2, e3⟩ ha
            have ha : a' = _ := ha
            dsimp only at ha
            subst ha
            have hy2 : y < ro := by rw [← hNr]; exact hy
            have hin : y * rl + rl ≤ nr := chunk_in Hnr.out hy2
            have Hrq := hid hrq
            have T1 := hid e1
            have T2 := hid e2
            have T3 := hid e3
            clear hrq e1 e2 e3
            have RB := hid (rd_part (own_rd ((T3.out).own O7.out hg3)) (y * rl) rl hin)
            have bX := T3.out.blk BX7.out (fun hm => by have := UX.out.gs Bx hm; have := UX.out.ord; omega)
            have x0' := (bX.cell 0).trans rfl
            have lx := bX.lt
            have d2' := (T2.out.bh.cell 2).trans rfl
            have l7 := T2.out.bh.lt
            have m11 := (T2.out.b11.cell 0).trans rfl
            have l11 := T2.out.b11.lt
            obtain ⟨Ay, hAy⟩ : ∃ a, a = A5.map (·.add (y * rl)) := ⟨_, rfl⟩
            rw [← hAy] at RB ⊢
            rw [bytesV_sub] at RB
            have hrl7 : (unrO rl wb sb ro).length = nr := by have := O7.out.1; simpa [bytesV] using this
            obtain ⟨row, hrow⟩ : ∃ l, l = ((unrO rl wb sb ro).drop (y * rl)).take rl := ⟨_, rfl⟩
            rw [← hrow] at RB
            have hrwl : row.length = rl := by rw [hrow, List.length_take, List.length_drop, hrl7]; omega
            have HRow := hid (show row = lineB f b k y by unfold lineB rowsB; rw [← Hrl.out, ← HSb.out, ← Hro.out, ← Hwb.out]; exact hrow)
            have HRb := hid (show ∀ x ∈ row, isB x from fun x hx => by rw [hrow] at hx; exact unrO_isB rl wb sb ro x (List.mem_of_mem_drop (List.mem_of_mem_take hx)))
            have hdp : deepOk f.d := (headErr_deep Hh.out).1
            have hd1 := deep_bd hdp
            obtain ⟨cm, hcm⟩ : ∃ n, n = co * manyI f := ⟨_, rfl⟩
            have hQm : (co : Int) * ((manyI f : Nat) : Int) = (cm : Int) := by rw [hcm]; simp
            have hmn : 1 ≤ manyI f ∧ manyI f ≤ 4 := ⟨(chan_in (headErr_deep Hh.out).2.2).1, (chan_in (headErr_deep Hh.out).2.2).2.1⟩
            have hcm2 : cm ≤ 262140 := by rw [hcm]; exact rlm
            have SU := hid (show ∀ w : World, Rd w w.heap.size 1 Ay rl (bytesV row) → Calls Try.prog 37 #[.slice Ay rl rl, .int .i64 f.d, .int .i64 (cm : Int)] w (UnpEnd row f.d.toNat cm w) from fun w h => by
              have hh := sunpack_any Ay rl rl f.d.toNat cm row w (by rw [Int.toNat_of_nonneg (by omega)]; exact hdp) hrwl.symm (by rw [hcm]; exact Hrlb.out) (by omega) (fun e => rd_nil h (by omega) e) (by rw [hrwl]; exact h) HRb.out (by omega)
              rw [Int.toNat_of_nonneg (by omega)] at hh
              exact hh)
            have SUc := hid (SU.out w' RB.out)
            unfold UnpEnd at SUc
            have Hcm := hid hcm
            clear SU hAy hrow hcm hrl7 RB
            gi_wp2_with (first
              | (refine ⟨trivial, ?_⟩; gi_at_call 37; refine (CallsIn.inRound lq (CallsIn.inRound lp (callsIn_wide.2 SUc.out))).mono ?_; rintro e w8 ⟨gn, rfl, hgn, hbn, hb8⟩; have m11' := ((T2.out.b11.below hb8 T2.out.b11.lt).cell 0).trans rfl; have l11' := (T2.out.b11.below hb8 T2.out.b11.lt).lt; have Hbn := hid hbn; have Hb8 := hid hb8; clear hbn hb8 m11 l11)
              | (refine ⟨trivial, ?_⟩; gi_at_call 38; refine (CallsIn.inRound lq (CallsIn.inRound lp (callsIn_wide.2 (chunkFCI_any (some ⟨gn, 0, none⟩) cm cm (manyI f) hmn.1 _)))).mono ?_; rintro e w9 ⟨rfl, hbx9, hb9, hsz9⟩))
            have S9 := hid ((T2.out.below' Hb8.out).below' hb9)
            have C8 := hid ((Chg.of_below (G := [g3, g4, g5, g8, gp]) Hb8.out).below hb9)
            have hlq9 : w9.heap[lq]? = some (.loop rq) := (C8.out.same lq (Array.getElem?_eq_some_iff.1 Hrq.out).1 (fun hm => by have := UX.out.gs lq hm; have := UX.out.ord; omega)).trans Hrq.out
            have HB9 := hid hbx9
            obtain ⟨nm, hnm2⟩ : ∃ l, l = unpM row f.d.toNat cm := ⟨_, rfl⟩
            have hnml : nm.length = cm := by rw [hnm2, unpM_len]
            have hbn9 := Hbn.out.below hb9 Hbn.out.lt
            rw [unpC_all, ← hnm2] at hbn9
            have BN9 := hid hbn9
            have HNm := hid (show nm = numsB f b k y by unfold numsB; rw [← HRow.out, ← Hco.out, ← Hcm.out]; exact hnm2)
            obtain ⟨g25, hg25⟩ : ∃ g, g = w8.heap.size := ⟨_, rfl⟩
            rw [← hg25] at HB9 hsz9 ⊢
            have hg25b : g11 < g25 := by rw [hg25]; have := (T2.out.below' Hb8.out).ord; omega
            have hgnb : g11 < gn := by have := T2.out.ord; omega
            obtain ⟨my, hmy⟩ : ∃ m, m = manyI f := ⟨_, rfl⟩
            rw [← hmy] at hmn HB9 ⊢
            have Hmy := hid hmy
            have hNx : (cm + my - 1) / my = co := by rw [Hcm.out, ← Hmy.out]; exact chunks_n co my hmn.1
            have hw9 : w7.heap.size ≤ w9.heap.size := Nat.le_trans T3.out.size C8.out.size
            clear hb9 hbx9 hnm2 hbn9 hg25 Hbn m11' l11' x0' lx d2' l7 bX hQm SUc hmy
            refine range_ixN (l₀ := lq) (r₀ := rq) rfl hlq9 (by omega) (gf := 87) (lb := #[.pointer (some ⟨g25, 0, none⟩), .pointer (some ⟨g25 + 1, 0, none⟩)]) rfl trivial (enters_of Try.func87 (by kernel_rfl) rfl)
              (chunkCI_ix 4 g25 (by omega) (some ⟨gn, 0, none⟩) cm cm my hmn.1 (by omega) (by omega) (Nat.le_refl _) w9 HB9.out) kp2_t (kp2_b (by omega)) (Below.refl _ _) (fun _ => rfl)
              (fun x w => ∃ Q3 : List Px, allO f b k ++ rowsO f b k y ++ lineO f b k y x = Q3.map some ∧ UbS W g2 g3 g4 g5 g6 g7 g8 gp g10 g11 f b pl PA KA pc kc (ok + sg) Q3.length (putAll pl Q3 (pxZ N)) w ∧ Chg [g3, g4, g5, g8, gp] w9 w)
              (fun w => UbF W g4 g5 f b w ∧ Chg [g3, g4, g5, g8, gp] w9 w)
              ?hI3 ?hJx3 ?h03 (PlAx ?a3) (fun k a' => plAx_own k a') ?assign3 ?body3 ?done3 ?stop3
            case hI3 =>
              rintro x v' w2 row ⟨Q3, e1, e2, e3⟩ hg hr
              exact ⟨Q3, e1, e2.other hg (fun r e => ⟨by have := (hr r e).1; omega, (hr r e).2⟩), e3.other hg (fun r e => (hr r e).1)⟩
            case hJx3 =>
              rintro _ v' w2 row ⟨e1, e2⟩ hg hr
              exact ⟨e1.other hg (fun r e => ⟨by have := (hr r e).1; have := UX.out.ord; omega, (hr r e).2⟩), e2.other hg (fun r e => (hr r e).1)⟩
            case h03 => exact ⟨Q2, by rw [T1.out]; simp [lineO], S9.out, Chg.refl _ _⟩
            case assign3 =>
              rintro lr x v' K hx hi hK
              have hx2 : x < co := by rw [← hNx]; exact hx
              have hin : x * my + my ≤ cm := chunk_in (by rw [Hcm.out, ← Hmy.out]) hx2
              have he : encCI (some ⟨gn, 0, none⟩) cm my x = #[.slice (some ⟨gn, x * my, none⟩) my my] := by
                show #[Value.slice ((some (⟨gn, 0, none⟩ : Addr)).map (·.add (x * my * 1))) (min my (cm - x * my)) (min my (cm - x * my))] = _
                rw [Nat.mul_one, Nat.min_eq_left (by omega)]
                simp [Addr.add]
                exact fun h => h.symm
              rw [he]
              have HI := hid hi
              clear he hi
              gi_wp2
              refine hK _ _ (KeepsFrom.refl _ _) (fun _ _ _ => rfl) HI.out ?eqa3
              case eqa3 => exact Eq.refl _
            case body3 =>
              rintro lr x a' v' hlr ⟨rr, hrr⟩ hx ⟨Q3, e1, e2, e3⟩ ha
              have ha : a' = _ := ha
              dsimp only at ha
              subst ha
              have hx2 : x < co := by rw [← hNx]; exact hx
              have hin : x * my + my ≤ cm := chunk_in (by rw [Hcm.out, ← Hmy.out]) hx2
              have V1 := hid e1
              have V2 := hid e2
              have V3 := hid e3
              clear e1 e2 e3 hrr
              obtain ⟨An, hAn⟩ : ∃ a, a = (some (⟨gn, x * my, none⟩ : Addr)) := ⟨_, rfl⟩
              rw [← hAn]
              obtain ⟨nu, hnu⟩ : ∃ l, l = (nm.drop (x * my)).take my := ⟨_, rfl⟩
              have hnul : nu.length = my := by rw [hnu, List.length_take, List.length_drop, hnml]; omega
              have hnr : RdI v' v'.heap.size An nu := by
                have h := rd_part (rd_blk1 (V3.out.blk BN9.out (fun hm => by have := UX.out.gs gn hm; omega)) (by rw [← hnml]; simp [intsV])) (x * my) my hin
                rw [intsV_sub, show ((some (⟨gn, 0, none⟩ : Addr)).map (·.add (x * my))) = An from by rw [hAn]; simp [Addr.add]; exact fun h => h.symm, ← hnu] at h
                unfold RdI
                rw [intsV_eq, hnul]
                exact h
              have hvs := V2.out.below.size
              have PX := hid (pixel_any f PA KA An pc kc my nu v' Hf.out (RdP.below Hp.out V2.out.below (Nat.le_refl _) |>.more hvs) (Rd.below Hk.out V2.out.below (Nat.le_refl _) |>.more hvs) hkm hnr)
              rw [hnul] at PX
              have HPx := hid (show pixOf f nu = pixB f b k y x by unfold pixB; rw [← HNm.out, ← Hmy.out, ← hnu])
              have q0 := V2.out.bf.cell 0
              have q1 := V2.out.bf.cell 1
              have q2 := V2.out.bf.cell 2
              have q3 := V2.out.bf.cell 3
              have q4 := V2.out.bf.cell 4
              have q5 := V2.out.bf.cell 5
              have q6 := V2.out.bf.cell 6
              simp only [List.getElem?_toArray, List.getElem?_cons_zero, List.getElem?_cons_succ] at q0 q1 q2 q3 q4 q5 q6
              have l2' := V2.out.bf.lt
              clear hnr hAn hnu hnml hvs
              cases hpx : pixB f b k y x with
              | none =>
                have HNo := hid (unpR_none (f := f) (b := b) (j := k + 1) (by omega) (pass_none (by rw [← Hro.out]; exact hy2) (by rw [← Hco.out]; exact hx2) (by rw [← Hrl.out, ← Hro.out, ← HSb.out]; exact HKo.out) hpx))
                rw [HPx.out, hpx] at PX
                clear hpx HPx
                have PX := hid (show Calls Try.prog 39 #[.agg #[.int .i64 f.w, .int .i64 f.h, .int .i64 f.d, .int .i64 f.c, .int .i64 f.l, .slice PA f.pal.length pc, .slice KA f.key.length kc], .slice An my my] v' (fun e w' => e = .returned (.tuple #[.agg #[.int .i64 0, .int .i64 0, .int .i64 0, .int .i64 0], .bool false]) ∧ Below v'.heap.size v' w') from PX.out)
                have n45 : g4 ≠ g5 := by have := V2.out.ord; omega
                have n54 : g5 ≠ g4 := by have := V2.out.ord; omega
                gi_wp2_with (refine ⟨trivial, ?_⟩; gi_at_call 39; refine (CallsIn.inRound lr (CallsIn.inRound lq (CallsIn.inRound lp (callsIn_wide.2 PX.out)))).mono ?_; rintro e v8 ⟨rfl, hb8⟩; have S8 := hid ((V2.out.below' hb8).below' ((Below.refl _ v8).alloc (Nat.le_refl _) (.cells #[.int .i64 0, .int .i64 0, .int .i64 0, .int .i64 0] 62))); have D8 := hid ((V3.out.below hb8).below ((Below.refl _ v8).alloc (Nat.le_refl _) (.cells #[.int .i64 0, .int .i64 0, .int .i64 0, .int .i64 0] 62))); have D9 := hid (((Chg.of_below (G := [g3, g4, g5, g8, gp]) hb8)).below ((Below.refl _ v8).alloc (Nat.le_refl _) (.cells #[.int .i64 0, .int .i64 0, .int .i64 0, .int .i64 0] 62))); have S8' := hid (V2.out.below' hb8); clear hb8 q0 q1 q2 q3 q4 q5 q6 l2'; have r0' := (S8.out.b6.cell 0).trans rfl; have r1' := (S8.out.b6.cell 1).trans rfl; have r2' := (S8.out.b6.cell 2).trans rfl; have d0' := (S8.out.b4.cell 0).trans rfl; have d1' := (S8.out.b4.cell 1).trans rfl; have d2' := (S8.out.b4.cell 2).trans rfl; have e0' := (S8.out.b5.cell 0).trans rfl; have fz4 := fun o => S8.out.b4.frozen o; have fz5 := fun o => S8.out.b5.frozen o; have l4 := S8.out.b4.lt; have l5 := S8.out.b5.lt; have l6 := S8.out.b6.lt)
                exact ⟨(V2.out.keeps ((((D9.out.set (by simp) _ _).set (by simp) _ _).set (by simp) _ _).set (by simp) _ _)).from _, S8.out.fail HNo.out, (((D8.out.set (by simp) _ _).set (by simp) _ _).set (by simp) _ _).set (by simp) _ _⟩
              | some pq =>
                rw [HPx.out, hpx] at PX
                have HPq := hid hpx
                clear hpx HPx
                obtain ⟨pr, pg, pb, pa⟩ := pq
                have PX := hid (show Calls Try.prog 39 #[.agg #[.int .i64 f.w, .int .i64 f.h, .int .i64 f.d, .int .i64 f.c, .int .i64 f.l, .slice PA f.pal.length pc, .slice KA f.key.length kc], .slice An my my] v' (fun e w' => e = .returned (.tuple #[.agg #[.int .i64 pr, .int .i64 pg, .int .i64 pb, .int .i64 pa], .bool true]) ∧ Below v'.heap.size v' w') from PX.out)
                have hQl := allO_len f b k Q HQ.out
                have hlen : Q3.length = pixI f k + y * co + x := by
                  have h := congrArg List.length V1.out
                  rw [List.length_append, List.length_append, List.length_map, rowsO_len, lineO_len, HQ.out, List.length_map, hQl, ← Hco.out] at h
                  omega
                have hpl : Q3.length < pl.length := by
                  have h1 := pixI_mono f (passN f) (show k + 1 ≤ passN f by omega)
                  rw [pixI_all f Hh.out, ← Hpl.out, pixI, ← Hro.out, ← Hco.out] at h1
                  have h2 : y * co + co ≤ ro * co := chunk_in rfl hy2
                  omega
                obtain ⟨vn, hvn, hvN⟩ : ∃ vn : Nat, pl[Q3.length] = (vn : Int) ∧ vn < N := by
                  have hm2 : pl[Q3.length] ∈ spreadM f.l f.w.toNat f.h.toNat := by rw [← Hpl.out]; exact List.getElem_mem hpl
                  obtain ⟨h1, h2⟩ := spread_in hm2
                  refine ⟨(pl[Q3.length]).toNat, by omega, ?_⟩
                  have h3 : ((f.w.toNat * f.h.toNat : Nat) : Int) = f.w * f.h := by rw [Int.natCast_mul, Int.toNat_of_nonneg (by omega), Int.toNat_of_nonneg (by omega)]
                  rw [HN.out]
                  omega
                have hpn : (putAll pl Q3 (pxZ N)).length = N := by rw [put_len]; simp [pxZ]
                gi_wp2_with (refine ⟨trivial, ?_⟩; gi_at_call 39; refine (CallsIn.inRound lr (CallsIn.inRound lq (CallsIn.inRound lp (callsIn_wide.2 PX.out)))).mono ?_; rintro e v8 ⟨rfl, hb8⟩; have Hb8' := hid hb8; clear hb8 q0 q1 q2 q3 q4 q5 q6 l2')
                obtain ⟨g22, hg22⟩ : ∃ g, g = v8.heap.size := ⟨_, rfl⟩
                obtain ⟨v9, hv9⟩ : ∃ v, v = v8.alloc (.cells #[.int .i64 pr, .int .i64 pg, .int .i64 pb, .int .i64 pa] 62) := ⟨_, rfl⟩
                rw [← hv9, ← hg22]
                have hb9 : Below v8.heap.size v8 v9 := by rw [hv9]; exact (Below.refl _ _).alloc (Nat.le_refl _) _
                have bq : Blk v9 g22 62 #[.int .i64 pr, .int .i64 pg, .int .i64 pb, .int .i64 pa] := by rw [hv9, hg22]; exact Blk.new v8 _ _
                have S10 := hid ((V2.out.below' Hb8'.out).below' hb9)
                have D10 := hid ((V3.out.below Hb8'.out).below hb9)
                have E10 := hid ((Chg.of_below (G := [g3, g4, g5, g8, gp]) Hb8'.out).below hb9)
                have p0 := bq.cell 0
                have p1 := bq.cell 1
                have p2 := bq.cell 2
                have p3 := bq.cell 3
                simp only [List.getElem?_toArray, List.getElem?_cons_zero, List.getElem?_cons_succ] at p0 p1 p2 p3
                have lq' := bq.lt
                clear hb9 hv9 hg22 PX
                obtain ⟨A9, c9, k9, r9, m9, z9, f9⟩ := S10.out.b8
                obtain ⟨pb8, po8, hA9, hpb, hcl⟩ := r9.at_ (k := 0) (by omega) (by omega)
                have hcl0 := hcl 0 (.int .i64 (vn : Int)) (by unfold intsV; rw [List.getElem?_map, List.getElem?_drop, Nat.add_zero, List.getElem?_eq_getElem hpl, hvn]; rfl)
                rw [Nat.add_zero] at hcl0
                obtain ⟨A11, hs11', r11, z11, f11⟩ := slcI_one (pl.drop Q3.length) (by rw [List.length_drop]) (by omega) m9 z9 r9
                rw [List.drop_drop] at r11
                have k9c := (k9.cell 0).trans rfl
                have l9 := k9.lt
                have t2 := (S10.out.b10.cell 2).trans rfl
                rw [hpn] at t2
                have l10 := S10.out.b10.lt
                obtain ⟨u0, hu0⟩ := px_cell S10.out.bp (v := vn) (i := 0) (by rw [hpn]; exact hvN) (by omega)
                obtain ⟨u1', hu1⟩ := px_cell S10.out.bp (v := vn) (i := 1) (by rw [hpn]; exact hvN) (by omega)
                obtain ⟨u2', hu2⟩ := px_cell S10.out.bp (v := vn) (i := 2) (by rw [hpn]; exact hvN) (by omega)
                obtain ⟨u3', hu3⟩ := px_cell S10.out.bp (v := vn) (i := 3) (by rw [hpn]; exact hvN) (by omega)
                rw [Nat.add_zero] at hu0
                have fzp := fun o => S10.out.bp.frozen o
                have lgp := S10.out.bp.lt
                obtain ⟨n9, hn9⟩ : ∃ n, n = pl.length - Q3.length := ⟨_, rfl⟩
                rw [← hn9] at k9c hs11' m9
                have hn90 : 0 < n9 := by omega
                show Code.wpIn (Fence.wide.inRound lr) _ _ _ _ _ _
                refine free_round (S := World) (fun i => i == 7)
                  (fun x i => [.pointer (some ⟨g10, 2, none⟩), .slice (some ⟨gp, 0, none⟩) N N, .slice A9 n9 c9, .pointer (some ⟨pb8, po8, none⟩), .int .i64 (vn : Int), .agg #[.int .i64 pr, .int .i64 pg, .int .i64 pb, .int .i64 pa], .pointer (some ⟨gp, vn * 4, none⟩), undef].getD i undef)
                  (fun x => x) (fun k x => match k with | 0 => x = v9.drew | 1 => x = ((((v9.drew.setCell ⟨gp, vn * 4, none⟩ (.int .i64 pr)).setCell ⟨gp, vn * 4 + 1, none⟩ (.int .i64 pg)).setCell ⟨gp, vn * 4 + 2, none⟩ (.int .i64 pb)).setCell ⟨gp, vn * 4 + 3, none⟩ (.int .i64 pa)) | _ => False)
                  (fun i => 0) (fun i => 0) (fun _ => false) (fun _ => false) ?af4 ?ab4 1 (v9.drew) (by kernel_rfl) (by kernel_rfl) (by kernel_rfl) (by kernel_rfl) (by kernel_rfl) (by kernel_rfl) (by kernel_rfl) rfl rfl ?haf4 ?hab4 ?hy4 ?hQ4
                case haf4 =>
                  intro x
                  simp only [actOf, dstAt, List.length_cons, List.length_nil, Nat.reduceAdd, List.getElem?_cons_zero, List.getElem?_cons_succ, Option.bind_some, if_true, List.getD_cons_zero, List.getD_cons_succ, Act.put, List.setIfInBounds_toArray, List.set_cons_zero, List.set_cons_succ]
                  rfl
                case hab4 =>
                  intro x
                  simp only [actOf, dstAt, List.length_cons, List.length_nil, Nat.reduceAdd, List.getElem?_cons_zero, List.getElem?_cons_succ, Option.bind_some, Bool.not_false, if_true, List.getD_cons_zero, List.getD_cons_succ, Act.put, List.setIfInBounds_toArray, List.set_cons_zero, List.set_cons_succ]
                  rfl
                case hy4 =>
                  intro k4 xw hR
                  simp only [AllY]
                  refine ⟨?_, ?_, ?_, ?_, ?_, ?_, ?_, ?_, trivial⟩
                  case refine_8 =>
                    intro hk
                    obtain rfl : k4 = 0 := hk
                    obtain rfl : xw = v9.drew := hR
                    refine .inr (.inl ⟨((((v9.drew.setCell ⟨gp, vn * 4, none⟩ (.int .i64 pr)).setCell ⟨gp, vn * 4 + 1, none⟩ (.int .i64 pg)).setCell ⟨gp, vn * 4 + 2, none⟩ (.int .i64 pb)).setCell ⟨gp, vn * 4 + 3, none⟩ (.int .i64 pa)), by simp [execOp, go_sem, Act.eval, hu0, hu1, hu2, hu3, fzp], rfl, _, rfl, rfl, rfl, fun i hi hd hn => rfl⟩)
                  all_goals
                    intro _ hk
                    have hk : k4 ≤ 0 := hk
                    obtain rfl : k4 = 0 := by omega
                    obtain rfl : xw = v9.drew := hR
                    exact .inl (by simp [execOp, go_sem, Act.eval, t2, k9c, hA9, hcl0, p0, p1, p2, p3, hvN, hn90])
                case hQ4 =>
                  intro xw hR
                  obtain rfl : xw = _ := hR
                  show Exit.then _ _ .normal _ _
                  have D11 := hid ((((D10.out.below (Below.refl _ v9).drew).set (g := gp) (by simp) (vn * 4) (.int .i64 pr)).set (g := gp) (by simp) (vn * 4 + 1) (.int .i64 pg)).set (g := gp) (by simp) (vn * 4 + 2) (.int .i64 pb) |>.set (g := gp) (by simp) (vn * 4 + 3) (.int .i64 pa))
                  have E11 := hid ((((E10.out.below (Below.refl _ v9).drew).set (g := gp) (by simp) (vn * 4) (.int .i64 pr)).set (g := gp) (by simp) (vn * 4 + 1) (.int .i64 pg)).set (g := gp) (by simp) (vn * 4 + 2) (.int .i64 pb) |>.set (g := gp) (by simp) (vn * 4 + 3) (.int .i64 pa))
                  have S11 := hid ((S10.out.below' (Below.refl _ v9).drew).put vn (pr, pg, pb, pa) (by rw [hpn]; exact hvN))
                  obtain ⟨vx, hvx⟩ : ∃ v, v = ((((v9.drew.setCell ⟨gp, vn * 4, none⟩ (.int .i64 pr)).setCell ⟨gp, vn * 4 + 1, none⟩ (.int .i64 pg)).setCell ⟨gp, vn * 4 + 2, none⟩ (.int .i64 pb)).setCell ⟨gp, vn * 4 + 3, none⟩ (.int .i64 pa)) := ⟨_, rfl⟩
                  have r12 : Rd vx g8 1 A11 (n9 - 1) (intsV (pl.drop (Q3.length + 1))) := by
                    rw [hvx, hn9]
                    have h8 : ∀ {p : Addr}, p.block = gp → g8 ≤ p.block := fun h => by rw [h]; have := S10.out.ord; omega
                    exact (((r11.drew.setCell (h8 rfl) _).setCell (h8 rfl) _).setCell (h8 rfl) _).setCell (h8 rfl) _
                  have k12 : Blk vx g8 25 #[.slice A9 n9 c9] := by
                    have ng : g8 ≠ gp := by have := S10.out.ord; omega
                    rw [hvx, hn9]
                    exact ((((k9.drew).far ng _).far ng _).far ng _).far ng _
                  simp only [← hvx] at D11 E11 S11 ⊢
                  have f12 : ∀ a, A11 = some a → g7 < a.block := fun a ha => by
                    obtain ⟨a0, h1, h2⟩ := f11 a ha
                    rw [h2]
                    exact f9 a0 h1
                  have S12 := hid (S11.out.adv (A := A11) (c := c9 - 1) (n := n9 - 1) (by omega) r12 (by omega) z11 f12)
                  have HR12 := hid r12
                  have k12c := (k12.cell 0).trans rfl
                  have l12 := k12.lt
                  have fz8 := fun o => k12.frozen o
                  have hput : putAll pl (Q3 ++ [(pr, pg, pb, pa)]) (pxZ N) = (putAll pl Q3 (pxZ N)).set vn (pr, pg, pb, pa) := by
                    rw [put_snoc pl Q3 _ (pxZ N) hpl, hvn, Int.toNat_natCast]
                  have HPut := hid hput
                  clear hvx r12 k12 f12 hput hu0 hu1 hu2 hu3 fzp lgp t2 l10 k9c l9 hcl hcl0 hpb r9 r11 k9 p0 p1 p2 p3 lq' S11 S10 D10 E10 bq hA9 hn9 hlen hn90 hvN hvn
                  gi_wp2
                  refine ⟨(V2.out.keeps (E11.out.set (by simp) _ _)).from _, (E11.out.set (g := g8) (by simp) _ _).kp2 (by have := V3.out.size; omega) (fun g hg => Nat.lt_trans (UX.out.gs g hg) hg25b), Q3 ++ [(pr, pg, pb, pa)], ?_, ?_, D11.out.set (by simp) _ _⟩
                  · rw [lineO_snoc, List.map_append, ← V1.out, HPq.out]
                    simp [List.append_assoc]
                  · rw [List.length_append, HPut.out]
                    exact S12.out
            case done3 =>
              rintro v' ⟨Q3, e1, e2, e3⟩
              rw [hNx] at e1
              have E1 := hid e1
              have E2 := hid e2
              have E3 := hid (C8.out.trans e3)
              clear e1 e2 e3
              gi_wp2
              refine ⟨(T2.out.keeps E3.out).from _, E3.out.kp2 (by have := T3.out.size; omega) (fun g hg => Nat.lt_trans (UX.out.gs g hg) hg11), Q3, ?_, E2.out, T3.out.trans E3.out⟩
              rw [rowsO_snoc, ← List.append_assoc, ← Hco.out]
              exact E1.out
            case stop3 =>
              rintro v' ⟨e1, e2⟩
              have E1 := hid e1
              have E2 := hid (C8.out.trans e2)
              clear e1 e2
              gi_wp2
              exact ⟨(T2.out.keeps E2.out).from _, E1.out, T3.out.trans E2.out⟩
          case done2 =>
            rintro w' ⟨Q2, e1, e2, e3⟩
            rw [hNr] at e1
            have E1 := hid e1
            have E2 := hid e2
            have E3 := hid (C7.out.trans e3)
            clear e1 e2 e3
            gi_wp2
            refine ⟨(HS.out.keeps E3.out).from _, E3.out.kp3 (by omega) (fun g hg => Nat.lt_trans (UX.out.gs g hg) hs11), Q2, ?_, ?_, Nat.le_trans hz E3.out.size⟩
            · rw [allO, passO_good (by rw [← Hrl.out, ← Hro.out, ← HSb.out]; exact HKo.out), ← Hro.out]
              exact E1.out
            · rw [offI, ← Hok2.out, ← Hsg2.out]
              exact E2.out
          case stop2 =>
            rintro w' ⟨e1, e2⟩
            have E1 := hid e1
            have E2 := hid (C7.out.trans e2)
            clear e1 e2
            gi_wp2
            exact ⟨(HS.out.keeps E2.out).from _, E1.out⟩
    case done =>
      rintro D w hD ⟨Q, e1, e2, e3⟩ hK
      have E1 := hid e1
      have E2 := hid e2
      have HD := hid hK
      have q0 := e2.b10.cell 0
      have q1 := e2.b10.cell 1
      have q2 := e2.b10.cell 2
      simp only [List.getElem?_toArray, List.getElem?_cons_zero, List.getElem?_cons_succ] at q0 q1 q2
      have d0 := e2.b4.cell 0
      have d1 := e2.b4.cell 1
      have d2 := e2.b4.cell 2
      simp only [List.getElem?_toArray, List.getElem?_cons_zero, List.getElem?_cons_succ] at d0 d1 d2
      have e0 := (e2.b5.cell 0).trans rfl
      have fz4 := fun o => e2.b4.frozen o
      have fz5 := fun o => e2.b5.frozen o
      have l4 := e2.b4.lt
      have l5 := e2.b5.lt
      have l10 := e2.b10.lt
      have n45 : g4 ≠ g5 := by have := e2.ord; omega
      have n54 : g5 ≠ g4 := by have := e2.ord; omega
      clear e1 e2 hK
      go_wp2_with fail
      refine ⟨by simp, .inl ⟨_, _, rfl, run_takeDeferred ?hd1, ?_⟩⟩
      case hd1 => exact (((((((Chg.refl [g3, g4, g5, g8, gp] w).set (g := g4) (by simp) _ _).set (g := g4) (by simp) _ _).set (g := g4) (by simp) _ _).set (g := g5) (by simp) _ _).same D (Array.getElem?_eq_some_iff.1 HD.out).1 (fun hm => by have := UX.out.gs D hm; have := UX.out.ord; omega)).trans HD.out)
      generalize hwf : World.putObj _ D _ = wf
      have hDn : ∀ g ∈ [g3, g4, g5, g8, gp], g ≠ D := fun g hm e => by have := UX.out.gs g hm; have := UX.out.ord; omega
      have hDp : gp ≠ D := hDn gp (by simp)
      have Hb := E2.out.below
      have f4 : Blk wf g4 33 #[.int .i64 f.w, .int .i64 f.h, .slice (some ⟨gp, 0, none⟩) (putAll pl Q (pxZ N)).length (putAll pl Q (pxZ N)).length] := by
        rw [← hwf]
        exact ((((E2.out.b4.set_ 0 _).set_ 1 _).set_ 2 _).far n45 _).grown (grownBy_putObj' _ D _) (by simp; exact hDn g4 (by simp))
      have f5 : Blk wf g5 35 #[.nilIface] := by
        rw [← hwf]
        exact ((((E2.out.b5.far n54 _).far n54 _).far n54 _).set_ 0 _).grown (grownBy_putObj' _ D _) (by simp; exact hDn g5 (by simp))
      have fp : Blk wf gp 62 ((putAll pl Q (pxZ N)).flatMap encP).toArray := by
        rw [← hwf]
        exact ((((E2.out.bp.far (by have := E2.out.ord; show gp ≠ g4; omega) _).far (by have := E2.out.ord; show gp ≠ g4; omega) _).far (by have := E2.out.ord; show gp ≠ g4; omega) _).far (by have := E2.out.ord; show gp ≠ g5; omega) _).grown (grownBy_putObj' _ D _) (by simp; exact hDp)
      have fb : Below W.heap.size W wf := by
        rw [← hwf]
        have ho := E2.out.ord
        have hb4 := (((E2.out.below.setCell (p := ⟨g4, 0, none⟩) (by show W.heap.size ≤ g4; omega) (.int .i64 f.w)).setCell (p := ⟨g4, 1, none⟩) (by show W.heap.size ≤ g4; omega) (.int .i64 f.h)).setCell (p := ⟨g4, 2, none⟩) (by show W.heap.size ≤ g4; omega) (.slice (some ⟨gp, 0, none⟩) (putAll pl Q (pxZ N)).length (putAll pl Q (pxZ N)).length)).setCell (p := ⟨g5, 0, none⟩) (by show W.heap.size ≤ g5; omega) .nilIface
        exact below_oth hb4 (grownBy_putObj' _ D _) hb4.size (fun r e => by cases e; omega)
      have z0 := (f4.cell 0).trans rfl
      have z1 := (f4.cell 1).trans rfl
      have z2 := (f4.cell 2).trans rfl
      have z5 := (f5.cell 0).trans rfl
      have hun := unpR_some (f := f) (b := b) E1.out
      rw [← Hpl.out, ← HN.out] at hun
      refine ⟨.tuple #[.agg #[.int .i64 f.w, .int .i64 f.h, .slice (some ⟨gp, 0, none⟩) (putAll pl Q (pxZ N)).length (putAll pl Q (pxZ N)).length], .nilIface], ?_, fb, ?_⟩
      · simp [results, Try.results9, go_sem, z0, z1, z2, z5]
      · rw [hun]
        exact ⟨gp, rfl, by have := E2.out.ord; omega, fp⟩
    case stop =>
      rintro D w hD h hK
      have E1 := hid h
      have HD := hid hK
      clear h hK
      gi_wp2
      refine ⟨by simp, .inl ⟨_, _, rfl, run_takeDeferred HD.out, ?_⟩⟩
      have hDn : ∀ g ∈ [g3, g4, g5, g8, gp], g ≠ D := fun g hm e => by have := UX.out.gs g hm; have := UX.out.ord; omega
      have hW := E1.out.below.size
      have hx0 := UX.out.below.size
      have f4 := E1.out.b4.grown (grownBy_putObj' w D (.deferred none)) (by simp; exact hDn g4 (by simp))
      have f5 := E1.out.b5.grown (grownBy_putObj' w D (.deferred none)) (by simp; exact hDn g5 (by simp))
      have fb := below_oth E1.out.below (grownBy_putObj' w D (.deferred none)) hW (fun r e => by cases e; omega)
      have hun := E1.out.no
      generalize hwf : World.putObj _ D _ = wf at *
      have z0 := (f4.cell 0).trans rfl
      have z1 := (f4.cell 1).trans rfl
      have z2 := (f4.cell 2).trans rfl
      have z5 := (f5.cell 0).trans rfl
      refine ⟨.tuple #[.agg #[.int .i64 0, .int .i64 0, .slice none 0 0], .iface 42 (.int .i64 2)], ?_, fb, ?_⟩
      · simp [results, Try.results9, go_sem, z0, z1, z2, z5]
      · rw [hun]
end Go.Proofs.Ytphhoihhmphbdaa

namespace Go.Proofs.Ytphhoihhmphbdaa
open Go.RowKit Go.Shelf
attribute [local go_sem] Oper.semAt_some

def UnpErr (r : Int) (W : World) (e : Ending) (w' : World) : Prop := Below W.heap.size W w' ∧ e = .returned (.tuple #[.agg #[.int .i64 0, .int .i64 0, .slice none 0 0], .iface 42 (.int .i64 r)])
set_option maxRecDepth 100000 in
set_option maxHeartbeats 8000000 in
theorem unpack_form (f : Fm) (PA KA A : Option Addr) (pc kc c n : Nat) (W : World) (hf : formOk f = false) (hp : RdP W W.heap.size PA f.pal) (hk : RdI W W.heap.size KA f.key) (hpm : f.pal.length ≤ 1000000) (hkm : f.key.length ≤ 1000000) :
    Calls Try.prog 9 #[.agg #[.int .i64 f.w, .int .i64 f.h, .int .i64 f.d, .int .i64 f.c, .int .i64 f.l, .slice PA f.pal.length pc, .slice KA f.key.length kc], .slice A n c] W (UnpErr 6 W) := by
  have Hp := hid hp
  have Hk := hid hk
  have FCk := hid (show ∀ w : World, RdP w w.heap.size PA f.pal → RdI w w.heap.size KA f.key → Calls Try.prog 28 #[.agg #[.int .i64 f.w, .int .i64 f.h, .int .i64 f.d, .int .i64 f.c, .int .i64 f.l, .slice PA f.pal.length pc, .slice KA f.key.length kc]] w (fun e w' => e = .returned (.iface 42 (.int .i64 6)) ∧ Below w.heap.size w w') from fun w h1 h2 => (fcheck_any f PA KA pc kc w h1 h2 hpm hkm).mono fun e w' h => by obtain ⟨he, hb⟩ := h; rw [if_neg (by rw [hf]; decide)] at he; exact ⟨he, hb⟩)
  clear hp hk hf
  refine (callsIn_wide (n := 9)).1 ?_
  refine callsIn_of_wp_marks Try.func9 rfl trivial ?_ rfl
  refine wpIn_wide.2 ?_
  simp only [Try.ntmps9, List.size_toArray, List.length_cons, List.length_nil, Nat.reduceAdd, Nat.reduceSub, Array.replicate_succ, Array.replicate_zero, List.push_toArray, List.append_toArray, List.nil_append, List.cons_append]
  obtain ⟨v0, hv0, B2, B3, B4, B5, B6, B7, BB, BS⟩ := six W #[.int .i64 f.w, .int .i64 f.h, .int .i64 f.d, .int .i64 f.c, .int .i64 f.l, .slice PA f.pal.length pc, .slice KA f.key.length kc] #[.slice A n c] #[.int .i64 0, .int .i64 0, .slice none 0 0] #[.nilIface] #[.int .i64 0, .int .i64 0, .slice none 0 0] #[.int .i64 f.w, .int .i64 f.h, .int .i64 f.d, .int .i64 f.c, .int .i64 f.l]
    38 28 33 35 33 23
  go_upto_region 3 with (fail)
  rw [← hv0]
  clear hv0
  obtain ⟨g2, hg2⟩ : ∃ g, g = W.heap.size := ⟨_, rfl⟩
  have Hg2 := hid hg2
  rw [← hg2] at B2 B3 B4 B5 B6 B7 ⊢
  obtain ⟨g3, hg3⟩ : ∃ g, g = g2 + 1 := ⟨_, rfl⟩
  have Hg3 := hid hg3
  rw [← hg3] at B3 B4 B5 B6 B7 ⊢
  obtain ⟨g4, hg4⟩ : ∃ g, g = g3 + 1 := ⟨_, rfl⟩
  have Hg4 := hid hg4
  rw [← hg4] at B4 B5 B6 B7 ⊢
  obtain ⟨g5, hg5⟩ : ∃ g, g = g4 + 1 := ⟨_, rfl⟩
  have Hg5 := hid hg5
  rw [← hg5] at B5 B6 B7 ⊢
  obtain ⟨g6, hg6⟩ : ∃ g, g = g5 + 1 := ⟨_, rfl⟩
  have Hg6 := hid hg6
  rw [← hg6] at B6 B7 ⊢
  obtain ⟨g7, hg7⟩ : ∃ g, g = g6 + 1 := ⟨_, rfl⟩
  have Hg7 := hid hg7
  rw [← hg7] at B7 ⊢
  clear hg2 hg3 hg4 hg5 hg6 hg7
  have hs0 : W.heap.size ≤ v0.heap.size := BB.size
  have q0 := B2.cell 0
  have q1 := B2.cell 1
  have q2 := B2.cell 2
  have q3 := B2.cell 3
  have q4 := B2.cell 4
  have q5 := B2.cell 5
  have q6 := B2.cell 6
  simp only [List.getElem?_toArray, List.getElem?_cons_zero, List.getElem?_cons_succ] at q0 q1 q2 q3 q4 q5 q6
  have l2 := B2.lt
  have K2 := hid B2
  have K3 := hid B3
  have K4 := hid B4
  have K5 := hid B5
  have K6 := hid B6
  have K7 := hid B7
  have KB := hid BB
  have KS := hid BS
  clear B2 B3 B4 B5 B6 B7 BB BS
  have n45 : g4 ≠ g5 := by have := Hg5.out; omega
  have n54 : g5 ≠ g4 := by have := Hg5.out; omega
  have hW4 : W.heap.size ≤ g4 := by have := Hg2.out; have := Hg3.out; have := Hg4.out; omega
  have hW5 : W.heap.size ≤ g5 := by have := Hg5.out; omega
  go_wp2_with fail
  refine (FCk.out _ (RdP.below Hp.out KB.out (Nat.le_refl _) |>.more hs0) (Rd.below Hk.out KB.out (Nat.le_refl _) |>.more hs0)).mono ?_
  rintro e u1 ⟨rfl, hb1⟩
  have P4 := hid (K4.out.below hb1 K4.out.lt)
  have P5 := hid (K5.out.below hb1 K5.out.lt)
  have P6 := hid (K6.out.below hb1 K6.out.lt)
  have PB := hid (KB.out.trans (hb1.mono KB.out.size))
  clear hb1 K2 K3 K4 K5 K6 K7 KB KS q0 q1 q2 q3 q4 q5 q6 l2 hs0 FCk
  have q0 := P6.out.cell 0
  have q1 := P6.out.cell 1
  have q2 := P6.out.cell 2
  simp only [List.getElem?_toArray, List.getElem?_cons_zero, List.getElem?_cons_succ] at q0 q1 q2
  have d0 := P4.out.cell 0
  have d1 := P4.out.cell 1
  have d2 := P4.out.cell 2
  simp only [List.getElem?_toArray, List.getElem?_cons_zero, List.getElem?_cons_succ] at d0 d1 d2
  have e0 := (P5.out.cell 0).trans rfl
  have fz4 := fun o => P4.out.frozen o
  have fz5 := fun o => P5.out.frozen o
  have l4 := P4.out.lt
  have l5 := P5.out.lt
  have l6 := P6.out.lt
  go_wp2_with fail
  have f4 := (((P4.out.set_ 0 (.int .i64 0)).set_ 1 (.int .i64 0)).set_ 2 (.slice none 0 0)).far (p := ⟨g5, 0, none⟩) n45 (.iface 42 (.int .i64 6))
  have f5 := (((P5.out.far (p := ⟨g4, 0, none⟩) n54 (.int .i64 0)).far (p := ⟨g4, 1, none⟩) n54 (.int .i64 0)).far (p := ⟨g4, 2, none⟩) n54 (.slice none 0 0)).set_ 0 (.iface 42 (.int .i64 6))
  have fb := (((PB.out.setCell (p := ⟨g4, 0, none⟩) hW4 (.int .i64 0)).setCell (p := ⟨g4, 1, none⟩) hW4 (.int .i64 0)).setCell (p := ⟨g4, 2, none⟩) hW4 (.slice none 0 0)).setCell (p := ⟨g5, 0, none⟩) hW5 (.iface 42 (.int .i64 6))
  have z0 := (f4.cell 0).trans rfl
  have z1 := (f4.cell 1).trans rfl
  have z2 := (f4.cell 2).trans rfl
  have z5 := (f5.cell 0).trans rfl
  refine ⟨.tuple #[.agg #[.int .i64 0, .int .i64 0, .slice none 0 0], .iface 42 (.int .i64 6)], ?_, fb, rfl⟩
  simp [results, Try.results9, go_sem, z0, z1, z2, z5]
set_option maxRecDepth 100000 in
set_option maxHeartbeats 8000000 in
theorem unpack_short (f : Fm) (PA KA A : Option Addr) (pc kc c n : Nat) (W : World) (hf : formOk f = true) (hp : RdP W W.heap.size PA f.pal) (hk : RdI W W.heap.size KA f.key) (hpm : f.pal.length ≤ 1000000) (hkm : f.key.length ≤ 1000000)
    (hd : (n : Int) ≠ dataM f.w f.h f.d f.c f.l) :
    Calls Try.prog 9 #[.agg #[.int .i64 f.w, .int .i64 f.h, .int .i64 f.d, .int .i64 f.c, .int .i64 f.l, .slice PA f.pal.length pc, .slice KA f.key.length kc], .slice A n c] W (UnpErr 2 W) := by
  have Hp := hid hp
  have Hk := hid hk
  have FCk := hid (show ∀ w : World, RdP w w.heap.size PA f.pal → RdI w w.heap.size KA f.key → Calls Try.prog 28 #[.agg #[.int .i64 f.w, .int .i64 f.h, .int .i64 f.d, .int .i64 f.c, .int .i64 f.l, .slice PA f.pal.length pc, .slice KA f.key.length kc]] w (fun e w' => e = .returned .nilIface ∧ Below w.heap.size w w') from fun w h1 h2 => (fcheck_any f PA KA pc kc w h1 h2 hpm hkm).mono fun e w' h => by obtain ⟨he, hb⟩ := h; rw [if_pos hf] at he; exact ⟨he, hb⟩)
  have DA := hid (fun (w : World) => data_any f.w f.h f.d f.c f.l w)
  obtain ⟨dm, hdm⟩ : ∃ d, d = dataM f.w f.h f.d f.c f.l := ⟨_, rfl⟩
  rw [← hdm] at hd DA
  clear hp hk hf hdm
  refine (callsIn_wide (n := 9)).1 ?_
  refine callsIn_of_wp_marks Try.func9 rfl trivial ?_ rfl
  refine wpIn_wide.2 ?_
  simp only [Try.ntmps9, List.size_toArray, List.length_cons, List.length_nil, Nat.reduceAdd, Nat.reduceSub, Array.replicate_succ, Array.replicate_zero, List.push_toArray, List.append_toArray, List.nil_append, List.cons_append]
  obtain ⟨v0, hv0, B2, B3, B4, B5, B6, B7, BB, BS⟩ := six W #[.int .i64 f.w, .int .i64 f.h, .int .i64 f.d, .int .i64 f.c, .int .i64 f.l, .slice PA f.pal.length pc, .slice KA f.key.length kc] #[.slice A n c] #[.int .i64 0, .int .i64 0, .slice none 0 0] #[.nilIface] #[.int .i64 0, .int .i64 0, .slice none 0 0] #[.int .i64 f.w, .int .i64 f.h, .int .i64 f.d, .int .i64 f.c, .int .i64 f.l]
    38 28 33 35 33 23
  go_upto_region 3 with (fail)
  rw [← hv0]
  clear hv0
  obtain ⟨g2, hg2⟩ : ∃ g, g = W.heap.size := ⟨_, rfl⟩
  have Hg2 := hid hg2
  rw [← hg2] at B2 B3 B4 B5 B6 B7 ⊢
  obtain ⟨g3, hg3⟩ : ∃ g, g = g2 + 1 := ⟨_, rfl⟩
  have Hg3 := hid hg3
  rw [← hg3] at B3 B4 B5 B6 B7 ⊢
  obtain ⟨g4, hg4⟩ : ∃ g, g = g3 + 1 := ⟨_, rfl⟩
  have Hg4 := hid hg4
  rw [← hg4] at B4 B5 B6 B7 ⊢
  obtain ⟨g5, hg5⟩ : ∃ g, g = g4 + 1 := ⟨_, rfl⟩
  have Hg5 := hid hg5
  rw [← hg5] at B5 B6 B7 ⊢
  obtain ⟨g6, hg6⟩ : ∃ g, g = g5 + 1 := ⟨_, rfl⟩
  have Hg6 := hid hg6
  rw [← hg6] at B6 B7 ⊢
  obtain ⟨g7, hg7⟩ : ∃ g, g = g6 + 1 := ⟨_, rfl⟩
  have Hg7 := hid hg7
  rw [← hg7] at B7 ⊢
  clear hg2 hg3 hg4 hg5 hg6 hg7
  have hs0 : W.heap.size ≤ v0.heap.size := BB.size
  have q0 := B2.cell 0
  have q1 := B2.cell 1
  have q2 := B2.cell 2
  have q3 := B2.cell 3
  have q4 := B2.cell 4
  have q5 := B2.cell 5
  have q6 := B2.cell 6
  simp only [List.getElem?_toArray, List.getElem?_cons_zero, List.getElem?_cons_succ] at q0 q1 q2 q3 q4 q5 q6
  have l2 := B2.lt
  have K2 := hid B2
  have K3 := hid B3
  have K4 := hid B4
  have K5 := hid B5
  have K6 := hid B6
  have K7 := hid B7
  have KB := hid BB
  have KS := hid BS
  clear B2 B3 B4 B5 B6 B7 BB BS
  have n45 : g4 ≠ g5 := by have := Hg5.out; omega
  have n54 : g5 ≠ g4 := by have := Hg5.out; omega
  have hW4 : W.heap.size ≤ g4 := by have := Hg2.out; have := Hg3.out; have := Hg4.out; omega
  have hW5 : W.heap.size ≤ g5 := by have := Hg5.out; omega
  go_wp2_with fail
  refine (FCk.out _ (RdP.below Hp.out KB.out (Nat.le_refl _) |>.more hs0) (Rd.below Hk.out KB.out (Nat.le_refl _) |>.more hs0)).mono ?_
  rintro e u1 ⟨rfl, hb1⟩
  have P2 := hid (K2.out.below hb1 K2.out.lt)
  have P3 := hid (K3.out.below hb1 K3.out.lt)
  have P4 := hid (K4.out.below hb1 K4.out.lt)
  have P5 := hid (K5.out.below hb1 K5.out.lt)
  have P6 := hid (K6.out.below hb1 K6.out.lt)
  have P7 := hid (K7.out.below hb1 K7.out.lt)
  have PB := hid (KB.out.trans (hb1.mono KB.out.size))
  have PS := hid (show W.heap.size + 6 ≤ u1.heap.size by rw [← KS.out]; exact hb1.size)
  clear hb1 K2 K3 K4 K5 K6 K7 KB KS q0 q1 q2 q3 q4 q5 q6 l2 hs0
  go_upto_region 5 with (fail)
  have l3 := P3.out.lt
  have l7 := P7.out.lt
  have DC := hid (DA.out u1.drew)
  refine free_lit (S := World) (fun i => i == 3)
    (fun x i => [.slice A n c, .int .i64 (n : Int), .agg #[.int .i64 f.w, .int .i64 f.h, .int .i64 f.d, .int .i64 f.c, .int .i64 f.l], .int .i64 dm, .bool true, .bool true].getD i undef)
    (fun x => x) (fun k x => match k with | 0 => x = u1.drew | 1 => Below u1.drew.heap.size u1.drew x | _ => False)
    (fun i => if i ≤ 3 then 0 else 1) (fun i => 1) (fun _ => false) (fun _ => false) ?af ?ab 1 (u1.drew) (by kernel_rfl) (by kernel_rfl) (by kernel_rfl) (by kernel_rfl) (by kernel_rfl) (by kernel_rfl) (by kernel_rfl) rfl rfl ?haf ?hab ?hy ?hQ
  case haf =>
    intro x
    simp only [actOf, dstAt, List.length_cons, List.length_nil, Nat.reduceAdd, List.getElem?_cons_zero, List.getElem?_cons_succ, Option.bind_some, if_true, List.getD_cons_zero, List.getD_cons_succ, Act.put, List.setIfInBounds_toArray, List.set_cons_zero, List.set_cons_succ]
    rfl
  case hab =>
    intro x
    simp only [actOf, dstAt, List.length_cons, List.length_nil, Nat.reduceAdd, List.getElem?_cons_zero, List.getElem?_cons_succ, Option.bind_some, Bool.not_false, if_true, List.getD_cons_zero, List.getD_cons_succ, Act.put, List.setIfInBounds_toArray, List.set_cons_zero, List.set_cons_succ]
    rfl
  case hy =>
    intro k x hR
    have hb : Below u1.heap.size u1 x := by
      match k, hR with
      | 0, h => rw [show x = u1.drew from h]; exact (Below.refl _ _).drew
      | 1, h => exact (Below.refl _ _).drew.trans h
    have hC := (P3.out.below hb P3.out.lt).cell 0
    have hD0 := (P7.out.below hb P7.out.lt).cell 0
    have hD1 := (P7.out.below hb P7.out.lt).cell 1
    have hD2 := (P7.out.below hb P7.out.lt).cell 2
    have hD3 := (P7.out.below hb P7.out.lt).cell 3
    have hD4 := (P7.out.below hb P7.out.lt).cell 4
    simp only [List.getElem?_toArray, List.getElem?_cons_zero, List.getElem?_cons_succ] at hC hD0 hD1 hD2 hD3 hD4
    simp only [AllY]
    refine ⟨?_, ?_, ?_, ?_, ?_, ?_, trivial⟩
    case refine_4 =>
      intro hk
      obtain rfl : k = 0 := hk
      obtain rfl : x = u1.drew := hR
      refine .inr (.inr ⟨29, #[.agg #[.int .i64 f.w, .int .i64 f.h, .int .i64 f.d, .int .i64 f.c, .int .i64 f.l]], u1.drew, by simp [go_sem, Act.eval], ?_⟩)
      refine (DC.out).mono ?_
      rintro e w5 ⟨rfl, hb5⟩
      exact ⟨_, rfl, w5, hb5, rfl, rfl, fun i hi hd hn => rfl⟩
    case refine_5 => exact fun _ _ => .inl (by simp [execOp, go_sem, Act.eval, hd])
    all_goals exact fun _ _ => .inl (by simp [execOp, go_sem, Act.eval, hC, hD0, hD1, hD2, hD3, hD4])
  case hQ =>
    intro u2 hR
    have hb2 : Below u1.heap.size u1 u2 := (Below.refl _ _).drew.trans hR
    show Exit.then _ _ .normal _ u2
    have Q4 := hid (P4.out.below hb2 P4.out.lt)
    have Q5 := hid (P5.out.below hb2 P5.out.lt)
    have Q6 := hid (P6.out.below hb2 P6.out.lt)
    have QB := hid (PB.out.trans (hb2.mono PB.out.size))
    clear hR hb2 P2 P3 P4 P5 P6 P7 PB PS DC DA l3 l7
    have q0 := Q6.out.cell 0
    have q1 := Q6.out.cell 1
    have q2 := Q6.out.cell 2
    simp only [List.getElem?_toArray, List.getElem?_cons_zero, List.getElem?_cons_succ] at q0 q1 q2
    have d0 := Q4.out.cell 0
    have d1 := Q4.out.cell 1
    have d2 := Q4.out.cell 2
    simp only [List.getElem?_toArray, List.getElem?_cons_zero, List.getElem?_cons_succ] at d0 d1 d2
    have e0 := (Q5.out.cell 0).trans rfl
    have fz4 := fun o => Q4.out.frozen o
    have fz5 := fun o => Q5.out.frozen o
    have l4 := Q4.out.lt
    have l5 := Q5.out.lt
    have l6 := Q6.out.lt
    go_wp2_with fail
    have f4 := (((Q4.out.set_ 0 (.int .i64 0)).set_ 1 (.int .i64 0)).set_ 2 (.slice none 0 0)).far (p := ⟨g5, 0, none⟩) n45 (.iface 42 (.int .i64 2))
    have f5 := (((Q5.out.far (p := ⟨g4, 0, none⟩) n54 (.int .i64 0)).far (p := ⟨g4, 1, none⟩) n54 (.int .i64 0)).far (p := ⟨g4, 2, none⟩) n54 (.slice none 0 0)).set_ 0 (.iface 42 (.int .i64 2))
    have fb := (((QB.out.setCell (p := ⟨g4, 0, none⟩) hW4 (.int .i64 0)).setCell (p := ⟨g4, 1, none⟩) hW4 (.int .i64 0)).setCell (p := ⟨g4, 2, none⟩) hW4 (.slice none 0 0)).setCell (p := ⟨g5, 0, none⟩) hW5 (.iface 42 (.int .i64 2))
    have z0 := (f4.cell 0).trans rfl
    have z1 := (f4.cell 1).trans rfl
    have z2 := (f4.cell 2).trans rfl
    have z5 := (f5.cell 0).trans rfl
    refine ⟨.tuple #[.agg #[.int .i64 0, .int .i64 0, .slice none 0 0], .iface 42 (.int .i64 2)], ?_, fb, rfl⟩
    simp [results, Try.results9, go_sem, z0, z1, z2, z5]
end Go.Proofs.Ytphhoihhmphbdaa
