/-
  raster.Unpack of a form that is not good, and of data of the wrong length.
-/
import Derived.Test.YtphhoihhmphbdaaUnpA
import Derived.RegionTactic
import Derived.RegionCalls
namespace Go.Proofs.Ytphhoihhmphbdaa
open Go.RowKit Go.Shelf
attribute [local go_sem] Oper.semAt_some

def UnpErr (r : Int) (W : World) (e : Ending) (w' : World) : Prop := Below W.heap.size W w' ∧ e = .returned (.tuple #[.agg #[.int .i64 0, .int .i64 0, .slice none 0 0], .iface 42 (.int .i64 r)])
set_option maxRecDepth 100000 in
set_option maxHeartbeats 8000000 in
theorem unpack_form (f : Fm) (PA KA A : Option Addr) (pc kc c n : Nat) (W : World) (hf : formOk f = false) (hp : RdP W W.heap.size PA f.pal) (hk : RdI W W.heap.size KA f.key) (hpm : f.pal.length ≤ 1000000) (hkm : f.key.length ≤ 1000000) :
    Calls Try.prog 9 #[.agg #[.int .i64 f.w, .int .i64 f.h, .int .i64 f.d, .int .i64 f.c, .int .i64 f.l, .slice PA f.pal.length pc, .slice KA f.key.length kc], .slice A n c] W (UnpErr 6 W) := by
  have Hp := hid hp
  have Hk := hid hk
  have FCk := hid (show ∀ w : World, RdP w w.heap.size PA f.pal → RdI w w.heap.size KA f.key → Calls Try.prog 28 #[.agg #[.int .i64 f.w, .int .i64 f.h, .int .i64 f.d, .int .i64 f.c, .int .i64 f.l, .slice PA f.pal.length pc, .slice KA f.key.length kc]] w (fun e w' => e = .returned (.iface 42 (.int .i64 6)) ∧ Below w.heap.size w w') from fun w h1 h2 => (fcheck_any f PA KA pc kc w h1 h2 hpm hkm).mono fun e w' h => by obtain ⟨he, hb⟩ := h; rw [if_neg (by rw [hf]; decide)] at he; exact ⟨he, hb⟩)
  clear hp hk hf
  refine (callsIn_wide (n := 9)).1 ?_
  refine callsIn_of_wp_marks Try.func9 rfl trivial ?_ rfl
  refine wpIn_wide.2 ?_
  simp only [Try.ntmps9, List.size_toArray, List.length_cons, List.length_nil, Nat.reduceAdd, Nat.reduceSub, Array.replicate_succ, Array.replicate_zero, List.push_toArray, List.append_toArray, List.nil_append, List.cons_append]
  obtain ⟨v0, hv0, B2, B3, B4, B5, B6, B7, BB, BS⟩ := six W #[.int .i64 f.w, .int .i64 f.h, .int .i64 f.d, .int .i64 f.c, .int .i64 f.l, .slice PA f.pal.length pc, .slice KA f.key.length kc] #[.slice A n c] #[.int .i64 0, .int .i64 0, .slice none 0 0] #[.nilIface] #[.int .i64 0, .int .i64 0, .slice none 0 0] #[.int .i64 f.w, .int .i64 f.h, .int .i64 f.d, .int .i64 f.c, .int .i64 f.l]
    38 28 33 35 33 23
  go_upto_region 3 with (fail)
  rw [← hv0]
  clear hv0
  obtain ⟨g2, hg2⟩ : ∃ g, g = W.heap.size := ⟨_, rfl⟩
  have Hg2 := hid hg2
  rw [← hg2] at B2 B3 B4 B5 B6 B7 ⊢
  obtain ⟨g3, hg3⟩ : ∃ g, g = g2 + 1 := ⟨_, rfl⟩
  have Hg3 := hid hg3
  rw [← hg3] at B3 B4 B5 B6 B7 ⊢
  obtain ⟨g4, hg4⟩ : ∃ g, g = g3 + 1 := ⟨_, rfl⟩
  have Hg4 := hid hg4
  rw [← hg4] at B4 B5 B6 B7 ⊢
  obtain ⟨g5, hg5⟩ : ∃ g, g = g4 + 1 := ⟨_, rfl⟩
  have Hg5 := hid hg5
  rw [← hg5] at B5 B6 B7 ⊢
  obtain ⟨g6, hg6⟩ : ∃ g, g = g5 + 1 := ⟨_, rfl⟩
  have Hg6 := hid hg6
  rw [← hg6] at B6 B7 ⊢
  obtain ⟨g7, hg7⟩ : ∃ g, g = g6 + 1 := ⟨_, rfl⟩
  have Hg7 := hid hg7
  rw [← hg7] at B7 ⊢
  clear hg2 hg3 hg4 hg5 hg6 hg7
  have hs0 : W.heap.size ≤ v0.heap.size := BB.size
  have q0 := B2.cell 0
  have q1 := B2.cell 1
  have q2 := B2.cell 2
  have q3 := B2.cell 3
  have q4 := B2.cell 4
  have q5 := B2.cell 5
  have q6 := B2.cell 6
  simp only [List.getElem?_toArray, List.getElem?_cons_zero, List.getElem?_cons_succ] at q0 q1 q2 q3 q4 q5 q6
  have l2 := B2.lt
  have K2 := hid B2
  have K3 := hid B3
  have K4 := hid B4
  have K5 := hid B5
  have K6 := hid B6
  have K7 := hid B7
  have KB := hid BB
  have KS := hid BS
  clear B2 B3 B4 B5 B6 B7 BB BS
  have n45 : g4 ≠ g5 := by have := Hg5.out; omega
  have n54 : g5 ≠ g4 := by have := Hg5.out; omega
  have hW4 : W.heap.size ≤ g4 := by have := Hg2.out; have := Hg3.out; have := Hg4.out; omega
  have hW5 : W.heap.size ≤ g5 := by have := Hg5.out; omega
  go_wp2_with fail
  refine (FCk.out _ (RdP.below Hp.out KB.out (Nat.le_refl _) |>.more hs0) (Rd.below Hk.out KB.out (Nat.le_refl _) |>.more hs0)).mono ?_
  rintro e u1 ⟨rfl, hb1⟩
  have P4 := hid (K4.out.below hb1 K4.out.lt)
  have P5 := hid (K5.out.below hb1 K5.out.lt)
  have P6 := hid (K6.out.below hb1 K6.out.lt)
  have PB := hid (KB.out.trans (hb1.mono KB.out.size))
  clear hb1 K2 K3 K4 K5 K6 K7 KB KS q0 q1 q2 q3 q4 q5 q6 l2 hs0 FCk
  have q0 := P6.out.cell 0
  have q1 := P6.out.cell 1
  have q2 := P6.out.cell 2
  simp only [List.getElem?_toArray, List.getElem?_cons_zero, List.getElem?_cons_succ] at q0 q1 q2
  have d0 := P4.out.cell 0
  have d1 := P4.out.cell 1
  have d2 := P4.out.cell 2
  simp only [List.getElem?_toArray, List.getElem?_cons_zero, List.getElem?_cons_succ] at d0 d1 d2
  have e0 := (P5.out.cell 0).trans rfl
  have fz4 := fun o => P4.out.frozen o
  have fz5 := fun o => P5.out.frozen o
  have l4 := P4.out.lt
  have l5 := P5.out.lt
  have l6 := P6.out.lt
  go_wp2_with fail
  have f4 := (((P4.out.set_ 0 (.int .i64 0)).set_ 1 (.int .i64 0)).set_ 2 (.slice none 0 0)).far (p := ⟨g5, 0, none⟩) n45 (.iface 42 (.int .i64 6))
  have f5 := (((P5.out.far (p := ⟨g4, 0, none⟩) n54 (.int .i64 0)).far (p := ⟨g4, 1, none⟩) n54 (.int .i64 0)).far (p := ⟨g4, 2, none⟩) n54 (.slice none 0 0)).set_ 0 (.iface 42 (.int .i64 6))
  have fb := (((PB.out.setCell (p := ⟨g4, 0, none⟩) hW4 (.int .i64 0)).setCell (p := ⟨g4, 1, none⟩) hW4 (.int .i64 0)).setCell (p := ⟨g4, 2, none⟩) hW4 (.slice none 0 0)).setCell (p := ⟨g5, 0, none⟩) hW5 (.iface 42 (.int .i64 6))
  have z0 := (f4.cell 0).trans rfl
  have z1 := (f4.cell 1).trans rfl
  have z2 := (f4.cell 2).trans rfl
  have z5 := (f5.cell 0).trans rfl
  refine ⟨.tuple #[.agg #[.int .i64 0, .int .i64 0, .slice none 0 0], .iface 42 (.int .i64 6)], ?_, fb, rfl⟩
  simp [results, Try.results9, go_sem, z0, z1, z2, z5]
set_option maxRecDepth 100000 in
set_option maxHeartbeats 8000000 in
theorem unpack_short (f : Fm) (PA KA A : Option Addr) (pc kc c n : Nat) (W : World) (hf : formOk f = true) (hp : RdP W W.heap.size PA f.pal) (hk : RdI W W.heap.size KA f.key) (hpm : f.pal.length ≤ 1000000) (hkm : f.key.length ≤ 1000000)
    (hd : (n : Int) ≠ dataM f.w f.h f.d f.c f.l) :
    Calls Try.prog 9 #[.agg #[.int .i64 f.w, .int .i64 f.h, .int .i64 f.d, .int .i64 f.c, .int .i64 f.l, .slice PA f.pal.length pc, .slice KA f.key.length kc], .slice A n c] W (UnpErr 2 W) := by
  have Hp := hid hp
  have Hk := hid hk
  have FCk := hid (show ∀ w : World, RdP w w.heap.size PA f.pal → RdI w w.heap.size KA f.key → Calls Try.prog 28 #[.agg #[.int .i64 f.w, .int .i64 f.h, .int .i64 f.d, .int .i64 f.c, .int .i64 f.l, .slice PA f.pal.length pc, .slice KA f.key.length kc]] w (fun e w' => e = .returned .nilIface ∧ Below w.heap.size w w') from fun w h1 h2 => (fcheck_any f PA KA pc kc w h1 h2 hpm hkm).mono fun e w' h => by obtain ⟨he, hb⟩ := h; rw [if_pos hf] at he; exact ⟨he, hb⟩)
  have DA := hid (fun (w : World) => data_any f.w f.h f.d f.c f.l w)
  obtain ⟨dm, hdm⟩ : ∃ d, d = dataM f.w f.h f.d f.c f.l := ⟨_, rfl⟩
  rw [← hdm] at hd DA
  clear hp hk hf hdm
  refine (callsIn_wide (n := 9)).1 ?_
  refine callsIn_of_wp_marks Try.func9 rfl trivial ?_ rfl
  refine wpIn_wide.2 ?_
  simp only [Try.ntmps9, List.size_toArray, List.length_cons, List.length_nil, Nat.reduceAdd, Nat.reduceSub, Array.replicate_succ, Array.replicate_zero, List.push_toArray, List.append_toArray, List.nil_append, List.cons_append]
  obtain ⟨v0, hv0, B2, B3, B4, B5, B6, B7, BB, BS⟩ := six W #[.int .i64 f.w, .int .i64 f.h, .int .i64 f.d, .int .i64 f.c, .int .i64 f.l, .slice PA f.pal.length pc, .slice KA f.key.length kc] #[.slice A n c] #[.int .i64 0, .int .i64 0, .slice none 0 0] #[.nilIface] #[.int .i64 0, .int .i64 0, .slice none 0 0] #[.int .i64 f.w, .int .i64 f.h, .int .i64 f.d, .int .i64 f.c, .int .i64 f.l]
    38 28 33 35 33 23
  go_upto_region 3 with (fail)
  rw [← hv0]
  clear hv0
  obtain ⟨g2, hg2⟩ : ∃ g, g = W.heap.size := ⟨_, rfl⟩
  have Hg2 := hid hg2
  rw [← hg2] at B2 B3 B4 B5 B6 B7 ⊢
  obtain ⟨g3, hg3⟩ : ∃ g, g = g2 + 1 := ⟨_, rfl⟩
  have Hg3 := hid hg3
  rw [← hg3] at B3 B4 B5 B6 B7 ⊢
  obtain ⟨g4, hg4⟩ : ∃ g, g = g3 + 1 := ⟨_, rfl⟩
  have Hg4 := hid hg4
  rw [← hg4] at B4 B5 B6 B7 ⊢
  obtain ⟨g5, hg5⟩ : ∃ g, g = g4 + 1 := ⟨_, rfl⟩
  have Hg5 := hid hg5
  rw [← hg5] at B5 B6 B7 ⊢
  obtain ⟨g6, hg6⟩ : ∃ g, g = g5 + 1 := ⟨_, rfl⟩
  have Hg6 := hid hg6
  rw [← hg6] at B6 B7 ⊢
  obtain ⟨g7, hg7⟩ : ∃ g, g = g6 + 1 := ⟨_, rfl⟩
  have Hg7 := hid hg7
  rw [← hg7] at B7 ⊢
  clear hg2 hg3 hg4 hg5 hg6 hg7
  have hs0 : W.heap.size ≤ v0.heap.size := BB.size
  have q0 := B2.cell 0
  have q1 := B2.cell 1
  have q2 := B2.cell 2
  have q3 := B2.cell 3
  have q4 := B2.cell 4
  have q5 := B2.cell 5
  have q6 := B2.cell 6
  simp only [List.getElem?_toArray, List.getElem?_cons_zero, List.getElem?_cons_succ] at q0 q1 q2 q3 q4 q5 q6
  have l2 := B2.lt
  have K2 := hid B2
  have K3 := hid B3
  have K4 := hid B4
  have K5 := hid B5
  have K6 := hid B6
  have K7 := hid B7
  have KB := hid BB
  have KS := hid BS
  clear B2 B3 B4 B5 B6 B7 BB BS
  have n45 : g4 ≠ g5 := by have := Hg5.out; omega
  have n54 : g5 ≠ g4 := by have := Hg5.out; omega
  have hW4 : W.heap.size ≤ g4 := by have := Hg2.out; have := Hg3.out; have := Hg4.out; omega
  have hW5 : W.heap.size ≤ g5 := by have := Hg5.out; omega
  go_wp2_with fail
  refine (FCk.out _ (RdP.below Hp.out KB.out (Nat.le_refl _) |>.more hs0) (Rd.below Hk.out KB.out (Nat.le_refl _) |>.more hs0)).mono ?_
  rintro e u1 ⟨rfl, hb1⟩
  have P2 := hid (K2.out.below hb1 K2.out.lt)
  have P3 := hid (K3.out.below hb1 K3.out.lt)
  have P4 := hid (K4.out.below hb1 K4.out.lt)
  have P5 := hid (K5.out.below hb1 K5.out.lt)
  have P6 := hid (K6.out.below hb1 K6.out.lt)
  have P7 := hid (K7.out.below hb1 K7.out.lt)
  have PB := hid (KB.out.trans (hb1.mono KB.out.size))
  have PS := hid (show W.heap.size + 6 ≤ u1.heap.size by rw [← KS.out]; exact hb1.size)
  clear hb1 K2 K3 K4 K5 K6 K7 KB KS q0 q1 q2 q3 q4 q5 q6 l2 hs0
  go_upto_region 5 with (fail)
  have l3 := P3.out.lt
  have l7 := P7.out.lt
  have DC := hid (DA.out u1.drew)
  refine free_lit (S := World) (fun i => i == 3)
    (fun x i => [.slice A n c, .int .i64 (n : Int), .agg #[.int .i64 f.w, .int .i64 f.h, .int .i64 f.d, .int .i64 f.c, .int .i64 f.l], .int .i64 dm, .bool true, .bool true].getD i undef)
    (fun x => x) (fun k x => match k with | 0 => x = u1.drew | 1 => Below u1.drew.heap.size u1.drew x | _ => False)
    (fun i => if i ≤ 3 then 0 else 1) (fun i => 1) (fun _ => false) (fun _ => false) ?af ?ab 1 (u1.drew) (by kernel_rfl) (by kernel_rfl) (by kernel_rfl) (by kernel_rfl) (by kernel_rfl) (by kernel_rfl) (by kernel_rfl) rfl rfl ?haf ?hab ?hy ?hQ
  case haf =>
    intro x
    simp only [actOf, dstAt, List.length_cons, List.length_nil, Nat.reduceAdd, List.getElem?_cons_zero, List.getElem?_cons_succ, Option.bind_some, if_true, List.getD_cons_zero, List.getD_cons_succ, Act.put, List.setIfInBounds_toArray, List.set_cons_zero, List.set_cons_succ]
    rfl
  case hab =>
    intro x
    simp only [actOf, dstAt, List.length_cons, List.length_nil, Nat.reduceAdd, List.getElem?_cons_zero, List.getElem?_cons_succ, Option.bind_some, Bool.not_false, if_true, List.getD_cons_zero, List.getD_cons_succ, Act.put, List.setIfInBounds_toArray, List.set_cons_zero, List.set_cons_succ]
    rfl
  case hy =>
    intro k x hR
    have hb : Below u1.heap.size u1 x := by
      match k, hR with
      | 0, h => rw [show x = u1.drew from h]; exact (Below.refl _ _).drew
      | 1, h => exact (Below.refl _ _).drew.trans h
    have hC := (P3.out.below hb P3.out.lt).cell 0
    have hD0 := (P7.out.below hb P7.out.lt).cell 0
    have hD1 := (P7.out.below hb P7.out.lt).cell 1
    have hD2 := (P7.out.below hb P7.out.lt).cell 2
    have hD3 := (P7.out.below hb P7.out.lt).cell 3
    have hD4 := (P7.out.below hb P7.out.lt).cell 4
    simp only [List.getElem?_toArray, List.getElem?_cons_zero, List.getElem?_cons_succ] at hC hD0 hD1 hD2 hD3 hD4
    simp only [AllY]
    refine ⟨?_, ?_, ?_, ?_, ?_, ?_, trivial⟩
    case refine_4 =>
      intro hk
      obtain rfl : k = 0 := hk
      obtain rfl : x = u1.drew := hR
      refine .inr (.inr ⟨29, #[.agg #[.int .i64 f.w, .int .i64 f.h, .int .i64 f.d, .int .i64 f.c, .int .i64 f.l]], u1.drew, by simp [go_sem, Act.eval], ?_⟩)
      refine (DC.out).mono ?_
      rintro e w5 ⟨rfl, hb5⟩
      exact ⟨_, rfl, w5, hb5, rfl, rfl, fun i hi hd hn => rfl⟩
    case refine_5 => exact fun _ _ => .inl (by simp [execOp, go_sem, Act.eval, hd])
    all_goals exact fun _ _ => .inl (by simp [execOp, go_sem, Act.eval, hC, hD0, hD1, hD2, hD3, hD4])
  case hQ =>
    intro u2 hR
    have hb2 : Below u1.heap.size u1 u2 := (Below.refl _ _).drew.trans hR
    show Exit.then _ _ .normal _ u2
    have Q4 := hid (P4.out.below hb2 P4.out.lt)
    have Q5 := hid (P5.out.below hb2 P5.out.lt)
    have Q6 := hid (P6.out.below hb2 P6.out.lt)
    have QB := hid (PB.out.trans (hb2.mono PB.out.size))
    clear hR hb2 P2 P3 P4 P5 P6 P7 PB PS DC DA l3 l7
    have q0 := Q6.out.cell 0
    have q1 := Q6.out.cell 1
    have q2 := Q6.out.cell 2
    simp only [List.getElem?_toArray, List.getElem?_cons_zero, List.getElem?_cons_succ] at q0 q1 q2
    have d0 := Q4.out.cell 0
    have d1 := Q4.out.cell 1
    have d2 := Q4.out.cell 2
    simp only [List.getElem?_toArray, List.getElem?_cons_zero, List.getElem?_cons_succ] at d0 d1 d2
    have e0 := (Q5.out.cell 0).trans rfl
    have fz4 := fun o => Q4.out.frozen o
    have fz5 := fun o => Q5.out.frozen o
    have l4 := Q4.out.lt
    have l5 := Q5.out.lt
    have l6 := Q6.out.lt
    go_wp2_with fail
    have f4 := (((Q4.out.set_ 0 (.int .i64 0)).set_ 1 (.int .i64 0)).set_ 2 (.slice none 0 0)).far (p := ⟨g5, 0, none⟩) n45 (.iface 42 (.int .i64 2))
    have f5 := (((Q5.out.far (p := ⟨g4, 0, none⟩) n54 (.int .i64 0)).far (p := ⟨g4, 1, none⟩) n54 (.int .i64 0)).far (p := ⟨g4, 2, none⟩) n54 (.slice none 0 0)).set_ 0 (.iface 42 (.int .i64 2))
    have fb := (((QB.out.setCell (p := ⟨g4, 0, none⟩) hW4 (.int .i64 0)).setCell (p := ⟨g4, 1, none⟩) hW4 (.int .i64 0)).setCell (p := ⟨g4, 2, none⟩) hW4 (.slice none 0 0)).setCell (p := ⟨g5, 0, none⟩) hW5 (.iface 42 (.int .i64 2))
    have z0 := (f4.cell 0).trans rfl
    have z1 := (f4.cell 1).trans rfl
    have z2 := (f4.cell 2).trans rfl
    have z5 := (f5.cell 0).trans rfl
    refine ⟨.tuple #[.agg #[.int .i64 0, .int .i64 0, .slice none 0 0], .iface 42 (.int .i64 2)], ?_, fb, rfl⟩
    simp [results, Try.results9, go_sem, z0, z1, z2, z5]
end Go.Proofs.Ytphhoihhmphbdaa
