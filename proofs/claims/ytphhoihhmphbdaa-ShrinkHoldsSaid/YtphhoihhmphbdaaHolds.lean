/-
  shrink.Holds of a raster that is one.
-/
import Derived.Test.YtphhoihhmphbdaaBestB
import Derived.Deep.RegionHeld3
import Derived.Deep.QuietTactic
import Derived.BigQuiet
import Derived.IntWalk
namespace Go.Proofs.Ytphhoihhmphbdaa
open Go.RowKit Go.Shelf

/-- does a form hold a raster? -/
def holdsM (f : Fm) (x y : Int) (px : List Px) : Bool := decide (x = f.w) && decide (y = f.h) && fitsB f (unl px)
/-- a form and a raster, boxed -/
def HoW (w W : World) (f : Fm) (PA KA : Option Addr) (pc kc : Nat) (x y : Int) (PR : Option Addr) (n pr : Nat) : Prop :=
  Blk w W.heap.size 38 #[.int .i64 f.w, .int .i64 f.h, .int .i64 f.d, .int .i64 f.c, .int .i64 f.l, .slice PA f.pal.length pc, .slice KA f.key.length kc] ∧ Blk w (W.heap.size + 1) 33 #[.int .i64 x, .int .i64 y, .slice PR n pr] ∧ Below W.heap.size W w
section
variable {w w' W : World} {f : Fm} {PA KA PR : Option Addr} {pc kc n pr : Nat} {x y : Int}
theorem how_start (f : Fm) (PA KA : Option Addr) (pc kc : Nat) (x y : Int) (PR : Option Addr) (n pr : Nat) (W : World) :
    HoW ((W.alloc (.cells #[.int .i64 f.w, .int .i64 f.h, .int .i64 f.d, .int .i64 f.c, .int .i64 f.l, .slice PA f.pal.length pc, .slice KA f.key.length kc] 38)).alloc (.cells #[.int .i64 x, .int .i64 y, .slice PR n pr] 33)) W f PA KA pc kc x y PR n pr := by
  have h := Blk.new (W.alloc (.cells #[.int .i64 f.w, .int .i64 f.h, .int .i64 f.d, .int .i64 f.c, .int .i64 f.l, .slice PA f.pal.length pc, .slice KA f.key.length kc] 38)) 33 #[.int .i64 x, .int .i64 y, .slice PR n pr]
  rw [World.size_alloc] at h
  exact ⟨(Blk.new W _ _).alloc _, h, ((Below.refl _ _).alloc (Nat.le_refl _) _).alloc (by simp) _⟩
theorem HoW.below (h : HoW w W f PA KA pc kc x y PR n pr) (hb : Below w.heap.size w w') : HoW w' W f PA KA pc kc x y PR n pr := ⟨h.1.below hb h.1.lt, h.2.1.below hb h.2.1.lt, h.2.2.trans (hb.mono h.2.2.size)⟩
end
set_option maxRecDepth 100000 in
set_option maxHeartbeats 4000000 in
theorem holds_any (f : Fm) (PA KA : Option Addr) (pc kc : Nat) (x y : Int) (PR : Option Addr) (pr : Nat) (px : List Px) (W : World) (hr : rasOk x y px = true)
    (hp : RdP W W.heap.size PA f.pal) (hk : RdI W W.heap.size KA f.key) (hpm : f.pal.length ≤ 1000000) (hkm : f.key.length ≤ 1000000) (hx : RdP W W.heap.size PR px) (hm : px.length ≤ 1000000) :
    Calls Try.prog 26 #[.agg #[.int .i64 f.w, .int .i64 f.h, .int .i64 f.d, .int .i64 f.c, .int .i64 f.l, .slice PA f.pal.length pc, .slice KA f.key.length kc], .agg #[.int .i64 x, .int .i64 y, .slice PR px.length pr]] W fun e w' => e = .returned (.bool (holdsM f x y px)) ∧ Below W.heap.size W w' := by
  have Hp := hid hp
  have Hk := hid hk
  have Hx := hid hx
  have Hw := hid (how_start f PA KA pc kc x y PR px.length pr W)
  have hr' := hr
  unfold rasOk at hr'
  simp only [Bool.and_eq_true, decide_eq_true_eq] at hr'
  obtain ⟨⟨hh, hn⟩, hs⟩ := hr'
  obtain ⟨b1, b2, b3, b4, b5, _, _⟩ := headErr_bd hh
  have b6 : 0 ≤ x * y := Int.mul_nonneg (by omega) (by omega)
  have Hs := hid hs
  have hq : ((px.length : Int) == x * y) = true := beq_iff_eq.2 hn
  clear hp hk hx hr hh hn hs
  by_cases h1 : x = f.w
  · have e1 : (x == f.w) = true := beq_iff_eq.2 h1
    by_cases h2 : y = f.h
    · have e2 : (y == f.h) = true := beq_iff_eq.2 h2
      have Hm := hid (show holdsM f x y px = fitsB f (unl px) by unfold holdsM; rw [decide_eq_true h1, decide_eq_true h2]; rfl)
      clear h1 h2
      go_enter Try.func26, Try.ntmps26
      go_upto_region 1 with (fail)
      generalize ((W.alloc (.cells #[.int .i64 f.w, .int .i64 f.h, .int .i64 f.d, .int .i64 f.c, .int .i64 f.l, .slice PA f.pal.length pc, .slice KA f.key.length kc] 38)).alloc (.cells #[.int .i64 x, .int .i64 y, .slice PR px.length pr] 33)) = w0 at *
      have Hd : Hid (HoW w0.drew W f PA KA pc kc x y PR px.length pr) := hid ⟨Hw.out.1.drew, Hw.out.2.1.drew, Hw.out.2.2.drew⟩
      have hml : (unl px).length ≤ 1000000 := Nat.le_trans (unl_len px) hm
      have q0 := Hw.out.1.cell 0
      have q1 := Hw.out.1.cell 1
      have q2 := Hw.out.1.cell 2
      have q3 := Hw.out.1.cell 3
      have q4 := Hw.out.1.cell 4
      have q5 := Hw.out.1.cell 5
      have q6 := Hw.out.1.cell 6
      simp only [List.getElem?_toArray, List.getElem?_cons_zero, List.getElem?_cons_succ] at q0 q1 q2 q3 q4 q5 q6
      have r0 := Hw.out.2.1.cell 0
      have r1 := Hw.out.2.1.cell 1
      have r2 := Hw.out.2.1.cell 2
      simp only [List.getElem?_toArray, List.getElem?_cons_zero, List.getElem?_cons_succ] at r0 r1 r2
      have hmul : IntKind.i64.wrap (x * y) = x * y := IntWalk.i64_in _ (by omega)
      first | go_region_held3 (fun w' => w'.cell? ⟨W.heap.size, 0, none⟩ = some (.int .i64 f.w) ∧ w'.cell? ⟨W.heap.size, 1, none⟩ = some (.int .i64 f.h) ∧ w'.cell? ⟨W.heap.size, 2, none⟩ = some (.int .i64 f.d) ∧ w'.cell? ⟨W.heap.size, 3, none⟩ = some (.int .i64 f.c) ∧ w'.cell? ⟨W.heap.size, 4, none⟩ = some (.int .i64 f.l) ∧ w'.cell? ⟨W.heap.size, 5, none⟩ = some (.slice PA f.pal.length pc) ∧ w'.cell? ⟨W.heap.size, 6, none⟩ = some (.slice KA f.key.length kc) ∧ w'.cell? ⟨W.heap.size + 1, 0, none⟩ = some (.int .i64 x) ∧ w'.cell? ⟨W.heap.size + 1, 1, none⟩ = some (.int .i64 y) ∧ w'.cell? ⟨W.heap.size + 1, 2, none⟩ = some (.slice PR px.length pr)) (first | go_keep | exact ⟨q0, q1, q2, q3, q4, q5, q6, r0, r1, r2⟩ | exact K1.out | exact K2.out) (first
        | (go_at_call 65; refine (unlike_any PR pr px _ (Rd.below Hx.out Hd.out.2.2 (Nat.le_refl _) |>.more Hd.out.2.2.size) hm Hs.out).mono ?_; rintro e w1 ⟨A, c, rfl, ho, hb⟩; have Hw1 := hid (Hd.out.below hb); have Ho := hid (own_rd ho); have K1 : Hid (w1.cell? ⟨W.heap.size, 0, none⟩ = some (.int .i64 f.w) ∧ w1.cell? ⟨W.heap.size, 1, none⟩ = some (.int .i64 f.h) ∧ w1.cell? ⟨W.heap.size, 2, none⟩ = some (.int .i64 f.d) ∧ w1.cell? ⟨W.heap.size, 3, none⟩ = some (.int .i64 f.c) ∧ w1.cell? ⟨W.heap.size, 4, none⟩ = some (.int .i64 f.l) ∧ w1.cell? ⟨W.heap.size, 5, none⟩ = some (.slice PA f.pal.length pc) ∧ w1.cell? ⟨W.heap.size, 6, none⟩ = some (.slice KA f.key.length kc) ∧ w1.cell? ⟨W.heap.size + 1, 0, none⟩ = some (.int .i64 x) ∧ w1.cell? ⟨W.heap.size + 1, 1, none⟩ = some (.int .i64 y) ∧ w1.cell? ⟨W.heap.size + 1, 2, none⟩ = some (.slice PR px.length pr)) := hid ⟨Hw1.out.1.cell 0, Hw1.out.1.cell 1, Hw1.out.1.cell 2, Hw1.out.1.cell 3, Hw1.out.1.cell 4, Hw1.out.1.cell 5, Hw1.out.1.cell 6, Hw1.out.2.1.cell 0, Hw1.out.2.1.cell 1, Hw1.out.2.1.cell 2⟩; clear hb ho)
        | (go_at_call 75; refine (fits_any f PA KA A pc kc c (unl px) _ (Rd.below Hp.out Hw1.out.2.2 (Nat.le_refl _) |>.more Hw1.out.2.2.size) (RdI.below Hk.out Hw1.out.2.2 (Nat.le_refl _) |>.more Hw1.out.2.2.size) hpm hkm Ho.out hml).mono ?_; rintro e2 w2 ⟨rfl, hb⟩; have Hw2 := hid (Hw1.out.below hb); have K2 : Hid (w2.cell? ⟨W.heap.size, 0, none⟩ = some (.int .i64 f.w) ∧ w2.cell? ⟨W.heap.size, 1, none⟩ = some (.int .i64 f.h) ∧ w2.cell? ⟨W.heap.size, 2, none⟩ = some (.int .i64 f.d) ∧ w2.cell? ⟨W.heap.size, 3, none⟩ = some (.int .i64 f.c) ∧ w2.cell? ⟨W.heap.size, 4, none⟩ = some (.int .i64 f.l) ∧ w2.cell? ⟨W.heap.size, 5, none⟩ = some (.slice PA f.pal.length pc) ∧ w2.cell? ⟨W.heap.size, 6, none⟩ = some (.slice KA f.key.length kc) ∧ w2.cell? ⟨W.heap.size + 1, 0, none⟩ = some (.int .i64 x) ∧ w2.cell? ⟨W.heap.size + 1, 1, none⟩ = some (.int .i64 y) ∧ w2.cell? ⟨W.heap.size + 1, 2, none⟩ = some (.slice PR px.length pr)) := hid ⟨Hw2.out.1.cell 0, Hw2.out.1.cell 1, Hw2.out.1.cell 2, Hw2.out.1.cell 3, Hw2.out.1.cell 4, Hw2.out.1.cell 5, Hw2.out.1.cell 6, Hw2.out.2.1.cell 0, Hw2.out.2.1.cell 1, Hw2.out.2.1.cell 2⟩; clear hb)) | fail
      all_goals
        go_wp2
        go_ret
        exact ⟨by rw [Hm.out]; first | done | rfl, Hw2.out.2.2⟩
    · have e2 : (y == f.h) = false := beq_eq_false_iff_ne.2 h2
      have Hm := hid (show holdsM f x y px = false by unfold holdsM; rw [decide_eq_false h2]; simp)
      clear h1 h2
      go_enter Try.func26, Try.ntmps26
      go_upto_region 1 with (fail)
      generalize ((W.alloc (.cells #[.int .i64 f.w, .int .i64 f.h, .int .i64 f.d, .int .i64 f.c, .int .i64 f.l, .slice PA f.pal.length pc, .slice KA f.key.length kc] 38)).alloc (.cells #[.int .i64 x, .int .i64 y, .slice PR px.length pr] 33)) = w0 at *
      have q0 := Hw.out.1.cell 0
      have q1 := Hw.out.1.cell 1
      have q2 := Hw.out.1.cell 2
      have q3 := Hw.out.1.cell 3
      have q4 := Hw.out.1.cell 4
      have q5 := Hw.out.1.cell 5
      have q6 := Hw.out.1.cell 6
      simp only [List.getElem?_toArray, List.getElem?_cons_zero, List.getElem?_cons_succ] at q0 q1 q2 q3 q4 q5 q6
      have r0 := Hw.out.2.1.cell 0
      have r1 := Hw.out.2.1.cell 1
      have r2 := Hw.out.2.1.cell 2
      simp only [List.getElem?_toArray, List.getElem?_cons_zero, List.getElem?_cons_succ] at r0 r1 r2
      first | go_quiet (fail) | fail
      go_wp2
      go_ret
      exact ⟨by rw [Hm.out]; first | done | rfl, below_drewN Hw.out.2.2 _⟩
  · have e1 : (x == f.w) = false := beq_eq_false_iff_ne.2 h1
    have Hm := hid (show holdsM f x y px = false by unfold holdsM; rw [decide_eq_false h1]; simp)
    clear h1
    go_enter Try.func26, Try.ntmps26
    go_upto_region 1 with (fail)
    generalize ((W.alloc (.cells #[.int .i64 f.w, .int .i64 f.h, .int .i64 f.d, .int .i64 f.c, .int .i64 f.l, .slice PA f.pal.length pc, .slice KA f.key.length kc] 38)).alloc (.cells #[.int .i64 x, .int .i64 y, .slice PR px.length pr] 33)) = w0 at *
    have q0 := Hw.out.1.cell 0
    have q1 := Hw.out.1.cell 1
    have q2 := Hw.out.1.cell 2
    have q3 := Hw.out.1.cell 3
    have q4 := Hw.out.1.cell 4
    have q5 := Hw.out.1.cell 5
    have q6 := Hw.out.1.cell 6
    simp only [List.getElem?_toArray, List.getElem?_cons_zero, List.getElem?_cons_succ] at q0 q1 q2 q3 q4 q5 q6
    have r0 := Hw.out.2.1.cell 0
    have r1 := Hw.out.2.1.cell 1
    have r2 := Hw.out.2.1.cell 2
    simp only [List.getElem?_toArray, List.getElem?_cons_zero, List.getElem?_cons_succ] at r0 r1 r2
    first | go_quiet (fail) | fail
    go_wp2
    go_ret
    exact ⟨by rw [Hm.out]; first | done | rfl, below_drewN Hw.out.2.2 _⟩

end Go.Proofs.Ytphhoihhmphbdaa
