/-
  RasterNumbers: for every form and pixel the law returns true. No condition.
-/
import Derived.Test.YtbpdkpphhjmalaaRnums
import Derived.Test.YtbpdkpphhjmalaaFlaw
namespace Go.Proofs.Ytbpdkpphhjmalaa.RasterNumbers
open Go.ChangeShapes Go.WideShapes Go.ChangeAt Go.RowKit Go.Proofs.Ytbpdkpphhjmalaa

/-- the world of the law: the boxes of what came in, and the form of the call's own in block b -/
def LN (w W : World) (f : Fm) (PA KA : Option Addr) (pc kc : Nat) (a0 a1 a2 a3 : Int) (A : Option Addr) (a g b : Nat) : Prop :=
  NuW w W 27 f PA KA pc kc a0 a1 a2 a3 ∧ Blk w b 32 #[.int .i64 f.w, .int .i64 f.h, .int .i64 f.d, .int .i64 f.c, .int .i64 f.l, .slice A f.pal.length a, .slice (some ⟨g, 0, none⟩) f.key.length (f.key.length + 1)] ∧ RdP w b A f.pal ∧ RdI w b (some ⟨g, 0, none⟩) f.key ∧ W.heap.size + 1 < b
section
variable {w w' W : World} {f : Fm} {PA KA A : Option Addr} {pc kc a g b : Nat} {a0 a1 a2 a3 : Int}
theorem ln_start (h : NuW w W 27 f PA KA pc kc a0 a1 a2 a3) (hp : RdP w w.heap.size A f.pal) (hk : RdI w w.heap.size (some ⟨g, 0, none⟩) f.key) : LN (w.alloc (.cells #[.int .i64 f.w, .int .i64 f.h, .int .i64 f.d, .int .i64 f.c, .int .i64 f.l, .slice A f.pal.length a, .slice (some ⟨g, 0, none⟩) f.key.length (f.key.length + 1)] 32)) W f PA KA pc kc a0 a1 a2 a3 A a g w.heap.size :=
  ⟨h.alloc _, Blk.new w _ _, Rd.alloc hp (Nat.le_refl _) _, hk.alloc (Nat.le_refl _) _, h.size⟩
theorem LN.below (h : LN w W f PA KA pc kc a0 a1 a2 a3 A a g b) (hb : Below w.heap.size w w') : LN w' W f PA KA pc kc a0 a1 a2 a3 A a g b := by
  obtain ⟨h1, h2, h3, h4, h5⟩ := h
  have := h2.lt
  exact ⟨h1.below hb, h2.below hb h2.lt, Rd.below h3 hb (by omega), h4.below hb (by omega), h5⟩
theorem LN.alloc (h : LN w W f PA KA pc kc a0 a1 a2 a3 A a g b) (o : Obj) : LN (w.alloc o) W f PA KA pc kc a0 a1 a2 a3 A a g b := h.below ((Below.refl _ _).alloc (Nat.le_refl _) o)
theorem LN.drewN (h : LN w W f PA KA pc kc a0 a1 a2 a3 A a g b) (n : Nat) : LN (w.drewN n) W f PA KA pc kc a0 a1 a2 a3 A a g b := h.below (below_drewN (Below.refl _ _) n)
theorem LN.rdp (h : LN w W f PA KA pc kc a0 a1 a2 a3 A a g b) : RdP w w.heap.size A f.pal := Rd.more h.2.2.1 (by have := h.2.1.lt; omega)
theorem LN.rdk (h : LN w W f PA KA pc kc a0 a1 a2 a3 A a g b) : RdI w w.heap.size (some ⟨g, 0, none⟩) f.key := h.2.2.2.1.more (by have := h.2.1.lt; omega)
end

set_option maxRecDepth 100000 in
set_option maxHeartbeats 8000000 in
theorem walk_large (f : Fm) (PA KA : Option Addr) (pc kc : Nat) (a0 a1 a2 a3 : Int) (W : World) (hlg : largeB f = true) :
    Calls Try.prog 3 #[.agg #[.int .i64 f.w, .int .i64 f.h, .int .i64 f.d, .int .i64 f.c, .int .i64 f.l, .slice PA f.pal.length pc, .slice KA f.key.length kc], .agg #[.int .i64 a0, .int .i64 a1, .int .i64 a2, .int .i64 a3]] W fun e w' => e = .returned (.bool true) ∧ Below W.heap.size W w' := by
  have HL := hid hlg
  clear hlg
  have Hw := hid (nuw_start 27 f PA KA pc kc a0 a1 a2 a3 W)
  go_enter Try.func3, Try.ntmps3
  go_wp2_with fail
  refine (alive_any _).mono ?_
  rintro e w1 ⟨rfl, hb1⟩
  have H1 := hid (Hw.out.below hb1)
  clear hb1 Hw
  have q0 := H1.out.1.cell 0
  have q1 := H1.out.1.cell 1
  have q2 := H1.out.1.cell 2
  have q3 := H1.out.1.cell 3
  have q4 := H1.out.1.cell 4
  have q5 := H1.out.1.cell 5
  have q6 := H1.out.1.cell 6
  simp only [List.getElem?_toArray, List.getElem?_cons_zero, List.getElem?_cons_succ] at q0 q1 q2 q3 q4 q5 q6
  go_wp2_with fail
  refine (large_any f PA KA pc kc _).mono ?_
  rintro e w2 ⟨rfl, hb2⟩
  have H2 := hid (H1.out.below hb2)
  clear hb2 H1
  rw [HL.out]
  clear q0 q1 q2 q3 q4 q5 q6
  go_wp2_with fail
  go_ret
  exact ⟨rfl, H2.out.2.2⟩

set_option maxRecDepth 100000 in
set_option maxHeartbeats 8000000 in
theorem walk_bad (f : Fm) (PA KA : Option Addr) (pc kc : Nat) (a0 a1 a2 a3 : Int) (W : World) (hlg : largeB f = false) (hp : RdP W W.heap.size PA f.pal) (hk : RdI W W.heap.size KA f.key) (hf : formOk f = false) :
    Calls Try.prog 3 #[.agg #[.int .i64 f.w, .int .i64 f.h, .int .i64 f.d, .int .i64 f.c, .int .i64 f.l, .slice PA f.pal.length pc, .slice KA f.key.length kc], .agg #[.int .i64 a0, .int .i64 a1, .int .i64 a2, .int .i64 a3]] W fun e w' => e = .returned (.bool true) ∧ Below W.heap.size W w' := by
  have Hp := hid hp
  have Hk := hid hk
  have Hpn := hid (fun h => rd_nil (size := 4) hp (by omega) h)
  have Hkn := hid (fun h => rd_nil (size := 1) hk (by omega) h)
  obtain ⟨hpm, hkm⟩ := large_not hlg
  have HL := hid hlg
  have Hf := hid hf
  clear hp hk hlg hf
  have Hw := hid (nuw_start 27 f PA KA pc kc a0 a1 a2 a3 W)
  go_enter Try.func3, Try.ntmps3
  go_wp2_with fail
  refine (alive_any _).mono ?_
  rintro e w1 ⟨rfl, hb1⟩
  have H1 := hid (Hw.out.below hb1)
  clear hb1 Hw
  have q0 := H1.out.1.cell 0
  have q1 := H1.out.1.cell 1
  have q2 := H1.out.1.cell 2
  have q3 := H1.out.1.cell 3
  have q4 := H1.out.1.cell 4
  have q5 := H1.out.1.cell 5
  have q6 := H1.out.1.cell 6
  simp only [List.getElem?_toArray, List.getElem?_cons_zero, List.getElem?_cons_succ] at q0 q1 q2 q3 q4 q5 q6
  go_wp2_with fail
  refine (large_any f PA KA pc kc _).mono ?_
  rintro e w2 ⟨rfl, hb2⟩
  have H2 := hid (H1.out.below hb2)
  clear hb2 H1
  rw [HL.out]
  clear q0 q1 q2 q3 q4 q5 q6
  have q0 := H2.out.1.cell 0
  have q1 := H2.out.1.cell 1
  have q2 := H2.out.1.cell 2
  have q3 := H2.out.1.cell 3
  have q4 := H2.out.1.cell 4
  have q5 := H2.out.1.cell 5
  have q6 := H2.out.1.cell 6
  simp only [List.getElem?_toArray, List.getElem?_cons_zero, List.getElem?_cons_succ] at q0 q1 q2 q3 q4 q5 q6
  go_wp2_with fail
  refine (form_any f PA KA pc kc w2 (H2.out.rdp Hp.out) (H2.out.rdi Hk.out) Hpn.out Hkn.out hpm hkm).mono ?_
  rintro e w3 ⟨A, a, g, rfl, hpp, hkk, hb3⟩
  have L3 := hid (ln_start (a := a) (H2.out.below hb3) hpp hkk)
  have P3 := hid (H2.out.below hb3)
  have g3 : W.heap.size + 1 < w3.heap.size := P3.out.size
  clear hpp hkk hb3 H2
  clear q0 q1 q2 q3 q4 q5 q6
  have p0 := P3.out.2.1.cell 0
  have p1 := P3.out.2.1.cell 1
  have p2 := P3.out.2.1.cell 2
  have p3 := P3.out.2.1.cell 3
  simp only [List.getElem?_toArray, List.getElem?_cons_zero, List.getElem?_cons_succ] at p0 p1 p2 p3
  go_wp2_with fail
  refine (fnums_any f A (some ⟨g, 0, none⟩) a (f.key.length + 1) a0 a1 a2 a3 _ L3.out.rdp L3.out.rdk hpm hkm).mono ?_
  rintro e w4 ⟨he, hb4⟩
  have L4 := hid (L3.out.below hb4)
  clear p0 p1 p2 p3
  rw [show fnumsOf f (a0, a1, a2, a3) = none by unfold fnumsOf; rw [Hf.out]; rfl] at he
  have he : e = .returned (.tuple #[.slice none 0 0, .bool false]) := he
  subst he
  clear hb4 P3
  have q0 := L4.out.1.1.cell 0
  have q1 := L4.out.1.1.cell 1
  have q2 := L4.out.1.1.cell 2
  have q3 := L4.out.1.1.cell 3
  have q4 := L4.out.1.1.cell 4
  have q5 := L4.out.1.1.cell 5
  have q6 := L4.out.1.1.cell 6
  simp only [List.getElem?_toArray, List.getElem?_cons_zero, List.getElem?_cons_succ] at q0 q1 q2 q3 q4 q5 q6
  go_wp2_with fail
  refine (good_form f PA KA pc kc _ (L4.out.1.rdp Hp.out) (L4.out.1.rdi Hk.out) hpm hkm).mono ?_
  rintro e w5 ⟨rfl, hb5⟩
  have L5 := hid (L4.out.below hb5)
  clear hb5
  rw [Hf.out]
  clear q0 q1 q2 q3 q4 q5 q6
  go_wp2_with fail
  go_ret
  exact ⟨rfl, L5.out.1.2.2⟩

set_option maxRecDepth 100000 in
set_option maxHeartbeats 8000000 in
theorem walk_none (f : Fm) (PA KA : Option Addr) (pc kc : Nat) (a0 a1 a2 a3 : Int) (W : World) (hlg : largeB f = false) (hp : RdP W W.heap.size PA f.pal) (hk : RdI W W.heap.size KA f.key) (hf : formOk f = true) (hn : numsOf f (a0, a1, a2, a3) = none) :
    Calls Try.prog 3 #[.agg #[.int .i64 f.w, .int .i64 f.h, .int .i64 f.d, .int .i64 f.c, .int .i64 f.l, .slice PA f.pal.length pc, .slice KA f.key.length kc], .agg #[.int .i64 a0, .int .i64 a1, .int .i64 a2, .int .i64 a3]] W fun e w' => e = .returned (.bool true) ∧ Below W.heap.size W w' := by
  have Hno := hid hn
  clear hn
  have Hp := hid hp
  have Hk := hid hk
  have Hpn := hid (fun h => rd_nil (size := 4) hp (by omega) h)
  have Hkn := hid (fun h => rd_nil (size := 1) hk (by omega) h)
  obtain ⟨hpm, hkm⟩ := large_not hlg
  have HL := hid hlg
  have Hf := hid hf
  clear hp hk hlg hf
  have Hw := hid (nuw_start 27 f PA KA pc kc a0 a1 a2 a3 W)
  go_enter Try.func3, Try.ntmps3
  go_wp2_with fail
  refine (alive_any _).mono ?_
  rintro e w1 ⟨rfl, hb1⟩
  have H1 := hid (Hw.out.below hb1)
  clear hb1 Hw
  have q0 := H1.out.1.cell 0
  have q1 := H1.out.1.cell 1
  have q2 := H1.out.1.cell 2
  have q3 := H1.out.1.cell 3
  have q4 := H1.out.1.cell 4
  have q5 := H1.out.1.cell 5
  have q6 := H1.out.1.cell 6
  simp only [List.getElem?_toArray, List.getElem?_cons_zero, List.getElem?_cons_succ] at q0 q1 q2 q3 q4 q5 q6
  go_wp2_with fail
  refine (large_any f PA KA pc kc _).mono ?_
  rintro e w2 ⟨rfl, hb2⟩
  have H2 := hid (H1.out.below hb2)
  clear hb2 H1
  rw [HL.out]
  clear q0 q1 q2 q3 q4 q5 q6
  have q0 := H2.out.1.cell 0
  have q1 := H2.out.1.cell 1
  have q2 := H2.out.1.cell 2
  have q3 := H2.out.1.cell 3
  have q4 := H2.out.1.cell 4
  have q5 := H2.out.1.cell 5
  have q6 := H2.out.1.cell 6
  simp only [List.getElem?_toArray, List.getElem?_cons_zero, List.getElem?_cons_succ] at q0 q1 q2 q3 q4 q5 q6
  go_wp2_with fail
  refine (form_any f PA KA pc kc w2 (H2.out.rdp Hp.out) (H2.out.rdi Hk.out) Hpn.out Hkn.out hpm hkm).mono ?_
  rintro e w3 ⟨A, a, g, rfl, hpp, hkk, hb3⟩
  have L3 := hid (ln_start (a := a) (H2.out.below hb3) hpp hkk)
  have P3 := hid (H2.out.below hb3)
  have g3 : W.heap.size + 1 < w3.heap.size := P3.out.size
  clear hpp hkk hb3 H2
  clear q0 q1 q2 q3 q4 q5 q6
  have p0 := P3.out.2.1.cell 0
  have p1 := P3.out.2.1.cell 1
  have p2 := P3.out.2.1.cell 2
  have p3 := P3.out.2.1.cell 3
  simp only [List.getElem?_toArray, List.getElem?_cons_zero, List.getElem?_cons_succ] at p0 p1 p2 p3
  go_wp2_with fail
  refine (fnums_any f A (some ⟨g, 0, none⟩) a (f.key.length + 1) a0 a1 a2 a3 _ L3.out.rdp L3.out.rdk hpm hkm).mono ?_
  rintro e w4 ⟨he, hb4⟩
  have L4 := hid (L3.out.below hb4)
  clear p0 p1 p2 p3
  rw [show fnumsOf f (a0, a1, a2, a3) = none by unfold fnumsOf; rw [Hf.out]; exact Hno.out] at he
  have he : e = .returned (.tuple #[.slice none 0 0, .bool false]) := he
  subst he
  clear hb4 P3
  have q0 := L4.out.1.1.cell 0
  have q1 := L4.out.1.1.cell 1
  have q2 := L4.out.1.1.cell 2
  have q3 := L4.out.1.1.cell 3
  have q4 := L4.out.1.1.cell 4
  have q5 := L4.out.1.1.cell 5
  have q6 := L4.out.1.1.cell 6
  simp only [List.getElem?_toArray, List.getElem?_cons_zero, List.getElem?_cons_succ] at q0 q1 q2 q3 q4 q5 q6
  go_wp2_with fail
  refine (good_form f PA KA pc kc _ (L4.out.1.rdp Hp.out) (L4.out.1.rdi Hk.out) hpm hkm).mono ?_
  rintro e w5 ⟨rfl, hb5⟩
  have L5 := hid (L4.out.below hb5)
  clear hb5
  rw [Hf.out]
  clear q0 q1 q2 q3 q4 q5 q6
  have q0 := L5.out.1.1.cell 0
  have q1 := L5.out.1.1.cell 1
  have q2 := L5.out.1.1.cell 2
  have q3 := L5.out.1.1.cell 3
  have q4 := L5.out.1.1.cell 4
  have q5 := L5.out.1.1.cell 5
  have q6 := L5.out.1.1.cell 6
  simp only [List.getElem?_toArray, List.getElem?_cons_zero, List.getElem?_cons_succ] at q0 q1 q2 q3 q4 q5 q6
  have p0 := L5.out.1.2.1.cell 0
  have p1 := L5.out.1.2.1.cell 1
  have p2 := L5.out.1.2.1.cell 2
  have p3 := L5.out.1.2.1.cell 3
  simp only [List.getElem?_toArray, List.getElem?_cons_zero, List.getElem?_cons_succ] at p0 p1 p2 p3
  go_wp2_with fail
  refine (rnums_any f PA KA pc kc a0 a1 a2 a3 _ Hf.out (L5.out.1.rdp Hp.out) (L5.out.1.rdi Hk.out) hpm).mono ?_
  rintro e w6 ⟨he6, hb6⟩
  have L6 := hid (L5.out.below hb6)
  rw [Hno.out] at he6
  have he6 : e = .returned (.tuple #[.slice none 0 0, .bool false]) := he6
  subst he6
  clear hb6
  clear q0 q1 q2 q3 q4 q5 q6
  clear p0 p1 p2 p3
  go_wp2_with fail
  refine (ints_refl none none 0 0 [] _ 0 RdI.nil RdI.nil (by simp)).mono ?_
  rintro e w7 ⟨rfl, nd, rfl⟩
  go_wp2_with fail
  go_ret
  exact ⟨rfl, (L6.out.drewN nd).1.2.2⟩

set_option maxRecDepth 100000 in
set_option maxHeartbeats 8000000 in
theorem walk_some (f : Fm) (PA KA : Option Addr) (pc kc : Nat) (a0 a1 a2 a3 : Int) (W : World) (hlg : largeB f = false) (hp : RdP W W.heap.size PA f.pal) (hk : RdI W W.heap.size KA f.key) (hf : formOk f = true) {l : List Int} (hl4 : l.length ≤ 4) (hn : numsOf f (a0, a1, a2, a3) = some l) :
    Calls Try.prog 3 #[.agg #[.int .i64 f.w, .int .i64 f.h, .int .i64 f.d, .int .i64 f.c, .int .i64 f.l, .slice PA f.pal.length pc, .slice KA f.key.length kc], .agg #[.int .i64 a0, .int .i64 a1, .int .i64 a2, .int .i64 a3]] W fun e w' => e = .returned (.bool true) ∧ Below W.heap.size W w' := by
  have Hno := hid hn
  clear hn
  have Hp := hid hp
  have Hk := hid hk
  have Hpn := hid (fun h => rd_nil (size := 4) hp (by omega) h)
  have Hkn := hid (fun h => rd_nil (size := 1) hk (by omega) h)
  obtain ⟨hpm, hkm⟩ := large_not hlg
  have HL := hid hlg
  have Hf := hid hf
  clear hp hk hlg hf
  have Hw := hid (nuw_start 27 f PA KA pc kc a0 a1 a2 a3 W)
  go_enter Try.func3, Try.ntmps3
  go_wp2_with fail
  refine (alive_any _).mono ?_
  rintro e w1 ⟨rfl, hb1⟩
  have H1 := hid (Hw.out.below hb1)
  clear hb1 Hw
  have q0 := H1.out.1.cell 0
  have q1 := H1.out.1.cell 1
  have q2 := H1.out.1.cell 2
  have q3 := H1.out.1.cell 3
  have q4 := H1.out.1.cell 4
  have q5 := H1.out.1.cell 5
  have q6 := H1.out.1.cell 6
  simp only [List.getElem?_toArray, List.getElem?_cons_zero, List.getElem?_cons_succ] at q0 q1 q2 q3 q4 q5 q6
  go_wp2_with fail
  refine (large_any f PA KA pc kc _).mono ?_
  rintro e w2 ⟨rfl, hb2⟩
  have H2 := hid (H1.out.below hb2)
  clear hb2 H1
  rw [HL.out]
  clear q0 q1 q2 q3 q4 q5 q6
  have q0 := H2.out.1.cell 0
  have q1 := H2.out.1.cell 1
  have q2 := H2.out.1.cell 2
  have q3 := H2.out.1.cell 3
  have q4 := H2.out.1.cell 4
  have q5 := H2.out.1.cell 5
  have q6 := H2.out.1.cell 6
  simp only [List.getElem?_toArray, List.getElem?_cons_zero, List.getElem?_cons_succ] at q0 q1 q2 q3 q4 q5 q6
  go_wp2_with fail
  refine (form_any f PA KA pc kc w2 (H2.out.rdp Hp.out) (H2.out.rdi Hk.out) Hpn.out Hkn.out hpm hkm).mono ?_
  rintro e w3 ⟨A, a, g, rfl, hpp, hkk, hb3⟩
  have L3 := hid (ln_start (a := a) (H2.out.below hb3) hpp hkk)
  have P3 := hid (H2.out.below hb3)
  have g3 : W.heap.size + 1 < w3.heap.size := P3.out.size
  clear hpp hkk hb3 H2
  clear q0 q1 q2 q3 q4 q5 q6
  have p0 := P3.out.2.1.cell 0
  have p1 := P3.out.2.1.cell 1
  have p2 := P3.out.2.1.cell 2
  have p3 := P3.out.2.1.cell 3
  simp only [List.getElem?_toArray, List.getElem?_cons_zero, List.getElem?_cons_succ] at p0 p1 p2 p3
  go_wp2_with fail
  refine (fnums_any f A (some ⟨g, 0, none⟩) a (f.key.length + 1) a0 a1 a2 a3 _ L3.out.rdp L3.out.rdk hpm hkm).mono ?_
  rintro e w4 ⟨he, hb4⟩
  have L4 := hid (L3.out.below hb4)
  clear p0 p1 p2 p3
  rw [show fnumsOf f (a0, a1, a2, a3) = some l by unfold fnumsOf; rw [Hf.out]; exact Hno.out] at he
  obtain ⟨NA, nc, rfl, hr4⟩ := he
  have R4 := hid hr4
  clear hb4 P3 hr4
  have q0 := L4.out.1.1.cell 0
  have q1 := L4.out.1.1.cell 1
  have q2 := L4.out.1.1.cell 2
  have q3 := L4.out.1.1.cell 3
  have q4 := L4.out.1.1.cell 4
  have q5 := L4.out.1.1.cell 5
  have q6 := L4.out.1.1.cell 6
  simp only [List.getElem?_toArray, List.getElem?_cons_zero, List.getElem?_cons_succ] at q0 q1 q2 q3 q4 q5 q6
  go_wp2_with fail
  refine (good_form f PA KA pc kc _ (L4.out.1.rdp Hp.out) (L4.out.1.rdi Hk.out) hpm hkm).mono ?_
  rintro e w5 ⟨rfl, hb5⟩
  have L5 := hid (L4.out.below hb5)
  have R5 := hid ((R4.out.below hb5 (Nat.le_refl _)).more hb5.size)
  clear hb5
  rw [Hf.out]
  clear q0 q1 q2 q3 q4 q5 q6
  have q0 := L5.out.1.1.cell 0
  have q1 := L5.out.1.1.cell 1
  have q2 := L5.out.1.1.cell 2
  have q3 := L5.out.1.1.cell 3
  have q4 := L5.out.1.1.cell 4
  have q5 := L5.out.1.1.cell 5
  have q6 := L5.out.1.1.cell 6
  simp only [List.getElem?_toArray, List.getElem?_cons_zero, List.getElem?_cons_succ] at q0 q1 q2 q3 q4 q5 q6
  have p0 := L5.out.1.2.1.cell 0
  have p1 := L5.out.1.2.1.cell 1
  have p2 := L5.out.1.2.1.cell 2
  have p3 := L5.out.1.2.1.cell 3
  simp only [List.getElem?_toArray, List.getElem?_cons_zero, List.getElem?_cons_succ] at p0 p1 p2 p3
  go_wp2_with fail
  refine (rnums_any f PA KA pc kc a0 a1 a2 a3 _ Hf.out (L5.out.1.rdp Hp.out) (L5.out.1.rdi Hk.out) hpm).mono ?_
  rintro e w6 ⟨he6, hb6⟩
  have L6 := hid (L5.out.below hb6)
  rw [Hno.out] at he6
  obtain ⟨MA, mc, rfl, hr6⟩ := he6
  have R6 := hid hr6
  have S6 := hid ((R5.out.below hb6 (Nat.le_refl _)).more hb6.size)
  clear hb6 hr6
  clear q0 q1 q2 q3 q4 q5 q6
  clear p0 p1 p2 p3
  go_wp2_with fail
  refine (ints_refl NA MA nc mc l _ _ S6.out R6.out (by omega)).mono ?_
  rintro e w7 ⟨rfl, nd, rfl⟩
  have L7 := hid (L6.out.drewN nd)
  have R7 : Hid (RdI (w6.drewN nd) (w6.drewN nd).heap.size NA l) := hid (S6.out.drewN nd)
  generalize w6.drewN nd = w7 at *
  have g7 : w3.heap.size < w7.heap.size := L7.out.2.1.lt
  have q0 := L7.out.2.1.cell 0
  have q1 := L7.out.2.1.cell 1
  have q2 := L7.out.2.1.cell 2
  have q3 := L7.out.2.1.cell 3
  have q4 := L7.out.2.1.cell 4
  have q5 := L7.out.2.1.cell 5
  have q6 := L7.out.2.1.cell 6
  simp only [List.getElem?_toArray, List.getElem?_cons_zero, List.getElem?_cons_succ] at q0 q1 q2 q3 q4 q5 q6
  go_wp2_with fail
  refine (fpixel_any f A (some ⟨g, 0, none⟩) NA a (f.key.length + 1) nc l _ L7.out.rdp L7.out.rdk hpm hkm R7.out).mono ?_
  rintro e w8 hx
  obtain ⟨rfl, hb8⟩ := pixEnd_some' hx (show fpixOf f l = some (a0, a1, a2, a3) by unfold fpixOf; rw [Hf.out, if_pos rfl]; exact nums_back Hno.out)
  have L8 := hid (L7.out.below hb8)
  clear hx hb8
  clear q0 q1 q2 q3 q4 q5 q6
  have g8 := L8.out.1.size
  have p0 := L8.out.1.2.1.cell 0
  have p1 := L8.out.1.2.1.cell 1
  have p2 := L8.out.1.2.1.cell 2
  have p3 := L8.out.1.2.1.cell 3
  simp only [List.getElem?_toArray, List.getElem?_cons_zero, List.getElem?_cons_succ] at p0 p1 p2 p3
  have hq := px_eql a0 a1 a2 a3 a0 a1 a2 a3 true (decide_eq_true rfl).symm
  go_wp2_with fail
  go_ret
  exact ⟨rfl, (L8.out.alloc _).1.2.2⟩

theorem nums_len {f : Fm} {p : Px} {l : List Int} (h : numsOf f p = some l) : l.length ≤ 4 := by
  unfold numsOf at h
  split at h
  · split at h
    · injection h with h; subst h; simp
    · cases h
  · split at h
    · split at h
      · injection h with h; subst h; have := (wide_len f.c p).2; simpa using this
      · cases h
    · cases h
theorem walk (f : Fm) (PA KA : Option Addr) (pc kc : Nat) (a0 a1 a2 a3 : Int) (W : World) (hp : RdP W W.heap.size PA f.pal) (hk : RdI W W.heap.size KA f.key) :
    Calls Try.prog 3 #[.agg #[.int .i64 f.w, .int .i64 f.h, .int .i64 f.d, .int .i64 f.c, .int .i64 f.l, .slice PA f.pal.length pc, .slice KA f.key.length kc], .agg #[.int .i64 a0, .int .i64 a1, .int .i64 a2, .int .i64 a3]] W fun e w' => e = .returned (.bool true) ∧ Below W.heap.size W w' := by
  cases hlg : largeB f
  · cases hf : formOk f
    · exact walk_bad f PA KA pc kc a0 a1 a2 a3 W hlg hp hk hf
    · cases hn : numsOf f (a0, a1, a2, a3) with
      | none => exact walk_none f PA KA pc kc a0 a1 a2 a3 W hlg hp hk hf hn
      | some l => exact walk_some f PA KA pc kc a0 a1 a2 a3 W hlg hp hk hf (nums_len hn) hn
  · exact walk_large f PA KA pc kc a0 a1 a2 a3 W hlg

set_option maxRecDepth 100000 in
theorem lifted (os : Os) (started : os.Started) (H : Type) (enc : TypeId × Value → H) :
    ReturnsInHanded {} Try.checked os 3 .any (Rows.rasterNumbersSpec.pre6 enc Try.prog Try.f3 Rows.rasterNumbersRow.domain false) (Rows.rasterNumbersSpec.post enc Try.prog Try.f3 false true false false) :=
  law_lifted own laidOut started (by kernel_rfl) Try.func3 rfl rfl Try.underlying4
    (by rw [Try.params3]; intro t ht; simp at ht; rcases ht with rfl | rfl <;> exact ⟨by kernel_rfl, of_decide_eq_true (by kernel_rfl)⟩)
    (by
      intro ds h
      match ds, h with
      | [_, _], _ => exact ⟨rfl, rfl, rfl⟩)
    (ChangeSpec.witness6 (enc := enc) (C := Try.checked) false ⟨#[], #[.agg #[.int .i64 0, .int .i64 0, .int .i64 0, .int .i64 0, .int .i64 0, .slice none 0 0, .slice none 0 0], .agg #[.int .i64 0, .int .i64 0, .int .i64 0, .int .i64 0]], []⟩ 8 (by kernel_rfl) (by kernel_rfl) (by kernel_rfl) (by kernel_rfl))
    (by
      intro W base args ds ps hval0 hA0
      have hval : ∀ (j : Nat) t v, Try.f3.params[j]? = some t → args[j]? = some v → Value.okWide Try.prog W .any base t v := hval0
      have hA : DataW.TrodAll enc Try.prog W 0 (fun _ => true) true Try.f3.params.toList args.toList ds ps := hA0
      clear hval0 hA0
      rw [Try.params3] at hA hval
      obtain ⟨v0, vs0, d0, ds0, p0, q0, hargs, rfl, rfl, h0, r0⟩ := trodAll_cons hA
      obtain ⟨v1, vs1, d1, ds1, p1, q1, rfl, rfl, rfl, h1, r1⟩ := trodAll_cons r0
      obtain ⟨rfl, rfl, rfl⟩ := trodAll_nil r1
      obtain rfl : args = #[v0, v1] := by cases args; simp_all
      obtain ⟨f, PA, KA, pc, kc, rfl, hp, hk⟩ := open_form (hval 0 27 v0 rfl rfl) h0
      obtain ⟨b0, b1, b2, b3, rfl⟩ := open_px (hval 1 29 v1 rfl rfl) h1
      exact walk f PA KA pc kc b0 b1 b2 b3 W hp hk)

theorem over : Rows.rasterNumbersRow.holds Try.pinned (OpenSpec.ofChange Rows.rasterNumbersSpec) :=
  OpenClaim.holds_of_wide 3 Try.f3 rfl rfl rfl rfl rfl rfl rfl ⟨rfl, rfl, rfl, rfl, rfl⟩ rfl rfl rfl rfl rfl (by kernel_rfl) Try.func3 (by kernel_rfl)
    (of_decide_eq_true (by kernel_rfl)) (by unfold Func.isWrapper; first | (rw [if_pos (by decide +kernel)]; kernel_rfl) | (rw [if_neg (by decide +kernel)]; exact ⟨rfl, rfl⟩))
    (fun os started H enc _ => lifted os started H enc)

theorem proved : Rows.RasterNumbersSaid := over
#print axioms proved
end Go.Proofs.Ytbpdkpphhjmalaa.RasterNumbers
