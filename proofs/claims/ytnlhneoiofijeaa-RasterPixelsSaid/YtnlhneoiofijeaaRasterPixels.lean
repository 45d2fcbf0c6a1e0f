/-
  RasterPixels: for every form and numbers the law returns true. No condition.
-/
import Derived.Test.YtnlhneoiofijeaaRsame
import Derived.Test.YtnlhneoiofijeaaErr
namespace Go.Proofs.Ytnlhneoiofijeaa.RasterPixels
open Go.ChangeShapes Go.WideShapes Go.ChangeAt Go.RowKit Go.Proofs.Ytnlhneoiofijeaa

def LW (w W : World) (f : Fm) (PA KA : Option Addr) (pc kc : Nat) : Prop := Blk w W.heap.size 99 #[.int .i64 f.w, .int .i64 f.h, .int .i64 f.d, .int .i64 f.c, .int .i64 f.l, .slice PA f.pal.length pc, .slice KA f.key.length kc] ∧ Below W.heap.size W w
def LX (w W : World) (f : Fm) (PA KA : Option Addr) (pc kc : Nat) (A : Option Addr) (a g b : Nat) : Prop :=
  Blk w W.heap.size 99 #[.int .i64 f.w, .int .i64 f.h, .int .i64 f.d, .int .i64 f.c, .int .i64 f.l, .slice PA f.pal.length pc, .slice KA f.key.length kc] ∧ Blk w b 102 #[.int .i64 f.w, .int .i64 f.h, .int .i64 f.d, .int .i64 f.c, .int .i64 f.l, .slice A f.pal.length a, .slice (some ⟨g, 0, none⟩) f.key.length (f.key.length + 1)] ∧ RdP w b A f.pal ∧ RdI w b (some ⟨g, 0, none⟩) f.key ∧ Below W.heap.size W w ∧ W.heap.size < b
theorem lw_start (f : Fm) (PA KA : Option Addr) (pc kc : Nat) (W : World) : LW (W.alloc (.cells #[.int .i64 f.w, .int .i64 f.h, .int .i64 f.d, .int .i64 f.c, .int .i64 f.l, .slice PA f.pal.length pc, .slice KA f.key.length kc] 99)) W f PA KA pc kc := ⟨Blk.new W _ _, (Below.refl _ _).alloc (Nat.le_refl _) _⟩
section
variable {w w' W : World} {f : Fm} {PA KA A : Option Addr} {pc kc a g b : Nat}
theorem LW.below (h : LW w W f PA KA pc kc) (hb : Below w.heap.size w w') : LW w' W f PA KA pc kc := ⟨h.1.below hb h.1.lt, h.2.trans (hb.mono h.2.size)⟩
theorem lx_start (h : LW w W f PA KA pc kc) (hp : RdP w w.heap.size A f.pal) (hk : RdI w w.heap.size (some ⟨g, 0, none⟩) f.key) : LX (w.alloc (.cells #[.int .i64 f.w, .int .i64 f.h, .int .i64 f.d, .int .i64 f.c, .int .i64 f.l, .slice A f.pal.length a, .slice (some ⟨g, 0, none⟩) f.key.length (f.key.length + 1)] 102)) W f PA KA pc kc A a g w.heap.size :=
  ⟨h.1.alloc _, Blk.new w _ _, Rd.alloc hp (Nat.le_refl _) _, hk.alloc (Nat.le_refl _) _, h.2.alloc h.2.size _, h.1.lt⟩
theorem LX.below (h : LX w W f PA KA pc kc A a g b) (hb : Below w.heap.size w w') : LX w' W f PA KA pc kc A a g b := by
  obtain ⟨h1, h2, h3, h4, h5, h6⟩ := h
  have := h2.lt
  exact ⟨h1.below hb h1.lt, h2.below hb h2.lt, Rd.below h3 hb (by omega), h4.below hb (by omega), h5.trans (hb.mono h5.size), h6⟩
theorem LX.alloc (h : LX w W f PA KA pc kc A a g b) (o : Obj) : LX (w.alloc o) W f PA KA pc kc A a g b := h.below ((Below.refl _ _).alloc (Nat.le_refl _) o)
theorem LX.rdp (h : LX w W f PA KA pc kc A a g b) : RdP w w.heap.size A f.pal := Rd.more h.2.2.1 (by have := h.2.1.lt; omega)
theorem LX.rdk (h : LX w W f PA KA pc kc A a g b) : RdI w w.heap.size (some ⟨g, 0, none⟩) f.key := h.2.2.2.1.more (by have := h.2.1.lt; omega)
theorem LX.rdn {NA : Option Addr} {n : List Int} (h : LX w W f PA KA pc kc A a g b) (hn : RdI W W.heap.size NA n) : RdI w w.heap.size NA n := (hn.below h.2.2.2.2.1 (Nat.le_refl _)).more h.2.2.2.2.1.size
end
theorem large_not {f : Fm} (h : largeB f = false) : f.pal.length ≤ 1000000 ∧ f.key.length ≤ 1000000 := by
  unfold largeB at h
  simp at h
  omega

set_option maxRecDepth 100000 in
set_option maxHeartbeats 8000000 in
theorem walk_large (f : Fm) (PA KA NA : Option Addr) (pc kc nc : Nat) (n : List Int) (W : World) (hlg : largeB f = true) :
    Calls Try.prog 13 #[.agg #[.int .i64 f.w, .int .i64 f.h, .int .i64 f.d, .int .i64 f.c, .int .i64 f.l, .slice PA f.pal.length pc, .slice KA f.key.length kc], .slice NA n.length nc] W fun e w' => e = .returned (.bool true) ∧ Below W.heap.size W w' := by
  have HL := hid hlg
  clear hlg
  go_enter Try.func13, Try.ntmps13
  go_wp2_with fail
  refine (alive_any _).mono ?_
  rintro e w1 ⟨rfl, hb1⟩
  have LW1 := hid (LW.below (f := f) (PA := PA) (KA := KA) (pc := pc) (kc := kc) (lw_start f PA KA pc kc W) hb1)
  clear hb1
  have q0 := LW1.out.1.cell 0
  have q1 := LW1.out.1.cell 1
  have q2 := LW1.out.1.cell 2
  have q3 := LW1.out.1.cell 3
  have q4 := LW1.out.1.cell 4
  have q5 := LW1.out.1.cell 5
  have q6 := LW1.out.1.cell 6
  simp only [List.getElem?_toArray, List.getElem?_cons_zero, List.getElem?_cons_succ] at q0 q1 q2 q3 q4 q5 q6
  go_wp2_with fail
  refine (large_any f PA KA pc kc _).mono ?_
  rintro e w2 ⟨rfl, hb2⟩
  have LW2 := hid (LW1.out.below hb2)
  clear hb2 LW1
  rw [HL.out]
  clear q0 q1 q2 q3 q4 q5 q6
  go_wp2_with fail
  go_ret
  exact ⟨rfl, LW2.out.2⟩

set_option maxRecDepth 100000 in
set_option maxHeartbeats 8000000 in
theorem walk_long (f : Fm) (PA KA NA : Option Addr) (pc kc nc : Nat) (n : List Int) (W : World) (hlg : largeB f = false) (hnl : 100 < n.length) :
    Calls Try.prog 13 #[.agg #[.int .i64 f.w, .int .i64 f.h, .int .i64 f.d, .int .i64 f.c, .int .i64 f.l, .slice PA f.pal.length pc, .slice KA f.key.length kc], .slice NA n.length nc] W fun e w' => e = .returned (.bool true) ∧ Below W.heap.size W w' := by
  have HL := hid hlg
  have dn : decide ((100 : Int) < (n.length : Int)) = true := decide_eq_true (by omega)
  clear hlg
  go_enter Try.func13, Try.ntmps13
  go_wp2_with fail
  refine (alive_any _).mono ?_
  rintro e w1 ⟨rfl, hb1⟩
  have LW1 := hid (LW.below (f := f) (PA := PA) (KA := KA) (pc := pc) (kc := kc) (lw_start f PA KA pc kc W) hb1)
  clear hb1
  have q0 := LW1.out.1.cell 0
  have q1 := LW1.out.1.cell 1
  have q2 := LW1.out.1.cell 2
  have q3 := LW1.out.1.cell 3
  have q4 := LW1.out.1.cell 4
  have q5 := LW1.out.1.cell 5
  have q6 := LW1.out.1.cell 6
  simp only [List.getElem?_toArray, List.getElem?_cons_zero, List.getElem?_cons_succ] at q0 q1 q2 q3 q4 q5 q6
  go_wp2_with fail
  refine (large_any f PA KA pc kc _).mono ?_
  rintro e w2 ⟨rfl, hb2⟩
  have LW2 := hid (LW1.out.below hb2)
  clear hb2 LW1
  rw [HL.out]
  clear q0 q1 q2 q3 q4 q5 q6
  go_wp2_with fail
  go_ret
  exact ⟨rfl, LW2.out.2⟩

set_option maxRecDepth 100000 in
set_option maxHeartbeats 8000000 in
theorem walk_bad (f : Fm) (PA KA NA : Option Addr) (pc kc nc : Nat) (n : List Int) (W : World) (hlg : largeB f = false) (hnl : n.length ≤ 100) (hp : RdP W W.heap.size PA f.pal) (hk : RdI W W.heap.size KA f.key) (hn : RdI W W.heap.size NA n) (hf : formOk f = false) :
    Calls Try.prog 13 #[.agg #[.int .i64 f.w, .int .i64 f.h, .int .i64 f.d, .int .i64 f.c, .int .i64 f.l, .slice PA f.pal.length pc, .slice KA f.key.length kc], .slice NA n.length nc] W fun e w' => e = .returned (.bool true) ∧ Below W.heap.size W w' := by
  have Hp := hid hp
  have Hk := hid hk
  have Hn := hid hn
  have Hpn := hid (fun h => rd_nil (size := 4) hp (by omega) h)
  have Hkn := hid (fun h => rd_nil (size := 1) hk (by omega) h)
  obtain ⟨hpm, hkm⟩ := large_not hlg
  have HL := hid hlg
  have Hf := hid hf
  have dn : decide ((100 : Int) < (n.length : Int)) = false := decide_eq_false (by omega)
  clear hp hk hn hlg hf
  go_enter Try.func13, Try.ntmps13
  go_wp2_with fail
  refine (alive_any _).mono ?_
  rintro e w1 ⟨rfl, hb1⟩
  have LW1 := hid (LW.below (f := f) (PA := PA) (KA := KA) (pc := pc) (kc := kc) (lw_start f PA KA pc kc W) hb1)
  clear hb1
  have q0 := LW1.out.1.cell 0
  have q1 := LW1.out.1.cell 1
  have q2 := LW1.out.1.cell 2
  have q3 := LW1.out.1.cell 3
  have q4 := LW1.out.1.cell 4
  have q5 := LW1.out.1.cell 5
  have q6 := LW1.out.1.cell 6
  simp only [List.getElem?_toArray, List.getElem?_cons_zero, List.getElem?_cons_succ] at q0 q1 q2 q3 q4 q5 q6
  go_wp2_with fail
  refine (large_any f PA KA pc kc _).mono ?_
  rintro e w2 ⟨rfl, hb2⟩
  have LW2 := hid (LW1.out.below hb2)
  clear hb2 LW1
  rw [HL.out]
  clear q0 q1 q2 q3 q4 q5 q6
  have q0 := LW2.out.1.cell 0
  have q1 := LW2.out.1.cell 1
  have q2 := LW2.out.1.cell 2
  have q3 := LW2.out.1.cell 3
  have q4 := LW2.out.1.cell 4
  have q5 := LW2.out.1.cell 5
  have q6 := LW2.out.1.cell 6
  simp only [List.getElem?_toArray, List.getElem?_cons_zero, List.getElem?_cons_succ] at q0 q1 q2 q3 q4 q5 q6
  go_wp2_with fail
  refine (form_any f PA KA pc kc w2 (Rd.more (Rd.below Hp.out LW2.out.2 (Nat.le_refl _)) LW2.out.2.size) ((Hk.out.below LW2.out.2 (Nat.le_refl _)).more LW2.out.2.size) Hpn.out Hkn.out hpm hkm).mono ?_
  rintro e w3 ⟨A, a, g, rfl, hpp, hkk, hb3⟩
  have LX3 := hid (lx_start (a := a) (LW2.out.below hb3) hpp hkk)
  have g3 : W.heap.size < w3.heap.size := Nat.lt_of_lt_of_le LW2.out.1.lt hb3.size
  clear hpp hkk hb3 LW2
  clear q0 q1 q2 q3 q4 q5 q6
  go_wp2_with fail
  refine (fpixel_any f A (some ⟨g, 0, none⟩) NA a (f.key.length + 1) nc n _ LX3.out.rdp LX3.out.rdk hpm hkm (LX3.out.rdn Hn.out)).mono ?_
  rintro e w4 hx
  obtain ⟨rfl, hx4⟩ := pixEnd_none' hx (show fpixOf f n = none by unfold fpixOf; rw [Hf.out, if_neg (by simp)])
  clear hx
  have LX4 := hid (LX3.out.below hx4)
  have LX5 := hid (LX4.out.alloc (.cells #[.int .i64 0, .int .i64 0, .int .i64 0, .int .i64 0] 105))
  have P5 := hid (Blk.new w4 105 #[.int .i64 0, .int .i64 0, .int .i64 0, .int .i64 0])
  have g4 : w3.heap.size < w4.heap.size := LX4.out.2.1.lt
  clear hx4
  have q0 := LX4.out.2.1.cell 0
  have q1 := LX4.out.2.1.cell 1
  have q2 := LX4.out.2.1.cell 2
  have q3 := LX4.out.2.1.cell 3
  have q4 := LX4.out.2.1.cell 4
  have q5 := LX4.out.2.1.cell 5
  have q6 := LX4.out.2.1.cell 6
  simp only [List.getElem?_toArray, List.getElem?_cons_zero, List.getElem?_cons_succ] at q0 q1 q2 q3 q4 q5 q6
  go_wp2_with fail
  refine (fcheck_any f A (some ⟨g, 0, none⟩) a (f.key.length + 1) _ LX5.out.rdp LX5.out.rdk hpm hkm).mono ?_
  rintro e w5 ⟨rfl, hb5⟩
  have LX6 := hid (LX5.out.below hb5)
  have P6 := hid (P5.out.below hb5 (by simp))
  have g5 : w4.heap.size < w5.heap.size := P6.out.lt
  clear hb5 LX5 P5
  rw [Hf.out]
  clear q0 q1 q2 q3 q4 q5 q6
  rw [if_neg (by simp), errv_6]
  have q0 := LX6.out.1.cell 0
  have q1 := LX6.out.1.cell 1
  have q2 := LX6.out.1.cell 2
  have q3 := LX6.out.1.cell 3
  have q4 := LX6.out.1.cell 4
  have q5 := LX6.out.1.cell 5
  have q6 := LX6.out.1.cell 6
  simp only [List.getElem?_toArray, List.getElem?_cons_zero, List.getElem?_cons_succ] at q0 q1 q2 q3 q4 q5 q6
  go_wp2_with fail
  refine (good_form f PA KA pc kc _ (Rd.more (Rd.below Hp.out LX6.out.2.2.2.2.1 (Nat.le_refl _)) LX6.out.2.2.2.2.1.size) ((Hk.out.below LX6.out.2.2.2.2.1 (Nat.le_refl _)).more LX6.out.2.2.2.2.1.size) hpm hkm).mono ?_
  rintro e w6 ⟨rfl, hb6⟩
  have LX7 := hid (LX6.out.below hb6)
  have P7 := hid (P6.out.below hb6 P6.out.lt)
  have g6 : w5.heap.size ≤ w6.heap.size := hb6.size
  clear hb6 LX6 P6
  rw [Hf.out]
  clear q0 q1 q2 q3 q4 q5 q6
  have s0 := P7.out.cell 0
  have s1 := P7.out.cell 1
  have s2 := P7.out.cell 2
  have s3 := P7.out.cell 3
  simp only [List.getElem?_toArray, List.getElem?_cons_zero, List.getElem?_cons_succ] at s0 s1 s2 s3
  go_wp2_with fail
  refine (is_no 6 6 (by omega) _).mono ?_
  rintro e w7 ⟨rfl, rfl⟩
  go_wp2_with fail
  go_ret
  exact ⟨rfl, LX7.out.2.2.2.2.1⟩

set_option maxRecDepth 100000 in
set_option maxHeartbeats 8000000 in
theorem walk_none (f : Fm) (PA KA NA : Option Addr) (pc kc nc : Nat) (n : List Int) (W : World) (hlg : largeB f = false) (hnl : n.length ≤ 100) (hp : RdP W W.heap.size PA f.pal) (hk : RdI W W.heap.size KA f.key) (hn : RdI W W.heap.size NA n) (hf : formOk f = true) (hpx : pixOf f n = none) :
    Calls Try.prog 13 #[.agg #[.int .i64 f.w, .int .i64 f.h, .int .i64 f.d, .int .i64 f.c, .int .i64 f.l, .slice PA f.pal.length pc, .slice KA f.key.length kc], .slice NA n.length nc] W fun e w' => e = .returned (.bool true) ∧ Below W.heap.size W w' := by
  have Hpx := hid hpx
  clear hpx
  have Hp := hid hp
  have Hk := hid hk
  have Hn := hid hn
  have Hpn := hid (fun h => rd_nil (size := 4) hp (by omega) h)
  have Hkn := hid (fun h => rd_nil (size := 1) hk (by omega) h)
  obtain ⟨hpm, hkm⟩ := large_not hlg
  have HL := hid hlg
  have Hf := hid hf
  have dn : decide ((100 : Int) < (n.length : Int)) = false := decide_eq_false (by omega)
  clear hp hk hn hlg hf
  go_enter Try.func13, Try.ntmps13
  go_wp2_with fail
  refine (alive_any _).mono ?_
  rintro e w1 ⟨rfl, hb1⟩
  have LW1 := hid (LW.below (f := f) (PA := PA) (KA := KA) (pc := pc) (kc := kc) (lw_start f PA KA pc kc W) hb1)
  clear hb1
  have q0 := LW1.out.1.cell 0
  have q1 := LW1.out.1.cell 1
  have q2 := LW1.out.1.cell 2
  have q3 := LW1.out.1.cell 3
  have q4 := LW1.out.1.cell 4
  have q5 := LW1.out.1.cell 5
  have q6 := LW1.out.1.cell 6
  simp only [List.getElem?_toArray, List.getElem?_cons_zero, List.getElem?_cons_succ] at q0 q1 q2 q3 q4 q5 q6
  go_wp2_with fail
  refine (large_any f PA KA pc kc _).mono ?_
  rintro e w2 ⟨rfl, hb2⟩
  have LW2 := hid (LW1.out.below hb2)
  clear hb2 LW1
  rw [HL.out]
  clear q0 q1 q2 q3 q4 q5 q6
  have q0 := LW2.out.1.cell 0
  have q1 := LW2.out.1.cell 1
  have q2 := LW2.out.1.cell 2
  have q3 := LW2.out.1.cell 3
  have q4 := LW2.out.1.cell 4
  have q5 := LW2.out.1.cell 5
  have q6 := LW2.out.1.cell 6
  simp only [List.getElem?_toArray, List.getElem?_cons_zero, List.getElem?_cons_succ] at q0 q1 q2 q3 q4 q5 q6
  go_wp2_with fail
  refine (form_any f PA KA pc kc w2 (Rd.more (Rd.below Hp.out LW2.out.2 (Nat.le_refl _)) LW2.out.2.size) ((Hk.out.below LW2.out.2 (Nat.le_refl _)).more LW2.out.2.size) Hpn.out Hkn.out hpm hkm).mono ?_
  rintro e w3 ⟨A, a, g, rfl, hpp, hkk, hb3⟩
  have LX3 := hid (lx_start (a := a) (LW2.out.below hb3) hpp hkk)
  have g3 : W.heap.size < w3.heap.size := Nat.lt_of_lt_of_le LW2.out.1.lt hb3.size
  clear hpp hkk hb3 LW2
  clear q0 q1 q2 q3 q4 q5 q6
  go_wp2_with fail
  refine (fpixel_any f A (some ⟨g, 0, none⟩) NA a (f.key.length + 1) nc n _ LX3.out.rdp LX3.out.rdk hpm hkm (LX3.out.rdn Hn.out)).mono ?_
  rintro e w4 hx
  obtain ⟨rfl, hx4⟩ := pixEnd_none' hx (show fpixOf f n = _ by unfold fpixOf; rw [Hf.out, if_pos rfl]; exact Hpx.out)
  clear hx
  have LX4 := hid (LX3.out.below hx4)
  have LX5 := hid (LX4.out.alloc (.cells #[.int .i64 0, .int .i64 0, .int .i64 0, .int .i64 0] 105))
  have P5 := hid (Blk.new w4 105 #[.int .i64 0, .int .i64 0, .int .i64 0, .int .i64 0])
  have g4 : w3.heap.size < w4.heap.size := LX4.out.2.1.lt
  clear hx4
  have q0 := LX4.out.2.1.cell 0
  have q1 := LX4.out.2.1.cell 1
  have q2 := LX4.out.2.1.cell 2
  have q3 := LX4.out.2.1.cell 3
  have q4 := LX4.out.2.1.cell 4
  have q5 := LX4.out.2.1.cell 5
  have q6 := LX4.out.2.1.cell 6
  simp only [List.getElem?_toArray, List.getElem?_cons_zero, List.getElem?_cons_succ] at q0 q1 q2 q3 q4 q5 q6
  go_wp2_with fail
  refine (fcheck_any f A (some ⟨g, 0, none⟩) a (f.key.length + 1) _ LX5.out.rdp LX5.out.rdk hpm hkm).mono ?_
  rintro e w5 ⟨rfl, hb5⟩
  have LX6 := hid (LX5.out.below hb5)
  have P6 := hid (P5.out.below hb5 (by simp))
  have g5 : w4.heap.size < w5.heap.size := P6.out.lt
  clear hb5 LX5 P5
  rw [Hf.out]
  clear q0 q1 q2 q3 q4 q5 q6
  rw [if_pos rfl, errv_0]
  have q0 := LX6.out.1.cell 0
  have q1 := LX6.out.1.cell 1
  have q2 := LX6.out.1.cell 2
  have q3 := LX6.out.1.cell 3
  have q4 := LX6.out.1.cell 4
  have q5 := LX6.out.1.cell 5
  have q6 := LX6.out.1.cell 6
  simp only [List.getElem?_toArray, List.getElem?_cons_zero, List.getElem?_cons_succ] at q0 q1 q2 q3 q4 q5 q6
  go_wp2_with fail
  refine (good_form f PA KA pc kc _ (Rd.more (Rd.below Hp.out LX6.out.2.2.2.2.1 (Nat.le_refl _)) LX6.out.2.2.2.2.1.size) ((Hk.out.below LX6.out.2.2.2.2.1 (Nat.le_refl _)).more LX6.out.2.2.2.2.1.size) hpm hkm).mono ?_
  rintro e w6 ⟨rfl, hb6⟩
  have LX7 := hid (LX6.out.below hb6)
  have P7 := hid (P6.out.below hb6 P6.out.lt)
  have g6 : w5.heap.size ≤ w6.heap.size := hb6.size
  clear hb6 LX6 P6
  rw [Hf.out]
  clear q0 q1 q2 q3 q4 q5 q6
  have q0 := LX7.out.1.cell 0
  have q1 := LX7.out.1.cell 1
  have q2 := LX7.out.1.cell 2
  have q3 := LX7.out.1.cell 3
  have q4 := LX7.out.1.cell 4
  have q5 := LX7.out.1.cell 5
  have q6 := LX7.out.1.cell 6
  simp only [List.getElem?_toArray, List.getElem?_cons_zero, List.getElem?_cons_succ] at q0 q1 q2 q3 q4 q5 q6
  go_wp2_with fail
  refine (rpixel_any f PA KA NA pc kc nc n _ Hf.out (Rd.more (Rd.below Hp.out LX7.out.2.2.2.2.1 (Nat.le_refl _)) LX7.out.2.2.2.2.1.size) ((Hk.out.below LX7.out.2.2.2.2.1 (Nat.le_refl _)).more LX7.out.2.2.2.2.1.size) ((Hn.out.below LX7.out.2.2.2.2.1 (Nat.le_refl _)).more LX7.out.2.2.2.2.1.size)).mono ?_
  rintro e w7 hy
  obtain ⟨rfl, hb7⟩ := pixEnd_none' hy Hpx.out
  have LX8 := hid (LX7.out.below hb7)
  have P8 := hid (P7.out.below hb7 P7.out.lt)
  have LX9 := hid (LX8.out.alloc (.cells #[.int .i64 0, .int .i64 0, .int .i64 0, .int .i64 0] 105))
  have g7 : w6.heap.size ≤ w7.heap.size := hb7.size
  have h0 : W.heap.size < w7.heap.size := by omega
  have h3 : w3.heap.size < w7.heap.size := by omega
  have h4 : w4.heap.size < w7.heap.size := by omega
  clear hy hb7 LX7 P7
  clear q0 q1 q2 q3 q4 q5 q6
  have q0 := LX8.out.1.cell 0
  have q1 := LX8.out.1.cell 1
  have q2 := LX8.out.1.cell 2
  have q3 := LX8.out.1.cell 3
  have q4 := LX8.out.1.cell 4
  have q5 := LX8.out.1.cell 5
  have q6 := LX8.out.1.cell 6
  simp only [List.getElem?_toArray, List.getElem?_cons_zero, List.getElem?_cons_succ] at q0 q1 q2 q3 q4 q5 q6
  have t0 := LX8.out.2.1.cell 0
  have t1 := LX8.out.2.1.cell 1
  have t2 := LX8.out.2.1.cell 2
  have t3 := LX8.out.2.1.cell 3
  have t4 := LX8.out.2.1.cell 4
  have t5 := LX8.out.2.1.cell 5
  have t6 := LX8.out.2.1.cell 6
  simp only [List.getElem?_toArray, List.getElem?_cons_zero, List.getElem?_cons_succ] at t0 t1 t2 t3 t4 t5 t6
  have s0 := P8.out.cell 0
  have s1 := P8.out.cell 1
  have s2 := P8.out.cell 2
  have s3 := P8.out.cell 3
  simp only [List.getElem?_toArray, List.getElem?_cons_zero, List.getElem?_cons_succ] at s0 s1 s2 s3
  go_wp2_with fail
  refine (fsame_any f PA KA A (some ⟨g, 0, none⟩) pc kc a (f.key.length + 1) _ (Rd.more (Rd.below Hp.out LX9.out.2.2.2.2.1 (Nat.le_refl _)) LX9.out.2.2.2.2.1.size) ((Hk.out.below LX9.out.2.2.2.2.1 (Nat.le_refl _)).more LX9.out.2.2.2.2.1.size) LX9.out.rdp LX9.out.rdk hpm hkm).mono ?_
  rintro e w8 ⟨rfl, hb8⟩
  have LX10 := hid (LX9.out.below hb8)
  clear hb8
  go_wp2_with fail
  go_ret
  exact ⟨rfl, LX10.out.2.2.2.2.1⟩

set_option maxRecDepth 100000 in
set_option maxHeartbeats 8000000 in
theorem walk_some (f : Fm) (PA KA NA : Option Addr) (pc kc nc : Nat) (n : List Int) (W : World) (hlg : largeB f = false) (hnl : n.length ≤ 100) (hp : RdP W W.heap.size PA f.pal) (hk : RdI W W.heap.size KA f.key) (hn : RdI W W.heap.size NA n) (hf : formOk f = true) {xr xg xb xa : Int} (hpx : pixOf f n = some (xr, xg, xb, xa)) :
    Calls Try.prog 13 #[.agg #[.int .i64 f.w, .int .i64 f.h, .int .i64 f.d, .int .i64 f.c, .int .i64 f.l, .slice PA f.pal.length pc, .slice KA f.key.length kc], .slice NA n.length nc] W fun e w' => e = .returned (.bool true) ∧ Below W.heap.size W w' := by
  have Hpx := hid hpx
  clear hpx
  have Hp := hid hp
  have Hk := hid hk
  have Hn := hid hn
  have Hpn := hid (fun h => rd_nil (size := 4) hp (by omega) h)
  have Hkn := hid (fun h => rd_nil (size := 1) hk (by omega) h)
  obtain ⟨hpm, hkm⟩ := large_not hlg
  have HL := hid hlg
  have Hf := hid hf
  have dn : decide ((100 : Int) < (n.length : Int)) = false := decide_eq_false (by omega)
  clear hp hk hn hlg hf
  go_enter Try.func13, Try.ntmps13
  go_wp2_with fail
  refine (alive_any _).mono ?_
  rintro e w1 ⟨rfl, hb1⟩
  have LW1 := hid (LW.below (f := f) (PA := PA) (KA := KA) (pc := pc) (kc := kc) (lw_start f PA KA pc kc W) hb1)
  clear hb1
  have q0 := LW1.out.1.cell 0
  have q1 := LW1.out.1.cell 1
  have q2 := LW1.out.1.cell 2
  have q3 := LW1.out.1.cell 3
  have q4 := LW1.out.1.cell 4
  have q5 := LW1.out.1.cell 5
  have q6 := LW1.out.1.cell 6
  simp only [List.getElem?_toArray, List.getElem?_cons_zero, List.getElem?_cons_succ] at q0 q1 q2 q3 q4 q5 q6
  go_wp2_with fail
  refine (large_any f PA KA pc kc _).mono ?_
  rintro e w2 ⟨rfl, hb2⟩
  have LW2 := hid (LW1.out.below hb2)
  clear hb2 LW1
  rw [HL.out]
  clear q0 q1 q2 q3 q4 q5 q6
  have q0 := LW2.out.1.cell 0
  have q1 := LW2.out.1.cell 1
  have q2 := LW2.out.1.cell 2
  have q3 := LW2.out.1.cell 3
  have q4 := LW2.out.1.cell 4
  have q5 := LW2.out.1.cell 5
  have q6 := LW2.out.1.cell 6
  simp only [List.getElem?_toArray, List.getElem?_cons_zero, List.getElem?_cons_succ] at q0 q1 q2 q3 q4 q5 q6
  go_wp2_with fail
  refine (form_any f PA KA pc kc w2 (Rd.more (Rd.below Hp.out LW2.out.2 (Nat.le_refl _)) LW2.out.2.size) ((Hk.out.below LW2.out.2 (Nat.le_refl _)).more LW2.out.2.size) Hpn.out Hkn.out hpm hkm).mono ?_
  rintro e w3 ⟨A, a, g, rfl, hpp, hkk, hb3⟩
  have LX3 := hid (lx_start (a := a) (LW2.out.below hb3) hpp hkk)
  have g3 : W.heap.size < w3.heap.size := Nat.lt_of_lt_of_le LW2.out.1.lt hb3.size
  clear hpp hkk hb3 LW2
  clear q0 q1 q2 q3 q4 q5 q6
  go_wp2_with fail
  refine (fpixel_any f A (some ⟨g, 0, none⟩) NA a (f.key.length + 1) nc n _ LX3.out.rdp LX3.out.rdk hpm hkm (LX3.out.rdn Hn.out)).mono ?_
  rintro e w4 hx
  obtain ⟨rfl, hx4⟩ := pixEnd_some' hx (show fpixOf f n = _ by unfold fpixOf; rw [Hf.out, if_pos rfl]; exact Hpx.out)
  clear hx
  have LX4 := hid (LX3.out.below hx4)
  have LX5 := hid (LX4.out.alloc (.cells #[.int .i64 xr, .int .i64 xg, .int .i64 xb, .int .i64 xa] 105))
  have P5 := hid (Blk.new w4 105 #[.int .i64 xr, .int .i64 xg, .int .i64 xb, .int .i64 xa])
  have g4 : w3.heap.size < w4.heap.size := LX4.out.2.1.lt
  clear hx4
  have q0 := LX4.out.2.1.cell 0
  have q1 := LX4.out.2.1.cell 1
  have q2 := LX4.out.2.1.cell 2
  have q3 := LX4.out.2.1.cell 3
  have q4 := LX4.out.2.1.cell 4
  have q5 := LX4.out.2.1.cell 5
  have q6 := LX4.out.2.1.cell 6
  simp only [List.getElem?_toArray, List.getElem?_cons_zero, List.getElem?_cons_succ] at q0 q1 q2 q3 q4 q5 q6
  go_wp2_with fail
  refine (fcheck_any f A (some ⟨g, 0, none⟩) a (f.key.length + 1) _ LX5.out.rdp LX5.out.rdk hpm hkm).mono ?_
  rintro e w5 ⟨rfl, hb5⟩
  have LX6 := hid (LX5.out.below hb5)
  have P6 := hid (P5.out.below hb5 (by simp))
  have g5 : w4.heap.size < w5.heap.size := P6.out.lt
  clear hb5 LX5 P5
  rw [Hf.out]
  clear q0 q1 q2 q3 q4 q5 q6
  rw [if_pos rfl, errv_0]
  have q0 := LX6.out.1.cell 0
  have q1 := LX6.out.1.cell 1
  have q2 := LX6.out.1.cell 2
  have q3 := LX6.out.1.cell 3
  have q4 := LX6.out.1.cell 4
  have q5 := LX6.out.1.cell 5
  have q6 := LX6.out.1.cell 6
  simp only [List.getElem?_toArray, List.getElem?_cons_zero, List.getElem?_cons_succ] at q0 q1 q2 q3 q4 q5 q6
  go_wp2_with fail
  refine (good_form f PA KA pc kc _ (Rd.more (Rd.below Hp.out LX6.out.2.2.2.2.1 (Nat.le_refl _)) LX6.out.2.2.2.2.1.size) ((Hk.out.below LX6.out.2.2.2.2.1 (Nat.le_refl _)).more LX6.out.2.2.2.2.1.size) hpm hkm).mono ?_
  rintro e w6 ⟨rfl, hb6⟩
  have LX7 := hid (LX6.out.below hb6)
  have P7 := hid (P6.out.below hb6 P6.out.lt)
  have g6 : w5.heap.size ≤ w6.heap.size := hb6.size
  clear hb6 LX6 P6
  rw [Hf.out]
  clear q0 q1 q2 q3 q4 q5 q6
  have q0 := LX7.out.1.cell 0
  have q1 := LX7.out.1.cell 1
  have q2 := LX7.out.1.cell 2
  have q3 := LX7.out.1.cell 3
  have q4 := LX7.out.1.cell 4
  have q5 := LX7.out.1.cell 5
  have q6 := LX7.out.1.cell 6
  simp only [List.getElem?_toArray, List.getElem?_cons_zero, List.getElem?_cons_succ] at q0 q1 q2 q3 q4 q5 q6
  go_wp2_with fail
  refine (rpixel_any f PA KA NA pc kc nc n _ Hf.out (Rd.more (Rd.below Hp.out LX7.out.2.2.2.2.1 (Nat.le_refl _)) LX7.out.2.2.2.2.1.size) ((Hk.out.below LX7.out.2.2.2.2.1 (Nat.le_refl _)).more LX7.out.2.2.2.2.1.size) ((Hn.out.below LX7.out.2.2.2.2.1 (Nat.le_refl _)).more LX7.out.2.2.2.2.1.size)).mono ?_
  rintro e w7 hy
  obtain ⟨rfl, hb7⟩ := pixEnd_some' hy Hpx.out
  have LX8 := hid (LX7.out.below hb7)
  have P8 := hid (P7.out.below hb7 P7.out.lt)
  have LX9 := hid (LX8.out.alloc (.cells #[.int .i64 xr, .int .i64 xg, .int .i64 xb, .int .i64 xa] 105))
  have g7 : w6.heap.size ≤ w7.heap.size := hb7.size
  have h0 : W.heap.size < w7.heap.size := by omega
  have h3 : w3.heap.size < w7.heap.size := by omega
  have h4 : w4.heap.size < w7.heap.size := by omega
  clear hy hb7 LX7 P7
  clear q0 q1 q2 q3 q4 q5 q6
  have q0 := LX8.out.1.cell 0
  have q1 := LX8.out.1.cell 1
  have q2 := LX8.out.1.cell 2
  have q3 := LX8.out.1.cell 3
  have q4 := LX8.out.1.cell 4
  have q5 := LX8.out.1.cell 5
  have q6 := LX8.out.1.cell 6
  simp only [List.getElem?_toArray, List.getElem?_cons_zero, List.getElem?_cons_succ] at q0 q1 q2 q3 q4 q5 q6
  have t0 := LX8.out.2.1.cell 0
  have t1 := LX8.out.2.1.cell 1
  have t2 := LX8.out.2.1.cell 2
  have t3 := LX8.out.2.1.cell 3
  have t4 := LX8.out.2.1.cell 4
  have t5 := LX8.out.2.1.cell 5
  have t6 := LX8.out.2.1.cell 6
  simp only [List.getElem?_toArray, List.getElem?_cons_zero, List.getElem?_cons_succ] at t0 t1 t2 t3 t4 t5 t6
  have s0 := P8.out.cell 0
  have s1 := P8.out.cell 1
  have s2 := P8.out.cell 2
  have s3 := P8.out.cell 3
  simp only [List.getElem?_toArray, List.getElem?_cons_zero, List.getElem?_cons_succ] at s0 s1 s2 s3
  go_wp2_with fail
  refine (fsame_any f PA KA A (some ⟨g, 0, none⟩) pc kc a (f.key.length + 1) _ (Rd.more (Rd.below Hp.out LX9.out.2.2.2.2.1 (Nat.le_refl _)) LX9.out.2.2.2.2.1.size) ((Hk.out.below LX9.out.2.2.2.2.1 (Nat.le_refl _)).more LX9.out.2.2.2.2.1.size) LX9.out.rdp LX9.out.rdk hpm hkm).mono ?_
  rintro e w8 ⟨rfl, hb8⟩
  have LX10 := hid (LX9.out.below hb8)
  clear hb8
  go_wp2_with fail
  go_ret
  exact ⟨rfl, LX10.out.2.2.2.2.1⟩

theorem walk (f : Fm) (PA KA NA : Option Addr) (pc kc nc : Nat) (n : List Int) (W : World) (hp : RdP W W.heap.size PA f.pal) (hk : RdI W W.heap.size KA f.key) (hn : RdI W W.heap.size NA n) :
    Calls Try.prog 13 #[.agg #[.int .i64 f.w, .int .i64 f.h, .int .i64 f.d, .int .i64 f.c, .int .i64 f.l, .slice PA f.pal.length pc, .slice KA f.key.length kc], .slice NA n.length nc] W fun e w' => e = .returned (.bool true) ∧ Below W.heap.size W w' := by
  cases hlg : largeB f
  · by_cases hnl : n.length ≤ 100
    · cases hf : formOk f
      · exact walk_bad f PA KA NA pc kc nc n W hlg hnl hp hk hn hf
      · cases hpx : pixOf f n with
        | none => exact walk_none f PA KA NA pc kc nc n W hlg hnl hp hk hn hf hpx
        | some p => exact walk_some f PA KA NA pc kc nc n W hlg hnl hp hk hn hf hpx
    · exact walk_long f PA KA NA pc kc nc n W hlg (by omega)
  · exact walk_large f PA KA NA pc kc nc n W hlg
theorem list4 {α : Type} {l : List α} (h : l.length = 4) : ∃ a b c d, l = [a, b, c, d] := by
  match l, h with
  | [a, b, c, d], _ => exact ⟨a, b, c, d, rfl⟩
theorem list7 {α : Type} {l : List α} (h : l.length = 7) : ∃ a b c d e f g, l = [a, b, c, d, e, f, g] := by
  match l, h with
  | [a, b, c, d, e, f, g], _ => exact ⟨a, b, c, d, e, f, g, rfl⟩
theorem px_of {H : Type} {enc : TypeId × Value → H} {w : World} {base : Nat} {spare : Nat → Bool} {held : Bool} (n : Nat) (cs : List Value) (y : DataW H × List MemPlace) (hl : cs.length = 4)
    (h : DataW.trod enc Try.prog w base spare held n 105 cs = some y) : ∃ t : Px, cs = encP t ∧ True := by
  have L := leaf_at 1 105 n cs y (by kernel_rfl) (by rw [hl]; kernel_rfl) h
  obtain ⟨_, _, u0, e0, t0⟩ := L 0 3 (by kernel_rfl)
  obtain ⟨_, _, u1, e1, t1⟩ := L 1 3 (by kernel_rfl)
  obtain ⟨_, _, u2, e2, t2⟩ := L 2 3 (by kernel_rfl)
  obtain ⟨_, _, u3, e3, t3⟩ := L 3 3 (by kernel_rfl)
  obtain ⟨x0, rfl, _⟩ := leaf_int Try.underlying3 t0
  obtain ⟨x1, rfl, _⟩ := leaf_int Try.underlying3 t1
  obtain ⟨x2, rfl, _⟩ := leaf_int Try.underlying3 t2
  obtain ⟨x3, rfl, _⟩ := leaf_int Try.underlying3 t3
  obtain ⟨c0, c1, c2, c3, rfl⟩ := list4 hl
  simp at e0 e1 e2 e3
  subst e0 e1 e2 e3
  exact ⟨(x0, x1, x2, x3), rfl, trivial⟩

set_option maxRecDepth 100000 in
theorem lifted (os : Os) (started : os.Started) (H : Type) (enc : TypeId × Value → H) :
    ReturnsInHanded {} Try.checked os 13 .any (Rows.rasterPixelsSpec.pre6 enc Try.prog Try.f13 Rows.rasterPixelsRow.domain false) (Rows.rasterPixelsSpec.post enc Try.prog Try.f13 false true false false) :=
  law_lifted own laidOut started (by kernel_rfl) Try.func13 rfl rfl Try.underlying4
    (by rw [Try.params13]; intro t ht; simp at ht; rcases ht with rfl | rfl <;> exact ⟨by kernel_rfl, of_decide_eq_true (by kernel_rfl)⟩)
    (by
      intro ds h
      match ds, h with
      | [_, _], _ => exact ⟨rfl, rfl, rfl⟩)
    (ChangeSpec.witness6 (enc := enc) (C := Try.checked) false ⟨#[], #[.agg #[.int .i64 0, .int .i64 0, .int .i64 0, .int .i64 0, .int .i64 0, .slice none 0 0, .slice none 0 0], .slice none 0 0], []⟩ 8 (by kernel_rfl) (by kernel_rfl) (by kernel_rfl) (by kernel_rfl))
    (by
      intro W base args ds ps hval0 hA0
      have hval : ∀ (j : Nat) t v, Try.f13.params[j]? = some t → args[j]? = some v → Value.okWide Try.prog W .any base t v := hval0
      have hA : DataW.TrodAll enc Try.prog W 0 (fun _ => true) true Try.f13.params.toList args.toList ds ps := hA0
      clear hval0 hA0
      rw [Try.params13] at hA hval
      obtain ⟨v0, vs0, d0, ds0, p0, q0, hargs, rfl, rfl, h0, r0⟩ := trodAll_cons hA
      obtain ⟨v1, vs1, d1, ds1, p1, q1, rfl, rfl, rfl, h1, r1⟩ := trodAll_cons r0
      obtain ⟨rfl, rfl, rfl⟩ := trodAll_nil r1
      obtain rfl : args = #[v0, v1] := by cases args; simp_all
      obtain ⟨cs, e, hl, L⟩ := open_agg 1 Try.underlying99 (by kernel_rfl) (hval 0 99 v0 rfl rfl) h0
      obtain ⟨_, _, u0, e0, t0⟩ := L 0 3 (by kernel_rfl)
      obtain ⟨x0, rfl, _⟩ := leaf_int Try.underlying3 t0
      obtain ⟨_, _, u1, e1, t1⟩ := L 1 3 (by kernel_rfl)
      obtain ⟨x1, rfl, _⟩ := leaf_int Try.underlying3 t1
      obtain ⟨_, _, u2, e2, t2⟩ := L 2 3 (by kernel_rfl)
      obtain ⟨x2, rfl, _⟩ := leaf_int Try.underlying3 t2
      obtain ⟨_, _, u3, e3, t3⟩ := L 3 3 (by kernel_rfl)
      obtain ⟨x3, rfl, _⟩ := leaf_int Try.underlying3 t3
      obtain ⟨_, _, u4, e4, t4⟩ := L 4 3 (by kernel_rfl)
      obtain ⟨x4, rfl, _⟩ := leaf_int Try.underlying3 t4
      obtain ⟨_, _, u5, e5, t5⟩ := L 5 97 (by kernel_rfl)
      obtain ⟨PA, pc, pal, f5, _, _, _, hp⟩ := open_slice_of encP (fun _ => True) 4 (by omega) Try.underlying97 (by kernel_rfl) px_of (fun _ => rfl) t5
      obtain ⟨_, _, u6, e6, t6⟩ := L 6 56 (by kernel_rfl)
      obtain ⟨KA, kc, key, f6, _, _, _, hk⟩ := open_slice_of encI okI 1 (by omega) Try.underlying56 (by kernel_rfl) int_of (fun _ => rfl) t6
      rw [show (leaves Try.prog (1 + 1) 99).length = 7 by kernel_rfl] at hl
      obtain ⟨c0, c1, c2, c3, c4, c5, c6, rfl⟩ := list7 hl
      simp at e0 e1 e2 e3 e4 e5 e6
      subst e0 e1 e2 e3 e4 e5 e6 f5 f6
      rw [e]
      obtain ⟨A1, n1, m1, rfl⟩ := okWide_slice Try.underlying56 (hval 1 56 v1 rfl rfl)
      obtain ⟨fuel1, hf1⟩ := h1
      obtain ⟨NA, nc, n, e1, _, _, _, hn⟩ := open_slice_of encI okI 1 (by omega) Try.underlying56 (by kernel_rfl) int_of (fun _ => rfl) (by simpa [Value.cells] using hf1)
      rw [e1]
      exact walk ⟨x0, x1, x2, x3, x4, pal, key⟩ PA KA NA pc kc nc n W hp hk hn)

theorem over : Rows.rasterPixelsRow.holds Try.pinned (OpenSpec.ofChange Rows.rasterPixelsSpec) :=
  OpenClaim.holds_of_wide 13 Try.f13 rfl rfl rfl rfl rfl rfl rfl ⟨rfl, rfl, rfl, rfl, rfl⟩ rfl rfl rfl rfl rfl (by kernel_rfl) Try.func13 (by kernel_rfl)
    (of_decide_eq_true (by kernel_rfl)) (by unfold Func.isWrapper; first | (rw [if_pos (by decide +kernel)]; kernel_rfl) | (rw [if_neg (by decide +kernel)]; exact ⟨rfl, rfl⟩))
    (fun os started H enc _ => lifted os started H enc)

theorem proved : Rows.RasterPixelsSaid := over
#print axioms proved
end Go.Proofs.Ytnlhneoiofijeaa.RasterPixels
