/-
  RasterUnpacks: for every form and bytes the law returns true. No condition.
-/
import Derived.Test.YtphhoihhmphbdaaUnpQ
import Derived.Test.YtphhoihhmphbdaaUnpB
import Derived.Test.YtphhoihhmphbdaaRs17
import Derived.Test.YtphhoihhmphbdaaBv
import Derived.Test.YtphhoihhmphbdaaOpensB
namespace Go.Proofs.Ytphhoihhmphbdaa.RasterUnpacks
open Go.ChangeShapes Go.WideShapes Go.ChangeAt Go.RowKit Go.Proofs.Ytphhoihhmphbdaa

def LW (w W : World) (f : Fm) (PA KA : Option Addr) (pc kc : Nat) : Prop := Blk w W.heap.size 27 #[.int .i64 f.w, .int .i64 f.h, .int .i64 f.d, .int .i64 f.c, .int .i64 f.l, .slice PA f.pal.length pc, .slice KA f.key.length kc] ∧ Below W.heap.size W w
theorem lw_start (f : Fm) (PA KA : Option Addr) (pc kc : Nat) (W : World) : LW (W.alloc (.cells #[.int .i64 f.w, .int .i64 f.h, .int .i64 f.d, .int .i64 f.c, .int .i64 f.l, .slice PA f.pal.length pc, .slice KA f.key.length kc] 27)) W f PA KA pc kc := ⟨Blk.new W _ _, (Below.refl _ _).alloc (Nat.le_refl _) _⟩
theorem LW.below {w w' W : World} {f : Fm} {PA KA : Option Addr} {pc kc : Nat} (h : LW w W f PA KA pc kc) (hb : Below w.heap.size w w') : LW w' W f PA KA pc kc := ⟨h.1.below hb h.1.lt, h.2.trans (hb.mono h.2.size)⟩
/-- the program's answer where the form is good but there is no raster -/
theorem unp_none {f : Fm} {PA KA A : Option Addr} {pc kc c : Nat} {l : List Int} {W : World} (hf : formOk f = true) (hp : RdP W W.heap.size PA f.pal) (hk : RdI W W.heap.size KA f.key) (hpm : f.pal.length ≤ 1000000) (hkm : f.key.length ≤ 1000000) (hnl : l.length ≤ 3000) (hc : l.length ≤ c) (hA : A = none → c = 0)
    (hr : Rd W W.heap.size 1 A l.length (bytesV l)) (hx : ∀ x ∈ l, isB x) (hn : (l.length : Int) ≠ dataM f.w f.h f.d f.c f.l ∨ unpR f l = none) :
    Calls Try.prog 9 #[.agg #[.int .i64 f.w, .int .i64 f.h, .int .i64 f.d, .int .i64 f.c, .int .i64 f.l, .slice PA f.pal.length pc, .slice KA f.key.length kc], .slice A l.length c] W (UnpErr 2 W) := by
  by_cases hd : (l.length : Int) = dataM f.w f.h f.d f.c f.l
  · have hu : unpR f l = none := hn.resolve_left (fun h => h hd)
    refine (unpack_go f PA KA A pc kc c l.length l W hf hp hk hpm hkm rfl hd (by omega) hc hA hr hx).mono fun e w' h => ?_
    obtain ⟨h1, h2⟩ := h
    rw [hu] at h2
    exact ⟨h1, h2⟩
  · exact unpack_short f PA KA A pc kc c l.length W hf hp hk hpm hkm hd
theorem runp_none {f : Fm} {PA KA A : Option Addr} {pc kc c : Nat} {l : List Int} {W : World} (hf : formOk f = true) (hp : RdP W W.heap.size PA f.pal) (hk : RdI W W.heap.size KA f.key) (hnl : l.length ≤ 3000) (hc : l.length ≤ c) (hA : A = none → c = 0)
    (hr : Rd W W.heap.size 1 A l.length (bytesV l)) (hx : ∀ x ∈ l, isB x) (hn : (l.length : Int) ≠ dataM f.w f.h f.d f.c f.l ∨ unpR f l = none) :
    Calls Try.prog 15 #[.agg #[.int .i64 f.w, .int .i64 f.h, .int .i64 f.d, .int .i64 f.c, .int .i64 f.l, .slice PA f.pal.length pc, .slice KA f.key.length kc], .slice A l.length c] W (fun e w' => e = .returned (.tuple #[.agg #[.int .i64 0, .int .i64 0, .slice none 0 0], .bool false]) ∧ Below W.heap.size W w') := by
  by_cases hd : (l.length : Int) = dataM f.w f.h f.d f.c f.l
  · have hu : unpR f l = none := hn.resolve_left (fun h => h hd)
    refine (runpack_go f PA KA A pc kc c l.length l W hf hp hk rfl hd (by omega) hc hA hr hx).mono fun e w' h => ?_
    obtain ⟨h1, h2⟩ := h
    rw [hu] at h2
    exact ⟨h2, h1⟩
  · exact runpack_short f PA KA A pc kc c l.length W (formOk_parts hf).1 hd
theorem prod_bnd {f : Fm} (hf : formOk f = true) : 0 ≤ f.w * f.h ∧ f.w * f.h ≤ 262144 ∧ wrap64 (f.w * f.h) = f.w * f.h ∧ IntKind.i64.wrap (f.w * f.h) = f.w * f.h := by
  obtain ⟨w1, w2, h1, h2, hwh, l1, l2⟩ := headErr_bnd (formOk_parts hf).1
  have h0 : 0 ≤ f.w * f.h := Int.mul_nonneg (by omega) (by omega)
  exact ⟨h0, hwh, by unfold wrap64; omega, IntWalk.i64_in _ (by omega)⟩

set_option maxRecDepth 100000 in
set_option maxHeartbeats 8000000 in
theorem walk_large (f : Fm) (PA KA DA : Option Addr) (pc kc dc : Nat) (l : List Int) (W : World) (hlg : largeB f = true) :
    Calls Try.prog 3 #[.agg #[.int .i64 f.w, .int .i64 f.h, .int .i64 f.d, .int .i64 f.c, .int .i64 f.l, .slice PA f.pal.length pc, .slice KA f.key.length kc], .slice DA l.length dc] W fun e w' => e = .returned (.bool true) ∧ Below W.heap.size W w' := by
  have HL := hid hlg
  clear hlg
  go_enter Try.func3, Try.ntmps3
  go_wp2_with fail
  refine (alive_any _).mono ?_
  rintro e w1 ⟨rfl, hb1⟩
  have LW1 := hid (LW.below (f := f) (PA := PA) (KA := KA) (pc := pc) (kc := kc) (lw_start f PA KA pc kc W) hb1)
  clear hb1
  have q0 := LW1.out.1.cell 0
  have q1 := LW1.out.1.cell 1
  have q2 := LW1.out.1.cell 2
  have q3 := LW1.out.1.cell 3
  have q4 := LW1.out.1.cell 4
  have q5 := LW1.out.1.cell 5
  have q6 := LW1.out.1.cell 6
  simp only [List.getElem?_toArray, List.getElem?_cons_zero, List.getElem?_cons_succ] at q0 q1 q2 q3 q4 q5 q6
  go_wp2_with fail
  refine (large_any f PA KA pc kc _).mono ?_
  rintro e w2 ⟨rfl, hb2⟩
  have LW2 := hid (LW1.out.below hb2)
  clear hb2 LW1
  rw [HL.out]
  clear q0 q1 q2 q3 q4 q5 q6
  go_wp2_with fail
  go_ret
  exact ⟨rfl, LW2.out.2⟩

set_option maxRecDepth 100000 in
set_option maxHeartbeats 8000000 in
theorem walk_long (f : Fm) (PA KA DA : Option Addr) (pc kc dc : Nat) (l : List Int) (W : World) (hlg : largeB f = false) (hnl : 3000 < l.length) :
    Calls Try.prog 3 #[.agg #[.int .i64 f.w, .int .i64 f.h, .int .i64 f.d, .int .i64 f.c, .int .i64 f.l, .slice PA f.pal.length pc, .slice KA f.key.length kc], .slice DA l.length dc] W fun e w' => e = .returned (.bool true) ∧ Below W.heap.size W w' := by
  have dn : decide ((3000 : Int) < (l.length : Int)) = true := decide_eq_true (by omega)
  have HL := hid hlg
  clear hlg
  go_enter Try.func3, Try.ntmps3
  go_wp2_with fail
  refine (alive_any _).mono ?_
  rintro e w1 ⟨rfl, hb1⟩
  have LW1 := hid (LW.below (f := f) (PA := PA) (KA := KA) (pc := pc) (kc := kc) (lw_start f PA KA pc kc W) hb1)
  clear hb1
  have q0 := LW1.out.1.cell 0
  have q1 := LW1.out.1.cell 1
  have q2 := LW1.out.1.cell 2
  have q3 := LW1.out.1.cell 3
  have q4 := LW1.out.1.cell 4
  have q5 := LW1.out.1.cell 5
  have q6 := LW1.out.1.cell 6
  simp only [List.getElem?_toArray, List.getElem?_cons_zero, List.getElem?_cons_succ] at q0 q1 q2 q3 q4 q5 q6
  go_wp2_with fail
  refine (large_any f PA KA pc kc _).mono ?_
  rintro e w2 ⟨rfl, hb2⟩
  have LW2 := hid (LW1.out.below hb2)
  clear hb2 LW1
  rw [HL.out]
  clear q0 q1 q2 q3 q4 q5 q6
  go_wp2_with fail
  go_ret
  exact ⟨rfl, LW2.out.2⟩

set_option maxRecDepth 100000 in
set_option maxHeartbeats 8000000 in
theorem walk_bad (f : Fm) (PA KA DA : Option Addr) (pc kc dc : Nat) (l : List Int) (W : World) (hlg : largeB f = false) (hp : RdP W W.heap.size PA f.pal) (hk : RdI W W.heap.size KA f.key) (hr : Rd W W.heap.size 1 DA l.length (bytesV l)) (hnl : l.length ≤ 3000) (hf : formOk f = false) :
    Calls Try.prog 3 #[.agg #[.int .i64 f.w, .int .i64 f.h, .int .i64 f.d, .int .i64 f.c, .int .i64 f.l, .slice PA f.pal.length pc, .slice KA f.key.length kc], .slice DA l.length dc] W fun e w' => e = .returned (.bool true) ∧ Below W.heap.size W w' := by
  have Hp := hid hp
  have Hk := hid hk
  have Hr := hid hr
  have Hpn := hid (fun h => rd_nil (size := 4) hp (by omega) h)
  have Hkn := hid (fun h => rd_nil (size := 1) hk (by omega) h)
  obtain ⟨hpm, hkm⟩ := large_not hlg
  have Hf := hid hf
  have dn : decide ((3000 : Int) < (l.length : Int)) = false := decide_eq_false (by omega)
  clear hp hk hr hf
  have HL := hid hlg
  clear hlg
  go_enter Try.func3, Try.ntmps3
  go_wp2_with fail
  refine (alive_any _).mono ?_
  rintro e w1 ⟨rfl, hb1⟩
  have LW1 := hid (LW.below (f := f) (PA := PA) (KA := KA) (pc := pc) (kc := kc) (lw_start f PA KA pc kc W) hb1)
  clear hb1
  have q0 := LW1.out.1.cell 0
  have q1 := LW1.out.1.cell 1
  have q2 := LW1.out.1.cell 2
  have q3 := LW1.out.1.cell 3
  have q4 := LW1.out.1.cell 4
  have q5 := LW1.out.1.cell 5
  have q6 := LW1.out.1.cell 6
  simp only [List.getElem?_toArray, List.getElem?_cons_zero, List.getElem?_cons_succ] at q0 q1 q2 q3 q4 q5 q6
  go_wp2_with fail
  refine (large_any f PA KA pc kc _).mono ?_
  rintro e w2 ⟨rfl, hb2⟩
  have LW2 := hid (LW1.out.below hb2)
  clear hb2 LW1
  rw [HL.out]
  clear q0 q1 q2 q3 q4 q5 q6
  go_wp2_with fail
  refine (copy_any DA dc l w2 ((Rd.below Hr.out LW2.out.2 (Nat.le_refl _)).more LW2.out.2.size) (by omega)).mono ?_
  rintro e w3 ⟨rfl, hcp, hb3⟩
  obtain ⟨gC, hgC⟩ : ∃ g, g = w2.heap.size := ⟨_, rfl⟩
  rw [← hgC] at hcp ⊢
  have LW3 := hid (LW2.out.below hb3)
  have C3 := hid hcp
  clear hb3 hcp hgC LW2
  have q0 := LW3.out.1.cell 0
  have q1 := LW3.out.1.cell 1
  have q2 := LW3.out.1.cell 2
  have q3 := LW3.out.1.cell 3
  have q4 := LW3.out.1.cell 4
  have q5 := LW3.out.1.cell 5
  have q6 := LW3.out.1.cell 6
  simp only [List.getElem?_toArray, List.getElem?_cons_zero, List.getElem?_cons_succ] at q0 q1 q2 q3 q4 q5 q6
  go_wp2_with fail
  refine (form_any f PA KA pc kc w3 ((Rd.below Hp.out LW3.out.2 (Nat.le_refl _)).more LW3.out.2.size) ((Rd.below Hk.out LW3.out.2 (Nat.le_refl _)).more LW3.out.2.size) Hpn.out Hkn.out hpm hkm).mono ?_
  rintro e w4 ⟨A2, a2, g2, rfl, hpp, hkk, hb4⟩
  have LW4 := hid (LW3.out.below hb4)
  have C4 := hid (C3.out.below hb4 C3.out.lt)
  have HPP := hid hpp
  have HKK := hid hkk
  clear hb4 hpp hkk LW3 C3
  clear q0 q1 q2 q3 q4 q5 q6
  go_wp2_with fail
  refine (unpack_form f A2 (some ⟨g2, 0, none⟩) (some ⟨gC, 0, none⟩) a2 (f.key.length + 1) (l.length + 2) l.length w4 Hf.out HPP.out HKK.out hpm hkm).mono ?_
  rintro e w5 ⟨hb5, rfl⟩
  have LW5 := hid (LW4.out.below hb5)
  have C5 := hid (C4.out.below hb5 C4.out.lt)
  have LW6 := hid (LW5.out.below ((Below.refl _ w5).alloc (Nat.le_refl _) (.cells #[.int .i64 0, .int .i64 0, .slice none 0 0] 33)))
  have C6 := hid (C5.out.alloc (.cells #[.int .i64 0, .int .i64 0, .slice none 0 0] 33))
  have R6 := hid (Blk.new w5 33 #[.int .i64 0, .int .i64 0, .slice none 0 0])
  clear hb5 LW4 C4 LW5 C5 HPP HKK
  go_wp2_with fail
  refine (kept_any DA dc gC l _ W.heap.size C6.out (Rd.below Hr.out LW6.out.2 (Nat.le_refl _)) (by omega)).mono ?_
  rintro e w6 ⟨rfl, rfl⟩
  obtain ⟨u6, hu6⟩ : ∃ u, u = w5.alloc (.cells #[.int .i64 0, .int .i64 0, .slice none 0 0] 33) := ⟨_, rfl⟩
  obtain ⟨g6, hg6⟩ : ∃ g, g = w5.heap.size := ⟨_, rfl⟩
  simp only [← hu6, ← hg6] at LW6 C6 R6 ⊢
  clear hu6 hg6
  have q0 := LW6.out.1.cell 0
  have q1 := LW6.out.1.cell 1
  have q2 := LW6.out.1.cell 2
  have q3 := LW6.out.1.cell 3
  have q4 := LW6.out.1.cell 4
  have q5 := LW6.out.1.cell 5
  have q6 := LW6.out.1.cell 6
  simp only [List.getElem?_toArray, List.getElem?_cons_zero, List.getElem?_cons_succ] at q0 q1 q2 q3 q4 q5 q6
  go_wp2_with fail
  refine (good_form f PA KA pc kc _ ((Rd.below Hp.out LW6.out.2 (Nat.le_refl _)).more LW6.out.2.size) ((Rd.below Hk.out LW6.out.2 (Nat.le_refl _)).more LW6.out.2.size) hpm hkm).mono ?_
  rintro e w7 ⟨rfl, hb7⟩
  have LW7 := hid (LW6.out.below hb7)
  have R7 := hid (R6.out.below hb7 R6.out.lt)
  clear hb7 LW6 R6 C6
  rw [Hf.out]
  clear q0 q1 q2 q3 q4 q5 q6
  have q0 := R7.out.cell 0
  have q1 := R7.out.cell 1
  have q2 := R7.out.cell 2
  simp only [List.getElem?_toArray, List.getElem?_cons_zero, List.getElem?_cons_succ] at q0 q1 q2
  go_wp2_with fail
  refine (is_no 6 6 (by omega) _).mono ?_
  rintro e w8 ⟨rfl, rfl⟩
  go_wp2_with fail
  go_ret
  exact ⟨rfl, LW7.out.2⟩

set_option maxRecDepth 100000 in
set_option maxHeartbeats 8000000 in
theorem walk_far (f : Fm) (PA KA DA : Option Addr) (pc kc dc : Nat) (l : List Int) (W : World) (hlg : largeB f = false) (hp : RdP W W.heap.size PA f.pal) (hk : RdI W W.heap.size KA f.key) (hr : Rd W W.heap.size 1 DA l.length (bytesV l)) (hnl : l.length ≤ 3000) (hx : ∀ x ∈ l, isB x) (hc : l.length ≤ dc) (hA : DA = none → dc = 0) (hf : formOk f = true) (hn : (l.length : Int) ≠ dataM f.w f.h f.d f.c f.l ∨ unpR f l = none) (h5 : 5000 < f.w * f.h) (hd : (l.length : Int) ≠ dataM f.w f.h f.d f.c f.l) :
    Calls Try.prog 3 #[.agg #[.int .i64 f.w, .int .i64 f.h, .int .i64 f.d, .int .i64 f.c, .int .i64 f.l, .slice PA f.pal.length pc, .slice KA f.key.length kc], .slice DA l.length dc] W fun e w' => e = .returned (.bool true) ∧ Below W.heap.size W w' := by
  obtain ⟨pb1, pb2, pb3, pb4⟩ := prod_bnd hf
  have HCN := hid hc
  have HAN := hid hA
  have HX := hid hx
  have Hp := hid hp
  have Hk := hid hk
  have Hr := hid hr
  have Hpn := hid (fun h => rd_nil (size := 4) hp (by omega) h)
  have Hkn := hid (fun h => rd_nil (size := 1) hk (by omega) h)
  obtain ⟨hpm, hkm⟩ := large_not hlg
  have Hf := hid hf
  have dn : decide ((3000 : Int) < (l.length : Int)) = false := decide_eq_false (by omega)
  clear hp hk hr hf hc hA hx
  have HN := hid hn
  have d5 : decide ((5000 : Int) < f.w * f.h) = true := decide_eq_true h5
  obtain ⟨dv, hdv⟩ : ∃ d, d = dataM f.w f.h f.d f.c f.l := ⟨_, rfl⟩
  have DAT := hid (fun w => rdata_any f.w f.h f.d f.c f.l (formOk_parts Hf.out).1 w)
  rw [← hdv] at DAT hd
  have dne : decide ((l.length : Int) = dv) = false := decide_eq_false hd
  have dnq : ((l.length : Int) != dv) = true := by simpa using hd
  clear hn hdv hd h5
  have HL := hid hlg
  clear hlg
  go_enter Try.func3, Try.ntmps3
  go_wp2_with fail
  refine (alive_any _).mono ?_
  rintro e w1 ⟨rfl, hb1⟩
  have LW1 := hid (LW.below (f := f) (PA := PA) (KA := KA) (pc := pc) (kc := kc) (lw_start f PA KA pc kc W) hb1)
  clear hb1
  have q0 := LW1.out.1.cell 0
  have q1 := LW1.out.1.cell 1
  have q2 := LW1.out.1.cell 2
  have q3 := LW1.out.1.cell 3
  have q4 := LW1.out.1.cell 4
  have q5 := LW1.out.1.cell 5
  have q6 := LW1.out.1.cell 6
  simp only [List.getElem?_toArray, List.getElem?_cons_zero, List.getElem?_cons_succ] at q0 q1 q2 q3 q4 q5 q6
  go_wp2_with fail
  refine (large_any f PA KA pc kc _).mono ?_
  rintro e w2 ⟨rfl, hb2⟩
  have LW2 := hid (LW1.out.below hb2)
  clear hb2 LW1
  rw [HL.out]
  clear q0 q1 q2 q3 q4 q5 q6
  go_wp2_with fail
  refine (copy_any DA dc l w2 ((Rd.below Hr.out LW2.out.2 (Nat.le_refl _)).more LW2.out.2.size) (by omega)).mono ?_
  rintro e w3 ⟨rfl, hcp, hb3⟩
  obtain ⟨gC, hgC⟩ : ∃ g, g = w2.heap.size := ⟨_, rfl⟩
  rw [← hgC] at hcp ⊢
  have LW3 := hid (LW2.out.below hb3)
  have C3 := hid hcp
  clear hb3 hcp hgC LW2
  have q0 := LW3.out.1.cell 0
  have q1 := LW3.out.1.cell 1
  have q2 := LW3.out.1.cell 2
  have q3 := LW3.out.1.cell 3
  have q4 := LW3.out.1.cell 4
  have q5 := LW3.out.1.cell 5
  have q6 := LW3.out.1.cell 6
  simp only [List.getElem?_toArray, List.getElem?_cons_zero, List.getElem?_cons_succ] at q0 q1 q2 q3 q4 q5 q6
  go_wp2_with fail
  refine (form_any f PA KA pc kc w3 ((Rd.below Hp.out LW3.out.2 (Nat.le_refl _)).more LW3.out.2.size) ((Rd.below Hk.out LW3.out.2 (Nat.le_refl _)).more LW3.out.2.size) Hpn.out Hkn.out hpm hkm).mono ?_
  rintro e w4 ⟨A2, a2, g2, rfl, hpp, hkk, hb4⟩
  have LW4 := hid (LW3.out.below hb4)
  have C4 := hid (C3.out.below hb4 C3.out.lt)
  have HPP := hid hpp
  have HKK := hid hkk
  clear hb4 hpp hkk LW3 C3
  clear q0 q1 q2 q3 q4 q5 q6
  go_wp2_with fail
  refine (unp_none (f := f) (pc := a2) (kc := f.key.length + 1) (c := l.length + 2) Hf.out HPP.out HKK.out hpm hkm hnl (by omega) (fun h => by cases h) (copyB_rd C4.out) HX.out HN.out).mono ?_
  rintro e w5 ⟨hb5, rfl⟩
  have LW5 := hid (LW4.out.below hb5)
  have C5 := hid (C4.out.below hb5 C4.out.lt)
  have LW6 := hid (LW5.out.below ((Below.refl _ w5).alloc (Nat.le_refl _) (.cells #[.int .i64 0, .int .i64 0, .slice none 0 0] 33)))
  have C6 := hid (C5.out.alloc (.cells #[.int .i64 0, .int .i64 0, .slice none 0 0] 33))
  have R6 := hid (Blk.new w5 33 #[.int .i64 0, .int .i64 0, .slice none 0 0])
  clear hb5 LW4 C4 LW5 C5 HPP HKK
  go_wp2_with fail
  refine (kept_any DA dc gC l _ W.heap.size C6.out (Rd.below Hr.out LW6.out.2 (Nat.le_refl _)) (by omega)).mono ?_
  rintro e w6 ⟨rfl, rfl⟩
  obtain ⟨u6, hu6⟩ : ∃ u, u = w5.alloc (.cells #[.int .i64 0, .int .i64 0, .slice none 0 0] 33) := ⟨_, rfl⟩
  obtain ⟨g6, hg6⟩ : ∃ g, g = w5.heap.size := ⟨_, rfl⟩
  simp only [← hu6, ← hg6] at LW6 C6 R6 ⊢
  clear hu6 hg6
  have q0 := LW6.out.1.cell 0
  have q1 := LW6.out.1.cell 1
  have q2 := LW6.out.1.cell 2
  have q3 := LW6.out.1.cell 3
  have q4 := LW6.out.1.cell 4
  have q5 := LW6.out.1.cell 5
  have q6 := LW6.out.1.cell 6
  simp only [List.getElem?_toArray, List.getElem?_cons_zero, List.getElem?_cons_succ] at q0 q1 q2 q3 q4 q5 q6
  go_wp2_with fail
  refine (good_form f PA KA pc kc _ ((Rd.below Hp.out LW6.out.2 (Nat.le_refl _)).more LW6.out.2.size) ((Rd.below Hk.out LW6.out.2 (Nat.le_refl _)).more LW6.out.2.size) hpm hkm).mono ?_
  rintro e w7 ⟨rfl, hb7⟩
  have LW7 := hid (LW6.out.below hb7)
  have R7 := hid (R6.out.below hb7 R6.out.lt)
  clear hb7 LW6 R6 C6
  rw [Hf.out]
  clear q0 q1 q2 q3 q4 q5 q6
  have q0 := LW7.out.1.cell 0
  have q1 := LW7.out.1.cell 1
  have q2 := LW7.out.1.cell 2
  have q3 := LW7.out.1.cell 3
  have q4 := LW7.out.1.cell 4
  have q5 := LW7.out.1.cell 5
  have q6 := LW7.out.1.cell 6
  simp only [List.getElem?_toArray, List.getElem?_cons_zero, List.getElem?_cons_succ] at q0 q1 q2 q3 q4 q5 q6
  go_wp2_with fail
  refine (DAT.out _).mono ?_
  rintro e w8 ⟨rfl, hb8⟩
  have LW8 := hid (LW7.out.below hb8)
  clear hb8
  go_wp2_with fail
  refine (is_no 2 2 (by omega) _).mono ?_
  rintro e w9 ⟨rfl, rfl⟩
  go_wp2_with fail
  go_ret
  exact ⟨rfl, LW8.out.2⟩

set_option maxRecDepth 100000 in
set_option maxHeartbeats 8000000 in
theorem walk_none (f : Fm) (PA KA DA : Option Addr) (pc kc dc : Nat) (l : List Int) (W : World) (hlg : largeB f = false) (hp : RdP W W.heap.size PA f.pal) (hk : RdI W W.heap.size KA f.key) (hr : Rd W W.heap.size 1 DA l.length (bytesV l)) (hnl : l.length ≤ 3000) (hx : ∀ x ∈ l, isB x) (hc : l.length ≤ dc) (hA : DA = none → dc = 0) (hf : formOk f = true) (hn : (l.length : Int) ≠ dataM f.w f.h f.d f.c f.l ∨ unpR f l = none) (h5 : ¬ 5000 < f.w * f.h) :
    Calls Try.prog 3 #[.agg #[.int .i64 f.w, .int .i64 f.h, .int .i64 f.d, .int .i64 f.c, .int .i64 f.l, .slice PA f.pal.length pc, .slice KA f.key.length kc], .slice DA l.length dc] W fun e w' => e = .returned (.bool true) ∧ Below W.heap.size W w' := by
  obtain ⟨pb1, pb2, pb3, pb4⟩ := prod_bnd hf
  have HCN := hid hc
  have HAN := hid hA
  have HX := hid hx
  have Hp := hid hp
  have Hk := hid hk
  have Hr := hid hr
  have Hpn := hid (fun h => rd_nil (size := 4) hp (by omega) h)
  have Hkn := hid (fun h => rd_nil (size := 1) hk (by omega) h)
  obtain ⟨hpm, hkm⟩ := large_not hlg
  have Hf := hid hf
  have dn : decide ((3000 : Int) < (l.length : Int)) = false := decide_eq_false (by omega)
  clear hp hk hr hf hc hA hx
  have HN := hid hn
  have d5 : decide ((5000 : Int) < f.w * f.h) = false := decide_eq_false h5
  clear h5
  clear hn
  have HL := hid hlg
  clear hlg
  go_enter Try.func3, Try.ntmps3
  go_wp2_with fail
  refine (alive_any _).mono ?_
  rintro e w1 ⟨rfl, hb1⟩
  have LW1 := hid (LW.below (f := f) (PA := PA) (KA := KA) (pc := pc) (kc := kc) (lw_start f PA KA pc kc W) hb1)
  clear hb1
  have q0 := LW1.out.1.cell 0
  have q1 := LW1.out.1.cell 1
  have q2 := LW1.out.1.cell 2
  have q3 := LW1.out.1.cell 3
  have q4 := LW1.out.1.cell 4
  have q5 := LW1.out.1.cell 5
  have q6 := LW1.out.1.cell 6
  simp only [List.getElem?_toArray, List.getElem?_cons_zero, List.getElem?_cons_succ] at q0 q1 q2 q3 q4 q5 q6
  go_wp2_with fail
  refine (large_any f PA KA pc kc _).mono ?_
  rintro e w2 ⟨rfl, hb2⟩
  have LW2 := hid (LW1.out.below hb2)
  clear hb2 LW1
  rw [HL.out]
  clear q0 q1 q2 q3 q4 q5 q6
  go_wp2_with fail
  refine (copy_any DA dc l w2 ((Rd.below Hr.out LW2.out.2 (Nat.le_refl _)).more LW2.out.2.size) (by omega)).mono ?_
  rintro e w3 ⟨rfl, hcp, hb3⟩
  obtain ⟨gC, hgC⟩ : ∃ g, g = w2.heap.size := ⟨_, rfl⟩
  rw [← hgC] at hcp ⊢
  have LW3 := hid (LW2.out.below hb3)
  have C3 := hid hcp
  clear hb3 hcp hgC LW2
  have q0 := LW3.out.1.cell 0
  have q1 := LW3.out.1.cell 1
  have q2 := LW3.out.1.cell 2
  have q3 := LW3.out.1.cell 3
  have q4 := LW3.out.1.cell 4
  have q5 := LW3.out.1.cell 5
  have q6 := LW3.out.1.cell 6
  simp only [List.getElem?_toArray, List.getElem?_cons_zero, List.getElem?_cons_succ] at q0 q1 q2 q3 q4 q5 q6
  go_wp2_with fail
  refine (form_any f PA KA pc kc w3 ((Rd.below Hp.out LW3.out.2 (Nat.le_refl _)).more LW3.out.2.size) ((Rd.below Hk.out LW3.out.2 (Nat.le_refl _)).more LW3.out.2.size) Hpn.out Hkn.out hpm hkm).mono ?_
  rintro e w4 ⟨A2, a2, g2, rfl, hpp, hkk, hb4⟩
  have LW4 := hid (LW3.out.below hb4)
  have C4 := hid (C3.out.below hb4 C3.out.lt)
  have HPP := hid hpp
  have HKK := hid hkk
  clear hb4 hpp hkk LW3 C3
  clear q0 q1 q2 q3 q4 q5 q6
  go_wp2_with fail
  refine (unp_none (f := f) (pc := a2) (kc := f.key.length + 1) (c := l.length + 2) Hf.out HPP.out HKK.out hpm hkm hnl (by omega) (fun h => by cases h) (copyB_rd C4.out) HX.out HN.out).mono ?_
  rintro e w5 ⟨hb5, rfl⟩
  have LW5 := hid (LW4.out.below hb5)
  have C5 := hid (C4.out.below hb5 C4.out.lt)
  have LW6 := hid (LW5.out.below ((Below.refl _ w5).alloc (Nat.le_refl _) (.cells #[.int .i64 0, .int .i64 0, .slice none 0 0] 33)))
  have C6 := hid (C5.out.alloc (.cells #[.int .i64 0, .int .i64 0, .slice none 0 0] 33))
  have R6 := hid (Blk.new w5 33 #[.int .i64 0, .int .i64 0, .slice none 0 0])
  clear hb5 LW4 C4 LW5 C5 HPP HKK
  go_wp2_with fail
  refine (kept_any DA dc gC l _ W.heap.size C6.out (Rd.below Hr.out LW6.out.2 (Nat.le_refl _)) (by omega)).mono ?_
  rintro e w6 ⟨rfl, rfl⟩
  obtain ⟨u6, hu6⟩ : ∃ u, u = w5.alloc (.cells #[.int .i64 0, .int .i64 0, .slice none 0 0] 33) := ⟨_, rfl⟩
  obtain ⟨g6, hg6⟩ : ∃ g, g = w5.heap.size := ⟨_, rfl⟩
  simp only [← hu6, ← hg6] at LW6 C6 R6 ⊢
  clear hu6 hg6
  have q0 := LW6.out.1.cell 0
  have q1 := LW6.out.1.cell 1
  have q2 := LW6.out.1.cell 2
  have q3 := LW6.out.1.cell 3
  have q4 := LW6.out.1.cell 4
  have q5 := LW6.out.1.cell 5
  have q6 := LW6.out.1.cell 6
  simp only [List.getElem?_toArray, List.getElem?_cons_zero, List.getElem?_cons_succ] at q0 q1 q2 q3 q4 q5 q6
  go_wp2_with fail
  refine (good_form f PA KA pc kc _ ((Rd.below Hp.out LW6.out.2 (Nat.le_refl _)).more LW6.out.2.size) ((Rd.below Hk.out LW6.out.2 (Nat.le_refl _)).more LW6.out.2.size) hpm hkm).mono ?_
  rintro e w7 ⟨rfl, hb7⟩
  have LW7 := hid (LW6.out.below hb7)
  have R7 := hid (R6.out.below hb7 R6.out.lt)
  clear hb7 LW6 R6 C6
  rw [Hf.out]
  clear q0 q1 q2 q3 q4 q5 q6
  have q0 := LW7.out.1.cell 0
  have q1 := LW7.out.1.cell 1
  have q2 := LW7.out.1.cell 2
  have q3 := LW7.out.1.cell 3
  have q4 := LW7.out.1.cell 4
  have q5 := LW7.out.1.cell 5
  have q6 := LW7.out.1.cell 6
  simp only [List.getElem?_toArray, List.getElem?_cons_zero, List.getElem?_cons_succ] at q0 q1 q2 q3 q4 q5 q6
  have LW8 := LW7
  have R8 := R7
  clear LW7 R7
  go_wp2_with fail
  refine (runp_none (f := f) (pc := pc) (kc := kc) (c := dc) Hf.out ((Rd.below Hp.out LW8.out.2 (Nat.le_refl _)).more LW8.out.2.size) ((Rd.below Hk.out LW8.out.2 (Nat.le_refl _)).more LW8.out.2.size) hnl HCN.out HAN.out ((Rd.below Hr.out LW8.out.2 (Nat.le_refl _)).more LW8.out.2.size) HX.out HN.out).mono ?_
  rintro e w8 ⟨rfl, hb8⟩
  have LW8 := hid (LW8.out.below hb8)
  have R8 := hid (R8.out.below hb8 R8.out.lt)
  clear hb8
  clear q0 q1 q2 q3 q4 q5 q6
  have LW9 := hid (LW8.out.below ((Below.refl _ w8).alloc (Nat.le_refl _) (.cells #[.int .i64 0, .int .i64 0, .slice none 0 0] 33)))
  have R9 := hid (R8.out.alloc (.cells #[.int .i64 0, .int .i64 0, .slice none 0 0] 33))
  have S9 := hid (Blk.new w8 33 #[.int .i64 0, .int .i64 0, .slice none 0 0])
  obtain ⟨u9, hu9⟩ : ∃ u, u = w8.alloc (.cells #[.int .i64 0, .int .i64 0, .slice none 0 0] 33) := ⟨_, rfl⟩
  obtain ⟨g9, hg9⟩ : ∃ g, g = w8.heap.size := ⟨_, rfl⟩
  go_upto_region 14 with (fail)
  simp only [← hu9, ← hg9] at LW9 R9 S9 ⊢
  clear hu9 hg9 LW8 R8
  have r0 := R9.out.cell 0
  have r1 := R9.out.cell 1
  have r2 := R9.out.cell 2
  simp only [List.getElem?_toArray, List.getElem?_cons_zero, List.getElem?_cons_succ] at r0 r1 r2
  have s0 := S9.out.cell 0
  have s1 := S9.out.cell 1
  have s2 := S9.out.cell 2
  simp only [List.getElem?_toArray, List.getElem?_cons_zero, List.getElem?_cons_succ] at s0 s1 s2
  go_wp2_with fail
  refine (rsame17_any 0 0 none none 0 0 [] _ Rd.nil Rd.nil (by simp)).mono ?_
  rintro e w10 ⟨rfl, hb10⟩
  have LW10 := hid (LW9.out.below hb10)
  clear hb10
  go_wp2_with fail
  refine (is_no 2 2 (by omega) _).mono ?_
  rintro e w11 ⟨rfl, rfl⟩
  go_wp2_with fail
  go_ret
  exact ⟨rfl, LW10.out.2⟩

set_option maxRecDepth 100000 in
set_option maxHeartbeats 8000000 in
theorem walk_none5 (f : Fm) (PA KA DA : Option Addr) (pc kc dc : Nat) (l : List Int) (W : World) (hlg : largeB f = false) (hp : RdP W W.heap.size PA f.pal) (hk : RdI W W.heap.size KA f.key) (hr : Rd W W.heap.size 1 DA l.length (bytesV l)) (hnl : l.length ≤ 3000) (hx : ∀ x ∈ l, isB x) (hc : l.length ≤ dc) (hA : DA = none → dc = 0) (hf : formOk f = true) (hn : (l.length : Int) ≠ dataM f.w f.h f.d f.c f.l ∨ unpR f l = none) (h5 : 5000 < f.w * f.h) (hd : (l.length : Int) = dataM f.w f.h f.d f.c f.l) :
    Calls Try.prog 3 #[.agg #[.int .i64 f.w, .int .i64 f.h, .int .i64 f.d, .int .i64 f.c, .int .i64 f.l, .slice PA f.pal.length pc, .slice KA f.key.length kc], .slice DA l.length dc] W fun e w' => e = .returned (.bool true) ∧ Below W.heap.size W w' := by
  obtain ⟨pb1, pb2, pb3, pb4⟩ := prod_bnd hf
  have HCN := hid hc
  have HAN := hid hA
  have HX := hid hx
  have Hp := hid hp
  have Hk := hid hk
  have Hr := hid hr
  have Hpn := hid (fun h => rd_nil (size := 4) hp (by omega) h)
  have Hkn := hid (fun h => rd_nil (size := 1) hk (by omega) h)
  obtain ⟨hpm, hkm⟩ := large_not hlg
  have Hf := hid hf
  have dn : decide ((3000 : Int) < (l.length : Int)) = false := decide_eq_false (by omega)
  clear hp hk hr hf hc hA hx
  have HN := hid hn
  have d5 : decide ((5000 : Int) < f.w * f.h) = true := decide_eq_true h5
  obtain ⟨dv, hdv⟩ : ∃ d, d = dataM f.w f.h f.d f.c f.l := ⟨_, rfl⟩
  have DAT := hid (fun w => rdata_any f.w f.h f.d f.c f.l (formOk_parts Hf.out).1 w)
  rw [← hdv] at DAT hd
  have HD := hid hd
  have dne : decide ((l.length : Int) = dv) = true := decide_eq_true hd
  have dnq : ((l.length : Int) != dv) = false := by simpa using hd
  clear hdv hd h5
  clear hn
  have HL := hid hlg
  clear hlg
  go_enter Try.func3, Try.ntmps3
  go_wp2_with fail
  refine (alive_any _).mono ?_
  rintro e w1 ⟨rfl, hb1⟩
  have LW1 := hid (LW.below (f := f) (PA := PA) (KA := KA) (pc := pc) (kc := kc) (lw_start f PA KA pc kc W) hb1)
  clear hb1
  have q0 := LW1.out.1.cell 0
  have q1 := LW1.out.1.cell 1
  have q2 := LW1.out.1.cell 2
  have q3 := LW1.out.1.cell 3
  have q4 := LW1.out.1.cell 4
  have q5 := LW1.out.1.cell 5
  have q6 := LW1.out.1.cell 6
  simp only [List.getElem?_toArray, List.getElem?_cons_zero, List.getElem?_cons_succ] at q0 q1 q2 q3 q4 q5 q6
  go_wp2_with fail
  refine (large_any f PA KA pc kc _).mono ?_
  rintro e w2 ⟨rfl, hb2⟩
  have LW2 := hid (LW1.out.below hb2)
  clear hb2 LW1
  rw [HL.out]
  clear q0 q1 q2 q3 q4 q5 q6
  go_wp2_with fail
  refine (copy_any DA dc l w2 ((Rd.below Hr.out LW2.out.2 (Nat.le_refl _)).more LW2.out.2.size) (by omega)).mono ?_
  rintro e w3 ⟨rfl, hcp, hb3⟩
  obtain ⟨gC, hgC⟩ : ∃ g, g = w2.heap.size := ⟨_, rfl⟩
  rw [← hgC] at hcp ⊢
  have LW3 := hid (LW2.out.below hb3)
  have C3 := hid hcp
  clear hb3 hcp hgC LW2
  have q0 := LW3.out.1.cell 0
  have q1 := LW3.out.1.cell 1
  have q2 := LW3.out.1.cell 2
  have q3 := LW3.out.1.cell 3
  have q4 := LW3.out.1.cell 4
  have q5 := LW3.out.1.cell 5
  have q6 := LW3.out.1.cell 6
  simp only [List.getElem?_toArray, List.getElem?_cons_zero, List.getElem?_cons_succ] at q0 q1 q2 q3 q4 q5 q6
  go_wp2_with fail
  refine (form_any f PA KA pc kc w3 ((Rd.below Hp.out LW3.out.2 (Nat.le_refl _)).more LW3.out.2.size) ((Rd.below Hk.out LW3.out.2 (Nat.le_refl _)).more LW3.out.2.size) Hpn.out Hkn.out hpm hkm).mono ?_
  rintro e w4 ⟨A2, a2, g2, rfl, hpp, hkk, hb4⟩
  have LW4 := hid (LW3.out.below hb4)
  have C4 := hid (C3.out.below hb4 C3.out.lt)
  have HPP := hid hpp
  have HKK := hid hkk
  clear hb4 hpp hkk LW3 C3
  clear q0 q1 q2 q3 q4 q5 q6
  go_wp2_with fail
  refine (unp_none (f := f) (pc := a2) (kc := f.key.length + 1) (c := l.length + 2) Hf.out HPP.out HKK.out hpm hkm hnl (by omega) (fun h => by cases h) (copyB_rd C4.out) HX.out HN.out).mono ?_
  rintro e w5 ⟨hb5, rfl⟩
  have LW5 := hid (LW4.out.below hb5)
  have C5 := hid (C4.out.below hb5 C4.out.lt)
  have LW6 := hid (LW5.out.below ((Below.refl _ w5).alloc (Nat.le_refl _) (.cells #[.int .i64 0, .int .i64 0, .slice none 0 0] 33)))
  have C6 := hid (C5.out.alloc (.cells #[.int .i64 0, .int .i64 0, .slice none 0 0] 33))
  have R6 := hid (Blk.new w5 33 #[.int .i64 0, .int .i64 0, .slice none 0 0])
  clear hb5 LW4 C4 LW5 C5 HPP HKK
  go_wp2_with fail
  refine (kept_any DA dc gC l _ W.heap.size C6.out (Rd.below Hr.out LW6.out.2 (Nat.le_refl _)) (by omega)).mono ?_
  rintro e w6 ⟨rfl, rfl⟩
  obtain ⟨u6, hu6⟩ : ∃ u, u = w5.alloc (.cells #[.int .i64 0, .int .i64 0, .slice none 0 0] 33) := ⟨_, rfl⟩
  obtain ⟨g6, hg6⟩ : ∃ g, g = w5.heap.size := ⟨_, rfl⟩
  simp only [← hu6, ← hg6] at LW6 C6 R6 ⊢
  clear hu6 hg6
  have q0 := LW6.out.1.cell 0
  have q1 := LW6.out.1.cell 1
  have q2 := LW6.out.1.cell 2
  have q3 := LW6.out.1.cell 3
  have q4 := LW6.out.1.cell 4
  have q5 := LW6.out.1.cell 5
  have q6 := LW6.out.1.cell 6
  simp only [List.getElem?_toArray, List.getElem?_cons_zero, List.getElem?_cons_succ] at q0 q1 q2 q3 q4 q5 q6
  go_wp2_with fail
  refine (good_form f PA KA pc kc _ ((Rd.below Hp.out LW6.out.2 (Nat.le_refl _)).more LW6.out.2.size) ((Rd.below Hk.out LW6.out.2 (Nat.le_refl _)).more LW6.out.2.size) hpm hkm).mono ?_
  rintro e w7 ⟨rfl, hb7⟩
  have LW7 := hid (LW6.out.below hb7)
  have R7 := hid (R6.out.below hb7 R6.out.lt)
  clear hb7 LW6 R6 C6
  rw [Hf.out]
  clear q0 q1 q2 q3 q4 q5 q6
  have q0 := LW7.out.1.cell 0
  have q1 := LW7.out.1.cell 1
  have q2 := LW7.out.1.cell 2
  have q3 := LW7.out.1.cell 3
  have q4 := LW7.out.1.cell 4
  have q5 := LW7.out.1.cell 5
  have q6 := LW7.out.1.cell 6
  simp only [List.getElem?_toArray, List.getElem?_cons_zero, List.getElem?_cons_succ] at q0 q1 q2 q3 q4 q5 q6
  go_wp2_with fail
  refine (DAT.out _).mono ?_
  rintro e w8 ⟨rfl, hb8⟩
  have LW8 := hid (LW7.out.below hb8)
  have R8 := hid (R7.out.below hb8 R7.out.lt)
  clear hb8 LW7 R7
  clear q0 q1 q2 q3 q4 q5 q6
  have q0 := LW8.out.1.cell 0
  have q1 := LW8.out.1.cell 1
  have q2 := LW8.out.1.cell 2
  have q3 := LW8.out.1.cell 3
  have q4 := LW8.out.1.cell 4
  have q5 := LW8.out.1.cell 5
  have q6 := LW8.out.1.cell 6
  simp only [List.getElem?_toArray, List.getElem?_cons_zero, List.getElem?_cons_succ] at q0 q1 q2 q3 q4 q5 q6
  go_wp2_with fail
  refine (runp_none (f := f) (pc := pc) (kc := kc) (c := dc) Hf.out ((Rd.below Hp.out LW8.out.2 (Nat.le_refl _)).more LW8.out.2.size) ((Rd.below Hk.out LW8.out.2 (Nat.le_refl _)).more LW8.out.2.size) hnl HCN.out HAN.out ((Rd.below Hr.out LW8.out.2 (Nat.le_refl _)).more LW8.out.2.size) HX.out HN.out).mono ?_
  rintro e w8 ⟨rfl, hb8⟩
  have LW8 := hid (LW8.out.below hb8)
  have R8 := hid (R8.out.below hb8 R8.out.lt)
  clear hb8
  clear q0 q1 q2 q3 q4 q5 q6
  have LW9 := hid (LW8.out.below ((Below.refl _ w8).alloc (Nat.le_refl _) (.cells #[.int .i64 0, .int .i64 0, .slice none 0 0] 33)))
  have R9 := hid (R8.out.alloc (.cells #[.int .i64 0, .int .i64 0, .slice none 0 0] 33))
  have S9 := hid (Blk.new w8 33 #[.int .i64 0, .int .i64 0, .slice none 0 0])
  obtain ⟨u9, hu9⟩ : ∃ u, u = w8.alloc (.cells #[.int .i64 0, .int .i64 0, .slice none 0 0] 33) := ⟨_, rfl⟩
  obtain ⟨g9, hg9⟩ : ∃ g, g = w8.heap.size := ⟨_, rfl⟩
  go_upto_region 14 with (fail)
  simp only [← hu9, ← hg9] at LW9 R9 S9 ⊢
  clear hu9 hg9 LW8 R8
  have r0 := R9.out.cell 0
  have r1 := R9.out.cell 1
  have r2 := R9.out.cell 2
  simp only [List.getElem?_toArray, List.getElem?_cons_zero, List.getElem?_cons_succ] at r0 r1 r2
  have s0 := S9.out.cell 0
  have s1 := S9.out.cell 1
  have s2 := S9.out.cell 2
  simp only [List.getElem?_toArray, List.getElem?_cons_zero, List.getElem?_cons_succ] at s0 s1 s2
  go_wp2_with fail
  refine (rsame17_any 0 0 none none 0 0 [] _ Rd.nil Rd.nil (by simp)).mono ?_
  rintro e w10 ⟨rfl, hb10⟩
  have LW10 := hid (LW9.out.below hb10)
  clear hb10
  go_wp2_with fail
  refine (is_no 2 2 (by omega) _).mono ?_
  rintro e w11 ⟨rfl, rfl⟩
  go_wp2_with fail
  go_ret
  exact ⟨rfl, LW10.out.2⟩

theorem rdp_blk {w : World} {g : Nat} {px : List Px} (h : Blk w g 62 (px.flatMap encP).toArray) : RdP w w.heap.size (some ⟨g, 0, none⟩) px :=
  ⟨encP_len px, fun _ => ⟨g, 0, rfl, h.lt, fun j u hu => by rw [Nat.zero_add, h.cell j, List.getElem?_toArray]; exact hu⟩⟩
theorem unpR_len {f : Fm} {l : List Int} {px : List Px} (h : unpR f l = some px) : px.length = (f.w * f.h).toNat := by
  unfold unpR at h
  split at h
  · cases h
  · injection h with h
    rw [← h, put_len]
    simp [pxZ]
set_option maxRecDepth 100000 in
set_option maxHeartbeats 8000000 in
theorem walk_some (f : Fm) (PA KA DA : Option Addr) (pc kc dc : Nat) (l : List Int) (W : World) (hlg : largeB f = false) (hp : RdP W W.heap.size PA f.pal) (hk : RdI W W.heap.size KA f.key) (hr : Rd W W.heap.size 1 DA l.length (bytesV l)) (hnl : l.length ≤ 3000) (hx : ∀ x ∈ l, isB x) (hc : l.length ≤ dc) (hA : DA = none → dc = 0) (hf : formOk f = true) (hd : (l.length : Int) = dataM f.w f.h f.d f.c f.l) {px : List Px} (hpx : unpR f l = some px) (h5 : ¬ 5000 < f.w * f.h) :
    Calls Try.prog 3 #[.agg #[.int .i64 f.w, .int .i64 f.h, .int .i64 f.d, .int .i64 f.c, .int .i64 f.l, .slice PA f.pal.length pc, .slice KA f.key.length kc], .slice DA l.length dc] W fun e w' => e = .returned (.bool true) ∧ Below W.heap.size W w' := by
  obtain ⟨pb1, pb2, pb3, pb4⟩ := prod_bnd hf
  have HCN := hid hc
  have HAN := hid hA
  have HX := hid hx
  have Hp := hid hp
  have Hk := hid hk
  have Hr := hid hr
  have Hpn := hid (fun h => rd_nil (size := 4) hp (by omega) h)
  have Hkn := hid (fun h => rd_nil (size := 1) hk (by omega) h)
  obtain ⟨hpm, hkm⟩ := large_not hlg
  have Hf := hid hf
  have dn : decide ((3000 : Int) < (l.length : Int)) = false := decide_eq_false (by omega)
  clear hp hk hr hf hc hA hx
  have Hpx := hid hpx
  have HD0 := hid hd
  have hpl : px.length ≤ 1000000 := by rw [unpR_len hpx]; omega
  have d5 : decide ((5000 : Int) < f.w * f.h) = false := decide_eq_false h5
  clear h5
  clear hpx hd
  have HL := hid hlg
  clear hlg
  go_enter Try.func3, Try.ntmps3
  go_wp2_with fail
  refine (alive_any _).mono ?_
  rintro e w1 ⟨rfl, hb1⟩
  have LW1 := hid (LW.below (f := f) (PA := PA) (KA := KA) (pc := pc) (kc := kc) (lw_start f PA KA pc kc W) hb1)
  clear hb1
  have q0 := LW1.out.1.cell 0
  have q1 := LW1.out.1.cell 1
  have q2 := LW1.out.1.cell 2
  have q3 := LW1.out.1.cell 3
  have q4 := LW1.out.1.cell 4
  have q5 := LW1.out.1.cell 5
  have q6 := LW1.out.1.cell 6
  simp only [List.getElem?_toArray, List.getElem?_cons_zero, List.getElem?_cons_succ] at q0 q1 q2 q3 q4 q5 q6
  go_wp2_with fail
  refine (large_any f PA KA pc kc _).mono ?_
  rintro e w2 ⟨rfl, hb2⟩
  have LW2 := hid (LW1.out.below hb2)
  clear hb2 LW1
  rw [HL.out]
  clear q0 q1 q2 q3 q4 q5 q6
  go_wp2_with fail
  refine (copy_any DA dc l w2 ((Rd.below Hr.out LW2.out.2 (Nat.le_refl _)).more LW2.out.2.size) (by omega)).mono ?_
  rintro e w3 ⟨rfl, hcp, hb3⟩
  obtain ⟨gC, hgC⟩ : ∃ g, g = w2.heap.size := ⟨_, rfl⟩
  rw [← hgC] at hcp ⊢
  have LW3 := hid (LW2.out.below hb3)
  have C3 := hid hcp
  clear hb3 hcp hgC LW2
  have q0 := LW3.out.1.cell 0
  have q1 := LW3.out.1.cell 1
  have q2 := LW3.out.1.cell 2
  have q3 := LW3.out.1.cell 3
  have q4 := LW3.out.1.cell 4
  have q5 := LW3.out.1.cell 5
  have q6 := LW3.out.1.cell 6
  simp only [List.getElem?_toArray, List.getElem?_cons_zero, List.getElem?_cons_succ] at q0 q1 q2 q3 q4 q5 q6
  go_wp2_with fail
  refine (form_any f PA KA pc kc w3 ((Rd.below Hp.out LW3.out.2 (Nat.le_refl _)).more LW3.out.2.size) ((Rd.below Hk.out LW3.out.2 (Nat.le_refl _)).more LW3.out.2.size) Hpn.out Hkn.out hpm hkm).mono ?_
  rintro e w4 ⟨A2, a2, g2, rfl, hpp, hkk, hb4⟩
  have LW4 := hid (LW3.out.below hb4)
  have C4 := hid (C3.out.below hb4 C3.out.lt)
  have HPP := hid hpp
  have HKK := hid hkk
  clear hb4 hpp hkk LW3 C3
  clear q0 q1 q2 q3 q4 q5 q6
  go_wp2_with fail
  refine (unpack_go f A2 (some ⟨g2, 0, none⟩) (some ⟨gC, 0, none⟩) a2 (f.key.length + 1) (l.length + 2) l.length l w4 Hf.out HPP.out HKK.out hpm hkm rfl HD0.out (by omega) (by omega) (fun h => by cases h) (copyB_rd C4.out) HX.out).mono ?_
  rintro e w5 ⟨hb5, h5x⟩
  rw [Hpx.out] at h5x
  obtain ⟨gp, rfl, hgp, hbp⟩ := h5x
  have P5 := hid (rdp_blk hbp)
  clear hbp
  have LW5 := hid (LW4.out.below hb5)
  have C5 := hid (C4.out.below hb5 C4.out.lt)
  have LW6 := hid (LW5.out.below ((Below.refl _ w5).alloc (Nat.le_refl _) (.cells #[.int .i64 f.w, .int .i64 f.h, .slice (some ⟨gp, 0, none⟩) px.length px.length] 33)))
  have C6 := hid (C5.out.alloc (.cells #[.int .i64 f.w, .int .i64 f.h, .slice (some ⟨gp, 0, none⟩) px.length px.length] 33))
  have R6 := hid (Blk.new w5 33 #[.int .i64 f.w, .int .i64 f.h, .slice (some ⟨gp, 0, none⟩) px.length px.length])
  have P6 := hid (show RdP (w5.alloc (.cells #[.int .i64 f.w, .int .i64 f.h, .slice (some ⟨gp, 0, none⟩) px.length px.length] 33)) (w5.alloc (.cells #[.int .i64 f.w, .int .i64 f.h, .slice (some ⟨gp, 0, none⟩) px.length px.length] 33)).heap.size (some ⟨gp, 0, none⟩) px from Rd.more (Rd.alloc P5.out (Nat.le_refl _) _) (by simp))
  clear hb5 LW4 C4 LW5 C5 HPP HKK
  go_wp2_with fail
  refine (kept_any DA dc gC l _ W.heap.size C6.out (Rd.below Hr.out LW6.out.2 (Nat.le_refl _)) (by omega)).mono ?_
  rintro e w6 ⟨rfl, rfl⟩
  obtain ⟨u6, hu6⟩ : ∃ u, u = w5.alloc (.cells #[.int .i64 f.w, .int .i64 f.h, .slice (some ⟨gp, 0, none⟩) px.length px.length] 33) := ⟨_, rfl⟩
  obtain ⟨g6, hg6⟩ : ∃ g, g = w5.heap.size := ⟨_, rfl⟩
  simp only [← hu6, ← hg6] at LW6 C6 R6 P6 ⊢
  clear hu6 hg6
  have q0 := LW6.out.1.cell 0
  have q1 := LW6.out.1.cell 1
  have q2 := LW6.out.1.cell 2
  have q3 := LW6.out.1.cell 3
  have q4 := LW6.out.1.cell 4
  have q5 := LW6.out.1.cell 5
  have q6 := LW6.out.1.cell 6
  simp only [List.getElem?_toArray, List.getElem?_cons_zero, List.getElem?_cons_succ] at q0 q1 q2 q3 q4 q5 q6
  go_wp2_with fail
  refine (good_form f PA KA pc kc _ ((Rd.below Hp.out LW6.out.2 (Nat.le_refl _)).more LW6.out.2.size) ((Rd.below Hk.out LW6.out.2 (Nat.le_refl _)).more LW6.out.2.size) hpm hkm).mono ?_
  rintro e w7 ⟨rfl, hb7⟩
  have LW7 := hid (LW6.out.below hb7)
  have R7 := hid (R6.out.below hb7 R6.out.lt)
  have P7 := hid ((Rd.below P6.out hb7 (Nat.le_refl _)).more hb7.size)
  clear hb7 LW6 R6 C6
  rw [Hf.out]
  clear q0 q1 q2 q3 q4 q5 q6
  have q0 := LW7.out.1.cell 0
  have q1 := LW7.out.1.cell 1
  have q2 := LW7.out.1.cell 2
  have q3 := LW7.out.1.cell 3
  have q4 := LW7.out.1.cell 4
  have q5 := LW7.out.1.cell 5
  have q6 := LW7.out.1.cell 6
  simp only [List.getElem?_toArray, List.getElem?_cons_zero, List.getElem?_cons_succ] at q0 q1 q2 q3 q4 q5 q6
  have LW8 := LW7
  have R8 := R7
  have P8 := P7
  clear LW7 R7
  go_wp2_with fail
  refine (runpack_go f PA KA DA pc kc dc l.length l _ Hf.out ((Rd.below Hp.out LW8.out.2 (Nat.le_refl _)).more LW8.out.2.size) ((Rd.below Hk.out LW8.out.2 (Nat.le_refl _)).more LW8.out.2.size) rfl HD0.out (by omega) HCN.out HAN.out ((Rd.below Hr.out LW8.out.2 (Nat.le_refl _)).more LW8.out.2.size) HX.out).mono ?_
  rintro e w8 ⟨hb8, h8x⟩
  rw [Hpx.out] at h8x
  obtain ⟨gq, rfl, hgq, hbq⟩ := h8x
  have LW8 := hid (LW8.out.below hb8)
  have R8 := hid (R8.out.below hb8 R8.out.lt)
  have P8 := hid ((Rd.below P8.out hb8 (Nat.le_refl _)).more hb8.size)
  have Q8 := hid (rdp_blk hbq)
  clear hb8 hbq
  clear q0 q1 q2 q3 q4 q5 q6
  have LW9 := hid (LW8.out.below ((Below.refl _ w8).alloc (Nat.le_refl _) (.cells #[.int .i64 f.w, .int .i64 f.h, .slice (some ⟨gq, 0, none⟩) px.length px.length] 33)))
  have R9 := hid (R8.out.alloc (.cells #[.int .i64 f.w, .int .i64 f.h, .slice (some ⟨gq, 0, none⟩) px.length px.length] 33))
  have S9 := hid (Blk.new w8 33 #[.int .i64 f.w, .int .i64 f.h, .slice (some ⟨gq, 0, none⟩) px.length px.length])
  have P9 := hid (show RdP (w8.alloc (.cells #[.int .i64 f.w, .int .i64 f.h, .slice (some ⟨gq, 0, none⟩) px.length px.length] 33)) (w8.alloc (.cells #[.int .i64 f.w, .int .i64 f.h, .slice (some ⟨gq, 0, none⟩) px.length px.length] 33)).heap.size (some ⟨gp, 0, none⟩) px from Rd.more (Rd.alloc P8.out (Nat.le_refl _) _) (by simp))
  have Q9 := hid (show RdP (w8.alloc (.cells #[.int .i64 f.w, .int .i64 f.h, .slice (some ⟨gq, 0, none⟩) px.length px.length] 33)) (w8.alloc (.cells #[.int .i64 f.w, .int .i64 f.h, .slice (some ⟨gq, 0, none⟩) px.length px.length] 33)).heap.size (some ⟨gq, 0, none⟩) px from Rd.more (Rd.alloc Q8.out (Nat.le_refl _) _) (by simp))
  obtain ⟨u9, hu9⟩ : ∃ u, u = w8.alloc (.cells #[.int .i64 f.w, .int .i64 f.h, .slice (some ⟨gq, 0, none⟩) px.length px.length] 33) := ⟨_, rfl⟩
  obtain ⟨g9, hg9⟩ : ∃ g, g = w8.heap.size := ⟨_, rfl⟩
  go_upto_region 14 with (fail)
  simp only [← hu9, ← hg9] at LW9 R9 S9 P9 Q9 ⊢
  clear hu9 hg9 LW8 R8
  have r0 := R9.out.cell 0
  have r1 := R9.out.cell 1
  have r2 := R9.out.cell 2
  simp only [List.getElem?_toArray, List.getElem?_cons_zero, List.getElem?_cons_succ] at r0 r1 r2
  have s0 := S9.out.cell 0
  have s1 := S9.out.cell 1
  have s2 := S9.out.cell 2
  simp only [List.getElem?_toArray, List.getElem?_cons_zero, List.getElem?_cons_succ] at s0 s1 s2
  go_wp2_with fail
  refine (rsame17_any f.w f.h (some ⟨gp, 0, none⟩) (some ⟨gq, 0, none⟩) px.length px.length px _ P9.out Q9.out hpl).mono ?_
  rintro e w10 ⟨rfl, hb10⟩
  have LW10 := hid (LW9.out.below hb10)
  clear hb10
  go_wp2_with fail
  go_ret
  exact ⟨rfl, LW10.out.2⟩

set_option maxRecDepth 100000 in
set_option maxHeartbeats 8000000 in
theorem walk_some5 (f : Fm) (PA KA DA : Option Addr) (pc kc dc : Nat) (l : List Int) (W : World) (hlg : largeB f = false) (hp : RdP W W.heap.size PA f.pal) (hk : RdI W W.heap.size KA f.key) (hr : Rd W W.heap.size 1 DA l.length (bytesV l)) (hnl : l.length ≤ 3000) (hx : ∀ x ∈ l, isB x) (hc : l.length ≤ dc) (hA : DA = none → dc = 0) (hf : formOk f = true) (hd : (l.length : Int) = dataM f.w f.h f.d f.c f.l) {px : List Px} (hpx : unpR f l = some px) (h5 : 5000 < f.w * f.h) :
    Calls Try.prog 3 #[.agg #[.int .i64 f.w, .int .i64 f.h, .int .i64 f.d, .int .i64 f.c, .int .i64 f.l, .slice PA f.pal.length pc, .slice KA f.key.length kc], .slice DA l.length dc] W fun e w' => e = .returned (.bool true) ∧ Below W.heap.size W w' := by
  obtain ⟨pb1, pb2, pb3, pb4⟩ := prod_bnd hf
  have HCN := hid hc
  have HAN := hid hA
  have HX := hid hx
  have Hp := hid hp
  have Hk := hid hk
  have Hr := hid hr
  have Hpn := hid (fun h => rd_nil (size := 4) hp (by omega) h)
  have Hkn := hid (fun h => rd_nil (size := 1) hk (by omega) h)
  obtain ⟨hpm, hkm⟩ := large_not hlg
  have Hf := hid hf
  have dn : decide ((3000 : Int) < (l.length : Int)) = false := decide_eq_false (by omega)
  clear hp hk hr hf hc hA hx
  have Hpx := hid hpx
  have HD0 := hid hd
  have hpl : px.length ≤ 1000000 := by rw [unpR_len hpx]; omega
  have d5 : decide ((5000 : Int) < f.w * f.h) = true := decide_eq_true h5
  obtain ⟨dv, hdv⟩ : ∃ d, d = dataM f.w f.h f.d f.c f.l := ⟨_, rfl⟩
  have DAT := hid (fun w => rdata_any f.w f.h f.d f.c f.l (formOk_parts Hf.out).1 w)
  rw [← hdv] at DAT hd
  have HD := hid hd
  have dne : decide ((l.length : Int) = dv) = true := decide_eq_true hd
  have dnq : ((l.length : Int) != dv) = false := by simpa using hd
  clear hdv hd h5
  clear hpx
  have HL := hid hlg
  clear hlg
  go_enter Try.func3, Try.ntmps3
  go_wp2_with fail
  refine (alive_any _).mono ?_
  rintro e w1 ⟨rfl, hb1⟩
  have LW1 := hid (LW.below (f := f) (PA := PA) (KA := KA) (pc := pc) (kc := kc) (lw_start f PA KA pc kc W) hb1)
  clear hb1
  have q0 := LW1.out.1.cell 0
  have q1 := LW1.out.1.cell 1
  have q2 := LW1.out.1.cell 2
  have q3 := LW1.out.1.cell 3
  have q4 := LW1.out.1.cell 4
  have q5 := LW1.out.1.cell 5
  have q6 := LW1.out.1.cell 6
  simp only [List.getElem?_toArray, List.getElem?_cons_zero, List.getElem?_cons_succ] at q0 q1 q2 q3 q4 q5 q6
  go_wp2_with fail
  refine (large_any f PA KA pc kc _).mono ?_
  rintro e w2 ⟨rfl, hb2⟩
  have LW2 := hid (LW1.out.below hb2)
  clear hb2 LW1
  rw [HL.out]
  clear q0 q1 q2 q3 q4 q5 q6
  go_wp2_with fail
  refine (copy_any DA dc l w2 ((Rd.below Hr.out LW2.out.2 (Nat.le_refl _)).more LW2.out.2.size) (by omega)).mono ?_
  rintro e w3 ⟨rfl, hcp, hb3⟩
  obtain ⟨gC, hgC⟩ : ∃ g, g = w2.heap.size := ⟨_, rfl⟩
  rw [← hgC] at hcp ⊢
  have LW3 := hid (LW2.out.below hb3)
  have C3 := hid hcp
  clear hb3 hcp hgC LW2
  have q0 := LW3.out.1.cell 0
  have q1 := LW3.out.1.cell 1
  have q2 := LW3.out.1.cell 2
  have q3 := LW3.out.1.cell 3
  have q4 := LW3.out.1.cell 4
  have q5 := LW3.out.1.cell 5
  have q6 := LW3.out.1.cell 6
  simp only [List.getElem?_toArray, List.getElem?_cons_zero, List.getElem?_cons_succ] at q0 q1 q2 q3 q4 q5 q6
  go_wp2_with fail
  refine (form_any f PA KA pc kc w3 ((Rd.below Hp.out LW3.out.2 (Nat.le_refl _)).more LW3.out.2.size) ((Rd.below Hk.out LW3.out.2 (Nat.le_refl _)).more LW3.out.2.size) Hpn.out Hkn.out hpm hkm).mono ?_
  rintro e w4 ⟨A2, a2, g2, rfl, hpp, hkk, hb4⟩
  have LW4 := hid (LW3.out.below hb4)
  have C4 := hid (C3.out.below hb4 C3.out.lt)
  have HPP := hid hpp
  have HKK := hid hkk
  clear hb4 hpp hkk LW3 C3
  clear q0 q1 q2 q3 q4 q5 q6
  go_wp2_with fail
  refine (unpack_go f A2 (some ⟨g2, 0, none⟩) (some ⟨gC, 0, none⟩) a2 (f.key.length + 1) (l.length + 2) l.length l w4 Hf.out HPP.out HKK.out hpm hkm rfl HD0.out (by omega) (by omega) (fun h => by cases h) (copyB_rd C4.out) HX.out).mono ?_
  rintro e w5 ⟨hb5, h5x⟩
  rw [Hpx.out] at h5x
  obtain ⟨gp, rfl, hgp, hbp⟩ := h5x
  have P5 := hid (rdp_blk hbp)
  clear hbp
  have LW5 := hid (LW4.out.below hb5)
  have C5 := hid (C4.out.below hb5 C4.out.lt)
  have LW6 := hid (LW5.out.below ((Below.refl _ w5).alloc (Nat.le_refl _) (.cells #[.int .i64 f.w, .int .i64 f.h, .slice (some ⟨gp, 0, none⟩) px.length px.length] 33)))
  have C6 := hid (C5.out.alloc (.cells #[.int .i64 f.w, .int .i64 f.h, .slice (some ⟨gp, 0, none⟩) px.length px.length] 33))
  have R6 := hid (Blk.new w5 33 #[.int .i64 f.w, .int .i64 f.h, .slice (some ⟨gp, 0, none⟩) px.length px.length])
  have P6 := hid (show RdP (w5.alloc (.cells #[.int .i64 f.w, .int .i64 f.h, .slice (some ⟨gp, 0, none⟩) px.length px.length] 33)) (w5.alloc (.cells #[.int .i64 f.w, .int .i64 f.h, .slice (some ⟨gp, 0, none⟩) px.length px.length] 33)).heap.size (some ⟨gp, 0, none⟩) px from Rd.more (Rd.alloc P5.out (Nat.le_refl _) _) (by simp))
  clear hb5 LW4 C4 LW5 C5 HPP HKK
  go_wp2_with fail
  refine (kept_any DA dc gC l _ W.heap.size C6.out (Rd.below Hr.out LW6.out.2 (Nat.le_refl _)) (by omega)).mono ?_
  rintro e w6 ⟨rfl, rfl⟩
  obtain ⟨u6, hu6⟩ : ∃ u, u = w5.alloc (.cells #[.int .i64 f.w, .int .i64 f.h, .slice (some ⟨gp, 0, none⟩) px.length px.length] 33) := ⟨_, rfl⟩
  obtain ⟨g6, hg6⟩ : ∃ g, g = w5.heap.size := ⟨_, rfl⟩
  simp only [← hu6, ← hg6] at LW6 C6 R6 P6 ⊢
  clear hu6 hg6
  have q0 := LW6.out.1.cell 0
  have q1 := LW6.out.1.cell 1
  have q2 := LW6.out.1.cell 2
  have q3 := LW6.out.1.cell 3
  have q4 := LW6.out.1.cell 4
  have q5 := LW6.out.1.cell 5
  have q6 := LW6.out.1.cell 6
  simp only [List.getElem?_toArray, List.getElem?_cons_zero, List.getElem?_cons_succ] at q0 q1 q2 q3 q4 q5 q6
  go_wp2_with fail
  refine (good_form f PA KA pc kc _ ((Rd.below Hp.out LW6.out.2 (Nat.le_refl _)).more LW6.out.2.size) ((Rd.below Hk.out LW6.out.2 (Nat.le_refl _)).more LW6.out.2.size) hpm hkm).mono ?_
  rintro e w7 ⟨rfl, hb7⟩
  have LW7 := hid (LW6.out.below hb7)
  have R7 := hid (R6.out.below hb7 R6.out.lt)
  have P7 := hid ((Rd.below P6.out hb7 (Nat.le_refl _)).more hb7.size)
  clear hb7 LW6 R6 C6
  rw [Hf.out]
  clear q0 q1 q2 q3 q4 q5 q6
  have q0 := LW7.out.1.cell 0
  have q1 := LW7.out.1.cell 1
  have q2 := LW7.out.1.cell 2
  have q3 := LW7.out.1.cell 3
  have q4 := LW7.out.1.cell 4
  have q5 := LW7.out.1.cell 5
  have q6 := LW7.out.1.cell 6
  simp only [List.getElem?_toArray, List.getElem?_cons_zero, List.getElem?_cons_succ] at q0 q1 q2 q3 q4 q5 q6
  go_wp2_with fail
  refine (DAT.out _).mono ?_
  rintro e w8 ⟨rfl, hb8⟩
  have LW8 := hid (LW7.out.below hb8)
  have R8 := hid (R7.out.below hb8 R7.out.lt)
  have P8 := hid ((Rd.below P7.out hb8 (Nat.le_refl _)).more hb8.size)
  clear hb8 LW7 R7
  clear q0 q1 q2 q3 q4 q5 q6
  have q0 := LW8.out.1.cell 0
  have q1 := LW8.out.1.cell 1
  have q2 := LW8.out.1.cell 2
  have q3 := LW8.out.1.cell 3
  have q4 := LW8.out.1.cell 4
  have q5 := LW8.out.1.cell 5
  have q6 := LW8.out.1.cell 6
  simp only [List.getElem?_toArray, List.getElem?_cons_zero, List.getElem?_cons_succ] at q0 q1 q2 q3 q4 q5 q6
  go_wp2_with fail
  refine (runpack_go f PA KA DA pc kc dc l.length l _ Hf.out ((Rd.below Hp.out LW8.out.2 (Nat.le_refl _)).more LW8.out.2.size) ((Rd.below Hk.out LW8.out.2 (Nat.le_refl _)).more LW8.out.2.size) rfl HD0.out (by omega) HCN.out HAN.out ((Rd.below Hr.out LW8.out.2 (Nat.le_refl _)).more LW8.out.2.size) HX.out).mono ?_
  rintro e w8 ⟨hb8, h8x⟩
  rw [Hpx.out] at h8x
  obtain ⟨gq, rfl, hgq, hbq⟩ := h8x
  have LW8 := hid (LW8.out.below hb8)
  have R8 := hid (R8.out.below hb8 R8.out.lt)
  have P8 := hid ((Rd.below P8.out hb8 (Nat.le_refl _)).more hb8.size)
  have Q8 := hid (rdp_blk hbq)
  clear hb8 hbq
  clear q0 q1 q2 q3 q4 q5 q6
  have LW9 := hid (LW8.out.below ((Below.refl _ w8).alloc (Nat.le_refl _) (.cells #[.int .i64 f.w, .int .i64 f.h, .slice (some ⟨gq, 0, none⟩) px.length px.length] 33)))
  have R9 := hid (R8.out.alloc (.cells #[.int .i64 f.w, .int .i64 f.h, .slice (some ⟨gq, 0, none⟩) px.length px.length] 33))
  have S9 := hid (Blk.new w8 33 #[.int .i64 f.w, .int .i64 f.h, .slice (some ⟨gq, 0, none⟩) px.length px.length])
  have P9 := hid (show RdP (w8.alloc (.cells #[.int .i64 f.w, .int .i64 f.h, .slice (some ⟨gq, 0, none⟩) px.length px.length] 33)) (w8.alloc (.cells #[.int .i64 f.w, .int .i64 f.h, .slice (some ⟨gq, 0, none⟩) px.length px.length] 33)).heap.size (some ⟨gp, 0, none⟩) px from Rd.more (Rd.alloc P8.out (Nat.le_refl _) _) (by simp))
  have Q9 := hid (show RdP (w8.alloc (.cells #[.int .i64 f.w, .int .i64 f.h, .slice (some ⟨gq, 0, none⟩) px.length px.length] 33)) (w8.alloc (.cells #[.int .i64 f.w, .int .i64 f.h, .slice (some ⟨gq, 0, none⟩) px.length px.length] 33)).heap.size (some ⟨gq, 0, none⟩) px from Rd.more (Rd.alloc Q8.out (Nat.le_refl _) _) (by simp))
  obtain ⟨u9, hu9⟩ : ∃ u, u = w8.alloc (.cells #[.int .i64 f.w, .int .i64 f.h, .slice (some ⟨gq, 0, none⟩) px.length px.length] 33) := ⟨_, rfl⟩
  obtain ⟨g9, hg9⟩ : ∃ g, g = w8.heap.size := ⟨_, rfl⟩
  go_upto_region 14 with (fail)
  simp only [← hu9, ← hg9] at LW9 R9 S9 P9 Q9 ⊢
  clear hu9 hg9 LW8 R8
  have r0 := R9.out.cell 0
  have r1 := R9.out.cell 1
  have r2 := R9.out.cell 2
  simp only [List.getElem?_toArray, List.getElem?_cons_zero, List.getElem?_cons_succ] at r0 r1 r2
  have s0 := S9.out.cell 0
  have s1 := S9.out.cell 1
  have s2 := S9.out.cell 2
  simp only [List.getElem?_toArray, List.getElem?_cons_zero, List.getElem?_cons_succ] at s0 s1 s2
  go_wp2_with fail
  refine (rsame17_any f.w f.h (some ⟨gp, 0, none⟩) (some ⟨gq, 0, none⟩) px.length px.length px _ P9.out Q9.out hpl).mono ?_
  rintro e w10 ⟨rfl, hb10⟩
  have LW10 := hid (LW9.out.below hb10)
  clear hb10
  go_wp2_with fail
  go_ret
  exact ⟨rfl, LW10.out.2⟩


theorem walk (f : Fm) (PA KA DA : Option Addr) (pc kc dc : Nat) (l : List Int) (W : World) (hp : RdP W W.heap.size PA f.pal) (hk : RdI W W.heap.size KA f.key) (hr : Rd W W.heap.size 1 DA l.length (bytesV l)) (hx : ∀ x ∈ l, isB x) (hc : l.length ≤ dc) (hA : DA = none → dc = 0) :
    Calls Try.prog 3 #[.agg #[.int .i64 f.w, .int .i64 f.h, .int .i64 f.d, .int .i64 f.c, .int .i64 f.l, .slice PA f.pal.length pc, .slice KA f.key.length kc], .slice DA l.length dc] W fun e w' => e = .returned (.bool true) ∧ Below W.heap.size W w' := by
  cases hlg : largeB f
  · by_cases hnl : l.length ≤ 3000
    · cases hf : formOk f
      · exact walk_bad f PA KA DA pc kc dc l W hlg hp hk hr hnl hf
      · by_cases h5 : 5000 < f.w * f.h
        · by_cases hd : (l.length : Int) = dataM f.w f.h f.d f.c f.l
          · cases hpx : unpR f l with
            | none => exact walk_none5 f PA KA DA pc kc dc l W hlg hp hk hr hnl hx hc hA hf (.inr hpx) h5 hd
            | some px => exact walk_some5 f PA KA DA pc kc dc l W hlg hp hk hr hnl hx hc hA hf hd hpx h5
          · exact walk_far f PA KA DA pc kc dc l W hlg hp hk hr hnl hx hc hA hf (.inl hd) h5 hd
        · by_cases hd : (l.length : Int) = dataM f.w f.h f.d f.c f.l
          · cases hpx : unpR f l with
            | none => exact walk_none f PA KA DA pc kc dc l W hlg hp hk hr hnl hx hc hA hf (.inr hpx) h5
            | some px => exact walk_some f PA KA DA pc kc dc l W hlg hp hk hr hnl hx hc hA hf hd hpx h5
          · exact walk_none f PA KA DA pc kc dc l W hlg hp hk hr hnl hx hc hA hf (.inl hd) h5
    · exact walk_long f PA KA DA pc kc dc l W hlg (by omega)
  · exact walk_large f PA KA DA pc kc dc l W hlg

set_option maxRecDepth 100000 in
theorem lifted (os : Os) (started : os.Started) (H : Type) (enc : TypeId × Value → H) :
    ReturnsInHanded {} Try.checked os 3 .any (Rows.rasterUnpacksSpec.pre6 enc Try.prog Try.f3 Rows.rasterUnpacksRow.domain false) (Rows.rasterUnpacksSpec.post enc Try.prog Try.f3 false true false false) :=
  law_lifted own laidOut started (by kernel_rfl) Try.func3 rfl rfl Try.underlying4
    (by rw [Try.params3]; intro t ht; simp at ht; rcases ht with rfl | rfl <;> exact ⟨by kernel_rfl, of_decide_eq_true (by kernel_rfl)⟩)
    (by
      intro ds h
      match ds, h with
      | [_, _], _ => exact ⟨rfl, rfl, rfl⟩)
    (ChangeSpec.witness6 (enc := enc) (C := Try.checked) false ⟨#[], #[.agg #[.int .i64 0, .int .i64 0, .int .i64 0, .int .i64 0, .int .i64 0, .slice none 0 0, .slice none 0 0], .slice none 0 0], []⟩ 8 (by kernel_rfl) (by kernel_rfl) (by kernel_rfl) (by kernel_rfl))
    (by
      intro W base args ds ps hval0 hA0
      have hval : ∀ (j : Nat) t v, Try.f3.params[j]? = some t → args[j]? = some v → Value.okWide Try.prog W .any base t v := hval0
      have hA : DataW.TrodAll enc Try.prog W 0 (fun _ => true) true Try.f3.params.toList args.toList ds ps := hA0
      clear hval0 hA0
      rw [Try.params3] at hA hval
      obtain ⟨v0, vs0, d0, ds0, p0, q0, hargs, rfl, rfl, h0, r0⟩ := trodAll_cons hA
      obtain ⟨v1, vs1, d1, ds1, p1, q1, rfl, rfl, rfl, h1, r1⟩ := trodAll_cons r0
      obtain ⟨rfl, rfl, rfl⟩ := trodAll_nil r1
      obtain rfl : args = #[v0, v1] := by cases args; simp_all
      obtain ⟨f0, PA0, KA0, pc0, kc0, rfl, hp0, hk0⟩ := open_form (hval 0 27 v0 rfl rfl) h0
      obtain ⟨A1, c1, l1, rfl, hc1, hm1, hok1, hr1, hz1⟩ := open_bytes2 (hval 1 28 v1 rfl rfl) h1
      exact walk f0 PA0 KA0 A1 pc0 kc0 c1 l1 W hp0 hk0 hr1 hok1 hc1 hz1)

theorem over : Rows.rasterUnpacksRow.holds Try.pinned (OpenSpec.ofChange Rows.rasterUnpacksSpec) :=
  OpenClaim.holds_of_wide 3 Try.f3 rfl rfl rfl rfl rfl rfl rfl ⟨rfl, rfl, rfl, rfl, rfl⟩ rfl rfl rfl rfl rfl (by kernel_rfl) Try.func3 (by kernel_rfl)
    (of_decide_eq_true (by kernel_rfl)) (by unfold Func.isWrapper; first | (rw [if_pos (by decide +kernel)]; kernel_rfl) | (rw [if_neg (by decide +kernel)]; exact ⟨rfl, rfl⟩))
    (fun os started H enc _ => lifted os started H enc)

theorem proved : Rows.RasterUnpacksSaid := over
#print axioms proved
end Go.Proofs.Ytphhoihhmphbdaa.RasterUnpacks
