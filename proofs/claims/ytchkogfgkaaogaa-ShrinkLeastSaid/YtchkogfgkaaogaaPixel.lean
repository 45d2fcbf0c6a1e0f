/-
  raster.Form.Pixel, in any form.
-/
import Derived.Test.YtchkogfgkaaogaaPix0
import Derived.Test.YtchkogfgkaaogaaPix2
import Derived.Test.YtchkogfgkaaogaaPix4
import Derived.Test.YtchkogfgkaaogaaPix6
namespace Go.Proofs.Ytchkogfgkaaogaa
open Go.RowKit

theorem formOk_parts {f : Fm} (h : formOk f = true) : headErr f.w f.h f.d f.c f.l = 0 ∧ palB f = true ∧ f.pal.all pxOk = true ∧ keysB f = true := by
  unfold formOk at h
  simp only [Bool.and_eq_true, decide_eq_true_eq] at h
  exact ⟨h.1.1.1, h.1.1.2, h.1.2, h.2⟩
theorem chan_cols {c : Int} (h : 0 < chan c) : c = 0 ∨ c = 2 ∨ c = 3 ∨ c = 4 ∨ c = 6 := by
  unfold chan at h
  repeat' split at h
  all_goals omega
theorem formOk_key {f : Fm} (h : formOk f = true) (hc : f.c = 4 ∨ f.c = 6) : f.key = [] := by
  have h1 := (formOk_parts h).2.2.2
  unfold keysB at h1
  rw [decide_eq_false (p := f.c = 0 ∨ f.c = 2) (by omega)] at h1
  simpa using h1
theorem pixel_any (f : Fm) (PA KA NA : Option Addr) (pc kc nc : Nat) (n : List Int) (W : World) (hf : formOk f = true) (hp : RdP W W.heap.size PA f.pal) (hk : RdI W W.heap.size KA f.key) (hkm : f.key.length ≤ 1000000) (hn : RdI W W.heap.size NA n) :
    Calls Try.prog 51 #[.agg #[.int .i64 f.w, .int .i64 f.h, .int .i64 f.d, .int .i64 f.c, .int .i64 f.l, .slice PA f.pal.length pc, .slice KA f.key.length kc], .slice NA n.length nc] W (PixEnd (pixOf f n) W) := by
  obtain ⟨hh, _, _, _⟩ := formOk_parts hf
  obtain ⟨hd, _, hch⟩ := headErr_deep hh
  by_cases hl : (n.length : Int) = chan f.c
  · rcases chan_cols hch with h | h | h | h | h
    · exact pix_c0 f PA KA NA pc kc nc n W h hl hd hn hk hkm
    · exact pix_c2 f PA KA NA pc kc nc n W h hl hd hn hk hkm
    · exact pix_pal f PA KA NA pc kc nc n W hl h hp hn
    · exact pix_c4 f PA KA NA pc kc nc n W h hl hd hn (formOk_key hf (.inl h))
    · exact pix_c6 f PA KA NA pc kc nc n W h hl hd hn (formOk_key hf (.inr h))
  · exact pix_len f PA KA NA pc kc nc n W hl
theorem errv_6 : errv 6 = .iface 50 (.int .i64 6) := rfl

set_option maxRecDepth 100000 in
set_option maxHeartbeats 4000000 in
theorem fpixel_no (f : Fm) (PA KA NA : Option Addr) (pc kc nc : Nat) (n : List Int) (W : World) (hf : formOk f = false) (hp : RdP W W.heap.size PA f.pal) (hk : RdI W W.heap.size KA f.key) (hpm : f.pal.length ≤ 1000000) (hkm : f.key.length ≤ 1000000) :
    Calls Try.prog 40 #[.agg #[.int .i64 f.w, .int .i64 f.h, .int .i64 f.d, .int .i64 f.c, .int .i64 f.l, .slice PA f.pal.length pc, .slice KA f.key.length kc], .slice NA n.length nc] W (PixEnd none W) := by
  have B0 := ((Blk.new W 32 #[.int .i64 f.w, .int .i64 f.h, .int .i64 f.d, .int .i64 f.c, .int .i64 f.l, .slice PA f.pal.length pc, .slice KA f.key.length kc]).alloc (.cells #[.int .i64 0, .int .i64 0, .int .i64 0, .int .i64 0] 69))
  have B1 := Blk.new (W.alloc (.cells #[.int .i64 f.w, .int .i64 f.h, .int .i64 f.d, .int .i64 f.c, .int .i64 f.l, .slice PA f.pal.length pc, .slice KA f.key.length kc] 32)) 69 #[.int .i64 0, .int .i64 0, .int .i64 0, .int .i64 0]
  simp only [World.size_alloc] at B1
  have Hb01 := hid (show Below W.heap.size W ((W.alloc (.cells #[.int .i64 f.w, .int .i64 f.h, .int .i64 f.d, .int .i64 f.c, .int .i64 f.l, .slice PA f.pal.length pc, .slice KA f.key.length kc] 32)).alloc (.cells #[.int .i64 0, .int .i64 0, .int .i64 0, .int .i64 0] 69)) from ((Below.refl _ _).alloc (Nat.le_refl _) _).alloc (by simp) _)
  have Hp := hid hp
  have Hk := hid hk
  have HB0 := hid B0
  have HB1 := hid B1
  clear B0 B1 hp hk
  go_enter Try.func40, Try.ntmps40
  go_wp2_with fail
  refine (fcheck_any f PA KA pc kc _ (Rd.more (Rd.below Hp.out Hb01.out (Nat.le_refl _)) (by simp; omega)) ((Hk.out.below Hb01.out (Nat.le_refl _)).more (by simp; omega)) hpm hkm).mono ?_
  rintro e w1 ⟨rfl, hb⟩
  have hsz := hb.size
  simp only [World.size_alloc] at hsz
  have hx := HB0.out.below hb (by simp; omega)
  have hz := HB1.out.below hb (by simp)
  have Hbw := hid (Hb01.out.trans (hb.mono (by simp; omega)))
  have Hz := hid hz
  have Hx := hid hx
  clear hb hx hz
  rw [hf, if_neg (by simp), errv_6]
  have r0 := Hz.out.cell 0
  have r1 := Hz.out.cell 1
  have r2 := Hz.out.cell 2
  have r3 := Hz.out.cell 3
  have fr := fun i => Hz.out.frozen i
  simp only [List.getElem?_toArray, List.getElem?_cons_zero, List.getElem?_cons_succ] at r0 r1 r2 r3
  go_wp2_with fail
  refine bodyPost_ret (v := .tuple #[.agg #[.int .i64 0, .int .i64 0, .int .i64 0, .int .i64 0], .bool false]) (by simp [results, Try.results40, go_sem, r0, r1, r2, r3]) rfl (pixEnd_none rfl ?_)
  exact below4 Hbw.out (by omega)

set_option maxRecDepth 100000 in
set_option maxHeartbeats 4000000 in
theorem fpixel_yes (f : Fm) (PA KA NA : Option Addr) (pc kc nc : Nat) (n : List Int) (W : World) (hf : formOk f = true) (hp : RdP W W.heap.size PA f.pal) (hk : RdI W W.heap.size KA f.key) (hpm : f.pal.length ≤ 1000000) (hkm : f.key.length ≤ 1000000) (hn : RdI W W.heap.size NA n) :
    Calls Try.prog 40 #[.agg #[.int .i64 f.w, .int .i64 f.h, .int .i64 f.d, .int .i64 f.c, .int .i64 f.l, .slice PA f.pal.length pc, .slice KA f.key.length kc], .slice NA n.length nc] W (PixEnd (pixOf f n) W) := by
  have B0 := ((Blk.new W 32 #[.int .i64 f.w, .int .i64 f.h, .int .i64 f.d, .int .i64 f.c, .int .i64 f.l, .slice PA f.pal.length pc, .slice KA f.key.length kc]).alloc (.cells #[.int .i64 0, .int .i64 0, .int .i64 0, .int .i64 0] 69))
  have B1 := Blk.new (W.alloc (.cells #[.int .i64 f.w, .int .i64 f.h, .int .i64 f.d, .int .i64 f.c, .int .i64 f.l, .slice PA f.pal.length pc, .slice KA f.key.length kc] 32)) 69 #[.int .i64 0, .int .i64 0, .int .i64 0, .int .i64 0]
  simp only [World.size_alloc] at B1
  have Hb01 := hid (show Below W.heap.size W ((W.alloc (.cells #[.int .i64 f.w, .int .i64 f.h, .int .i64 f.d, .int .i64 f.c, .int .i64 f.l, .slice PA f.pal.length pc, .slice KA f.key.length kc] 32)).alloc (.cells #[.int .i64 0, .int .i64 0, .int .i64 0, .int .i64 0] 69)) from ((Below.refl _ _).alloc (Nat.le_refl _) _).alloc (by simp) _)
  have Hp := hid hp
  have Hk := hid hk
  have HB0 := hid B0
  have HB1 := hid B1
  clear B0 B1 hp hk
  have Hn := hid hn
  clear hn
  go_enter Try.func40, Try.ntmps40
  go_wp2_with fail
  refine (fcheck_any f PA KA pc kc _ (Rd.more (Rd.below Hp.out Hb01.out (Nat.le_refl _)) (by simp; omega)) ((Hk.out.below Hb01.out (Nat.le_refl _)).more (by simp; omega)) hpm hkm).mono ?_
  rintro e w1 ⟨rfl, hb⟩
  have hsz := hb.size
  simp only [World.size_alloc] at hsz
  have hx := HB0.out.below hb (by simp; omega)
  have hz := HB1.out.below hb (by simp)
  have Hbw := hid (Hb01.out.trans (hb.mono (by simp; omega)))
  have Hz := hid hz
  have Hx := hid hx
  clear hb hx hz
  rw [hf, if_pos rfl, errv_0]
  have q0 := Hx.out.cell 0
  have q1 := Hx.out.cell 1
  have q2 := Hx.out.cell 2
  have q3 := Hx.out.cell 3
  have q4 := Hx.out.cell 4
  have q5 := Hx.out.cell 5
  have q6 := Hx.out.cell 6
  simp only [List.getElem?_toArray, List.getElem?_cons_zero, List.getElem?_cons_succ] at q0 q1 q2 q3 q4 q5 q6
  go_wp2_with fail
  refine (pixel_any f PA KA NA pc kc nc n w1 hf (Rd.more (Rd.below Hp.out Hbw.out (Nat.le_refl _)) (by omega)) ((Hk.out.below Hbw.out (Nat.le_refl _)).more (by omega)) hkm ((Hn.out.below Hbw.out (Nat.le_refl _)).more (by omega))).mono ?_
  rintro e w2 ⟨he, hb2⟩
  have hz2 := Hz.out.below hb2 (by omega)
  have r0 := hz2.cell 0
  have r1 := hz2.cell 1
  have r2 := hz2.cell 2
  have r3 := hz2.cell 3
  have fr := fun i => hz2.frozen i
  simp only [List.getElem?_toArray, List.getElem?_cons_zero, List.getElem?_cons_succ] at r0 r1 r2 r3
  have Hb2 := hid (Hbw.out.trans (hb2.mono (show W.heap.size ≤ w1.heap.size by omega)))
  clear hz2 hb2 q0 q1 q2 q3 q4 q5 q6
  cases hpx : pixOf f n with
  | none =>
    rw [hpx] at he
    have he : e = .returned (.tuple #[.agg #[.int .i64 0, .int .i64 0, .int .i64 0, .int .i64 0], .bool false]) := he
    subst he
    have Hpx := hid hpx
    clear hpx
    go_wp2_with fail
    refine bodyPost_ret (v := .tuple #[.agg #[.int .i64 0, .int .i64 0, .int .i64 0, .int .i64 0], .bool false]) (by simp [results, Try.results40, go_sem, r0, r1, r2, r3]) rfl (pixEnd_none Hpx.out ?_)
    exact below4 Hb2.out (by omega)
  | some p =>
    rw [hpx] at he
    obtain ⟨a, b, c, d⟩ := p
    have he : e = .returned (.tuple #[.agg #[.int .i64 a, .int .i64 b, .int .i64 c, .int .i64 d], .bool true]) := he
    subst he
    have Hpx := hid hpx
    clear hpx
    go_wp2_with fail
    refine bodyPost_ret (v := .tuple #[.agg #[.int .i64 a, .int .i64 b, .int .i64 c, .int .i64 d], .bool true]) (by simp [results, Try.results40, go_sem, r0, r1, r2, r3]) rfl (pixEnd_some Hpx.out ?_)
    exact below4 Hb2.out (by omega)

/-- the pixel of numbers, in any form -/
def fpixOf (f : Fm) (n : List Int) : Option Px := if formOk f = true then pixOf f n else none
theorem fpixel_any (f : Fm) (PA KA NA : Option Addr) (pc kc nc : Nat) (n : List Int) (W : World) (hp : RdP W W.heap.size PA f.pal) (hk : RdI W W.heap.size KA f.key) (hpm : f.pal.length ≤ 1000000) (hkm : f.key.length ≤ 1000000) (hn : RdI W W.heap.size NA n) :
    Calls Try.prog 40 #[.agg #[.int .i64 f.w, .int .i64 f.h, .int .i64 f.d, .int .i64 f.c, .int .i64 f.l, .slice PA f.pal.length pc, .slice KA f.key.length kc], .slice NA n.length nc] W (PixEnd (fpixOf f n) W) := by
  unfold fpixOf
  cases hf : formOk f
  · rw [if_neg (by simp)]
    exact fpixel_no f PA KA NA pc kc nc n W hf hp hk hpm hkm
  · rw [if_pos rfl]
    exact fpixel_yes f PA KA NA pc kc nc n W hf hp hk hpm hkm hn

end Go.Proofs.Ytchkogfgkaaogaa
