/-
  raster.Form.pixel: the pixel of numbers in a good form.
  raster.Form.pixel in one color.
  raster.Form.pixel in one color.
  raster.Form.pixel in one color.
  raster.Form.pixel in one color.
  raster.Form.Pixel, in any form.
-/
import Derived.Test.YtphhoihhmphbdaaGood
import Derived.RegionTactic
import Derived.BigRegion
import Derived.Deep.RegionHeld3
import Derived.Deep.DeepCutAuto
import Derived.Deep.CutRange
namespace Go.Proofs.Ytphhoihhmphbdaa
open Go.RowKit

/-- the pixel of numbers, widened; its alpha, if the numbers are the key -/
def pxOf (c d : Int) (n : List Int) : Px :=
  (n.getD 0 0 * stp d, (if c = 2 ∨ c = 6 then n.getD 1 0 else n.getD 0 0) * stp d, (if c = 2 ∨ c = 6 then n.getD 2 0 else n.getD 0 0) * stp d, if c = 4 then n.getD 1 0 * stp d else if c = 6 then n.getD 3 0 * stp d else 65535)
def clear (p : Px) (b : Bool) : Px := if b = true then (p.1, p.2.1, p.2.2.1, 0) else p
/-- the pixel of numbers in a good form -/
def pixOf (f : Fm) (n : List Int) : Option Px :=
  if (n.length : Int) ≠ chan f.c then none
  else if f.c = 3 then (if 0 ≤ n.getD 0 0 then f.pal[(n.getD 0 0).toNat]? else none)
  else if n.all (keyB f.d) = true then some (clear (pxOf f.c f.d n) (decide (f.key ≠ [] ∧ f.key = n))) else none
def vP (p : Px) : Value := .agg #[.int .i64 p.1, .int .i64 p.2.1, .int .i64 p.2.2.1, .int .i64 p.2.2.2]
def PixEnd (r : Option Px) (W : World) (e : Ending) (w' : World) : Prop :=
  (match r with
  | some p => e = .returned (.tuple #[vP p, .bool true])
  | none => e = .returned (.tuple #[vP (0, 0, 0, 0), .bool false])) ∧ Below W.heap.size W w'
theorem pixEnd_none {r : Option Px} {W w' : World} (h : r = none) (hb : Below W.heap.size W w') : PixEnd r W (.returned (.tuple #[.agg #[.int .i64 0, .int .i64 0, .int .i64 0, .int .i64 0], .bool false])) w' := by subst h; exact ⟨rfl, hb⟩
theorem pixEnd_some {r : Option Px} {W w' : World} {a b c d : Int} (h : r = some (a, b, c, d)) (hb : Below W.heap.size W w') : PixEnd r W (.returned (.tuple #[.agg #[.int .i64 a, .int .i64 b, .int .i64 c, .int .i64 d], .bool true])) w' := by subst h; exact ⟨rfl, hb⟩

theorem cell3 {W : World} {b o : Nat} {u : Value} (h : W.cell? ⟨b, o, none⟩ = some u) (hb : b < W.heap.size) : ∀ o1 o2 o3 : Obj, (((W.alloc o1).alloc o2).alloc o3).cell? ⟨b, o, none⟩ = some u := by
  intro o1 o2 o3
  rw [World.cell?_alloc_lt _ o3 ⟨b, o, none⟩ (by simp; omega), World.cell?_alloc_lt _ o2 ⟨b, o, none⟩ (by simp; omega), World.cell?_alloc_lt _ o1 ⟨b, o, none⟩ hb]
  exact h

set_option maxRecDepth 100000 in
set_option maxHeartbeats 8000000 in
theorem pix_len (f : Fm) (PA KA NA : Option Addr) (pc kc nc : Nat) (n : List Int) (W : World) (hl : (n.length : Int) ≠ chan f.c) :
    Calls Try.prog 39 #[.agg #[.int .i64 f.w, .int .i64 f.h, .int .i64 f.d, .int .i64 f.c, .int .i64 f.l, .slice PA f.pal.length pc, .slice KA f.key.length kc], .slice NA n.length nc] W (PixEnd (pixOf f n) W) := by
  have Hn := hid (show pixOf f n = none by unfold pixOf; rw [if_pos hl])
  have hq : ((n.length : Int) != chan f.c) = true := bne_iff_ne.2 hl
  clear hl
  go_enter Try.func39, Try.ntmps39
  go_wp2_with fail
  refine (channels_same f.c _).mono ?_
  rintro e w1 ⟨rfl, rfl⟩
  go_wp2_with fail
  refine bodyPost_ret (v := .tuple #[.agg #[.int .i64 0, .int .i64 0, .int .i64 0, .int .i64 0], .bool false]) (by simp [results, Try.results39, go_sem]) rfl (pixEnd_none Hn.out ?_)
  exact ((((Below.refl _ _).alloc (Nat.le_refl _) _).alloc (by simp) _).alloc (by simp; omega) _)

set_option maxRecDepth 100000 in
set_option maxHeartbeats 8000000 in
theorem pix_pal (f : Fm) (PA KA NA : Option Addr) (pc kc nc : Nat) (n : List Int) (W : World) (hl : (n.length : Int) = chan f.c) (h3 : f.c = 3) (hp : RdP W W.heap.size PA f.pal) (hn : RdI W W.heap.size NA n)  :
    Calls Try.prog 39 #[.agg #[.int .i64 f.w, .int .i64 f.h, .int .i64 f.d, .int .i64 f.c, .int .i64 f.l, .slice PA f.pal.length pc, .slice KA f.key.length kc], .slice NA n.length nc] W (PixEnd (pixOf f n) W) := by
  have hl1 : n.length = 1 := by rw [h3] at hl; have : chan 3 = 1 := rfl; omega
  obtain ⟨x, rfl⟩ : ∃ x, n = [x] := by
    match n, hl1 with
    | [x], _ => exact ⟨x, rfl⟩
  have hq : ((([x] : List Int).length : Int) != chan f.c) = false := by rw [bne_eq_false_iff_eq]; exact hl
  have hq1 : ((1 : Int) != chan f.c) = false := by rw [bne_eq_false_iff_eq]; exact hl
  have e3 : (f.c == 3) = true := beq_iff_eq.2 h3
  have Hpx := hid (show pixOf f [x] = if 0 ≤ x then f.pal[x.toNat]? else none by unfold pixOf; rw [if_neg (by simpa using hl), if_pos h3]; rfl)
  obtain ⟨nb, no, rfl, hnb, n0⟩ := int_at hn (show 0 < ([x] : List Int).length by simp)
  simp only [Nat.add_zero, List.getElem_cons_zero] at n0
  have n0 := cell3 n0 hnb
  clear hl hl1 h3 hn
  by_cases h0 : x < 0
  · have Hn := hid (Hpx.out.trans (if_neg (by omega)))
    have d0 : decide (x < 0) = true := decide_eq_true h0
    go_enter Try.func39, Try.ntmps39
    go_wp2_with fail
    refine (channels_same f.c _).mono ?_
    rintro e w1 ⟨rfl, rfl⟩
    go_wp2_with fail
    refine bodyPost_ret (v := .tuple #[.agg #[.int .i64 0, .int .i64 0, .int .i64 0, .int .i64 0], .bool false]) (by simp [results, Try.results39, go_sem]) rfl (pixEnd_none Hn.out ?_)
    exact ((((Below.refl _ _).alloc (Nat.le_refl _) _).alloc (by simp) _).alloc (by simp; omega) _)
  have d0 : decide (x < 0) = false := decide_eq_false h0
  by_cases h1 : (f.pal.length : Int) ≤ x
  · have Hn := hid (Hpx.out.trans ((if_pos (by omega)).trans (List.getElem?_eq_none (by omega))))
    have d1 : decide ((f.pal.length : Int) ≤ x) = true := decide_eq_true h1
    go_enter Try.func39, Try.ntmps39
    go_wp2_with fail
    refine (channels_same f.c _).mono ?_
    rintro e w1 ⟨rfl, rfl⟩
    go_wp2_with fail
    refine bodyPost_ret (v := .tuple #[.agg #[.int .i64 0, .int .i64 0, .int .i64 0, .int .i64 0], .bool false]) (by simp [results, Try.results39, go_sem]) rfl (pixEnd_none Hn.out ?_)
    exact ((((Below.refl _ _).alloc (Nat.le_refl _) _).alloc (by simp) _).alloc (by simp; omega) _)
  · have d1 : decide ((f.pal.length : Int) ≤ x) = false := decide_eq_false h1
    obtain ⟨j, rfl⟩ := Int.eq_ofNat_of_zero_le (show 0 ≤ x by omega)
    have hj : j < f.pal.length := by omega
    have Hn := hid (show pixOf f [(j : Int)] = some f.pal[j] from Hpx.out.trans ((if_pos (by omega)).trans (by rw [Int.toNat_natCast]; exact List.getElem?_eq_getElem hj)))
    obtain ⟨b, off, rfl, hbb, x0, x1, x2, x3⟩ := px_at hp hj
    generalize f.pal[j] = px at *
    obtain ⟨xr, xg, xb, xa⟩ := px
    simp only at x0 x1 x2 x3
    have x0 := cell3 x0 hbb
    have x1 := cell3 x1 hbb
    have x2 := cell3 x2 hbb
    have x3 := cell3 x3 hbb
    go_enter Try.func39, Try.ntmps39
    go_wp2_with fail
    refine (channels_same f.c _).mono ?_
    rintro e w1 ⟨rfl, rfl⟩
    go_wp2_with fail
    go_region
    all_goals
      go_wp2
      refine bodyPost_ret (v := .tuple #[.agg #[.int .i64 xr, .int .i64 xg, .int .i64 xb, .int .i64 xa], .bool true]) (by simp [results, Try.results39, go_sem]) rfl (pixEnd_some Hn.out ?_)
      exact ((((Below.refl _ _).alloc (Nat.le_refl _) _).alloc (by simp) _).alloc (by simp; omega) _).drew

theorem keyB_bd {d x : Int} (h : keyB d x = true) : 0 ≤ x ∧ x < pw d := of_decide_eq_true h
/-- the widened numbers, while they are laid -/
def wcells (d : Int) (n : List Int) (j : Nat) : List Value := (n.take j).map (fun x => Value.int .i64 (x * stp d)) ++ List.replicate (4 - j) (.int .i64 0)
theorem wcells_at (d : Int) (n : List Int) (j : Nat) (hj : j < n.length) (h4 : j < 4) : (wcells d n j).toArray[j]? = some (.int .i64 0) := by
  unfold wcells
  rw [List.getElem?_toArray, List.getElem?_append_right (by simp; omega)]
  simp only [List.length_map, List.length_take, Nat.min_eq_left (Nat.le_of_lt hj), Nat.sub_self]
  rw [List.getElem?_replicate, if_pos (by omega)]
theorem wcells_set (d : Int) (n : List Int) (j : Nat) (hj : j < n.length) (h4 : j < 4) : (wcells d n j).toArray.setIfInBounds j (.int .i64 (n[j] * stp d)) = (wcells d n (j + 1)).toArray := by
  unfold wcells
  have hl : (List.map (fun x => Value.int .i64 (x * stp d)) (n.take j)).length = j := by simp; omega
  rw [List.setIfInBounds_toArray, List.set_append_right j _ (by rw [hl]; exact Nat.le_refl _), hl, Nat.sub_self, show 4 - j = (4 - (j + 1)) + 1 by omega, List.replicate_succ, List.set_cons_zero, List.take_succ_eq_append_getElem hj, List.map_append, List.append_assoc]
  rfl
/-- the world while the numbers are widened -/
def PixW (wr W : World) (f : Fm) (PA KA : Option Addr) (pc kc : Nat) (cs : List Value) : Prop :=
  FC wr W.heap.size f PA KA pc kc ∧ Blk wr (W.heap.size + 1) 62 #[.int .i64 0, .int .i64 0, .int .i64 0, .int .i64 0] ∧ Blk wr (W.heap.size + 1 + 1) 62 #[.int .i64 0, .int .i64 0, .int .i64 0, .int .i64 0] ∧
    Blk wr (W.heap.size + 1 + 1 + 1) 132 cs.toArray ∧ Below W.heap.size W wr
theorem below4 {B g : Nat} {W w : World} {a b c d : Value} (h : Below B W w) (hg : B ≤ g) : Below B W ((((w.setCell ⟨g, 0, none⟩ a).setCell ⟨g, 1, none⟩ b).setCell ⟨g, 2, none⟩ c).setCell ⟨g, 3, none⟩ d) :=
  (((h.setCell hg _).setCell hg _).setCell hg _).setCell hg _
theorem pixw_start (f : Fm) (PA KA : Option Addr) (pc kc : Nat) (n : List Int) (W : World) : PixW ((((W.alloc (.cells #[.int .i64 f.w, .int .i64 f.h, .int .i64 f.d, .int .i64 f.c, .int .i64 f.l, .slice PA f.pal.length pc, .slice KA f.key.length kc] 38)).alloc (.cells #[.int .i64 0, .int .i64 0, .int .i64 0, .int .i64 0] 62)).alloc (.cells #[.int .i64 0, .int .i64 0, .int .i64 0, .int .i64 0] 62)).alloc (.cells #[.int .i64 0, .int .i64 0, .int .i64 0, .int .i64 0] 132)) W f PA KA pc kc (wcells f.d n 0) := by
  have b0 := (((Blk.new W 38 #[.int .i64 f.w, .int .i64 f.h, .int .i64 f.d, .int .i64 f.c, .int .i64 f.l, .slice PA f.pal.length pc, .slice KA f.key.length kc]).alloc (.cells #[.int .i64 0, .int .i64 0, .int .i64 0, .int .i64 0] 62)).alloc (.cells #[.int .i64 0, .int .i64 0, .int .i64 0, .int .i64 0] 62)).alloc (.cells #[.int .i64 0, .int .i64 0, .int .i64 0, .int .i64 0] 132)
  have b1 := ((Blk.new (W.alloc (.cells #[.int .i64 f.w, .int .i64 f.h, .int .i64 f.d, .int .i64 f.c, .int .i64 f.l, .slice PA f.pal.length pc, .slice KA f.key.length kc] 38)) 62 #[.int .i64 0, .int .i64 0, .int .i64 0, .int .i64 0]).alloc (.cells #[.int .i64 0, .int .i64 0, .int .i64 0, .int .i64 0] 62)).alloc (.cells #[.int .i64 0, .int .i64 0, .int .i64 0, .int .i64 0] 132)
  have b2 := (Blk.new ((W.alloc (.cells #[.int .i64 f.w, .int .i64 f.h, .int .i64 f.d, .int .i64 f.c, .int .i64 f.l, .slice PA f.pal.length pc, .slice KA f.key.length kc] 38)).alloc (.cells #[.int .i64 0, .int .i64 0, .int .i64 0, .int .i64 0] 62)) 62 #[.int .i64 0, .int .i64 0, .int .i64 0, .int .i64 0]).alloc (.cells #[.int .i64 0, .int .i64 0, .int .i64 0, .int .i64 0] 132)
  have b3 := Blk.new (((W.alloc (.cells #[.int .i64 f.w, .int .i64 f.h, .int .i64 f.d, .int .i64 f.c, .int .i64 f.l, .slice PA f.pal.length pc, .slice KA f.key.length kc] 38)).alloc (.cells #[.int .i64 0, .int .i64 0, .int .i64 0, .int .i64 0] 62)).alloc (.cells #[.int .i64 0, .int .i64 0, .int .i64 0, .int .i64 0] 62)) 132 #[.int .i64 0, .int .i64 0, .int .i64 0, .int .i64 0]
  simp only [World.size_alloc] at b1 b2 b3
  exact ⟨⟨⟨b0.cell 0, b0.cell 1, b0.cell 2, b0.cell 3, b0.cell 4⟩, b0.cell 5, b0.cell 6⟩, b1, b2, b3, ((((Below.refl _ _).alloc (Nat.le_refl _) _).alloc (by simp) _).alloc (by simp; omega) _).alloc (by simp; omega) _⟩
theorem PixW.below {wr w' W : World} {f : Fm} {PA KA : Option Addr} {pc kc : Nat} {cs : List Value} (h : PixW wr W f PA KA pc kc cs) (hb : Below wr.heap.size wr w') : PixW w' W f PA KA pc kc cs := by
  obtain ⟨h1, h2, h3, h4, h5⟩ := h
  have := h4.lt
  exact ⟨h1.below hb (by omega), h2.below hb (by omega), h3.below hb (by omega), h4.below hb (by omega), h5.trans (hb.mono h5.size)⟩
theorem FC.far {w : World} {g : Nat} {f : Fm} {PA KA : Option Addr} {pc kc : Nat} (h : FC w g f PA KA pc kc) {p : Addr} (hp : g ≠ p.block) (u : Value) : FC (w.setCell p u) g f PA KA pc kc := by
  obtain ⟨⟨h0, h1, h2, h3, h4⟩, h5, h6⟩ := h
  have k := fun (o : Nat) => World.cell?_setCell_other w p ⟨g, o, none⟩ u (fun e => by subst e; exact hp rfl)
  exact ⟨⟨(k 0).trans h0, (k 1).trans h1, (k 2).trans h2, (k 3).trans h3, (k 4).trans h4⟩, (k 5).trans h5, (k 6).trans h6⟩
theorem PixW.store {wr W : World} {f : Fm} {PA KA : Option Addr} {pc kc : Nat} {d : Int} {n : List Int} {j : Nat} (hj : j < n.length) (h4 : j < 4) (h : PixW wr W f PA KA pc kc (wcells d n j)) :
    PixW (wr.setCell ⟨W.heap.size + 1 + 1 + 1, j, none⟩ (.int .i64 (n[j] * stp d))) W f PA KA pc kc (wcells d n (j + 1)) := by
  obtain ⟨h1, h2, h3, h5, h6⟩ := h
  have h7 := h5.set_ j (.int .i64 (n[j] * stp d))
  rw [wcells_set d n j hj h4] at h7
  exact ⟨h1.far (by show W.heap.size ≠ W.heap.size + 1 + 1 + 1; omega) _, h2.far (by show W.heap.size + 1 ≠ W.heap.size + 1 + 1 + 1; omega) _, h3.far (by show W.heap.size + 1 + 1 ≠ W.heap.size + 1 + 1 + 1; omega) _, h7, h6.setCell (by show W.heap.size ≤ W.heap.size + 1 + 1 + 1; omega) _⟩

end Go.Proofs.Ytphhoihhmphbdaa

namespace Go.Proofs.Ytphhoihhmphbdaa
open Go.RowKit

set_option maxRecDepth 100000 in
set_option maxHeartbeats 8000000 in
theorem pix_c0 (f : Fm) (PA KA NA : Option Addr) (pc kc nc : Nat) (n : List Int) (W : World) (hc : f.c = 0) (hl : (n.length : Int) = chan f.c) (hd : deepOk f.d) (hn : RdI W W.heap.size NA n) (hk : RdI W W.heap.size KA f.key) (hkm : f.key.length ≤ 1000000) :
    Calls Try.prog 39 #[.agg #[.int .i64 f.w, .int .i64 f.h, .int .i64 f.d, .int .i64 f.c, .int .i64 f.l, .slice PA f.pal.length pc, .slice KA f.key.length kc], .slice NA n.length nc] W (PixEnd (pixOf f n) W) := by
  have hlk : n.length = 1 := by rw [hc] at hl; have : chan 0 = 1 := rfl; omega
  have hq : ((n.length : Int) != chan f.c) = false := by rw [bne_eq_false_iff_eq]; exact hl
  have e3 : (f.c == 3) = false := beq_eq_false_iff_ne.2 (by omega)
  have e2 : (f.c == 2) = false := beq_eq_false_iff_ne.2 (by omega)
  have e4 : (f.c == 4) = false := beq_eq_false_iff_ne.2 (by omega)
  have e6 : (f.c == 6) = false := beq_eq_false_iff_ne.2 (by omega)
  have Hpx := hid (show pixOf f n = if n.all (keyB f.d) = true then some (clear (pxOf f.c f.d n) (decide (f.key ≠ [] ∧ f.key = n))) else none by unfold pixOf; rw [if_neg (by simpa using hl), if_neg (by omega)])
  have Hd := hid hd
  have Hn := hid hn
  have Hc := hid hc
  have Hlk := hid hlk
  have hl4 : n.length ≤ 4 := by omega
  have hl0 : 0 < n.length := by omega
  obtain ⟨pw1, pw2⟩ := pw_bd f.d
  obtain ⟨st1, st2⟩ := stp_bd f.d
  clear hl hc hd hn hlk
  go_enter Try.func39, Try.ntmps39
  go_wp2_with fail
  refine (channels_same f.c _).mono ?_
  rintro e w1 ⟨rfl, rfl⟩
  go_wp2_with fail
  go_loopw [49] (fun i wr => ∃ j : Nat, j ≤ n.length ∧ i = .int .i64 j ∧ (n.take j).all (keyB f.d) = true ∧ PixW wr W f PA KA pc kc (wcells f.d n j)) (fun i _ => n.length - (intOf i).toNat)
  case atStart =>
    exact ⟨0, by omega, rfl, rfl, pixw_start f PA KA pc kc n W⟩
  case round =>
    obtain ⟨j, hj, rfl, hall, hw⟩ := hrel
    have Hall := hid hall
    have Hw := hid hw
    clear hall hw
    obtain ⟨⟨⟨q0, q1, q2, q3, q4⟩, q5, q6⟩, hb1, hb2, hb3, hbw⟩ := Hw.out
    have hgw := hb3.lt
    have hbsz := hbw.size
    by_cases hlt : j < n.length
    · obtain ⟨nb, no, rfl, hnb, n0⟩ := int_at (Hn.out.below hbw (Nat.le_refl _)) hlt
      have Hkt := hid (key_take f.d n j hlt)
      clear hb1 hb2 hb3 hbw
      cases hkb : keyB f.d n[j]
      · have Hno := hid (show pixOf f n = none from Hpx.out.trans (if_neg (fun h => by rw [List.all_eq_true] at h; have := h n[j] (List.getElem_mem hlt); rw [hkb] at this; cases this)))
        have Hkb := hid (show ¬ (0 ≤ n[j] ∧ n[j] < pw f.d) from of_decide_eq_false hkb)
        have Hwid := hid (fun W => widen_any n[j] f.d Hd.out W)
        generalize n[j] = x at *
        clear hkb
        go_wp2_with fail
        refine (Hwid.out _).mono ?_
        rintro e w2 ⟨he, hb2⟩
        rw [if_neg Hkb.out] at he
        subst he
        obtain ⟨_, hr, hz, _, hbw2⟩ := Hw.out.below hb2
        have r0 := hr.cell 0
        have r1 := hr.cell 1
        have r2 := hr.cell 2
        have r3 := hr.cell 3
        have fr := fun i => hr.frozen i
        have z0 := hz.cell 0
        have z1 := hz.cell 1
        have z2 := hz.cell 2
        have z3 := hz.cell 3
        simp only [List.getElem?_toArray, List.getElem?_cons_zero, List.getElem?_cons_succ] at r0 r1 r2 r3 z0 z1 z2 z3
        have Hbw2 := hid hbw2
        clear hr hz hbw2 hb2 n0 q0 q1 q2 q3 q4 q5 q6
        go_wp2_with fail
        refine bodyPost_ret (v := .tuple #[.agg #[.int .i64 0, .int .i64 0, .int .i64 0, .int .i64 0], .bool false]) (by simp [results, Try.results39, go_sem, r0, r1, r2, r3]) rfl (pixEnd_none Hno.out ?_)
        exact below4 Hbw2.out (by omega)
      · obtain ⟨k0, k1⟩ := keyB_bd hkb
        have Hal := hid (show (n.take (j + 1)).all (keyB f.d) = true by rw [Hkt.out, Hall.out, hkb]; rfl)
        have Hwid := hid (fun W => widen_any n[j] f.d Hd.out W)
        have Hst := hid (fun (w' : World) (hb : Below wr.heap.size wr w') => PixW.store hlt (by omega) (Hw.out.below hb))
        have Hz := hid (wcells_at f.d n j hlt (by omega))
        generalize n[j] = x at *
        clear hkb
        go_wp2_with fail
        refine (Hwid.out _).mono ?_
        rintro e w2 ⟨he, hb2⟩
        rw [if_pos ⟨k0, k1⟩] at he
        subst he
        obtain ⟨_, _, _, h3, _⟩ := Hw.out.below hb2
        have y0 := (h3.cell j).trans Hz.out
        have y1 := h3.frozen j
        have Hb2 := hid hb2
        clear h3 hb2 n0 q0 q1 q2 q3 q4 q5 q6
        have hj3 : (j : Int) < 4 := by omega
        go_wp2_with fail
        go_roundw
        case rel => exact ⟨j + 1, by omega, by go_num, Hal.out, Hst.out w2 Hb2.out⟩
        case measure => simp [intOf]; omega
    · have e : j = n.length := by omega
      subst e
      have Hall2 := hid (show n.all (keyB f.d) = true by have := Hall.out; rwa [List.take_length] at this)
      obtain ⟨x0, hx⟩ : ∃ x0, n = [x0] := by
        have h := Hlk.out
        match n, h with
        | [x0], _ => exact ⟨x0, rfl⟩
      subst hx
      have hb4 : Blk wr (W.heap.size + 1 + 1 + 1) 132 #[.int .i64 (x0 * stp f.d), .int .i64 0, .int .i64 0, .int .i64 0] := hb3
      have y0 := hb4.cell 0
      have y1 := hb4.cell 1
      have y2 := hb4.cell 2
      have y3 := hb4.cell 3
      have r0 := hb1.cell 0
      have r1 := hb1.cell 1
      have r2 := hb1.cell 2
      have r3 := hb1.cell 3
      have fr := fun i => hb1.frozen i
      simp only [List.getElem?_toArray, List.getElem?_cons_zero, List.getElem?_cons_succ] at y0 y1 y2 y3 r0 r1 r2 r3
      have Hbw := hid hbw
      have Hnn := hid (Hn.out.below hbw (Nat.le_refl _))
      have g1 : W.heap.size + 1 < wr.heap.size := by omega
      have g0 : W.heap.size < wr.heap.size := by omega
      clear hb1 hb2 hb3 hb4 hbw Hw
      have Hkr := hid (hk.below Hbw.out (Nat.le_refl _))
      clear hk
      by_cases hk0 : f.key.length = 0
      · have hke : f.key = [] := List.eq_nil_of_length_eq_zero hk0
        have Hfin := hid (show pixOf f [x0] = some (x0 * stp f.d, x0 * stp f.d, x0 * stp f.d, 65535) by
          rw [Hpx.out, if_pos Hall2.out, decide_eq_false (fun h => h.1 hke)]
          unfold pxOf clear
          rw [Hc.out]
          rfl)
        have hkl : (f.key.length : Int) = 0 := by omega
        clear hke
        go_wp2_with fail
        refine bodyPost_ret (v := .tuple #[.agg #[.int .i64 (x0 * stp f.d), .int .i64 (x0 * stp f.d), .int .i64 (x0 * stp f.d), .int .i64 65535], .bool true]) (by simp [results, Try.results39, go_sem, r0, r1, r2, r3, g1]) rfl (pixEnd_some Hfin.out ?_)
        exact (below4 Hbw.out (by omega)).alloc (by simp; omega) _
      · have hke : f.key ≠ [] := fun h => hk0 (by rw [h]; rfl)
        have hkp : (0 : Int) < (f.key.length : Int) := by omega
        have hkp2 : 0 < f.key.length := by omega
        by_cases heq : f.key = [x0]
        · have Hfin := hid (show pixOf f [x0] = some (x0 * stp f.d, x0 * stp f.d, x0 * stp f.d, 0) by
          rw [Hpx.out, if_pos Hall2.out, decide_eq_true ⟨hke, heq⟩]
          unfold pxOf clear
          rw [Hc.out]
          rfl)
          have Hg := hid (show true = decide (f.key = [x0]) from (decide_eq_true heq).symm)
          clear hke heq hk0
          go_wp2_with fail
          refine (equal_any KA NA kc nc f.key [x0] _ W.heap.size (by first | exact Hkr.out.alloc (Nat.le_of_lt g0) _ | exact (Hkr.out.alloc (Nat.le_of_lt g0) _).drewN 1) (by first | exact Hnn.out.alloc (Nat.le_of_lt g0) _ | exact (Hnn.out.alloc (Nat.le_of_lt g0) _).drewN 1) hkm (by simp) true Hg.out).mono ?_
          rintro e w2 ⟨rfl, nq, rfl⟩
          go_wp2_with fail
          refine bodyPost_ret (v := .tuple #[.agg #[.int .i64 (x0 * stp f.d), .int .i64 (x0 * stp f.d), .int .i64 (x0 * stp f.d), .int .i64 0], .bool true]) (by simp [results, Try.results39, go_sem, r0, r1, r2, r3, g1]) rfl (pixEnd_some Hfin.out ?_)
          exact below4 ((below_drewN (Hbw.out.alloc hbsz _) nq).setCell (by exact hbsz) _) (by omega)
        · have Hfin := hid (show pixOf f [x0] = some (x0 * stp f.d, x0 * stp f.d, x0 * stp f.d, 65535) by
          rw [Hpx.out, if_pos Hall2.out, decide_eq_false (fun h => heq h.2)]
          unfold pxOf clear
          rw [Hc.out]
          rfl)
          have Hg := hid (show false = decide (f.key = [x0]) from (decide_eq_false heq).symm)
          clear hke heq hk0
          go_wp2_with fail
          refine (equal_any KA NA kc nc f.key [x0] _ W.heap.size (by first | exact Hkr.out.alloc (Nat.le_of_lt g0) _ | exact (Hkr.out.alloc (Nat.le_of_lt g0) _).drewN 1) (by first | exact Hnn.out.alloc (Nat.le_of_lt g0) _ | exact (Hnn.out.alloc (Nat.le_of_lt g0) _).drewN 1) hkm (by simp) false Hg.out).mono ?_
          rintro e w2 ⟨rfl, nq, rfl⟩
          go_wp2_with fail
          refine bodyPost_ret (v := .tuple #[.agg #[.int .i64 (x0 * stp f.d), .int .i64 (x0 * stp f.d), .int .i64 (x0 * stp f.d), .int .i64 65535], .bool true]) (by simp [results, Try.results39, go_sem, r0, r1, r2, r3, g1]) rfl (pixEnd_some Hfin.out ?_)
          exact below4 (below_drewN (Hbw.out.alloc hbsz _) nq) (by omega)

end Go.Proofs.Ytphhoihhmphbdaa

namespace Go.Proofs.Ytphhoihhmphbdaa
open Go.RowKit

set_option maxRecDepth 100000 in
set_option maxHeartbeats 8000000 in
theorem pix_c2 (f : Fm) (PA KA NA : Option Addr) (pc kc nc : Nat) (n : List Int) (W : World) (hc : f.c = 2) (hl : (n.length : Int) = chan f.c) (hd : deepOk f.d) (hn : RdI W W.heap.size NA n) (hk : RdI W W.heap.size KA f.key) (hkm : f.key.length ≤ 1000000) :
    Calls Try.prog 39 #[.agg #[.int .i64 f.w, .int .i64 f.h, .int .i64 f.d, .int .i64 f.c, .int .i64 f.l, .slice PA f.pal.length pc, .slice KA f.key.length kc], .slice NA n.length nc] W (PixEnd (pixOf f n) W) := by
  have hlk : n.length = 3 := by rw [hc] at hl; have : chan 2 = 3 := rfl; omega
  have hq : ((n.length : Int) != chan f.c) = false := by rw [bne_eq_false_iff_eq]; exact hl
  have e3 : (f.c == 3) = false := beq_eq_false_iff_ne.2 (by omega)
  have e2 : (f.c == 2) = true := beq_iff_eq.2 hc
  have e4 : (f.c == 4) = false := beq_eq_false_iff_ne.2 (by omega)
  have e6 : (f.c == 6) = false := beq_eq_false_iff_ne.2 (by omega)
  have Hpx := hid (show pixOf f n = if n.all (keyB f.d) = true then some (clear (pxOf f.c f.d n) (decide (f.key ≠ [] ∧ f.key = n))) else none by unfold pixOf; rw [if_neg (by simpa using hl), if_neg (by omega)])
  have Hd := hid hd
  have Hn := hid hn
  have Hc := hid hc
  have Hlk := hid hlk
  have hl4 : n.length ≤ 4 := by omega
  have hl0 : 0 < n.length := by omega
  obtain ⟨pw1, pw2⟩ := pw_bd f.d
  obtain ⟨st1, st2⟩ := stp_bd f.d
  clear hl hc hd hn hlk
  go_enter Try.func39, Try.ntmps39
  go_wp2_with fail
  refine (channels_same f.c _).mono ?_
  rintro e w1 ⟨rfl, rfl⟩
  go_wp2_with fail
  go_loopw [49] (fun i wr => ∃ j : Nat, j ≤ n.length ∧ i = .int .i64 j ∧ (n.take j).all (keyB f.d) = true ∧ PixW wr W f PA KA pc kc (wcells f.d n j)) (fun i _ => n.length - (intOf i).toNat)
  case atStart =>
    exact ⟨0, by omega, rfl, rfl, pixw_start f PA KA pc kc n W⟩
  case round =>
    obtain ⟨j, hj, rfl, hall, hw⟩ := hrel
    have Hall := hid hall
    have Hw := hid hw
    clear hall hw
    obtain ⟨⟨⟨q0, q1, q2, q3, q4⟩, q5, q6⟩, hb1, hb2, hb3, hbw⟩ := Hw.out
    have hgw := hb3.lt
    have hbsz := hbw.size
    by_cases hlt : j < n.length
    · obtain ⟨nb, no, rfl, hnb, n0⟩ := int_at (Hn.out.below hbw (Nat.le_refl _)) hlt
      have Hkt := hid (key_take f.d n j hlt)
      clear hb1 hb2 hb3 hbw
      cases hkb : keyB f.d n[j]
      · have Hno := hid (show pixOf f n = none from Hpx.out.trans (if_neg (fun h => by rw [List.all_eq_true] at h; have := h n[j] (List.getElem_mem hlt); rw [hkb] at this; cases this)))
        have Hkb := hid (show ¬ (0 ≤ n[j] ∧ n[j] < pw f.d) from of_decide_eq_false hkb)
        have Hwid := hid (fun W => widen_any n[j] f.d Hd.out W)
        generalize n[j] = x at *
        clear hkb
        go_wp2_with fail
        refine (Hwid.out _).mono ?_
        rintro e w2 ⟨he, hb2⟩
        rw [if_neg Hkb.out] at he
        subst he
        obtain ⟨_, hr, hz, _, hbw2⟩ := Hw.out.below hb2
        have r0 := hr.cell 0
        have r1 := hr.cell 1
        have r2 := hr.cell 2
        have r3 := hr.cell 3
        have fr := fun i => hr.frozen i
        have z0 := hz.cell 0
        have z1 := hz.cell 1
        have z2 := hz.cell 2
        have z3 := hz.cell 3
        simp only [List.getElem?_toArray, List.getElem?_cons_zero, List.getElem?_cons_succ] at r0 r1 r2 r3 z0 z1 z2 z3
        have Hbw2 := hid hbw2
        clear hr hz hbw2 hb2 n0 q0 q1 q2 q3 q4 q5 q6
        go_wp2_with fail
        refine bodyPost_ret (v := .tuple #[.agg #[.int .i64 0, .int .i64 0, .int .i64 0, .int .i64 0], .bool false]) (by simp [results, Try.results39, go_sem, r0, r1, r2, r3]) rfl (pixEnd_none Hno.out ?_)
        exact below4 Hbw2.out (by omega)
      · obtain ⟨k0, k1⟩ := keyB_bd hkb
        have Hal := hid (show (n.take (j + 1)).all (keyB f.d) = true by rw [Hkt.out, Hall.out, hkb]; rfl)
        have Hwid := hid (fun W => widen_any n[j] f.d Hd.out W)
        have Hst := hid (fun (w' : World) (hb : Below wr.heap.size wr w') => PixW.store hlt (by omega) (Hw.out.below hb))
        have Hz := hid (wcells_at f.d n j hlt (by omega))
        generalize n[j] = x at *
        clear hkb
        go_wp2_with fail
        refine (Hwid.out _).mono ?_
        rintro e w2 ⟨he, hb2⟩
        rw [if_pos ⟨k0, k1⟩] at he
        subst he
        obtain ⟨_, _, _, h3, _⟩ := Hw.out.below hb2
        have y0 := (h3.cell j).trans Hz.out
        have y1 := h3.frozen j
        have Hb2 := hid hb2
        clear h3 hb2 n0 q0 q1 q2 q3 q4 q5 q6
        have hj3 : (j : Int) < 4 := by omega
        go_wp2_with fail
        go_roundw
        case rel => exact ⟨j + 1, by omega, by go_num, Hal.out, Hst.out w2 Hb2.out⟩
        case measure => simp [intOf]; omega
    · have e : j = n.length := by omega
      subst e
      have Hall2 := hid (show n.all (keyB f.d) = true by have := Hall.out; rwa [List.take_length] at this)
      obtain ⟨x0, x1, x2, hx⟩ : ∃ x0 x1 x2, n = [x0, x1, x2] := by
        have h := Hlk.out
        match n, h with
        | [x0, x1, x2], _ => exact ⟨x0, x1, x2, rfl⟩
      subst hx
      have hb4 : Blk wr (W.heap.size + 1 + 1 + 1) 132 #[.int .i64 (x0 * stp f.d), .int .i64 (x1 * stp f.d), .int .i64 (x2 * stp f.d), .int .i64 0] := hb3
      have y0 := hb4.cell 0
      have y1 := hb4.cell 1
      have y2 := hb4.cell 2
      have y3 := hb4.cell 3
      have r0 := hb1.cell 0
      have r1 := hb1.cell 1
      have r2 := hb1.cell 2
      have r3 := hb1.cell 3
      have fr := fun i => hb1.frozen i
      simp only [List.getElem?_toArray, List.getElem?_cons_zero, List.getElem?_cons_succ] at y0 y1 y2 y3 r0 r1 r2 r3
      have Hbw := hid hbw
      have Hnn := hid (Hn.out.below hbw (Nat.le_refl _))
      have g1 : W.heap.size + 1 < wr.heap.size := by omega
      have g0 : W.heap.size < wr.heap.size := by omega
      clear hb1 hb2 hb3 hb4 hbw Hw
      have Hkr := hid (hk.below Hbw.out (Nat.le_refl _))
      clear hk
      by_cases hk0 : f.key.length = 0
      · have hke : f.key = [] := List.eq_nil_of_length_eq_zero hk0
        have Hfin := hid (show pixOf f [x0, x1, x2] = some (x0 * stp f.d, x1 * stp f.d, x2 * stp f.d, 65535) by
          rw [Hpx.out, if_pos Hall2.out, decide_eq_false (fun h => h.1 hke)]
          unfold pxOf clear
          rw [Hc.out]
          rfl)
        have hkl : (f.key.length : Int) = 0 := by omega
        clear hke
        go_upto_region 21 with (fail)
        go_region_held3 (fun w' => w'.cell? ⟨W.heap.size + 1 + 1 + 1, 1, none⟩ = some (.int .i64 (x1 * stp f.d)) ∧ w'.cell? ⟨W.heap.size + 1 + 1 + 1, 2, none⟩ = some (.int .i64 (x2 * stp f.d))) (go_keep) (fail)
        all_goals
          go_wp2_with fail
          refine bodyPost_ret (v := .tuple #[.agg #[.int .i64 (x0 * stp f.d), .int .i64 (x1 * stp f.d), .int .i64 (x2 * stp f.d), .int .i64 65535], .bool true]) (by simp [results, Try.results39, go_sem, r0, r1, r2, r3, g1]) rfl (pixEnd_some Hfin.out ?_)
          exact ((below4 Hbw.out (by omega)).alloc (by simp; omega) _).drew
      · have hke : f.key ≠ [] := fun h => hk0 (by rw [h]; rfl)
        have hkp : (0 : Int) < (f.key.length : Int) := by omega
        have hkp2 : 0 < f.key.length := by omega
        by_cases heq : f.key = [x0, x1, x2]
        · have Hfin := hid (show pixOf f [x0, x1, x2] = some (x0 * stp f.d, x1 * stp f.d, x2 * stp f.d, 0) by
          rw [Hpx.out, if_pos Hall2.out, decide_eq_true ⟨hke, heq⟩]
          unfold pxOf clear
          rw [Hc.out]
          rfl)
          have Hg := hid (show true = decide (f.key = [x0, x1, x2]) from (decide_eq_true heq).symm)
          clear hke heq hk0
          go_upto_region 21 with (fail)
          go_region_held3 (fun w' => w'.cell? ⟨W.heap.size + 1 + 1 + 1, 1, none⟩ = some (.int .i64 (x1 * stp f.d)) ∧ w'.cell? ⟨W.heap.size + 1 + 1 + 1, 2, none⟩ = some (.int .i64 (x2 * stp f.d))) (go_keep) (fail)
          all_goals
            go_wp2_with fail
            refine (equal_any KA NA kc nc f.key [x0, x1, x2] _ W.heap.size (by first | exact Hkr.out.alloc (Nat.le_of_lt g0) _ | exact (Hkr.out.alloc (Nat.le_of_lt g0) _).drewN 1) (by first | exact Hnn.out.alloc (Nat.le_of_lt g0) _ | exact (Hnn.out.alloc (Nat.le_of_lt g0) _).drewN 1) hkm (by simp) true Hg.out).mono ?_
            rintro e w2 ⟨rfl, nq, rfl⟩
            go_wp2_with fail
            refine bodyPost_ret (v := .tuple #[.agg #[.int .i64 (x0 * stp f.d), .int .i64 (x1 * stp f.d), .int .i64 (x2 * stp f.d), .int .i64 0], .bool true]) (by simp [results, Try.results39, go_sem, r0, r1, r2, r3, g1]) rfl (pixEnd_some Hfin.out ?_)
            exact below4 ((below_drewN (Hbw.out.alloc hbsz _) (1 + nq)).setCell (by exact hbsz) _) (by omega)
        · have Hfin := hid (show pixOf f [x0, x1, x2] = some (x0 * stp f.d, x1 * stp f.d, x2 * stp f.d, 65535) by
          rw [Hpx.out, if_pos Hall2.out, decide_eq_false (fun h => heq h.2)]
          unfold pxOf clear
          rw [Hc.out]
          rfl)
          have Hg := hid (show false = decide (f.key = [x0, x1, x2]) from (decide_eq_false heq).symm)
          clear hke heq hk0
          go_upto_region 21 with (fail)
          go_region_held3 (fun w' => w'.cell? ⟨W.heap.size + 1 + 1 + 1, 1, none⟩ = some (.int .i64 (x1 * stp f.d)) ∧ w'.cell? ⟨W.heap.size + 1 + 1 + 1, 2, none⟩ = some (.int .i64 (x2 * stp f.d))) (go_keep) (fail)
          all_goals
            go_wp2_with fail
            refine (equal_any KA NA kc nc f.key [x0, x1, x2] _ W.heap.size (by first | exact Hkr.out.alloc (Nat.le_of_lt g0) _ | exact (Hkr.out.alloc (Nat.le_of_lt g0) _).drewN 1) (by first | exact Hnn.out.alloc (Nat.le_of_lt g0) _ | exact (Hnn.out.alloc (Nat.le_of_lt g0) _).drewN 1) hkm (by simp) false Hg.out).mono ?_
            rintro e w2 ⟨rfl, nq, rfl⟩
            go_wp2_with fail
            refine bodyPost_ret (v := .tuple #[.agg #[.int .i64 (x0 * stp f.d), .int .i64 (x1 * stp f.d), .int .i64 (x2 * stp f.d), .int .i64 65535], .bool true]) (by simp [results, Try.results39, go_sem, r0, r1, r2, r3, g1]) rfl (pixEnd_some Hfin.out ?_)
            exact below4 (below_drewN (Hbw.out.alloc hbsz _) (1 + nq)) (by omega)

end Go.Proofs.Ytphhoihhmphbdaa

namespace Go.Proofs.Ytphhoihhmphbdaa
open Go.RowKit

set_option maxRecDepth 100000 in
set_option maxHeartbeats 8000000 in
theorem pix_c4 (f : Fm) (PA KA NA : Option Addr) (pc kc nc : Nat) (n : List Int) (W : World) (hc : f.c = 4) (hl : (n.length : Int) = chan f.c) (hd : deepOk f.d) (hn : RdI W W.heap.size NA n) (hk0 : f.key = []) :
    Calls Try.prog 39 #[.agg #[.int .i64 f.w, .int .i64 f.h, .int .i64 f.d, .int .i64 f.c, .int .i64 f.l, .slice PA f.pal.length pc, .slice KA f.key.length kc], .slice NA n.length nc] W (PixEnd (pixOf f n) W) := by
  have hlk : n.length = 2 := by rw [hc] at hl; have : chan 4 = 2 := rfl; omega
  have hq : ((n.length : Int) != chan f.c) = false := by rw [bne_eq_false_iff_eq]; exact hl
  have e3 : (f.c == 3) = false := beq_eq_false_iff_ne.2 (by omega)
  have e2 : (f.c == 2) = false := beq_eq_false_iff_ne.2 (by omega)
  have e4 : (f.c == 4) = true := beq_iff_eq.2 hc
  have e6 : (f.c == 6) = false := beq_eq_false_iff_ne.2 (by omega)
  have Hpx := hid (show pixOf f n = if n.all (keyB f.d) = true then some (clear (pxOf f.c f.d n) (decide (f.key ≠ [] ∧ f.key = n))) else none by unfold pixOf; rw [if_neg (by simpa using hl), if_neg (by omega)])
  have Hd := hid hd
  have Hn := hid hn
  have Hc := hid hc
  have Hlk := hid hlk
  have Hk0 := hid hk0
  clear hk0
  have hl4 : n.length ≤ 4 := by omega
  have hl0 : 0 < n.length := by omega
  obtain ⟨pw1, pw2⟩ := pw_bd f.d
  obtain ⟨st1, st2⟩ := stp_bd f.d
  clear hl hc hd hn hlk
  go_enter Try.func39, Try.ntmps39
  go_wp2_with fail
  refine (channels_same f.c _).mono ?_
  rintro e w1 ⟨rfl, rfl⟩
  go_wp2_with fail
  go_loopw [49] (fun i wr => ∃ j : Nat, j ≤ n.length ∧ i = .int .i64 j ∧ (n.take j).all (keyB f.d) = true ∧ PixW wr W f PA KA pc kc (wcells f.d n j)) (fun i _ => n.length - (intOf i).toNat)
  case atStart =>
    exact ⟨0, by omega, rfl, rfl, pixw_start f PA KA pc kc n W⟩
  case round =>
    obtain ⟨j, hj, rfl, hall, hw⟩ := hrel
    have Hall := hid hall
    have Hw := hid hw
    clear hall hw
    obtain ⟨⟨⟨q0, q1, q2, q3, q4⟩, q5, q6⟩, hb1, hb2, hb3, hbw⟩ := Hw.out
    have hgw := hb3.lt
    have hbsz := hbw.size
    by_cases hlt : j < n.length
    · obtain ⟨nb, no, rfl, hnb, n0⟩ := int_at (Hn.out.below hbw (Nat.le_refl _)) hlt
      have Hkt := hid (key_take f.d n j hlt)
      clear hb1 hb2 hb3 hbw
      cases hkb : keyB f.d n[j]
      · have Hno := hid (show pixOf f n = none from Hpx.out.trans (if_neg (fun h => by rw [List.all_eq_true] at h; have := h n[j] (List.getElem_mem hlt); rw [hkb] at this; cases this)))
        have Hkb := hid (show ¬ (0 ≤ n[j] ∧ n[j] < pw f.d) from of_decide_eq_false hkb)
        have Hwid := hid (fun W => widen_any n[j] f.d Hd.out W)
        generalize n[j] = x at *
        clear hkb
        go_wp2_with fail
        refine (Hwid.out _).mono ?_
        rintro e w2 ⟨he, hb2⟩
        rw [if_neg Hkb.out] at he
        subst he
        obtain ⟨_, hr, hz, _, hbw2⟩ := Hw.out.below hb2
        have r0 := hr.cell 0
        have r1 := hr.cell 1
        have r2 := hr.cell 2
        have r3 := hr.cell 3
        have fr := fun i => hr.frozen i
        have z0 := hz.cell 0
        have z1 := hz.cell 1
        have z2 := hz.cell 2
        have z3 := hz.cell 3
        simp only [List.getElem?_toArray, List.getElem?_cons_zero, List.getElem?_cons_succ] at r0 r1 r2 r3 z0 z1 z2 z3
        have Hbw2 := hid hbw2
        clear hr hz hbw2 hb2 n0 q0 q1 q2 q3 q4 q5 q6
        go_wp2_with fail
        refine bodyPost_ret (v := .tuple #[.agg #[.int .i64 0, .int .i64 0, .int .i64 0, .int .i64 0], .bool false]) (by simp [results, Try.results39, go_sem, r0, r1, r2, r3]) rfl (pixEnd_none Hno.out ?_)
        exact below4 Hbw2.out (by omega)
      · obtain ⟨k0, k1⟩ := keyB_bd hkb
        have Hal := hid (show (n.take (j + 1)).all (keyB f.d) = true by rw [Hkt.out, Hall.out, hkb]; rfl)
        have Hwid := hid (fun W => widen_any n[j] f.d Hd.out W)
        have Hst := hid (fun (w' : World) (hb : Below wr.heap.size wr w') => PixW.store hlt (by omega) (Hw.out.below hb))
        have Hz := hid (wcells_at f.d n j hlt (by omega))
        generalize n[j] = x at *
        clear hkb
        go_wp2_with fail
        refine (Hwid.out _).mono ?_
        rintro e w2 ⟨he, hb2⟩
        rw [if_pos ⟨k0, k1⟩] at he
        subst he
        obtain ⟨_, _, _, h3, _⟩ := Hw.out.below hb2
        have y0 := (h3.cell j).trans Hz.out
        have y1 := h3.frozen j
        have Hb2 := hid hb2
        clear h3 hb2 n0 q0 q1 q2 q3 q4 q5 q6
        have hj3 : (j : Int) < 4 := by omega
        go_wp2_with fail
        go_roundw
        case rel => exact ⟨j + 1, by omega, by go_num, Hal.out, Hst.out w2 Hb2.out⟩
        case measure => simp [intOf]; omega
    · have e : j = n.length := by omega
      subst e
      have Hall2 := hid (show n.all (keyB f.d) = true by have := Hall.out; rwa [List.take_length] at this)
      obtain ⟨x0, x1, hx⟩ : ∃ x0 x1, n = [x0, x1] := by
        have h := Hlk.out
        match n, h with
        | [x0, x1], _ => exact ⟨x0, x1, rfl⟩
      subst hx
      have hb4 : Blk wr (W.heap.size + 1 + 1 + 1) 132 #[.int .i64 (x0 * stp f.d), .int .i64 (x1 * stp f.d), .int .i64 0, .int .i64 0] := hb3
      have y0 := hb4.cell 0
      have y1 := hb4.cell 1
      have y2 := hb4.cell 2
      have y3 := hb4.cell 3
      have r0 := hb1.cell 0
      have r1 := hb1.cell 1
      have r2 := hb1.cell 2
      have r3 := hb1.cell 3
      have fr := fun i => hb1.frozen i
      simp only [List.getElem?_toArray, List.getElem?_cons_zero, List.getElem?_cons_succ] at y0 y1 y2 y3 r0 r1 r2 r3
      have Hbw := hid hbw
      have Hnn := hid (Hn.out.below hbw (Nat.le_refl _))
      have g1 : W.heap.size + 1 < wr.heap.size := by omega
      have g0 : W.heap.size < wr.heap.size := by omega
      clear hb1 hb2 hb3 hb4 hbw Hw
      have Hfin := hid (show pixOf f [x0, x1] = some (x0 * stp f.d, x0 * stp f.d, x0 * stp f.d, x1 * stp f.d) by
        rw [Hpx.out, if_pos Hall2.out, decide_eq_false (fun h => h.1 Hk0.out)]
        unfold pxOf clear
        rw [Hc.out]
        rfl)
      have hkl : (f.key.length : Int) = 0 := by rw [Hk0.out]; rfl
      go_wp2_with fail
      refine bodyPost_ret (v := .tuple #[.agg #[.int .i64 (x0 * stp f.d), .int .i64 (x0 * stp f.d), .int .i64 (x0 * stp f.d), .int .i64 (x1 * stp f.d)], .bool true]) (by simp [results, Try.results39, go_sem, r0, r1, r2, r3, g1]) rfl (pixEnd_some Hfin.out ?_)
      exact (below4 Hbw.out (by omega)).alloc (by simp; omega) _

end Go.Proofs.Ytphhoihhmphbdaa

namespace Go.Proofs.Ytphhoihhmphbdaa
open Go.RowKit

set_option maxRecDepth 100000 in
set_option maxHeartbeats 8000000 in
theorem pix_c6 (f : Fm) (PA KA NA : Option Addr) (pc kc nc : Nat) (n : List Int) (W : World) (hc : f.c = 6) (hl : (n.length : Int) = chan f.c) (hd : deepOk f.d) (hn : RdI W W.heap.size NA n) (hk0 : f.key = []) :
    Calls Try.prog 39 #[.agg #[.int .i64 f.w, .int .i64 f.h, .int .i64 f.d, .int .i64 f.c, .int .i64 f.l, .slice PA f.pal.length pc, .slice KA f.key.length kc], .slice NA n.length nc] W (PixEnd (pixOf f n) W) := by
  have hlk : n.length = 4 := by rw [hc] at hl; have : chan 6 = 4 := rfl; omega
  have hq : ((n.length : Int) != chan f.c) = false := by rw [bne_eq_false_iff_eq]; exact hl
  have e3 : (f.c == 3) = false := beq_eq_false_iff_ne.2 (by omega)
  have e2 : (f.c == 2) = false := beq_eq_false_iff_ne.2 (by omega)
  have e4 : (f.c == 4) = false := beq_eq_false_iff_ne.2 (by omega)
  have e6 : (f.c == 6) = true := beq_iff_eq.2 hc
  have Hpx := hid (show pixOf f n = if n.all (keyB f.d) = true then some (clear (pxOf f.c f.d n) (decide (f.key ≠ [] ∧ f.key = n))) else none by unfold pixOf; rw [if_neg (by simpa using hl), if_neg (by omega)])
  have Hd := hid hd
  have Hn := hid hn
  have Hc := hid hc
  have Hlk := hid hlk
  have Hk0 := hid hk0
  clear hk0
  have hl4 : n.length ≤ 4 := by omega
  have hl0 : 0 < n.length := by omega
  obtain ⟨pw1, pw2⟩ := pw_bd f.d
  obtain ⟨st1, st2⟩ := stp_bd f.d
  clear hl hc hd hn hlk
  go_enter Try.func39, Try.ntmps39
  go_wp2_with fail
  refine (channels_same f.c _).mono ?_
  rintro e w1 ⟨rfl, rfl⟩
  go_wp2_with fail
  go_loopw [49] (fun i wr => ∃ j : Nat, j ≤ n.length ∧ i = .int .i64 j ∧ (n.take j).all (keyB f.d) = true ∧ PixW wr W f PA KA pc kc (wcells f.d n j)) (fun i _ => n.length - (intOf i).toNat)
  case atStart =>
    exact ⟨0, by omega, rfl, rfl, pixw_start f PA KA pc kc n W⟩
  case round =>
    obtain ⟨j, hj, rfl, hall, hw⟩ := hrel
    have Hall := hid hall
    have Hw := hid hw
    clear hall hw
    obtain ⟨⟨⟨q0, q1, q2, q3, q4⟩, q5, q6⟩, hb1, hb2, hb3, hbw⟩ := Hw.out
    have hgw := hb3.lt
    have hbsz := hbw.size
    by_cases hlt : j < n.length
    · obtain ⟨nb, no, rfl, hnb, n0⟩ := int_at (Hn.out.below hbw (Nat.le_refl _)) hlt
      have Hkt := hid (key_take f.d n j hlt)
      clear hb1 hb2 hb3 hbw
      cases hkb : keyB f.d n[j]
      · have Hno := hid (show pixOf f n = none from Hpx.out.trans (if_neg (fun h => by rw [List.all_eq_true] at h; have := h n[j] (List.getElem_mem hlt); rw [hkb] at this; cases this)))
        have Hkb := hid (show ¬ (0 ≤ n[j] ∧ n[j] < pw f.d) from of_decide_eq_false hkb)
        have Hwid := hid (fun W => widen_any n[j] f.d Hd.out W)
        generalize n[j] = x at *
        clear hkb
        go_wp2_with fail
        refine (Hwid.out _).mono ?_
        rintro e w2 ⟨he, hb2⟩
        rw [if_neg Hkb.out] at he
        subst he
        obtain ⟨_, hr, hz, _, hbw2⟩ := Hw.out.below hb2
        have r0 := hr.cell 0
        have r1 := hr.cell 1
        have r2 := hr.cell 2
        have r3 := hr.cell 3
        have fr := fun i => hr.frozen i
        have z0 := hz.cell 0
        have z1 := hz.cell 1
        have z2 := hz.cell 2
        have z3 := hz.cell 3
        simp only [List.getElem?_toArray, List.getElem?_cons_zero, List.getElem?_cons_succ] at r0 r1 r2 r3 z0 z1 z2 z3
        have Hbw2 := hid hbw2
        clear hr hz hbw2 hb2 n0 q0 q1 q2 q3 q4 q5 q6
        go_wp2_with fail
        refine bodyPost_ret (v := .tuple #[.agg #[.int .i64 0, .int .i64 0, .int .i64 0, .int .i64 0], .bool false]) (by simp [results, Try.results39, go_sem, r0, r1, r2, r3]) rfl (pixEnd_none Hno.out ?_)
        exact below4 Hbw2.out (by omega)
      · obtain ⟨k0, k1⟩ := keyB_bd hkb
        have Hal := hid (show (n.take (j + 1)).all (keyB f.d) = true by rw [Hkt.out, Hall.out, hkb]; rfl)
        have Hwid := hid (fun W => widen_any n[j] f.d Hd.out W)
        have Hst := hid (fun (w' : World) (hb : Below wr.heap.size wr w') => PixW.store hlt (by omega) (Hw.out.below hb))
        have Hz := hid (wcells_at f.d n j hlt (by omega))
        generalize n[j] = x at *
        clear hkb
        go_wp2_with fail
        refine (Hwid.out _).mono ?_
        rintro e w2 ⟨he, hb2⟩
        rw [if_pos ⟨k0, k1⟩] at he
        subst he
        obtain ⟨_, _, _, h3, _⟩ := Hw.out.below hb2
        have y0 := (h3.cell j).trans Hz.out
        have y1 := h3.frozen j
        have Hb2 := hid hb2
        clear h3 hb2 n0 q0 q1 q2 q3 q4 q5 q6
        have hj3 : (j : Int) < 4 := by omega
        go_wp2_with fail
        go_roundw
        case rel => exact ⟨j + 1, by omega, by go_num, Hal.out, Hst.out w2 Hb2.out⟩
        case measure => simp [intOf]; omega
    · have e : j = n.length := by omega
      subst e
      have Hall2 := hid (show n.all (keyB f.d) = true by have := Hall.out; rwa [List.take_length] at this)
      obtain ⟨x0, x1, x2, x3, hx⟩ : ∃ x0 x1 x2 x3, n = [x0, x1, x2, x3] := by
        have h := Hlk.out
        match n, h with
        | [x0, x1, x2, x3], _ => exact ⟨x0, x1, x2, x3, rfl⟩
      subst hx
      have hb4 : Blk wr (W.heap.size + 1 + 1 + 1) 132 #[.int .i64 (x0 * stp f.d), .int .i64 (x1 * stp f.d), .int .i64 (x2 * stp f.d), .int .i64 (x3 * stp f.d)] := hb3
      have y0 := hb4.cell 0
      have y1 := hb4.cell 1
      have y2 := hb4.cell 2
      have y3 := hb4.cell 3
      have r0 := hb1.cell 0
      have r1 := hb1.cell 1
      have r2 := hb1.cell 2
      have r3 := hb1.cell 3
      have fr := fun i => hb1.frozen i
      simp only [List.getElem?_toArray, List.getElem?_cons_zero, List.getElem?_cons_succ] at y0 y1 y2 y3 r0 r1 r2 r3
      have Hbw := hid hbw
      have Hnn := hid (Hn.out.below hbw (Nat.le_refl _))
      have g1 : W.heap.size + 1 < wr.heap.size := by omega
      have g0 : W.heap.size < wr.heap.size := by omega
      clear hb1 hb2 hb3 hb4 hbw Hw
      have Hfin := hid (show pixOf f [x0, x1, x2, x3] = some (x0 * stp f.d, x1 * stp f.d, x2 * stp f.d, x3 * stp f.d) by
        rw [Hpx.out, if_pos Hall2.out, decide_eq_false (fun h => h.1 Hk0.out)]
        unfold pxOf clear
        rw [Hc.out]
        rfl)
      have hkl : (f.key.length : Int) = 0 := by rw [Hk0.out]; rfl
      go_wp2_with fail
      refine bodyPost_ret (v := .tuple #[.agg #[.int .i64 (x0 * stp f.d), .int .i64 (x1 * stp f.d), .int .i64 (x2 * stp f.d), .int .i64 (x3 * stp f.d)], .bool true]) (by simp [results, Try.results39, go_sem, r0, r1, r2, r3, g1]) rfl (pixEnd_some Hfin.out ?_)
      exact (below4 Hbw.out (by omega)).alloc (by simp; omega) _

end Go.Proofs.Ytphhoihhmphbdaa

namespace Go.Proofs.Ytphhoihhmphbdaa
open Go.RowKit

theorem formOk_parts {f : Fm} (h : formOk f = true) : headErr f.w f.h f.d f.c f.l = 0 ∧ palB f = true ∧ f.pal.all pxOk = true ∧ keysB f = true := by
  unfold formOk at h
  simp only [Bool.and_eq_true, decide_eq_true_eq] at h
  exact ⟨h.1.1.1, h.1.1.2, h.1.2, h.2⟩
theorem chan_cols {c : Int} (h : 0 < chan c) : c = 0 ∨ c = 2 ∨ c = 3 ∨ c = 4 ∨ c = 6 := by
  unfold chan at h
  repeat' split at h
  all_goals omega
theorem formOk_key {f : Fm} (h : formOk f = true) (hc : f.c = 4 ∨ f.c = 6) : f.key = [] := by
  have h1 := (formOk_parts h).2.2.2
  unfold keysB at h1
  rw [decide_eq_false (p := f.c = 0 ∨ f.c = 2) (by omega)] at h1
  simpa using h1
theorem pixel_any (f : Fm) (PA KA NA : Option Addr) (pc kc nc : Nat) (n : List Int) (W : World) (hf : formOk f = true) (hp : RdP W W.heap.size PA f.pal) (hk : RdI W W.heap.size KA f.key) (hkm : f.key.length ≤ 1000000) (hn : RdI W W.heap.size NA n) :
    Calls Try.prog 39 #[.agg #[.int .i64 f.w, .int .i64 f.h, .int .i64 f.d, .int .i64 f.c, .int .i64 f.l, .slice PA f.pal.length pc, .slice KA f.key.length kc], .slice NA n.length nc] W (PixEnd (pixOf f n) W) := by
  obtain ⟨hh, _, _, _⟩ := formOk_parts hf
  obtain ⟨hd, _, hch⟩ := headErr_deep hh
  by_cases hl : (n.length : Int) = chan f.c
  · rcases chan_cols hch with h | h | h | h | h
    · exact pix_c0 f PA KA NA pc kc nc n W h hl hd hn hk hkm
    · exact pix_c2 f PA KA NA pc kc nc n W h hl hd hn hk hkm
    · exact pix_pal f PA KA NA pc kc nc n W hl h hp hn
    · exact pix_c4 f PA KA NA pc kc nc n W h hl hd hn (formOk_key hf (.inl h))
    · exact pix_c6 f PA KA NA pc kc nc n W h hl hd hn (formOk_key hf (.inr h))
  · exact pix_len f PA KA NA pc kc nc n W hl
theorem errv_6 : errv 6 = .iface 42 (.int .i64 6) := rfl

set_option maxRecDepth 100000 in
set_option maxHeartbeats 4000000 in
theorem fpixel_no (f : Fm) (PA KA NA : Option Addr) (pc kc nc : Nat) (n : List Int) (W : World) (hf : formOk f = false) (hp : RdP W W.heap.size PA f.pal) (hk : RdI W W.heap.size KA f.key) (hpm : f.pal.length ≤ 1000000) (hkm : f.key.length ≤ 1000000) :
    Calls Try.prog 27 #[.agg #[.int .i64 f.w, .int .i64 f.h, .int .i64 f.d, .int .i64 f.c, .int .i64 f.l, .slice PA f.pal.length pc, .slice KA f.key.length kc], .slice NA n.length nc] W (PixEnd none W) := by
  have B0 := ((Blk.new W 38 #[.int .i64 f.w, .int .i64 f.h, .int .i64 f.d, .int .i64 f.c, .int .i64 f.l, .slice PA f.pal.length pc, .slice KA f.key.length kc]).alloc (.cells #[.int .i64 0, .int .i64 0, .int .i64 0, .int .i64 0] 62))
  have B1 := Blk.new (W.alloc (.cells #[.int .i64 f.w, .int .i64 f.h, .int .i64 f.d, .int .i64 f.c, .int .i64 f.l, .slice PA f.pal.length pc, .slice KA f.key.length kc] 38)) 62 #[.int .i64 0, .int .i64 0, .int .i64 0, .int .i64 0]
  simp only [World.size_alloc] at B1
  have Hb01 := hid (show Below W.heap.size W ((W.alloc (.cells #[.int .i64 f.w, .int .i64 f.h, .int .i64 f.d, .int .i64 f.c, .int .i64 f.l, .slice PA f.pal.length pc, .slice KA f.key.length kc] 38)).alloc (.cells #[.int .i64 0, .int .i64 0, .int .i64 0, .int .i64 0] 62)) from ((Below.refl _ _).alloc (Nat.le_refl _) _).alloc (by simp) _)
  have Hp := hid hp
  have Hk := hid hk
  have HB0 := hid B0
  have HB1 := hid B1
  clear B0 B1 hp hk
  go_enter Try.func27, Try.ntmps27
  go_wp2_with fail
  refine (fcheck_any f PA KA pc kc _ (Rd.more (Rd.below Hp.out Hb01.out (Nat.le_refl _)) (by simp; omega)) ((Hk.out.below Hb01.out (Nat.le_refl _)).more (by simp; omega)) hpm hkm).mono ?_
  rintro e w1 ⟨rfl, hb⟩
  have hsz := hb.size
  simp only [World.size_alloc] at hsz
  have hx := HB0.out.below hb (by simp; omega)
  have hz := HB1.out.below hb (by simp)
  have Hbw := hid (Hb01.out.trans (hb.mono (by simp; omega)))
  have Hz := hid hz
  have Hx := hid hx
  clear hb hx hz
  rw [hf, if_neg (by simp), errv_6]
  have r0 := Hz.out.cell 0
  have r1 := Hz.out.cell 1
  have r2 := Hz.out.cell 2
  have r3 := Hz.out.cell 3
  have fr := fun i => Hz.out.frozen i
  simp only [List.getElem?_toArray, List.getElem?_cons_zero, List.getElem?_cons_succ] at r0 r1 r2 r3
  go_wp2_with fail
  refine bodyPost_ret (v := .tuple #[.agg #[.int .i64 0, .int .i64 0, .int .i64 0, .int .i64 0], .bool false]) (by simp [results, Try.results27, go_sem, r0, r1, r2, r3]) rfl (pixEnd_none rfl ?_)
  exact below4 Hbw.out (by omega)

set_option maxRecDepth 100000 in
set_option maxHeartbeats 4000000 in
theorem fpixel_yes (f : Fm) (PA KA NA : Option Addr) (pc kc nc : Nat) (n : List Int) (W : World) (hf : formOk f = true) (hp : RdP W W.heap.size PA f.pal) (hk : RdI W W.heap.size KA f.key) (hpm : f.pal.length ≤ 1000000) (hkm : f.key.length ≤ 1000000) (hn : RdI W W.heap.size NA n) :
    Calls Try.prog 27 #[.agg #[.int .i64 f.w, .int .i64 f.h, .int .i64 f.d, .int .i64 f.c, .int .i64 f.l, .slice PA f.pal.length pc, .slice KA f.key.length kc], .slice NA n.length nc] W (PixEnd (pixOf f n) W) := by
  have B0 := ((Blk.new W 38 #[.int .i64 f.w, .int .i64 f.h, .int .i64 f.d, .int .i64 f.c, .int .i64 f.l, .slice PA f.pal.length pc, .slice KA f.key.length kc]).alloc (.cells #[.int .i64 0, .int .i64 0, .int .i64 0, .int .i64 0] 62))
  have B1 := Blk.new (W.alloc (.cells #[.int .i64 f.w, .int .i64 f.h, .int .i64 f.d, .int .i64 f.c, .int .i64 f.l, .slice PA f.pal.length pc, .slice KA f.key.length kc] 38)) 62 #[.int .i64 0, .int .i64 0, .int .i64 0, .int .i64 0]
  simp only [World.size_alloc] at B1
  have Hb01 := hid (show Below W.heap.size W ((W.alloc (.cells #[.int .i64 f.w, .int .i64 f.h, .int .i64 f.d, .int .i64 f.c, .int .i64 f.l, .slice PA f.pal.length pc, .slice KA f.key.length kc] 38)).alloc (.cells #[.int .i64 0, .int .i64 0, .int .i64 0, .int .i64 0] 62)) from ((Below.refl _ _).alloc (Nat.le_refl _) _).alloc (by simp) _)
  have Hp := hid hp
  have Hk := hid hk
  have HB0 := hid B0
  have HB1 := hid B1
  clear B0 B1 hp hk
  have Hn := hid hn
  clear hn
  go_enter Try.func27, Try.ntmps27
  go_wp2_with fail
  refine (fcheck_any f PA KA pc kc _ (Rd.more (Rd.below Hp.out Hb01.out (Nat.le_refl _)) (by simp; omega)) ((Hk.out.below Hb01.out (Nat.le_refl _)).more (by simp; omega)) hpm hkm).mono ?_
  rintro e w1 ⟨rfl, hb⟩
  have hsz := hb.size
  simp only [World.size_alloc] at hsz
  have hx := HB0.out.below hb (by simp; omega)
  have hz := HB1.out.below hb (by simp)
  have Hbw := hid (Hb01.out.trans (hb.mono (by simp; omega)))
  have Hz := hid hz
  have Hx := hid hx
  clear hb hx hz
  rw [hf, if_pos rfl, errv_0]
  have q0 := Hx.out.cell 0
  have q1 := Hx.out.cell 1
  have q2 := Hx.out.cell 2
  have q3 := Hx.out.cell 3
  have q4 := Hx.out.cell 4
  have q5 := Hx.out.cell 5
  have q6 := Hx.out.cell 6
  simp only [List.getElem?_toArray, List.getElem?_cons_zero, List.getElem?_cons_succ] at q0 q1 q2 q3 q4 q5 q6
  go_wp2_with fail
  refine (pixel_any f PA KA NA pc kc nc n w1 hf (Rd.more (Rd.below Hp.out Hbw.out (Nat.le_refl _)) (by omega)) ((Hk.out.below Hbw.out (Nat.le_refl _)).more (by omega)) hkm ((Hn.out.below Hbw.out (Nat.le_refl _)).more (by omega))).mono ?_
  rintro e w2 ⟨he, hb2⟩
  have hz2 := Hz.out.below hb2 (by omega)
  have r0 := hz2.cell 0
  have r1 := hz2.cell 1
  have r2 := hz2.cell 2
  have r3 := hz2.cell 3
  have fr := fun i => hz2.frozen i
  simp only [List.getElem?_toArray, List.getElem?_cons_zero, List.getElem?_cons_succ] at r0 r1 r2 r3
  have Hb2 := hid (Hbw.out.trans (hb2.mono (show W.heap.size ≤ w1.heap.size by omega)))
  clear hz2 hb2 q0 q1 q2 q3 q4 q5 q6
  cases hpx : pixOf f n with
  | none =>
    rw [hpx] at he
    have he : e = .returned (.tuple #[.agg #[.int .i64 0, .int .i64 0, .int .i64 0, .int .i64 0], .bool false]) := he
    subst he
    have Hpx := hid hpx
    clear hpx
    go_wp2_with fail
    refine bodyPost_ret (v := .tuple #[.agg #[.int .i64 0, .int .i64 0, .int .i64 0, .int .i64 0], .bool false]) (by simp [results, Try.results27, go_sem, r0, r1, r2, r3]) rfl (pixEnd_none Hpx.out ?_)
    exact below4 Hb2.out (by omega)
  | some p =>
    rw [hpx] at he
    obtain ⟨a, b, c, d⟩ := p
    have he : e = .returned (.tuple #[.agg #[.int .i64 a, .int .i64 b, .int .i64 c, .int .i64 d], .bool true]) := he
    subst he
    have Hpx := hid hpx
    clear hpx
    go_wp2_with fail
    refine bodyPost_ret (v := .tuple #[.agg #[.int .i64 a, .int .i64 b, .int .i64 c, .int .i64 d], .bool true]) (by simp [results, Try.results27, go_sem, r0, r1, r2, r3]) rfl (pixEnd_some Hpx.out ?_)
    exact below4 Hb2.out (by omega)

/-- the pixel of numbers, in any form -/
def fpixOf (f : Fm) (n : List Int) : Option Px := if formOk f = true then pixOf f n else none
theorem fpixel_any (f : Fm) (PA KA NA : Option Addr) (pc kc nc : Nat) (n : List Int) (W : World) (hp : RdP W W.heap.size PA f.pal) (hk : RdI W W.heap.size KA f.key) (hpm : f.pal.length ≤ 1000000) (hkm : f.key.length ≤ 1000000) (hn : RdI W W.heap.size NA n) :
    Calls Try.prog 27 #[.agg #[.int .i64 f.w, .int .i64 f.h, .int .i64 f.d, .int .i64 f.c, .int .i64 f.l, .slice PA f.pal.length pc, .slice KA f.key.length kc], .slice NA n.length nc] W (PixEnd (fpixOf f n) W) := by
  unfold fpixOf
  cases hf : formOk f
  · rw [if_neg (by simp)]
    exact fpixel_no f PA KA NA pc kc nc n W hf hp hk hpm hkm
  · rw [if_pos rfl]
    exact fpixel_yes f PA KA NA pc kc nc n W hf hp hk hpm hkm hn

end Go.Proofs.Ytphhoihhmphbdaa
