/-
  raster.Form.pixel: the pixel of numbers in a good form.
-/
import Derived.Test.YtchkogfgkaaogaaGood
import Derived.RegionTactic
import Derived.BigRegion
namespace Go.Proofs.Ytchkogfgkaaogaa
open Go.RowKit

/-- the pixel of numbers, widened; its alpha, if the numbers are the key -/
def pxOf (c d : Int) (n : List Int) : Px :=
  (n.getD 0 0 * stp d, (if c = 2 ∨ c = 6 then n.getD 1 0 else n.getD 0 0) * stp d, (if c = 2 ∨ c = 6 then n.getD 2 0 else n.getD 0 0) * stp d, if c = 4 then n.getD 1 0 * stp d else if c = 6 then n.getD 3 0 * stp d else 65535)
def clear (p : Px) (b : Bool) : Px := if b = true then (p.1, p.2.1, p.2.2.1, 0) else p
/-- the pixel of numbers in a good form -/
def pixOf (f : Fm) (n : List Int) : Option Px :=
  if (n.length : Int) ≠ chan f.c then none
  else if f.c = 3 then (if 0 ≤ n.getD 0 0 then f.pal[(n.getD 0 0).toNat]? else none)
  else if n.all (keyB f.d) = true then some (clear (pxOf f.c f.d n) (decide (f.key ≠ [] ∧ f.key = n))) else none
def vP (p : Px) : Value := .agg #[.int .i64 p.1, .int .i64 p.2.1, .int .i64 p.2.2.1, .int .i64 p.2.2.2]
def PixEnd (r : Option Px) (W : World) (e : Ending) (w' : World) : Prop :=
  (match r with
  | some p => e = .returned (.tuple #[vP p, .bool true])
  | none => e = .returned (.tuple #[vP (0, 0, 0, 0), .bool false])) ∧ Below W.heap.size W w'
theorem pixEnd_none {r : Option Px} {W w' : World} (h : r = none) (hb : Below W.heap.size W w') : PixEnd r W (.returned (.tuple #[.agg #[.int .i64 0, .int .i64 0, .int .i64 0, .int .i64 0], .bool false])) w' := by subst h; exact ⟨rfl, hb⟩
theorem pixEnd_some {r : Option Px} {W w' : World} {a b c d : Int} (h : r = some (a, b, c, d)) (hb : Below W.heap.size W w') : PixEnd r W (.returned (.tuple #[.agg #[.int .i64 a, .int .i64 b, .int .i64 c, .int .i64 d], .bool true])) w' := by subst h; exact ⟨rfl, hb⟩

theorem cell3 {W : World} {b o : Nat} {u : Value} (h : W.cell? ⟨b, o, none⟩ = some u) (hb : b < W.heap.size) : ∀ o1 o2 o3 : Obj, (((W.alloc o1).alloc o2).alloc o3).cell? ⟨b, o, none⟩ = some u := by
  intro o1 o2 o3
  rw [World.cell?_alloc_lt _ o3 ⟨b, o, none⟩ (by simp; omega), World.cell?_alloc_lt _ o2 ⟨b, o, none⟩ (by simp; omega), World.cell?_alloc_lt _ o1 ⟨b, o, none⟩ hb]
  exact h

set_option maxRecDepth 100000 in
set_option maxHeartbeats 8000000 in
theorem pix_len (f : Fm) (PA KA NA : Option Addr) (pc kc nc : Nat) (n : List Int) (W : World) (hl : (n.length : Int) ≠ chan f.c) :
    Calls Try.prog 51 #[.agg #[.int .i64 f.w, .int .i64 f.h, .int .i64 f.d, .int .i64 f.c, .int .i64 f.l, .slice PA f.pal.length pc, .slice KA f.key.length kc], .slice NA n.length nc] W (PixEnd (pixOf f n) W) := by
  have Hn := hid (show pixOf f n = none by unfold pixOf; rw [if_pos hl])
  have hq : ((n.length : Int) != chan f.c) = true := bne_iff_ne.2 hl
  clear hl
  go_enter Try.func51, Try.ntmps51
  go_wp2_with fail
  refine (channels_same f.c _).mono ?_
  rintro e w1 ⟨rfl, rfl⟩
  go_wp2_with fail
  refine bodyPost_ret (v := .tuple #[.agg #[.int .i64 0, .int .i64 0, .int .i64 0, .int .i64 0], .bool false]) (by simp [results, Try.results51, go_sem]) rfl (pixEnd_none Hn.out ?_)
  exact ((((Below.refl _ _).alloc (Nat.le_refl _) _).alloc (by simp) _).alloc (by simp; omega) _)

set_option maxRecDepth 100000 in
set_option maxHeartbeats 8000000 in
theorem pix_pal (f : Fm) (PA KA NA : Option Addr) (pc kc nc : Nat) (n : List Int) (W : World) (hl : (n.length : Int) = chan f.c) (h3 : f.c = 3) (hp : RdP W W.heap.size PA f.pal) (hn : RdI W W.heap.size NA n)  :
    Calls Try.prog 51 #[.agg #[.int .i64 f.w, .int .i64 f.h, .int .i64 f.d, .int .i64 f.c, .int .i64 f.l, .slice PA f.pal.length pc, .slice KA f.key.length kc], .slice NA n.length nc] W (PixEnd (pixOf f n) W) := by
  have hl1 : n.length = 1 := by rw [h3] at hl; have : chan 3 = 1 := rfl; omega
  obtain ⟨x, rfl⟩ : ∃ x, n = [x] := by
    match n, hl1 with
    | [x], _ => exact ⟨x, rfl⟩
  have hq : ((([x] : List Int).length : Int) != chan f.c) = false := by rw [bne_eq_false_iff_eq]; exact hl
  have hq1 : ((1 : Int) != chan f.c) = false := by rw [bne_eq_false_iff_eq]; exact hl
  have e3 : (f.c == 3) = true := beq_iff_eq.2 h3
  have Hpx := hid (show pixOf f [x] = if 0 ≤ x then f.pal[x.toNat]? else none by unfold pixOf; rw [if_neg (by simpa using hl), if_pos h3]; rfl)
  obtain ⟨nb, no, rfl, hnb, n0⟩ := int_at hn (show 0 < ([x] : List Int).length by simp)
  simp only [Nat.add_zero, List.getElem_cons_zero] at n0
  have n0 := cell3 n0 hnb
  clear hl hl1 h3 hn
  by_cases h0 : x < 0
  · have Hn := hid (Hpx.out.trans (if_neg (by omega)))
    have d0 : decide (x < 0) = true := decide_eq_true h0
    go_enter Try.func51, Try.ntmps51
    go_wp2_with fail
    refine (channels_same f.c _).mono ?_
    rintro e w1 ⟨rfl, rfl⟩
    go_wp2_with fail
    refine bodyPost_ret (v := .tuple #[.agg #[.int .i64 0, .int .i64 0, .int .i64 0, .int .i64 0], .bool false]) (by simp [results, Try.results51, go_sem]) rfl (pixEnd_none Hn.out ?_)
    exact ((((Below.refl _ _).alloc (Nat.le_refl _) _).alloc (by simp) _).alloc (by simp; omega) _)
  have d0 : decide (x < 0) = false := decide_eq_false h0
  by_cases h1 : (f.pal.length : Int) ≤ x
  · have Hn := hid (Hpx.out.trans ((if_pos (by omega)).trans (List.getElem?_eq_none (by omega))))
    have d1 : decide ((f.pal.length : Int) ≤ x) = true := decide_eq_true h1
    go_enter Try.func51, Try.ntmps51
    go_wp2_with fail
    refine (channels_same f.c _).mono ?_
    rintro e w1 ⟨rfl, rfl⟩
    go_wp2_with fail
    refine bodyPost_ret (v := .tuple #[.agg #[.int .i64 0, .int .i64 0, .int .i64 0, .int .i64 0], .bool false]) (by simp [results, Try.results51, go_sem]) rfl (pixEnd_none Hn.out ?_)
    exact ((((Below.refl _ _).alloc (Nat.le_refl _) _).alloc (by simp) _).alloc (by simp; omega) _)
  · have d1 : decide ((f.pal.length : Int) ≤ x) = false := decide_eq_false h1
    obtain ⟨j, rfl⟩ := Int.eq_ofNat_of_zero_le (show 0 ≤ x by omega)
    have hj : j < f.pal.length := by omega
    have Hn := hid (show pixOf f [(j : Int)] = some f.pal[j] from Hpx.out.trans ((if_pos (by omega)).trans (by rw [Int.toNat_natCast]; exact List.getElem?_eq_getElem hj)))
    obtain ⟨b, off, rfl, hbb, x0, x1, x2, x3⟩ := px_at hp hj
    generalize f.pal[j] = px at *
    obtain ⟨xr, xg, xb, xa⟩ := px
    simp only at x0 x1 x2 x3
    have x0 := cell3 x0 hbb
    have x1 := cell3 x1 hbb
    have x2 := cell3 x2 hbb
    have x3 := cell3 x3 hbb
    go_enter Try.func51, Try.ntmps51
    go_wp2_with fail
    refine (channels_same f.c _).mono ?_
    rintro e w1 ⟨rfl, rfl⟩
    go_wp2_with fail
    go_region
    all_goals
      go_wp2
      refine bodyPost_ret (v := .tuple #[.agg #[.int .i64 xr, .int .i64 xg, .int .i64 xb, .int .i64 xa], .bool true]) (by simp [results, Try.results51, go_sem]) rfl (pixEnd_some Hn.out ?_)
      exact ((((Below.refl _ _).alloc (Nat.le_refl _) _).alloc (by simp) _).alloc (by simp; omega) _).drew

theorem keyB_bd {d x : Int} (h : keyB d x = true) : 0 ≤ x ∧ x < pw d := of_decide_eq_true h
/-- the widened numbers, while they are laid -/
def wcells (d : Int) (n : List Int) (j : Nat) : List Value := (n.take j).map (fun x => Value.int .i64 (x * stp d)) ++ List.replicate (4 - j) (.int .i64 0)
theorem wcells_at (d : Int) (n : List Int) (j : Nat) (hj : j < n.length) (h4 : j < 4) : (wcells d n j).toArray[j]? = some (.int .i64 0) := by
  unfold wcells
  rw [List.getElem?_toArray, List.getElem?_append_right (by simp; omega)]
  simp only [List.length_map, List.length_take, Nat.min_eq_left (Nat.le_of_lt hj), Nat.sub_self]
  rw [List.getElem?_replicate, if_pos (by omega)]
theorem wcells_set (d : Int) (n : List Int) (j : Nat) (hj : j < n.length) (h4 : j < 4) : (wcells d n j).toArray.setIfInBounds j (.int .i64 (n[j] * stp d)) = (wcells d n (j + 1)).toArray := by
  unfold wcells
  have hl : (List.map (fun x => Value.int .i64 (x * stp d)) (n.take j)).length = j := by simp; omega
  rw [List.setIfInBounds_toArray, List.set_append_right j _ (by rw [hl]; exact Nat.le_refl _), hl, Nat.sub_self, show 4 - j = (4 - (j + 1)) + 1 by omega, List.replicate_succ, List.set_cons_zero, List.take_succ_eq_append_getElem hj, List.map_append, List.append_assoc]
  rfl
/-- the world while the numbers are widened -/
def PixW (wr W : World) (f : Fm) (PA KA : Option Addr) (pc kc : Nat) (cs : List Value) : Prop :=
  FC wr W.heap.size f PA KA pc kc ∧ Blk wr (W.heap.size + 1) 69 #[.int .i64 0, .int .i64 0, .int .i64 0, .int .i64 0] ∧ Blk wr (W.heap.size + 1 + 1) 69 #[.int .i64 0, .int .i64 0, .int .i64 0, .int .i64 0] ∧
    Blk wr (W.heap.size + 1 + 1 + 1) 142 cs.toArray ∧ Below W.heap.size W wr
theorem below4 {B g : Nat} {W w : World} {a b c d : Value} (h : Below B W w) (hg : B ≤ g) : Below B W ((((w.setCell ⟨g, 0, none⟩ a).setCell ⟨g, 1, none⟩ b).setCell ⟨g, 2, none⟩ c).setCell ⟨g, 3, none⟩ d) :=
  (((h.setCell hg _).setCell hg _).setCell hg _).setCell hg _
theorem pixw_start (f : Fm) (PA KA : Option Addr) (pc kc : Nat) (n : List Int) (W : World) : PixW ((((W.alloc (.cells #[.int .i64 f.w, .int .i64 f.h, .int .i64 f.d, .int .i64 f.c, .int .i64 f.l, .slice PA f.pal.length pc, .slice KA f.key.length kc] 32)).alloc (.cells #[.int .i64 0, .int .i64 0, .int .i64 0, .int .i64 0] 69)).alloc (.cells #[.int .i64 0, .int .i64 0, .int .i64 0, .int .i64 0] 69)).alloc (.cells #[.int .i64 0, .int .i64 0, .int .i64 0, .int .i64 0] 142)) W f PA KA pc kc (wcells f.d n 0) := by
  have b0 := (((Blk.new W 32 #[.int .i64 f.w, .int .i64 f.h, .int .i64 f.d, .int .i64 f.c, .int .i64 f.l, .slice PA f.pal.length pc, .slice KA f.key.length kc]).alloc (.cells #[.int .i64 0, .int .i64 0, .int .i64 0, .int .i64 0] 69)).alloc (.cells #[.int .i64 0, .int .i64 0, .int .i64 0, .int .i64 0] 69)).alloc (.cells #[.int .i64 0, .int .i64 0, .int .i64 0, .int .i64 0] 142)
  have b1 := ((Blk.new (W.alloc (.cells #[.int .i64 f.w, .int .i64 f.h, .int .i64 f.d, .int .i64 f.c, .int .i64 f.l, .slice PA f.pal.length pc, .slice KA f.key.length kc] 32)) 69 #[.int .i64 0, .int .i64 0, .int .i64 0, .int .i64 0]).alloc (.cells #[.int .i64 0, .int .i64 0, .int .i64 0, .int .i64 0] 69)).alloc (.cells #[.int .i64 0, .int .i64 0, .int .i64 0, .int .i64 0] 142)
  have b2 := (Blk.new ((W.alloc (.cells #[.int .i64 f.w, .int .i64 f.h, .int .i64 f.d, .int .i64 f.c, .int .i64 f.l, .slice PA f.pal.length pc, .slice KA f.key.length kc] 32)).alloc (.cells #[.int .i64 0, .int .i64 0, .int .i64 0, .int .i64 0] 69)) 69 #[.int .i64 0, .int .i64 0, .int .i64 0, .int .i64 0]).alloc (.cells #[.int .i64 0, .int .i64 0, .int .i64 0, .int .i64 0] 142)
  have b3 := Blk.new (((W.alloc (.cells #[.int .i64 f.w, .int .i64 f.h, .int .i64 f.d, .int .i64 f.c, .int .i64 f.l, .slice PA f.pal.length pc, .slice KA f.key.length kc] 32)).alloc (.cells #[.int .i64 0, .int .i64 0, .int .i64 0, .int .i64 0] 69)).alloc (.cells #[.int .i64 0, .int .i64 0, .int .i64 0, .int .i64 0] 69)) 142 #[.int .i64 0, .int .i64 0, .int .i64 0, .int .i64 0]
  simp only [World.size_alloc] at b1 b2 b3
  exact ⟨⟨⟨b0.cell 0, b0.cell 1, b0.cell 2, b0.cell 3, b0.cell 4⟩, b0.cell 5, b0.cell 6⟩, b1, b2, b3, ((((Below.refl _ _).alloc (Nat.le_refl _) _).alloc (by simp) _).alloc (by simp; omega) _).alloc (by simp; omega) _⟩
theorem PixW.below {wr w' W : World} {f : Fm} {PA KA : Option Addr} {pc kc : Nat} {cs : List Value} (h : PixW wr W f PA KA pc kc cs) (hb : Below wr.heap.size wr w') : PixW w' W f PA KA pc kc cs := by
  obtain ⟨h1, h2, h3, h4, h5⟩ := h
  have := h4.lt
  exact ⟨h1.below hb (by omega), h2.below hb (by omega), h3.below hb (by omega), h4.below hb (by omega), h5.trans (hb.mono h5.size)⟩
theorem FC.far {w : World} {g : Nat} {f : Fm} {PA KA : Option Addr} {pc kc : Nat} (h : FC w g f PA KA pc kc) {p : Addr} (hp : g ≠ p.block) (u : Value) : FC (w.setCell p u) g f PA KA pc kc := by
  obtain ⟨⟨h0, h1, h2, h3, h4⟩, h5, h6⟩ := h
  have k := fun (o : Nat) => World.cell?_setCell_other w p ⟨g, o, none⟩ u (fun e => by subst e; exact hp rfl)
  exact ⟨⟨(k 0).trans h0, (k 1).trans h1, (k 2).trans h2, (k 3).trans h3, (k 4).trans h4⟩, (k 5).trans h5, (k 6).trans h6⟩
theorem PixW.store {wr W : World} {f : Fm} {PA KA : Option Addr} {pc kc : Nat} {d : Int} {n : List Int} {j : Nat} (hj : j < n.length) (h4 : j < 4) (h : PixW wr W f PA KA pc kc (wcells d n j)) :
    PixW (wr.setCell ⟨W.heap.size + 1 + 1 + 1, j, none⟩ (.int .i64 (n[j] * stp d))) W f PA KA pc kc (wcells d n (j + 1)) := by
  obtain ⟨h1, h2, h3, h5, h6⟩ := h
  have h7 := h5.set_ j (.int .i64 (n[j] * stp d))
  rw [wcells_set d n j hj h4] at h7
  exact ⟨h1.far (by show W.heap.size ≠ W.heap.size + 1 + 1 + 1; omega) _, h2.far (by show W.heap.size + 1 ≠ W.heap.size + 1 + 1 + 1; omega) _, h3.far (by show W.heap.size + 1 + 1 ≠ W.heap.size + 1 + 1 + 1; omega) _, h7, h6.setCell (by show W.heap.size ≤ W.heap.size + 1 + 1 + 1; omega) _⟩

end Go.Proofs.Ytchkogfgkaaogaa
