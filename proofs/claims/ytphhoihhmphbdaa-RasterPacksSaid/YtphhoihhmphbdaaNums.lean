/-
  raster.Form.numbers: a pixel's numbers in a good form.
-/
import Derived.Test.YtphhoihhmphbdaaNumIdx
import Derived.Test.YtphhoihhmphbdaaBase
import Derived.Deep.DeepCutAuto
import Derived.Deep.CutRange
import Derived.Deep.CutBlock
import Derived.Deep.RegionHeld3
namespace Go.Proofs.Ytphhoihhmphbdaa
open Go.RowKit

theorem rdi_one' {w : World} {g : Nat} {t : TypeId} {x : Int} (h : Blk w g t #[.int .i64 x]) : RdI w w.heap.size (some ⟨g, 0, none⟩) [x] :=
  RdI.of_cells h.lt (fun j hj => by
    have : j = 0 := by simp at hj; omega
    subst this
    exact h.cell 0)

/-- what numbers end in -/
def NumEnd (r : Option (List Int)) (W : World) (e : Ending) (w' : World) : Prop :=
  (match r with
  | some l => ∃ A c, e = .returned (.tuple #[.slice A l.length c, .bool true]) ∧ w'.ownsRow W.heap.size 3 1 (.slice A l.length c) l.length (intsV l)
  | none => e = .returned (.tuple #[.slice none 0 0, .bool false])) ∧ Below W.heap.size W w'
theorem numEnd_none {r : Option (List Int)} {W w' : World} (h : r = none) (hb : Below W.heap.size W w') : NumEnd r W (.returned (.tuple #[.slice none 0 0, .bool false])) w' := by subst h; exact ⟨rfl, hb⟩
theorem numEnd_some {r : Option (List Int)} {l : List Int} {A : Option Addr} {n c : Nat} {W w' : World} (h : r = some l) (hn : n = l.length) (hr : w'.ownsRow W.heap.size 3 1 (.slice A n c) n (intsV l)) (hb : Below W.heap.size W w') : NumEnd r W (.returned (.tuple #[.slice A n c, .bool true])) w' := by subst h; subst hn; exact ⟨⟨A, c, rfl, hr⟩, hb⟩
theorem own_one_int {w : World} {base g : Nat} {x : Int} (h : Blk w g 3 #[.int .i64 x]) (hb : base ≤ g) : w.ownsRow base 3 1 (.slice (some ⟨g, 0, none⟩) 1 1) 1 (intsV [x]) := own_blk_full (n := 1) (size := 1) h hb (by simp [maxLen]) rfl

/-- the world while the numbers are found -/
def NuW (w W : World) (T : TypeId) (f : Fm) (PA KA : Option Addr) (pc kc : Nat) (a0 a1 a2 a3 : Int) : Prop :=
  Blk w W.heap.size T #[.int .i64 f.w, .int .i64 f.h, .int .i64 f.d, .int .i64 f.c, .int .i64 f.l, .slice PA f.pal.length pc, .slice KA f.key.length kc] ∧ Blk w (W.heap.size + 1) 62 #[.int .i64 a0, .int .i64 a1, .int .i64 a2, .int .i64 a3] ∧ Below W.heap.size W w
section
variable {w w' W : World} {T : TypeId} {f : Fm} {PA KA : Option Addr} {pc kc : Nat} {a0 a1 a2 a3 : Int}
theorem nuw_start (T : TypeId) (f : Fm) (PA KA : Option Addr) (pc kc : Nat) (a0 a1 a2 a3 : Int) (W : World) : NuW ((W.alloc (.cells #[.int .i64 f.w, .int .i64 f.h, .int .i64 f.d, .int .i64 f.c, .int .i64 f.l, .slice PA f.pal.length pc, .slice KA f.key.length kc] T)).alloc (.cells #[.int .i64 a0, .int .i64 a1, .int .i64 a2, .int .i64 a3] 62)) W T f PA KA pc kc a0 a1 a2 a3 := by
  have b1 := Blk.new (W.alloc (.cells #[.int .i64 f.w, .int .i64 f.h, .int .i64 f.d, .int .i64 f.c, .int .i64 f.l, .slice PA f.pal.length pc, .slice KA f.key.length kc] T)) 62 #[.int .i64 a0, .int .i64 a1, .int .i64 a2, .int .i64 a3]
  simp only [World.size_alloc] at b1
  exact ⟨(Blk.new W T _).alloc _, b1, ((Below.refl _ _).alloc (Nat.le_refl _) _).alloc (by simp) _⟩
theorem NuW.below (h : NuW w W T f PA KA pc kc a0 a1 a2 a3) (hb : Below w.heap.size w w') : NuW w' W T f PA KA pc kc a0 a1 a2 a3 := ⟨h.1.below hb h.1.lt, h.2.1.below hb h.2.1.lt, h.2.2.trans (hb.mono h.2.2.size)⟩
theorem NuW.alloc (h : NuW w W T f PA KA pc kc a0 a1 a2 a3) (o : Obj) : NuW (w.alloc o) W T f PA KA pc kc a0 a1 a2 a3 := ⟨h.1.alloc o, h.2.1.alloc o, h.2.2.alloc h.2.2.size o⟩
theorem NuW.drewN (h : NuW w W T f PA KA pc kc a0 a1 a2 a3) (n : Nat) : NuW (w.drewN n) W T f PA KA pc kc a0 a1 a2 a3 := ⟨h.1, h.2.1, below_drewN h.2.2 n⟩
theorem NuW.drew (h : NuW w W T f PA KA pc kc a0 a1 a2 a3) : NuW w.drew W T f PA KA pc kc a0 a1 a2 a3 := ⟨h.1, h.2.1, h.2.2.drew⟩
theorem NuW.far (h : NuW w W T f PA KA pc kc a0 a1 a2 a3) {p : Addr} (hp : W.heap.size + 1 < p.block) (u : Value) : NuW (w.setCell p u) W T f PA KA pc kc a0 a1 a2 a3 := ⟨h.1.far (by omega) u, h.2.1.far (by omega) u, h.2.2.setCell (by omega) u⟩
theorem NuW.rdp (h : NuW w W T f PA KA pc kc a0 a1 a2 a3) (hp : RdP W W.heap.size PA f.pal) : RdP w w.heap.size PA f.pal := Rd.more (Rd.below hp h.2.2 (Nat.le_refl _)) h.2.2.size
theorem NuW.rdi (h : NuW w W T f PA KA pc kc a0 a1 a2 a3) (hk : RdI W W.heap.size KA f.key) : RdI w w.heap.size KA f.key := (hk.below h.2.2 (Nat.le_refl _)).more h.2.2.size
theorem NuW.size (h : NuW w W T f PA KA pc kc a0 a1 a2 a3) : W.heap.size + 1 < w.heap.size := h.2.1.lt
end

set_option maxRecDepth 100000 in
set_option maxHeartbeats 4000000 in
theorem nums_pal (f : Fm) (PA KA : Option Addr) (pc kc : Nat) (a0 a1 a2 a3 : Int) (W : World) (h3 : f.c = 3) (hp : RdP W W.heap.size PA f.pal) (hpm : f.pal.length ≤ 1000000) :
    Calls Try.prog 96 #[.agg #[.int .i64 f.w, .int .i64 f.h, .int .i64 f.d, .int .i64 f.c, .int .i64 f.l, .slice PA f.pal.length pc, .slice KA f.key.length kc], .agg #[.int .i64 a0, .int .i64 a1, .int .i64 a2, .int .i64 a3]] W (NumEnd (numsOf f (a0, a1, a2, a3)) W) := by
  have e3 : (f.c == 3) = true := beq_iff_eq.2 h3
  have Hn : Hid (numsOf f (a0, a1, a2, a3) = if f.pal.findIdx (· == (a0, a1, a2, a3)) < f.pal.length then some [((f.pal.findIdx (· == (a0, a1, a2, a3)) : Nat) : Int)] else none) := by unfold Hid numsOf; rw [if_pos h3]
  have Hw := hid (nuw_start 38 f PA KA pc kc a0 a1 a2 a3 W)
  have Hp := hid hp
  clear h3 hp
  go_enter Try.func96, Try.ntmps96
  go_wp2_with fail
  refine (indexP_any PA pc f.pal a0 a1 a2 a3 _ (Hw.out.rdp Hp.out) hpm).mono ?_
  rintro e w1 ⟨rfl, hb⟩
  have Hb := hid (Hw.out.below hb)
  clear hb
  unfold idxV
  by_cases hlt : f.pal.findIdx (· == (a0, a1, a2, a3)) < f.pal.length
  · have Hn2 := hid (Hn.out.trans (if_pos hlt))
    rw [if_pos hlt]
    clear hlt Hn
    generalize f.pal.findIdx (· == (a0, a1, a2, a3)) = k at *
    go_wp2
    go_ret2
    exact numEnd_some Hn2.out rfl (own_one_int (Blk.new _ _ _) Hb.out.2.2.size) (Hb.out.2.2.alloc Hb.out.2.2.size _)
  · have Hn2 := hid (Hn.out.trans (if_neg hlt))
    rw [if_neg hlt]
    clear hlt Hn
    go_wp2
    go_ret2
    exact numEnd_none Hn2.out Hb.out.2.2

/-- the numbers, while they are narrowed -/
def ncells (d : Int) (l : List Int) (j : Nat) : List Value := (l.take j).map (fun x => Value.int .i64 (x / stp d)) ++ List.replicate (l.length - j) (.int .i64 0)
theorem ncells_set (d : Int) (l : List Int) (j : Nat) (hj : j < l.length) : (ncells d l j).toArray.setIfInBounds j (.int .i64 (l[j] / stp d)) = (ncells d l (j + 1)).toArray := by
  unfold ncells
  have hl : (List.map (fun x => Value.int .i64 (x / stp d)) (l.take j)).length = j := by simp; omega
  rw [List.setIfInBounds_toArray, List.set_append_right j _ (by rw [hl]; exact Nat.le_refl _), hl, Nat.sub_self, show l.length - j = (l.length - (j + 1)) + 1 by omega, List.replicate_succ, List.set_cons_zero, List.take_succ_eq_append_getElem hj, List.map_append, List.append_assoc]
  rfl
theorem ncells_at (d : Int) (l : List Int) (j : Nat) (hj : j < l.length) : (ncells d l j).toArray[j]? = some (.int .i64 0) := by
  unfold ncells
  rw [List.getElem?_toArray, List.getElem?_append_right (by simp; omega)]
  simp only [List.length_map, List.length_take, Nat.min_eq_left (Nat.le_of_lt hj), Nat.sub_self]
  rw [List.getElem?_replicate, if_pos (by omega)]
theorem ncells_end (d : Int) (l : List Int) : ncells d l l.length = intsV (l.map (· / stp d)) := by
  unfold ncells intsV
  rw [List.take_length, Nat.sub_self, List.replicate_zero, List.append_nil, List.map_map]
  rfl
theorem all_take (l : List Int) (g : Int → Bool) (j : Nat) (hj : j < l.length) : (l.take (j + 1)).all g = ((l.take j).all g && g l[j]) := by
  rw [List.take_succ_eq_append_getElem hj, List.all_append]; simp
theorem wide_len (c : Int) (p : Px) : 0 < (wideOf c p).length ∧ (wideOf c p).length ≤ 4 := by
  unfold wideOf; repeat' split
  all_goals simp

set_option maxRecDepth 100000 in
set_option maxHeartbeats 8000000 in
theorem nums_col (f : Fm) (PA KA : Option Addr) (pc kc : Nat) (a0 a1 a2 a3 : Int) (W : World) (h3 : f.c ≠ 3) (hf : formOk f = true) (hp : RdP W W.heap.size PA f.pal) (hk : RdI W W.heap.size KA f.key) (hkm : f.key.length ≤ 1000000) :
    Calls Try.prog 96 #[.agg #[.int .i64 f.w, .int .i64 f.h, .int .i64 f.d, .int .i64 f.c, .int .i64 f.l, .slice PA f.pal.length pc, .slice KA f.key.length kc], .agg #[.int .i64 a0, .int .i64 a1, .int .i64 a2, .int .i64 a3]] W (NumEnd (numsOf f (a0, a1, a2, a3)) W) := by
  have e3 : (f.c == 3) = false := beq_eq_false_iff_ne.2 h3
  have Hw := hid (nuw_start 38 f PA KA pc kc a0 a1 a2 a3 W)
  have Hp := hid hp
  have Hk := hid hk
  have Hf := hid hf
  go_enter Try.func96, Try.ntmps96
  have Hnum : Hid (numsOf f (a0, a1, a2, a3) = if (wideOf f.c (a0, a1, a2, a3)).all (fun x => narrowOk x f.d) = true then (if pixOf f ((wideOf f.c (a0, a1, a2, a3)).map (· / stp f.d)) = some (a0, a1, a2, a3) then some ((wideOf f.c (a0, a1, a2, a3)).map (· / stp f.d)) else none) else none) := by unfold Hid numsOf; rw [if_neg h3]
  obtain ⟨hl0, hl4⟩ := wide_len f.c (a0, a1, a2, a3)
  have Hmk := hid (fun (n : Nat) (hn : n ≤ 4) => show ∀ w : World, (Instr.makeSlice 25 (.int .i64 (n : Int)) (.int .i64 (n : Int))).run Try.prog w = .ok (.slice (some ⟨w.heap.size, 0, none⟩) n n) (w.alloc (.cells (List.replicate n (Value.int .i64 0)).toArray 3)) from by
    intro w
    obtain ⟨i0, hi0, hz0, hz1, hz2⟩ := info_parts int_info
    have h := run_make (P := Try.prog) w 25 3 i0 (.int .i64 0) Try.underlying25 hi0 hz0 .i64 .i64 (n : Int) (n : Int) (by omega) (by omega) (by rw [hz2]; omega) (by omega)
    rw [hz1, made_list _ _ rfl] at h
    exact h)
  clear h3 hf hp hk
  go_upto_block 0 with (fail)
  go_cut [6] from 18 to 57 (fun v w => ∃ A, v = .slice A (wideOf f.c (a0, a1, a2, a3)).length (wideOf f.c (a0, a1, a2, a3)).length ∧ RdI w w.heap.size A (wideOf f.c (a0, a1, a2, a3)) ∧ NuW w W 38 f PA KA pc kc a0 a1 a2 a3)
  case first =>
    by_cases c0 : f.c = 0
    · have hw : Hid (wideOf f.c (a0, a1, a2, a3) = [a0]) := by unfold Hid wideOf; rw [if_pos c0]
      have e0 : (f.c == 0) = true := beq_iff_eq.2 c0
      clear c0
      go_wp2
      go_meet
      rw [hw.out]
      exact ⟨_, rfl, by have h := RdI.new (w := (W.alloc (.cells #[.int .i64 f.w, .int .i64 f.h, .int .i64 f.d, .int .i64 f.c, .int .i64 f.l, .slice PA f.pal.length pc, .slice KA f.key.length kc] 38)).alloc (.cells #[.int .i64 a0, .int .i64 a1, .int .i64 a2, .int .i64 a3] 62)) (t := 3) (l := [a0]) rfl; simpa using h, Hw.out.alloc _⟩
    have e0 : (f.c == 0) = false := beq_eq_false_iff_ne.2 c0
    by_cases c2 : f.c = 2
    · have hw : Hid (wideOf f.c (a0, a1, a2, a3) = [a0, a1, a2]) := by unfold Hid wideOf; rw [if_neg c0, if_pos c2]
      have e2 : (f.c == 2) = true := beq_iff_eq.2 c2
      clear c0 c2
      go_wp2
      go_meet
      rw [hw.out]
      exact ⟨_, rfl, by have h := RdI.new (w := (W.alloc (.cells #[.int .i64 f.w, .int .i64 f.h, .int .i64 f.d, .int .i64 f.c, .int .i64 f.l, .slice PA f.pal.length pc, .slice KA f.key.length kc] 38)).alloc (.cells #[.int .i64 a0, .int .i64 a1, .int .i64 a2, .int .i64 a3] 62)) (t := 3) (l := [a0, a1, a2]) rfl; simpa using h, Hw.out.alloc _⟩
    have e2 : (f.c == 2) = false := beq_eq_false_iff_ne.2 c2
    by_cases c4 : f.c = 4
    · have hw : Hid (wideOf f.c (a0, a1, a2, a3) = [a0, a3]) := by unfold Hid wideOf; rw [if_neg c0, if_neg c2, if_pos c4]
      have e4 : (f.c == 4) = true := beq_iff_eq.2 c4
      clear c0 c2 c4
      go_wp2
      go_meet
      rw [hw.out]
      exact ⟨_, rfl, by have h := RdI.new (w := (W.alloc (.cells #[.int .i64 f.w, .int .i64 f.h, .int .i64 f.d, .int .i64 f.c, .int .i64 f.l, .slice PA f.pal.length pc, .slice KA f.key.length kc] 38)).alloc (.cells #[.int .i64 a0, .int .i64 a1, .int .i64 a2, .int .i64 a3] 62)) (t := 3) (l := [a0, a3]) rfl; simpa using h, Hw.out.alloc _⟩
    · have hw : Hid (wideOf f.c (a0, a1, a2, a3) = [a0, a1, a2, a3]) := by unfold Hid wideOf; rw [if_neg c0, if_neg c2, if_neg c4]
      have e4 : (f.c == 4) = false := beq_eq_false_iff_ne.2 c4
      clear c0 c2 c4
      go_wp2
      go_meet
      rw [hw.out]
      exact ⟨_, rfl, by have h := RdI.new (w := (W.alloc (.cells #[.int .i64 f.w, .int .i64 f.h, .int .i64 f.d, .int .i64 f.c, .int .i64 f.l, .slice PA f.pal.length pc, .slice KA f.key.length kc] 38)).alloc (.cells #[.int .i64 a0, .int .i64 a1, .int .i64 a2, .int .i64 a3] 62)) (t := 3) (l := [a0, a1, a2, a3]) rfl; simpa using h, Hw.out.alloc _⟩
  case rest =>
    obtain ⟨A, rfl, hrd, hnw⟩ := hcut
    rename_i wc
    have Hrd := hid hrd
    have Hnw := hid hnw
    clear hrd hnw Hw
    generalize wideOf f.c (a0, a1, a2, a3) = wd at *
    have hmk := Hmk.out wd.length hl4
    have Hb0 := hid (show Blk (wc.alloc (.cells (Array.replicate wd.length (Value.int .i64 0)) 3)) wc.heap.size 3 (ncells f.d wd 0).toArray from by
      have h := Blk.new wc 3 (Array.replicate wd.length (Value.int .i64 0))
      have e : (ncells f.d wd 0).toArray = Array.replicate wd.length (Value.int .i64 0) := by simp [ncells]
      rw [e]; exact h)
    have hwc := Hnw.out.size
    go_upto_region 17 with (fail)
    go_loopw [63] (fun i wr => ∃ j : Nat, j ≤ wd.length ∧ i = .int .i64 j ∧ (wd.take j).all (fun x => narrowOk x f.d) = true ∧ Blk wr wc.heap.size 3 (ncells f.d wd j).toArray ∧ RdI wr wc.heap.size A wd ∧ NuW wr W 38 f PA KA pc kc a0 a1 a2 a3) (fun i _ => wd.length - (intOf i).toNat)
    case atStart => exact ⟨0, by omega, rfl, rfl, Hb0.out, Hrd.out.below ((Below.refl _ _).alloc (Nat.le_refl _) _) (Nat.le_refl _), Hnw.out.alloc _⟩
    case round =>
      obtain ⟨j, hj, rfl, hall, hblk, hrdr, hnwr⟩ := hrel
      have Hall := hid hall
      have Hblk := hid hblk
      have Hrr := hid hrdr
      have Hnr := hid hnwr
      clear hall hblk hrdr hnwr hmk Hb0
      have hbl := Hblk.out.lt
      by_cases hlt : j < wd.length
      · obtain ⟨b, off, rfl, hbb, x0⟩ := int_at Hrr.out hlt
        have Hset := hid (ncells_set f.d wd j hlt)
        have Hat := hid (all_take wd (fun x => narrowOk x f.d) j hlt)
        have Hno := hid (fun (h : narrowOk wd[j] f.d = false) => show numsOf f (a0, a1, a2, a3) = none by
          rw [Hnum.out, if_neg]
          rw [List.all_eq_true]
          intro hh
          have := hh wd[j] (List.getElem_mem hlt)
          rw [h] at this; cases this)
        have q2 := Hnr.out.1.cell 2
        simp only [List.getElem?_toArray, List.getElem?_cons_zero, List.getElem?_cons_succ] at q2
        generalize wd[j] = x at *
        go_wp2_with fail
        refine (narrow_any x f.d _).mono ?_
        rintro e w1 ⟨rfl, hb⟩
        have hszb := hb.size
        cases hok : narrowOk x f.d
        · have Hn2 := hid (Hno.out hok)
          rw [if_neg (by simp)]
          clear hok
          go_wp2
          go_ret2
          exact numEnd_none Hn2.out (Hnr.out.below hb).2.2
        · have Hal := hid (show (wd.take (j + 1)).all (fun x => narrowOk x f.d) = true by rw [Hat.out, Hall.out, hok]; rfl)
          rw [if_pos rfl]
          have Hb1 := hid (Hblk.out.below hb hbl)
          have Hr1 := hid (Hrr.out.below hb (Nat.le_of_lt hbl))
          have Hn1 := hid (Hnr.out.below hb)
          have s0 : w1.cell? ⟨wc.heap.size, j, none⟩ = some (.int .i64 0) := (Hb1.out.cell j).trans (ncells_at f.d wd j hlt)
          have fr := Hb1.out.frozen j
          clear hok hb q2 x0
          go_wp2
          go_roundw
          case rel => exact ⟨j + 1, by omega, by go_num, Hal.out, by have h := Hb1.out.set_ j (.int .i64 (x / stp f.d)); rwa [Hset.out] at h, Hr1.out.below ((Below.refl _ _).setCell (Nat.le_refl _) _) (Nat.le_refl _), Hn1.out.far (by simp; omega) _⟩
          case measure => simp [intOf]; omega
      · have e : j = wd.length := by omega
        subst e
        have Hall2 := hid (show wd.all (fun x => narrowOk x f.d) = true by have := Hall.out; rwa [List.take_length] at this)
        have Hn3 := hid (Hnum.out.trans (if_pos Hall2.out))
        have hle := ncells_end f.d wd
        have hbk := Hblk.out
        rw [hle] at hbk
        have hml : (wd.map (· / stp f.d)).length = wd.length := by simp
        have Hro := hid (show RdI wr wr.heap.size (some ⟨wc.heap.size, 0, none⟩) (wd.map (· / stp f.d)) from RdI.of_cells hbl (fun j hj => by rw [hbk.cell j]; simp [intsV, List.getElem?_eq_getElem (show j < wd.length by simpa using hj)]))
        have Hbk := hid hbk
        rw [← hml]
        clear hle hbk hlt hj Hblk Hall Hrr Hrd
        generalize wd.map (· / stp f.d) = o at *
        have Hol := hid (show o.length ≤ maxLen by rw [hml]; simp only [maxLen]; omega)
        clear hml hl0 hl4 Hall2 Hnum
        have q0 := Hnr.out.1.cell 0
        have q1 := Hnr.out.1.cell 1
        have q2 := Hnr.out.1.cell 2
        have q3 := Hnr.out.1.cell 3
        have q4 := Hnr.out.1.cell 4
        have q5 := Hnr.out.1.cell 5
        have q6 := Hnr.out.1.cell 6
        simp only [List.getElem?_toArray, List.getElem?_cons_zero, List.getElem?_cons_succ] at q0 q1 q2 q3 q4 q5 q6
        go_wp2_with fail
        refine (pixel_any f PA KA (some ⟨wc.heap.size, 0, none⟩) pc kc _ o _ Hf.out (Hnr.out.rdp Hp.out) (Hnr.out.rdi Hk.out) hkm Hro.out).mono ?_
        rintro e w2 ⟨he, hb2⟩
        have Hn4 := hid (Hnr.out.below hb2)
        have Hbk2 := hid (Hbk.out.below hb2 hbl)
        clear hb2 q0 q1 q2 q3 q4 q5 q6 Hro
        cases hpx : pixOf f o with
        | none =>
          rw [hpx] at he
          have he : e = .returned (.tuple #[.agg #[.int .i64 0, .int .i64 0, .int .i64 0, .int .i64 0], .bool false]) := he
          subst he
          have Hfin := hid (show numsOf f (a0, a1, a2, a3) = none from Hn3.out.trans (if_neg (by rw [hpx]; simp)))
          clear hpx
          go_wp2_with fail
          go_ret2
          exact numEnd_none Hfin.out (Hn4.out.alloc _).2.2
        | some px =>
          rw [hpx] at he
          obtain ⟨x0, x1, x2, x3⟩ := px
          have he : e = .returned (.tuple #[.agg #[.int .i64 x0, .int .i64 x1, .int .i64 x2, .int .i64 x3], .bool true]) := he
          subst he
          have p0 := Hn4.out.2.1.cell 0
          have p1 := Hn4.out.2.1.cell 1
          have p2 := Hn4.out.2.1.cell 2
          have p3 := Hn4.out.2.1.cell 3
          have hs2 := Hn4.out.size
          simp only [List.getElem?_toArray, List.getElem?_cons_zero, List.getElem?_cons_succ] at p0 p1 p2 p3
          by_cases hv : (x0, x1, x2, x3) = (a0, a1, a2, a3)
          · have Hfin := hid (show numsOf f (a0, a1, a2, a3) = some o from Hn3.out.trans (if_pos (by rw [hpx, hv])))
            have hq := px_neq x0 x1 x2 x3 a0 a1 a2 a3 false (by rw [decide_eq_true hv]; rfl)
            clear hpx hv
            go_wp2_with fail
            go_ret2
            exact numEnd_some Hfin.out rfl (own_blk_full (n := o.length) (size := 1) (Hbk2.out.alloc _) (by omega) Hol.out (by simp)) (Hn4.out.alloc _).2.2
          · have Hfin := hid (show numsOf f (a0, a1, a2, a3) = none from Hn3.out.trans (if_neg (by rw [hpx]; intro h; injection h with h; exact hv h)))
            have hq := px_neq x0 x1 x2 x3 a0 a1 a2 a3 true (by rw [decide_eq_false hv]; rfl)
            clear hpx hv
            go_wp2_with fail
            go_ret2
            exact numEnd_none Hfin.out (Hn4.out.alloc _).2.2

theorem nums_any (f : Fm) (PA KA : Option Addr) (pc kc : Nat) (a0 a1 a2 a3 : Int) (W : World) (hf : formOk f = true) (hp : RdP W W.heap.size PA f.pal) (hk : RdI W W.heap.size KA f.key) (hpm : f.pal.length ≤ 1000000) (hkm : f.key.length ≤ 1000000) :
    Calls Try.prog 96 #[.agg #[.int .i64 f.w, .int .i64 f.h, .int .i64 f.d, .int .i64 f.c, .int .i64 f.l, .slice PA f.pal.length pc, .slice KA f.key.length kc], .agg #[.int .i64 a0, .int .i64 a1, .int .i64 a2, .int .i64 a3]] W (NumEnd (numsOf f (a0, a1, a2, a3)) W) := by
  by_cases h3 : f.c = 3
  · exact nums_pal f PA KA pc kc a0 a1 a2 a3 W h3 hp hpm
  · exact nums_col f PA KA pc kc a0 a1 a2 a3 W h3 hf hp hk hkm

/-- numbers in any form -/
def fnumsOf (f : Fm) (p : Px) : Option (List Int) := if formOk f = true then numsOf f p else none
set_option maxRecDepth 100000 in
set_option maxHeartbeats 4000000 in
theorem fnums_any (f : Fm) (PA KA : Option Addr) (pc kc : Nat) (a0 a1 a2 a3 : Int) (W : World) (hp : RdP W W.heap.size PA f.pal) (hk : RdI W W.heap.size KA f.key) (hpm : f.pal.length ≤ 1000000) (hkm : f.key.length ≤ 1000000) :
    Calls Try.prog 112 #[.agg #[.int .i64 f.w, .int .i64 f.h, .int .i64 f.d, .int .i64 f.c, .int .i64 f.l, .slice PA f.pal.length pc, .slice KA f.key.length kc], .agg #[.int .i64 a0, .int .i64 a1, .int .i64 a2, .int .i64 a3]] W (NumEnd (fnumsOf f (a0, a1, a2, a3)) W) := by
  have Hw := hid (nuw_start 38 f PA KA pc kc a0 a1 a2 a3 W)
  have Hp := hid hp
  have Hk := hid hk
  clear hp hk
  go_enter Try.func112, Try.ntmps112
  go_wp2_with fail
  refine (fcheck_any f PA KA pc kc _ (Hw.out.rdp Hp.out) (Hw.out.rdi Hk.out) hpm hkm).mono ?_
  rintro e w1 ⟨rfl, hb⟩
  have Hn1 := hid (Hw.out.below hb)
  clear hb Hw
  cases hf : formOk f
  · have Hfin := hid (show fnumsOf f (a0, a1, a2, a3) = none by unfold fnumsOf; rw [hf]; rfl)
    rw [if_neg (by simp), errv_6]
    clear hf
    go_wp2
    go_ret2
    exact numEnd_none Hfin.out Hn1.out.2.2
  · have Hfin := hid (show fnumsOf f (a0, a1, a2, a3) = numsOf f (a0, a1, a2, a3) by unfold fnumsOf; rw [hf]; rfl)
    have Hf := hid hf
    rw [if_pos rfl, errv_0]
    clear hf
    have q0 := Hn1.out.1.cell 0
    have q1 := Hn1.out.1.cell 1
    have q2 := Hn1.out.1.cell 2
    have q3 := Hn1.out.1.cell 3
    have q4 := Hn1.out.1.cell 4
    have q5 := Hn1.out.1.cell 5
    have q6 := Hn1.out.1.cell 6
    have p0 := Hn1.out.2.1.cell 0
    have p1 := Hn1.out.2.1.cell 1
    have p2 := Hn1.out.2.1.cell 2
    have p3 := Hn1.out.2.1.cell 3
    simp only [List.getElem?_toArray, List.getElem?_cons_zero, List.getElem?_cons_succ] at q0 q1 q2 q3 q4 q5 q6 p0 p1 p2 p3
    go_wp2_with fail
    refine (nums_any f PA KA pc kc a0 a1 a2 a3 _ Hf.out (Hn1.out.rdp Hp.out) (Hn1.out.rdi Hk.out) hpm hkm).mono ?_
    rintro e w2 ⟨he, hb2⟩
    have Hb2 := hid (Hn1.out.below hb2).2.2
    clear hb2 q0 q1 q2 q3 q4 q5 q6 p0 p1 p2 p3
    cases hn : numsOf f (a0, a1, a2, a3) with
    | none =>
      rw [hn] at he
      have he : e = .returned (.tuple #[.slice none 0 0, .bool false]) := he
      subst he
      have Hx := hid (Hfin.out.trans hn)
      clear hn
      go_wp2
      go_ret2
      exact numEnd_none Hx.out Hb2.out
    | some l =>
      rw [hn] at he
      obtain ⟨A, c, rfl, hr⟩ := he
      have Hr := hid hr
      have Hx := hid (Hfin.out.trans hn)
      clear hn hr
      go_wp2
      go_ret2
      exact numEnd_some Hx.out rfl (own_base Hr.out Hn1.out.2.2.size) Hb2.out

end Go.Proofs.Ytphhoihhmphbdaa
