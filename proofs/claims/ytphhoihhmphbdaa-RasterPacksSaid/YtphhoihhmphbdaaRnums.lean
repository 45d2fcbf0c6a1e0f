/-
  burnishref17.Form.Numbers: a pixel's numbers in a good form.
-/
import Derived.Test.YtphhoihhmphbdaaNums
import Derived.Test.YtphhoihhmphbdaaRlaw
import Derived.Deep.RegionLaw
import Derived.BigRegion
namespace Go.Proofs.Ytphhoihhmphbdaa
open Go.RowKit

/-- the world while the numbers are found: the head's box besides -/
def NrW (w W : World) (f : Fm) (PA KA : Option Addr) (pc kc : Nat) (a0 a1 a2 a3 : Int) : Prop :=
  NuW w W 27 f PA KA pc kc a0 a1 a2 a3 ∧ Blk w (W.heap.size + 1 + 1) 23 #[.int .i64 f.w, .int .i64 f.h, .int .i64 f.d, .int .i64 f.c, .int .i64 f.l]
section
variable {w w' W : World} {f : Fm} {PA KA : Option Addr} {pc kc : Nat} {a0 a1 a2 a3 : Int}
theorem nrw_start (f : Fm) (PA KA : Option Addr) (pc kc : Nat) (a0 a1 a2 a3 : Int) (W : World) : NrW (((W.alloc (.cells #[.int .i64 f.w, .int .i64 f.h, .int .i64 f.d, .int .i64 f.c, .int .i64 f.l, .slice PA f.pal.length pc, .slice KA f.key.length kc] 27)).alloc (.cells #[.int .i64 a0, .int .i64 a1, .int .i64 a2, .int .i64 a3] 62)).alloc (.cells #[.int .i64 f.w, .int .i64 f.h, .int .i64 f.d, .int .i64 f.c, .int .i64 f.l] 23)) W f PA KA pc kc a0 a1 a2 a3 := by
  have b1 := Blk.new ((W.alloc (.cells #[.int .i64 f.w, .int .i64 f.h, .int .i64 f.d, .int .i64 f.c, .int .i64 f.l, .slice PA f.pal.length pc, .slice KA f.key.length kc] 27)).alloc (.cells #[.int .i64 a0, .int .i64 a1, .int .i64 a2, .int .i64 a3] 62)) 23 #[.int .i64 f.w, .int .i64 f.h, .int .i64 f.d, .int .i64 f.c, .int .i64 f.l]
  simp only [World.size_alloc] at b1
  exact ⟨(nuw_start _ f PA KA pc kc a0 a1 a2 a3 W).alloc _, b1⟩
theorem NrW.below (h : NrW w W f PA KA pc kc a0 a1 a2 a3) (hb : Below w.heap.size w w') : NrW w' W f PA KA pc kc a0 a1 a2 a3 := ⟨h.1.below hb, h.2.below hb h.2.lt⟩
theorem NrW.alloc (h : NrW w W f PA KA pc kc a0 a1 a2 a3) (o : Obj) : NrW (w.alloc o) W f PA KA pc kc a0 a1 a2 a3 := ⟨h.1.alloc o, h.2.alloc o⟩
theorem NrW.drewN (h : NrW w W f PA KA pc kc a0 a1 a2 a3) (n : Nat) : NrW (w.drewN n) W f PA KA pc kc a0 a1 a2 a3 := ⟨h.1.drewN n, h.2⟩
theorem NrW.size (h : NrW w W f PA KA pc kc a0 a1 a2 a3) : W.heap.size + 1 + 1 < w.heap.size := h.2.lt
theorem NrW.grown {base n : Nat} {v : Value} {xs : List Value} (h : NrW w W f PA KA pc kc a0 a1 a2 a3) (ho : w.ownsRow base 3 1 v n xs) (hg : w.grownBy w' v.ownBlock) (hb : Below W.heap.size W w') : NrW w' W f PA KA pc kc a0 a1 a2 a3 :=
  ⟨⟨h.1.1.grown hg (own_blk_ne ho h.1.1 (by decide)), h.1.2.1.grown hg (own_blk_ne ho h.1.2.1 (by decide)), hb⟩, h.2.grown hg (own_blk_ne ho h.2 (by decide))⟩
end

set_option maxRecDepth 100000 in
set_option maxHeartbeats 4000000 in
theorem rnums_pal (f : Fm) (PA KA : Option Addr) (pc kc : Nat) (a0 a1 a2 a3 : Int) (W : World) (h3 : f.c = 3) (hp : RdP W W.heap.size PA f.pal) (hpm : f.pal.length ≤ 1000000) :
    Calls Try.prog 58 #[.agg #[.int .i64 f.w, .int .i64 f.h, .int .i64 f.d, .int .i64 f.c, .int .i64 f.l, .slice PA f.pal.length pc, .slice KA f.key.length kc], .agg #[.int .i64 a0, .int .i64 a1, .int .i64 a2, .int .i64 a3]] W (NumEnd (numsOf f (a0, a1, a2, a3)) W) := by
  have e3 : (f.c == 3) = true := beq_iff_eq.2 h3
  have Hn : Hid (numsOf f (a0, a1, a2, a3) = if f.pal.findIdx (· == (a0, a1, a2, a3)) < f.pal.length then some [((f.pal.findIdx (· == (a0, a1, a2, a3)) : Nat) : Int)] else none) := by unfold Hid numsOf; rw [if_pos h3]
  have Hw := hid (nrw_start f PA KA pc kc a0 a1 a2 a3 W)
  have Hp := hid hp
  clear h3 hp
  go_enter Try.func58, Try.ntmps58
  go_wp2_with fail
  go_loopw [7] (fun i wr => ∃ j : Nat, j ≤ f.pal.length ∧ i = .int .i64 j ∧ (a0, a1, a2, a3) ∉ f.pal.take j ∧ NrW wr W f PA KA pc kc a0 a1 a2 a3) (fun i _ => f.pal.length - (intOf i).toNat)
  case atStart => exact ⟨0, by omega, rfl, by simp, Hw.out⟩
  case round =>
    obtain ⟨j, hj, rfl, hno, hnw⟩ := hrel
    have Hno := hid hno
    have Hnw := hid hnw
    have q5 := hnw.1.1.cell 5
    have p0 := hnw.1.2.1.cell 0
    have p1 := hnw.1.2.1.cell 1
    have p2 := hnw.1.2.1.cell 2
    have p3 := hnw.1.2.1.cell 3
    simp only [List.getElem?_toArray, List.getElem?_cons_zero, List.getElem?_cons_succ] at q5 p0 p1 p2 p3
    clear hno hnw Hw
    by_cases hlt : j < f.pal.length
    · obtain ⟨b, off, rfl, hbb, x0, x1, x2, x3⟩ := px_at (Hnw.out.1.rdp Hp.out) hlt
      by_cases hv : f.pal[j] = (a0, a1, a2, a3)
      · have Hm := hid (idx_hit hlt Hno.out hv)
        rw [hv] at x0 x1 x2 x3
        simp only at x0 x1 x2 x3
        have hq := px_eql a0 a1 a2 a3 a0 a1 a2 a3 true (decide_eq_true rfl).symm
        clear hv
        have Hfin := hid (show numsOf f (a0, a1, a2, a3) = some [(j : Int)] by
          have h := Hm.out
          unfold idxV at h
          by_cases hh : f.pal.findIdx (· == (a0, a1, a2, a3)) < f.pal.length
          · rw [if_pos hh] at h
            rw [Hn.out, if_pos hh, h]
          · rw [if_neg hh] at h; omega)
        go_wp2
        go_quiet (fail)
        go_wp2
        go_ret2
        exact numEnd_some Hfin.out rfl (own_one_int (Blk.new _ _ _) (Hnw.out.drewN nq).1.2.2.size) ((Hnw.out.drewN nq).1.2.2.alloc (Hnw.out.drewN nq).1.2.2.size _)
      · have Hm := hid (mem_take_px hlt Hno.out hv)
        generalize f.pal[j] = x at *
        obtain ⟨xr, xg, xb, xa⟩ := x
        simp only at x0 x1 x2 x3
        have hq := px_eql xr xg xb xa a0 a1 a2 a3 false (decide_eq_false hv).symm
        clear hv
        go_wp2
        go_quiet (fail)
        go_wp2
        go_roundw
        case rel => exact ⟨j + 1, by omega, by go_num, Hm.out, Hnw.out.drewN _⟩
        case measure => simp [intOf]; omega
    · have e : j = f.pal.length := by omega
      have Hfin := hid (show numsOf f (a0, a1, a2, a3) = none by
        have h := idx_no (l := f.pal) (p := (a0, a1, a2, a3)) (by have := Hno.out; rwa [e, List.take_length] at this)
        unfold idxV at h
        by_cases hh : f.pal.findIdx (· == (a0, a1, a2, a3)) < f.pal.length
        · rw [if_pos hh] at h; omega
        · rw [Hn.out, if_neg hh])
      go_wp2
      go_ret2
      exact numEnd_none Hfin.out Hnw.out.1.2.2

/-- the parts of a pixel, while they are laid side by side -/
def wide1 (c : Int) (a0 a1 a2 : Int) : List Int := if c = 2 ∨ c = 6 then [a0, a1, a2] else [a0]
theorem wide_two (c a0 a1 a2 a3 : Int) (hc : c = 0 ∨ c = 2 ∨ c = 4 ∨ c = 6) : wideOf c (a0, a1, a2, a3) = if c = 4 ∨ c = 6 then wide1 c a0 a1 a2 ++ [a3] else wide1 c a0 a1 a2 := by
  rcases hc with rfl | rfl | rfl | rfl <;> rfl
theorem stp_quo {d : Int} (hd : deepOk d) : (65535 : Int).tdiv (pw d - 1) = stp d := by
  rcases hd with rfl | rfl | rfl | rfl | rfl <;> rfl

set_option maxRecDepth 100000 in
set_option maxHeartbeats 8000000 in
theorem rnums_col (f : Fm) (PA KA : Option Addr) (pc kc : Nat) (a0 a1 a2 a3 : Int) (W : World) (h3 : f.c ≠ 3) (hf : formOk f = true) (hp : RdP W W.heap.size PA f.pal) (hk : RdI W W.heap.size KA f.key) :
    Calls Try.prog 58 #[.agg #[.int .i64 f.w, .int .i64 f.h, .int .i64 f.d, .int .i64 f.c, .int .i64 f.l, .slice PA f.pal.length pc, .slice KA f.key.length kc], .agg #[.int .i64 a0, .int .i64 a1, .int .i64 a2, .int .i64 a3]] W (NumEnd (numsOf f (a0, a1, a2, a3)) W) := by
  have e3 : (f.c == 3) = false := beq_eq_false_iff_ne.2 h3
  have Hw := hid (nrw_start f PA KA pc kc a0 a1 a2 a3 W)
  have Hp := hid hp
  have Hk := hid hk
  have Hf := hid hf
  have Hnum : Hid (numsOf f (a0, a1, a2, a3) = if (wideOf f.c (a0, a1, a2, a3)).all (fun x => narrowOk x f.d) = true then (if pixOf f ((wideOf f.c (a0, a1, a2, a3)).map (· / stp f.d)) = some (a0, a1, a2, a3) then some ((wideOf f.c (a0, a1, a2, a3)).map (· / stp f.d)) else none) else none) := by unfold Hid numsOf; rw [if_neg h3]
  obtain ⟨hl0, hl4⟩ := wide_len f.c (a0, a1, a2, a3)
  obtain ⟨hd, _, hch⟩ := headErr_deep (formOk_parts hf).1
  have Hd := hid hd
  have hcol : f.c = 0 ∨ f.c = 2 ∨ f.c = 4 ∨ f.c = 6 := by have := chan_cols hch; omega
  have Hw2 := hid (wide_two f.c a0 a1 a2 a3 hcol)
  have Hcol := hid hcol
  obtain ⟨i0, hi0, hz0, hz1, hz2⟩ := info_parts int_info
  have Hi0 := hid hi0
  have Hz0 := hid hz0
  have Hz1 := hid hz1
  have Hz2 := hid hz2
  clear h3 hf hp hk hd hch hcol hi0 hz0 hz1 hz2
  go_enter Try.func58, Try.ntmps58
  go_upto_region 10 with (fail)
  have Ho := hid (show World.ownsRow ((((W.alloc (.cells #[.int .i64 f.w, .int .i64 f.h, .int .i64 f.d, .int .i64 f.c, .int .i64 f.l, .slice PA f.pal.length pc, .slice KA f.key.length kc] 27)).alloc (.cells #[.int .i64 a0, .int .i64 a1, .int .i64 a2, .int .i64 a3] 62)).alloc (.cells #[.int .i64 f.w, .int .i64 f.h, .int .i64 f.d, .int .i64 f.c, .int .i64 f.l] 23)).alloc (.cells #[.int .i64 a0] 3)) W.heap.size 3 1 (.slice (some ⟨W.heap.size + 1 + 1 + 1, 0, none⟩) 1 1) 1 (intsV [a0]) from by
    have h := World.ownsRow_lit (base := W.heap.size) (e := 3) (size := 1) (((W.alloc (.cells #[.int .i64 f.w, .int .i64 f.h, .int .i64 f.d, .int .i64 f.c, .int .i64 f.l, .slice PA f.pal.length pc, .slice KA f.key.length kc] 27)).alloc (.cells #[.int .i64 a0, .int .i64 a1, .int .i64 a2, .int .i64 a3] 62)).alloc (.cells #[.int .i64 f.w, .int .i64 f.h, .int .i64 f.d, .int .i64 f.c, .int .i64 f.l] 23)) #[.int .i64 a0] 1 (by simp; omega) (by simp [maxLen]) rfl
    simpa [intsV] using h)
  have Hw1 := hid (Hw.out.alloc (.cells #[.int .i64 a0] 3))
  clear Hw
  generalize (((W.alloc (.cells #[.int .i64 f.w, .int .i64 f.h, .int .i64 f.d, .int .i64 f.c, .int .i64 f.l, .slice PA f.pal.length pc, .slice KA f.key.length kc] 27)).alloc (.cells #[.int .i64 a0, .int .i64 a1, .int .i64 a2, .int .i64 a3] 62)).alloc (.cells #[.int .i64 f.w, .int .i64 f.h, .int .i64 f.d, .int .i64 f.c, .int .i64 f.l] 23)).alloc (.cells #[.int .i64 a0] 3) = wy at *
  have p3 := Hw1.out.2.cell 3
  simp only [List.getElem?_toArray, List.getElem?_cons_zero, List.getElem?_cons_succ] at p3
  go_cut [45] from 38 to 45 (fun v w => v = .bool (decide (f.c = 2 ∨ f.c = 6)) ∧ wy = w)
  case first =>
    by_cases c2 : f.c = 2
    · have e2 : (f.c == 2) = true := beq_iff_eq.2 c2
      have Hc := hid (show decide (f.c = 2 ∨ f.c = 6) = true from decide_eq_true (.inl c2))
      clear c2
      go_wp2
      go_meet
      exact ⟨by rw [Hc.out], rfl⟩
    have e2 : (f.c == 2) = false := beq_eq_false_iff_ne.2 c2
    by_cases c6 : f.c = 6
    · have e6 : (f.c == 6) = true := beq_iff_eq.2 c6
      have Hc := hid (show decide (f.c = 2 ∨ f.c = 6) = true from decide_eq_true (.inr c6))
      clear c2 c6
      go_wp2
      go_meet
      exact ⟨by rw [Hc.out], rfl⟩
    · have e6 : (f.c == 6) = false := beq_eq_false_iff_ne.2 c6
      have Hc := hid (show decide (f.c = 2 ∨ f.c = 6) = false from decide_eq_false (fun h => h.elim c2 c6))
      clear c2 c6
      go_wp2
      go_meet
      exact ⟨by rw [Hc.out], rfl⟩
  case rest =>
  obtain ⟨rfl, rfl⟩ := hcut
  clear p3
  have Hcb := hid (show wide1 f.c a0 a1 a2 = if decide (f.c = 2 ∨ f.c = 6) = true then [a0, a1, a2] else [a0] by unfold wide1; simp)
  generalize decide (f.c = 2 ∨ f.c = 6) = cb at *
  have hyz := Hw1.out.size
  go_upto_if 45 with (fail)
  go_cut [8] from 46 to 52 (fun v w => ∃ A c, v = .slice A (wide1 f.c a0 a1 a2).length c ∧ w.ownsRow W.heap.size 3 1 (.slice A (wide1 f.c a0 a1 a2).length c) (wide1 f.c a0 a1 a2).length (intsV (wide1 f.c a0 a1 a2)) ∧ NrW w W f PA KA pc kc a0 a1 a2 a3)
  case first =>
    cases cb
    · go_wp2
      go_meet
      rw [Hcb.out]
      exact ⟨_, _, rfl, Ho.out, Hw1.out⟩
    · have p1 := Hw1.out.1.2.1.cell 1
      have p2 := Hw1.out.1.2.1.cell 2
      simp only [List.getElem?_toArray, List.getElem?_cons_zero, List.getElem?_cons_succ] at p1 p2
      go_wp2_with (at_builtin; refine wpList_app _ rfl _ _ _ rfl W.heap.size 3 i0 (.int .i64 0) 1 8 Try.underlying25 Hi0.out Hz0.out Hz1.out Hz2.out rfl (by omega) _ 1 1 _ rfl (Ho.out.alloc _) _ _ 2 2 [.int .i64 a1, .int .i64 a2] rfl (rd_two _ _ _ _) (by simp) (by simp [Value.oneCell']) (by simp only [maxLen]; omega) (by omega) (by simp; omega) ?_; rintro A3 c3 w3 ⟨hown3, hgr3, hb3, _⟩)
      go_meet
      rw [Hcb.out]
      exact ⟨_, _, rfl, hown3, (Hw1.out.alloc _).grown (Ho.out.alloc _) hgr3 ((Hw1.out.1.2.2.alloc (by omega) _).trans hb3)⟩
  case rest =>
  obtain ⟨A1, c1, rfl, ho1, hw1⟩ := hcut
  obtain ⟨wz, rfl⟩ : ∃ wz : World, wz = wc := ⟨_, rfl⟩
  have Ho1 := hid ho1
  have Hn1 := hid hw1
  have hl1 : (wide1 f.c a0 a1 a2).length ≤ 3 := by unfold wide1; split <;> simp
  have Hcc := hid (show wideOf f.c (a0, a1, a2, a3) = if decide (f.c = 4 ∨ f.c = 6) = true then wide1 f.c a0 a1 a2 ++ [a3] else wide1 f.c a0 a1 a2 by rw [Hw2.out]; simp)
  have hyz2 := hw1.size
  clear ho1 hw1 Ho Hw1 Hcb hyz Hw2
  generalize wide1 f.c a0 a1 a2 = l1 at *
  go_upto_region 12 with (fail)
  have p3 := Hn1.out.2.cell 3
  simp only [List.getElem?_toArray, List.getElem?_cons_zero, List.getElem?_cons_succ] at p3
  go_cut [60] from 53 to 60 (fun v w => v = .bool (decide (f.c = 4 ∨ f.c = 6)) ∧ wz = w)
  case first =>
    by_cases c2 : f.c = 4
    · have e2 : (f.c == 4) = true := beq_iff_eq.2 c2
      have Hc := hid (show decide (f.c = 4 ∨ f.c = 6) = true from decide_eq_true (.inl c2))
      clear c2
      go_wp2
      go_meet
      exact ⟨by rw [Hc.out], rfl⟩
    have e2 : (f.c == 4) = false := beq_eq_false_iff_ne.2 c2
    by_cases c6 : f.c = 6
    · have e6 : (f.c == 6) = true := beq_iff_eq.2 c6
      have Hc := hid (show decide (f.c = 4 ∨ f.c = 6) = true from decide_eq_true (.inr c6))
      clear c2 c6
      go_wp2
      go_meet
      exact ⟨by rw [Hc.out], rfl⟩
    · have e6 : (f.c == 6) = false := beq_eq_false_iff_ne.2 c6
      have Hc := hid (show decide (f.c = 4 ∨ f.c = 6) = false from decide_eq_false (fun h => h.elim c2 c6))
      clear c2 c6
      go_wp2
      go_meet
      exact ⟨by rw [Hc.out], rfl⟩
  case rest =>
  obtain ⟨rfl, rfl⟩ := hcut
  clear p3
  generalize decide (f.c = 4 ∨ f.c = 6) = cb2 at *
  go_upto_if 60 with (fail)
  go_cut [8] from 61 to 65 (fun v w => ∃ A c, v = .slice A (wideOf f.c (a0, a1, a2, a3)).length c ∧ w.ownsRow W.heap.size 3 1 (.slice A (wideOf f.c (a0, a1, a2, a3)).length c) (wideOf f.c (a0, a1, a2, a3)).length (intsV (wideOf f.c (a0, a1, a2, a3))) ∧ NrW w W f PA KA pc kc a0 a1 a2 a3)
  case first =>
    cases cb2
    · go_wp2
      go_meet
      rw [Hcc.out]
      exact ⟨_, _, rfl, Ho1.out, Hn1.out⟩
    · have p1 := Hn1.out.1.2.1.cell 3
      simp only [List.getElem?_toArray, List.getElem?_cons_zero, List.getElem?_cons_succ] at p1
      go_wp2_with (at_builtin; refine wpList_app _ rfl _ _ _ rfl W.heap.size 3 i0 (.int .i64 0) 1 8 Try.underlying25 Hi0.out Hz0.out Hz1.out Hz2.out rfl (by omega) _ l1.length c1 _ rfl (Ho1.out.alloc _) _ _ 1 1 [.int .i64 a3] rfl (rd_one _ _ _ _ (Blk.new _ _ _)) (by simp) (by simp [Value.oneCell']) (by simp only [maxLen]; omega) (by omega) (by simp; omega) ?_; rintro A3 c3 w3 ⟨hown3, hgr3, hb3, _⟩)
      go_meet
      have hcc := Hcc.out
      simp only [if_true] at hcc
      rw [hcc, List.length_append]
      refine ⟨A3, c3, rfl, ?_, (Hn1.out.alloc _).grown (Ho1.out.alloc _) hgr3 ((Hn1.out.1.2.2.alloc (by omega) _).trans hb3)⟩
      simpa [intsV] using hown3
  case rest =>
  obtain ⟨A2, c2, rfl, ho2, hw2⟩ := hcut
  obtain ⟨wd0, rfl⟩ : ∃ wd0 : World, wd0 = wc := ⟨_, rfl⟩
  have Hrd := hid (own_rdi ho2)
  have Hn2 := hid hw2
  have hyz3 := hw2.size
  clear ho2 hw2 Ho1 Hn1 Hcc hyz2 hl1
  generalize wideOf f.c (a0, a1, a2, a3) = wd at *
  obtain ⟨pw1, pw2⟩ := pw_bd f.d
  obtain ⟨st1, st2⟩ := stp_bd f.d
  have p2 := Hn2.out.2.cell 2
  simp only [List.getElem?_toArray, List.getElem?_cons_zero, List.getElem?_cons_succ] at p2
  go_wp2_with fail
  refine (top_any f.d Hd.out _).mono ?_
  rintro e w ⟨rfl, rfl⟩
  clear p2
  go_wp2_with fail
  go_loopw [10, 11] (fun o i wr => ∃ (j : Nat) (A' : Option Addr) (c' : Nat), j ≤ wd.length ∧ i = .int .i64 j ∧ o = .slice A' j c' ∧ wr.ownsRow wd0.heap.size 3 1 (.slice A' j c') j (intsV ((wd.take j).map (· / stp f.d))) ∧ (wd.take j).all (fun x => narrowOk x f.d) = true ∧ Below wd0.heap.size wd0 wr) (fun _ i _ => wd.length - (intOf i).toNat)
  case atStart => exact ⟨0, none, 0, by omega, rfl, rfl, World.ownsRow_nil _ _ _ _, rfl, Below.refl _ _⟩
  case round =>
    obtain ⟨j, A', c', hj, rfl, rfl, hown, hall, hbw⟩ := hrel
    have Hown := hid hown
    have Hall := hid hall
    have Hbw := hid hbw
    have hsw := hbw.size
    clear hown hall hbw
    by_cases hlt : j < wd.length
    · obtain ⟨b, off, rfl, hbb, x0⟩ := int_at (Hrd.out.below Hbw.out (Nat.le_refl _)) hlt
      have Hat := hid (all_take wd (fun x => narrowOk x f.d) j hlt)
      have Hno := hid (fun (h : narrowOk wd[j] f.d = false) => show numsOf f (a0, a1, a2, a3) = none by
        rw [Hnum.out, if_neg]
        rw [List.all_eq_true]
        intro hh
        have := hh wd[j] (List.getElem_mem hlt)
        rw [h] at this; cases this)
      have Hmap := hid (show (wd.take (j + 1)).map (· / stp f.d) = (wd.take j).map (· / stp f.d) ++ [wd[j] / stp f.d] by rw [List.take_succ_eq_append_getElem hlt, List.map_append]; rfl)
      generalize wd[j] = x at *
      have hq0 : (65535 : Int).tdiv (pw f.d - 1) = stp f.d := stp_quo Hd.out
      have pne : (pw f.d - 1 == 0) = false := beq_eq_false_iff_ne.2 (by omega)
      have hq1 : IntKind.i64.wrap (stp f.d) = stp f.d := IntWalk.i64_in _ (by omega)
      have sne : (stp f.d == 0) = false := beq_eq_false_iff_ne.2 (by omega)
      by_cases h0 : x < 0
      · have Hn := hid (Hno.out (by unfold narrowOk; rw [decide_eq_false (p := 0 ≤ x ∧ x ≤ 65535) (by omega)]; simp))
        have d0 : decide (x < 0) = true := decide_eq_true h0
        go_wp2_with fail
        go_quiet (fail)
        go_wp2
        go_ret2
        exact numEnd_none Hn.out ((Hn2.out.below Hbw.out).1.drewN _).2.2
      have d0 : decide (x < 0) = false := decide_eq_false h0
      by_cases h1 : 65535 < x
      · have Hn := hid (Hno.out (by unfold narrowOk; rw [decide_eq_false (p := 0 ≤ x ∧ x ≤ 65535) (by omega)]; simp))
        have d1 : decide (65535 < x) = true := decide_eq_true h1
        go_wp2_with fail
        go_quiet (fail)
        go_wp2
        go_ret2
        exact numEnd_none Hn.out ((Hn2.out.below Hbw.out).1.drewN _).2.2
      have d1 : decide (65535 < x) = false := decide_eq_false h1
      have hq2 : x.tmod (stp f.d) = x % stp f.d := Int.tmod_eq_emod_of_nonneg (by omega)
      by_cases h2 : x % stp f.d = 0
      · have Hx := hid (show narrowOk x f.d = true by unfold narrowOk deepB; rw [decide_eq_true Hd.out, decide_eq_true (p := 0 ≤ x ∧ x ≤ 65535) (by omega), decide_eq_true h2]; rfl)
        have hm0 : (x % stp f.d != 0) = false := by rw [bne_eq_false_iff_eq]; exact h2
        clear h2 Hno
        go_wp2_with fail
        go_quiet (fail)
        have hdv : 0 ≤ x / stp f.d ∧ x / stp f.d ≤ 65535 := ⟨Int.ediv_nonneg (by omega) (by omega), Int.le_trans (Int.ediv_le_self _ (by omega)) (by omega)⟩
        have hq3 : x.tdiv (stp f.d) = x / stp f.d := Int.tdiv_eq_ediv_of_nonneg (by omega)
        have hq4 : IntKind.i64.wrap (x / stp f.d) = x / stp f.d := IntWalk.i64_in _ (by omega)
        have Hv := hid (own_drewN Hown.out nq)
        have Hbv := hid (below_drewN Hbw.out nq)
        have x1 : (wr.drewN nq).cell? ⟨b, off + j, none⟩ = some (.int .i64 x) := x0
        have hsv : wd0.heap.size ≤ (wr.drewN nq).heap.size := hsw
        have pnz : ¬ (pw f.d - 1 = 0) := by omega
        have snz : ¬ (stp f.d = 0) := by omega
        clear x0 hsw Hown Hbw hdv hm0 hq2
        generalize wr.drewN nq = wv at *
        have Hal := hid (show (wd.take (j + 1)).all (fun x => narrowOk x f.d) = true by rw [Hat.out, Hall.out, Hx.out]; rfl)
        go_wp2_with fail
        go_region_law (refine step_app _ (by rfl) _ _ _ (by rfl) wd0.heap.size 3 i0 (.int .i64 0) 1 8 Try.underlying25 Hi0.out Hz0.out Hz1.out Hz2.out rfl (by omega) A' j c' _ (by rfl) (Hv.out.alloc _) _ _ 1 1 [.int .i64 (x / stp f.d)] (by rfl) (rd_one _ _ _ _ (Blk.new _ _ _)) (by simp) (by simp [Value.oneCell']) (by simp only [maxLen]; omega) (by omega) (by simp; omega) ?_; rintro A3 c3 w3 ⟨hown3, hgr3, hb3, _⟩)
        all_goals
          go_wp2
          go_roundw
          case rel => exact ⟨j + 1, A3, c3, by omega, by go_num, rfl, by rw [Hmap.out]; simpa [intsV] using hown3, Hal.out, (Hbv.out.drew.alloc hsv _).trans hb3⟩
          case measure => simp [intOf]; omega
      · have Hn := hid (Hno.out (by unfold narrowOk; rw [decide_eq_false h2]; simp))
        have hm0 : (x % stp f.d != 0) = true := bne_iff_ne.2 h2
        clear h2 Hno
        go_wp2_with fail
        go_quiet (fail)
        go_wp2
        go_ret2
        exact numEnd_none Hn.out ((Hn2.out.below Hbw.out).1.drewN _).2.2
    · have e : j = wd.length := by omega
      subst e
      have Hall2 := hid (show wd.all (fun x => narrowOk x f.d) = true by have := Hall.out; rwa [List.take_length] at this)
      have Hn3 := hid (Hnum.out.trans (if_pos Hall2.out))
      have hml : (wd.map (· / stp f.d)).length = wd.length := by simp
      have hoo : wr.ownsRow wd0.heap.size 3 1 (.slice A' (wd.map (· / stp f.d)).length c') (wd.map (· / stp f.d)).length (intsV (wd.map (· / stp f.d))) := by rw [hml]; have := Hown.out; rwa [List.take_length] at this
      have Hoo := hid hoo
      have ho := own_rdi (A := A') (c := c') (o := wd.map (· / stp f.d)) (w := wr) (base := wd0.heap.size) (by rw [hml]; have := Hown.out; rwa [List.take_length] at this)
      have Hro := hid ho
      have Hnr := hid (Hn2.out.below Hbw.out)
      rw [← hml]
      clear ho hoo hlt hj Hall Hown
      generalize wd.map (· / stp f.d) = o at *
      clear hml hl0 hl4 Hall2 Hnum
      have q0 := Hnr.out.1.1.cell 0
      have q1 := Hnr.out.1.1.cell 1
      have q2 := Hnr.out.1.1.cell 2
      have q3 := Hnr.out.1.1.cell 3
      have q4 := Hnr.out.1.1.cell 4
      have q5 := Hnr.out.1.1.cell 5
      have q6 := Hnr.out.1.1.cell 6
      simp only [List.getElem?_toArray, List.getElem?_cons_zero, List.getElem?_cons_succ] at q0 q1 q2 q3 q4 q5 q6
      go_wp2_with fail
      refine (rpixel_any f PA KA A' pc kc c' o _ Hf.out (Hnr.out.1.rdp Hp.out) (Hnr.out.1.rdi Hk.out) Hro.out).mono ?_
      rintro e w2 ⟨he, hb2⟩
      have Hn4 := hid (Hnr.out.below hb2)
      have Hoo2 := hid (own_below Hoo.out hb2 (Nat.le_refl _))
      clear hb2 q0 q1 q2 q3 q4 q5 q6 Hro
      cases hpx : pixOf f o with
      | none =>
        rw [hpx] at he
        have he : e = .returned (.tuple #[.agg #[.int .i64 0, .int .i64 0, .int .i64 0, .int .i64 0], .bool false]) := he
        subst he
        have Hfin := hid (show numsOf f (a0, a1, a2, a3) = none from Hn3.out.trans (if_neg (by rw [hpx]; simp)))
        clear hpx
        go_wp2_with fail
        go_ret2
        exact numEnd_none Hfin.out (Hn4.out.alloc _).1.2.2
      | some px =>
        rw [hpx] at he
        obtain ⟨x0, x1, x2, x3⟩ := px
        have he : e = .returned (.tuple #[.agg #[.int .i64 x0, .int .i64 x1, .int .i64 x2, .int .i64 x3], .bool true]) := he
        subst he
        have p0 := Hn4.out.1.2.1.cell 0
        have p1 := Hn4.out.1.2.1.cell 1
        have p2 := Hn4.out.1.2.1.cell 2
        have p3 := Hn4.out.1.2.1.cell 3
        have hs2 := Hn4.out.1.size
        simp only [List.getElem?_toArray, List.getElem?_cons_zero, List.getElem?_cons_succ] at p0 p1 p2 p3
        by_cases hv : (x0, x1, x2, x3) = (a0, a1, a2, a3)
        · have Hfin := hid (show numsOf f (a0, a1, a2, a3) = some o from Hn3.out.trans (if_pos (by rw [hpx, hv])))
          have hq := px_neq x0 x1 x2 x3 a0 a1 a2 a3 false (by rw [decide_eq_true hv]; rfl)
          clear hpx hv
          go_wp2_with fail
          go_ret2
          exact numEnd_some Hfin.out rfl (own_base (Hoo2.out.alloc _) (by omega)) (Hn4.out.alloc _).1.2.2
        · have Hfin := hid (show numsOf f (a0, a1, a2, a3) = none from Hn3.out.trans (if_neg (by rw [hpx]; intro h; injection h with h; exact hv h)))
          have hq := px_neq x0 x1 x2 x3 a0 a1 a2 a3 true (by rw [decide_eq_false hv]; rfl)
          clear hpx hv
          go_wp2_with fail
          go_ret2
          exact numEnd_none Hfin.out (Hn4.out.alloc _).1.2.2

theorem rnums_any (f : Fm) (PA KA : Option Addr) (pc kc : Nat) (a0 a1 a2 a3 : Int) (W : World) (hf : formOk f = true) (hp : RdP W W.heap.size PA f.pal) (hk : RdI W W.heap.size KA f.key) (hpm : f.pal.length ≤ 1000000) :
    Calls Try.prog 58 #[.agg #[.int .i64 f.w, .int .i64 f.h, .int .i64 f.d, .int .i64 f.c, .int .i64 f.l, .slice PA f.pal.length pc, .slice KA f.key.length kc], .agg #[.int .i64 a0, .int .i64 a1, .int .i64 a2, .int .i64 a3]] W (NumEnd (numsOf f (a0, a1, a2, a3)) W) := by
  by_cases h3 : f.c = 3
  · exact rnums_pal f PA KA pc kc a0 a1 a2 a3 W h3 hp hpm
  · exact rnums_col f PA KA pc kc a0 a1 a2 a3 W h3 hf hp hk

end Go.Proofs.Ytphhoihhmphbdaa
