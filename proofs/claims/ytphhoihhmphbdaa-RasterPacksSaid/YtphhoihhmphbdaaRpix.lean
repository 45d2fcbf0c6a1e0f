/-
  burnishref17.Form.Pixel in a good form.
  burnishref17.Form.Pixel in one color.
  burnishref17.Form.Pixel in one color.
  burnishref17.Form.Pixel in one color.
  burnishref17.Form.Pixel in one color.
-/
import Derived.Test.YtphhoihhmphbdaaPixel
import Derived.Test.YtphhoihhmphbdaaBase
import Derived.Deep.RegionHeld3
import Derived.Deep.DeepCutAuto
import Derived.Deep.CutRange
namespace Go.Proofs.Ytphhoihhmphbdaa
open Go.RowKit

/-- the world while the reference makes a pixel -/
def RpW (wr W : World) (f : Fm) (PA KA : Option Addr) (pc kc : Nat) : Prop :=
  Blk wr W.heap.size 27 #[.int .i64 f.w, .int .i64 f.h, .int .i64 f.d, .int .i64 f.c, .int .i64 f.l, .slice PA f.pal.length pc, .slice KA f.key.length kc] ∧ Blk wr (W.heap.size + 1) 62 #[.int .i64 0, .int .i64 0, .int .i64 0, .int .i64 0] ∧ Blk wr (W.heap.size + 1 + 1) 23 #[.int .i64 f.w, .int .i64 f.h, .int .i64 f.d, .int .i64 f.c, .int .i64 f.l] ∧ Below W.heap.size W wr
theorem rpw_start (f : Fm) (PA KA : Option Addr) (pc kc : Nat) (W : World) : RpW (((W.alloc (.cells #[.int .i64 f.w, .int .i64 f.h, .int .i64 f.d, .int .i64 f.c, .int .i64 f.l, .slice PA f.pal.length pc, .slice KA f.key.length kc] 27)).alloc (.cells #[.int .i64 0, .int .i64 0, .int .i64 0, .int .i64 0] 62)).alloc (.cells #[.int .i64 f.w, .int .i64 f.h, .int .i64 f.d, .int .i64 f.c, .int .i64 f.l] 23)) W f PA KA pc kc := by
  have b0 := ((Blk.new W 27 #[.int .i64 f.w, .int .i64 f.h, .int .i64 f.d, .int .i64 f.c, .int .i64 f.l, .slice PA f.pal.length pc, .slice KA f.key.length kc]).alloc (.cells #[.int .i64 0, .int .i64 0, .int .i64 0, .int .i64 0] 62)).alloc (.cells #[.int .i64 f.w, .int .i64 f.h, .int .i64 f.d, .int .i64 f.c, .int .i64 f.l] 23)
  have b1 := (Blk.new (W.alloc (.cells #[.int .i64 f.w, .int .i64 f.h, .int .i64 f.d, .int .i64 f.c, .int .i64 f.l, .slice PA f.pal.length pc, .slice KA f.key.length kc] 27)) 62 #[.int .i64 0, .int .i64 0, .int .i64 0, .int .i64 0]).alloc (.cells #[.int .i64 f.w, .int .i64 f.h, .int .i64 f.d, .int .i64 f.c, .int .i64 f.l] 23)
  have b2 := Blk.new ((W.alloc (.cells #[.int .i64 f.w, .int .i64 f.h, .int .i64 f.d, .int .i64 f.c, .int .i64 f.l, .slice PA f.pal.length pc, .slice KA f.key.length kc] 27)).alloc (.cells #[.int .i64 0, .int .i64 0, .int .i64 0, .int .i64 0] 62)) 23 #[.int .i64 f.w, .int .i64 f.h, .int .i64 f.d, .int .i64 f.c, .int .i64 f.l]
  simp only [World.size_alloc] at b1 b2
  exact ⟨b0, b1, b2, (((Below.refl _ _).alloc (Nat.le_refl _) _).alloc (by simp) _).alloc (by simp; omega) _⟩
section
variable {wr w' W : World} {f : Fm} {PA KA : Option Addr} {pc kc : Nat}
theorem RpW.below (h : RpW wr W f PA KA pc kc) (hb : Below wr.heap.size wr w') : RpW w' W f PA KA pc kc := by
  obtain ⟨h1, h2, h3, h4⟩ := h
  have := h3.lt
  exact ⟨h1.below hb (by omega), h2.below hb (by omega), h3.below hb (by omega), h4.trans (hb.mono h4.size)⟩
theorem RpW.drewN (h : RpW wr W f PA KA pc kc) (k : Nat) : RpW (wr.drewN k) W f PA KA pc kc := ⟨h.1, h.2.1, h.2.2.1, below_drewN h.2.2.2 k⟩
theorem RpW.drew (h : RpW wr W f PA KA pc kc) : RpW wr.drew W f PA KA pc kc := ⟨h.1, h.2.1, h.2.2.1, h.2.2.2.drew⟩
theorem RpW.alloc (h : RpW wr W f PA KA pc kc) (o : Obj) : RpW (wr.alloc o) W f PA KA pc kc := ⟨h.1.alloc o, h.2.1.alloc o, h.2.2.1.alloc o, h.2.2.2.alloc h.2.2.2.size o⟩
theorem RpW.grown {base n : Nat} {v : Value} {xs : List Value} (h : RpW wr W f PA KA pc kc) (ho : wr.ownsRow base 3 1 v n xs) (hg : wr.grownBy w' v.ownBlock) (hb : Below W.heap.size W w') : RpW w' W f PA KA pc kc :=
  ⟨h.1.grown hg (own_blk_ne ho h.1 (by decide)), h.2.1.grown hg (own_blk_ne ho h.2.1 (by decide)), h.2.2.1.grown hg (own_blk_ne ho h.2.2.1 (by decide)), hb⟩
theorem RpW.size (h : RpW wr W f PA KA pc kc) : W.heap.size + 1 + 1 < wr.heap.size := h.2.2.1.lt
end

/-- the widened numbers, one behind the other -/
def rcells (d : Int) (n : List Int) (j : Nat) : List Value := (n.take j).map (fun x => Value.int .i64 (x * stp d))
theorem rcells_next (d : Int) (n : List Int) (j : Nat) (hj : j < n.length) : rcells d n j ++ [Value.int .i64 (n[j] * stp d)] = rcells d n (j + 1) := by
  unfold rcells
  rw [List.take_succ_eq_append_getElem hj, List.map_append]
  rfl
theorem widen_eq {d x : Int} (hd : deepOk d) (h0 : 0 ≤ x) (h1 : x < pw d) : (x * 65535).tdiv (pw d - 1) = x * stp d ∧ 0 ≤ x * stp d ∧ x * stp d ≤ 65535 := by
  have e := stp_pw d hd
  have p := (pw_bd d).1
  have s := (stp_bd d).1
  refine ⟨?_, Int.mul_nonneg h0 (by omega), ?_⟩
  · rw [← e, ← Int.mul_assoc]
    exact Int.mul_tdiv_cancel _ (by omega)
  · rw [← e, Int.mul_comm (stp d)]
    exact Int.mul_le_mul_of_nonneg_right (by omega) (by omega)
theorem key_run (k n : List Int) (i : Nat) (hk : i < k.length) (hn : i < n.length) : decide (k.take (i + 1) = n.take (i + 1)) = (decide (k.take i = n.take i) && (k[i] == n[i])) := by
  rw [List.take_succ_eq_append_getElem hk, List.take_succ_eq_append_getElem hn]
  by_cases h : k.take i = n.take i
  · rw [decide_eq_true h, h, Bool.true_and]
    by_cases e : k[i] = n[i]
    · rw [e]; simp
    · rw [beq_eq_false_iff_ne.2 e, decide_eq_false (fun h => e (List.cons.inj (List.append_cancel_left h)).1)]
  · rw [decide_eq_false h, Bool.false_and, decide_eq_false]
    intro h2
    exact h (List.append_inj h2 (by simp; omega)).1

theorem key_end (k n : List Int) {b : Bool} (hl : k.length = 0 ∨ k.length = n.length) (hb : b = (decide (0 < k.length) && decide (k.take k.length = n.take k.length))) : b = decide (k ≠ [] ∧ k = n) := by
  rw [hb, List.take_length]
  rcases Nat.eq_zero_or_pos k.length with h0 | h0
  · rw [List.eq_nil_of_length_eq_zero h0]; simp
  · rcases hl with h | h
    · omega
    · rw [h, List.take_length, decide_eq_true (by omega), Bool.true_and]
      have hk : k ≠ [] := fun e => by rw [e] at h0; simp at h0
      simp [hk]

set_option maxRecDepth 100000 in
set_option maxHeartbeats 8000000 in
theorem rpix_len (f : Fm) (PA KA NA : Option Addr) (pc kc nc : Nat) (n : List Int) (W : World) (hl : (n.length : Int) ≠ chan f.c) :
    Calls Try.prog 52 #[.agg #[.int .i64 f.w, .int .i64 f.h, .int .i64 f.d, .int .i64 f.c, .int .i64 f.l, .slice PA f.pal.length pc, .slice KA f.key.length kc], .slice NA n.length nc] W (PixEnd (pixOf f n) W) := by
  have Hn := hid (show pixOf f n = none by unfold pixOf; rw [if_pos hl])
  have hq : ((n.length : Int) != chan f.c) = true := bne_iff_ne.2 hl
  clear hl
  go_enter Try.func52, Try.ntmps52
  go_wp2_with fail
  refine (refChannels_any f.c _).mono ?_
  rintro e w1 ⟨rfl, hb⟩
  have Hw := hid ((rpw_start f PA KA pc kc W).below hb)
  clear hb
  have p3 := Hw.out.2.2.1.cell 3
  have r0 := Hw.out.2.1.cell 0
  have r1 := Hw.out.2.1.cell 1
  have r2 := Hw.out.2.1.cell 2
  have r3 := Hw.out.2.1.cell 3
  have fr := fun i => Hw.out.2.1.frozen i
  simp only [List.getElem?_toArray, List.getElem?_cons_zero, List.getElem?_cons_succ] at p3 r0 r1 r2 r3
  go_wp2_with fail
  refine bodyPost_ret (v := .tuple #[.agg #[.int .i64 0, .int .i64 0, .int .i64 0, .int .i64 0], .bool false]) (by simp [results, Try.results52, go_sem, r0, r1, r2, r3]) rfl (pixEnd_none Hn.out ?_)
  exact below4 Hw.out.2.2.2 (by omega)

set_option maxRecDepth 100000 in
set_option maxHeartbeats 8000000 in
theorem rpix_pal (f : Fm) (PA KA NA : Option Addr) (pc kc nc : Nat) (n : List Int) (W : World) (hl : (n.length : Int) = chan f.c) (h3 : f.c = 3) (hp : RdP W W.heap.size PA f.pal) (hn : RdI W W.heap.size NA n)  :
    Calls Try.prog 52 #[.agg #[.int .i64 f.w, .int .i64 f.h, .int .i64 f.d, .int .i64 f.c, .int .i64 f.l, .slice PA f.pal.length pc, .slice KA f.key.length kc], .slice NA n.length nc] W (PixEnd (pixOf f n) W) := by
  have hl1 : n.length = 1 := by rw [h3] at hl; have : chan 3 = 1 := rfl; omega
  obtain ⟨x, rfl⟩ : ∃ x, n = [x] := by
    match n, hl1 with
    | [x], _ => exact ⟨x, rfl⟩
  have hq : ((([x] : List Int).length : Int) != chan f.c) = false := by rw [bne_eq_false_iff_eq]; exact hl
  have hq1 : ((1 : Int) != chan f.c) = false := by rw [bne_eq_false_iff_eq]; exact hl
  have e3 : (f.c == 3) = true := beq_iff_eq.2 h3
  have Hpx := hid (show pixOf f [x] = if 0 ≤ x then f.pal[x.toNat]? else none by unfold pixOf; rw [if_neg (by simpa using hl), if_pos h3]; rfl)
  have Hp := hid hp
  have Hn := hid hn
  clear hl hl1 h3 hn hp
  go_enter Try.func52, Try.ntmps52
  go_wp2_with fail
  refine (refChannels_any f.c _).mono ?_
  rintro e w1 ⟨rfl, hb⟩
  have Hw := hid ((rpw_start f PA KA pc kc W).below hb)
  clear hb
  obtain ⟨nb, no, rfl, hnb, n0⟩ := int_at (Hn.out.below Hw.out.2.2.2 (Nat.le_refl _)) (show 0 < ([x] : List Int).length by simp)
  simp only [Nat.add_zero, List.getElem_cons_zero] at n0
  have N0 := hid n0
  have p3 := Hw.out.2.2.1.cell 3
  have q5 := Hw.out.1.cell 5
  have r0 := Hw.out.2.1.cell 0
  have r1 := Hw.out.2.1.cell 1
  have r2 := Hw.out.2.1.cell 2
  have r3 := Hw.out.2.1.cell 3
  have fr := fun i => Hw.out.2.1.frozen i
  simp only [List.getElem?_toArray, List.getElem?_cons_zero, List.getElem?_cons_succ] at p3 q5 r0 r1 r2 r3
  by_cases h0 : x < 0
  · have Hno := hid (Hpx.out.trans (if_neg (by omega)))
    have d0 : decide (x < 0) = true := decide_eq_true h0
    go_wp2_with fail
    go_quiet (fail)
    go_wp2_with fail
    refine bodyPost_ret (v := .tuple #[.agg #[.int .i64 0, .int .i64 0, .int .i64 0, .int .i64 0], .bool false]) (by simp [results, Try.results52, go_sem, r0, r1, r2, r3]) rfl (pixEnd_none Hno.out ?_)
    exact below4 (below_drewN Hw.out.2.2.2 _) (by omega)
  have d0 : decide (x < 0) = false := decide_eq_false h0
  by_cases h1 : (f.pal.length : Int) ≤ x
  · have Hno := hid (Hpx.out.trans ((if_pos (by omega)).trans (List.getElem?_eq_none (by omega))))
    have d1 : decide ((f.pal.length : Int) ≤ x) = true := decide_eq_true h1
    go_wp2_with fail
    go_quiet (fail)
    go_wp2_with fail
    refine bodyPost_ret (v := .tuple #[.agg #[.int .i64 0, .int .i64 0, .int .i64 0, .int .i64 0], .bool false]) (by simp [results, Try.results52, go_sem, r0, r1, r2, r3]) rfl (pixEnd_none Hno.out ?_)
    exact below4 (below_drewN Hw.out.2.2.2 _) (by omega)
  · have d1 : decide ((f.pal.length : Int) ≤ x) = false := decide_eq_false h1
    obtain ⟨j, rfl⟩ := Int.eq_ofNat_of_zero_le (show 0 ≤ x by omega)
    have hj : j < f.pal.length := by omega
    have Hno := hid (show pixOf f [(j : Int)] = some f.pal[j] from Hpx.out.trans ((if_pos (by omega)).trans (by rw [Int.toNat_natCast]; exact List.getElem?_eq_getElem hj)))
    go_wp2_with fail
    go_quiet (fail)
    have Hw2 := hid (Hw.out.drewN nq)
    have N2 : Hid ((w1.drewN nq).cell? ⟨nb, no, none⟩ = some (.int .i64 (j : Int))) := N0.out
    clear Hw N0 n0 p3 q5 r0 r1 r2 r3 fr
    generalize w1.drewN nq = wz at *
    obtain ⟨b, off, rfl, hbb, x0, x1, x2, x3⟩ := px_at (Rd.below Hp.out Hw2.out.2.2.2 (Nat.le_refl _)) hj
    generalize f.pal[j] = px at *
    obtain ⟨xr, xg, xb, xa⟩ := px
    simp only at x0 x1 x2 x3
    have n0 := N2.out
    have q5 := Hw2.out.1.cell 5
    have r0 := Hw2.out.2.1.cell 0
    have r1 := Hw2.out.2.1.cell 1
    have r2 := Hw2.out.2.1.cell 2
    have r3 := Hw2.out.2.1.cell 3
    have fr := fun i => Hw2.out.2.1.frozen i
    simp only [List.getElem?_toArray, List.getElem?_cons_zero, List.getElem?_cons_succ] at q5 r0 r1 r2 r3
    go_wp2_with fail
    go_region
    all_goals
      go_wp2
      refine bodyPost_ret (v := .tuple #[.agg #[.int .i64 xr, .int .i64 xg, .int .i64 xb, .int .i64 xa], .bool true]) (by simp [results, Try.results52, go_sem, r0, r1, r2, r3]) rfl (pixEnd_some Hno.out ?_)
      exact below4 Hw2.out.2.2.2.drew (by omega)

end Go.Proofs.Ytphhoihhmphbdaa

namespace Go.Proofs.Ytphhoihhmphbdaa
open Go.RowKit

set_option maxRecDepth 100000 in
set_option maxHeartbeats 8000000 in
theorem rpix_c0 (f : Fm) (PA KA NA : Option Addr) (pc kc nc : Nat) (n : List Int) (W : World) (hc : f.c = 0) (hl : (n.length : Int) = chan f.c) (hd : deepOk f.d) (hn : RdI W W.heap.size NA n) (hk : RdI W W.heap.size KA f.key) (hkl : f.key.length = 0 ∨ f.key.length = n.length) :
    Calls Try.prog 52 #[.agg #[.int .i64 f.w, .int .i64 f.h, .int .i64 f.d, .int .i64 f.c, .int .i64 f.l, .slice PA f.pal.length pc, .slice KA f.key.length kc], .slice NA n.length nc] W (PixEnd (pixOf f n) W) := by
  have hlk : n.length = 1 := by rw [hc] at hl; have : chan 0 = 1 := rfl; omega
  have hq : ((n.length : Int) != chan f.c) = false := by rw [bne_eq_false_iff_eq]; exact hl
  have e3 : (f.c == 3) = false := beq_eq_false_iff_ne.2 (by omega)
  have e2 : (f.c == 2) = false := beq_eq_false_iff_ne.2 (by omega)
  have e4 : (f.c == 4) = false := beq_eq_false_iff_ne.2 (by omega)
  have e6 : (f.c == 6) = false := beq_eq_false_iff_ne.2 (by omega)
  have Hpx := hid (show pixOf f n = if n.all (keyB f.d) = true then some (clear (pxOf f.c f.d n) (decide (f.key ≠ [] ∧ f.key = n))) else none by unfold pixOf; rw [if_neg (by simpa using hl), if_neg (by omega)])
  have Hd := hid hd
  have Hn := hid hn
  have Hk := hid hk
  have Hkl := hid hkl
  have Hc := hid hc
  have Hlk := hid hlk
  have hl4 : n.length ≤ 4 := by omega
  have hl0 : 0 < n.length := by omega
  obtain ⟨pw1, pw2⟩ := pw_bd f.d
  obtain ⟨st1, st2⟩ := stp_bd f.d
  have pne : (pw f.d - 1 == 0) = false := beq_eq_false_iff_ne.2 (by omega)
  obtain ⟨i0, hi0, hz0, hz1, hz2⟩ := info_parts int_info
  have Hi0 := hid hi0
  have Hz0 := hid hz0
  have Hz1 := hid hz1
  have Hz2 := hid hz2
  clear hl hc hd hn hk hkl hlk hi0 hz0 hz1 hz2
  go_enter Try.func52, Try.ntmps52
  go_wp2_with fail
  refine (refChannels_any f.c _).mono ?_
  rintro e w1 ⟨rfl, hb⟩
  have Hw := hid ((rpw_start f PA KA pc kc W).below hb)
  clear hb
  have p2 := Hw.out.2.2.1.cell 2
  have p3 := Hw.out.2.2.1.cell 3
  simp only [List.getElem?_toArray, List.getElem?_cons_zero, List.getElem?_cons_succ] at p2 p3
  go_wp2_with fail
  refine (top_same f.d Hd.out _).mono ?_
  rintro e w ⟨rfl, rfl⟩
  go_wp2_with fail
  clear p2 p3
  go_loopw [8, 9] (fun o i wr => ∃ (j : Nat) (A' : Option Addr) (c' : Nat), j ≤ n.length ∧ i = .int .i64 j ∧ o = .slice A' j c' ∧ wr.ownsRow W.heap.size 3 1 (.slice A' j c') j (rcells f.d n j) ∧ (n.take j).all (keyB f.d) = true ∧ RpW wr W f PA KA pc kc) (fun _ i _ => n.length - (intOf i).toNat)
  case atStart =>
    exact ⟨0, none, 0, by omega, rfl, rfl, World.ownsRow_nil _ _ _ _, rfl, Hw.out⟩
  case round =>
    obtain ⟨j, A', c', hj, rfl, rfl, hown, hall, hw⟩ := hrel
    have Hall := hid hall
    have Hwr := hid hw
    have Hown := hid hown
    have hgw := hw.size
    clear hall hw Hw
    by_cases hlt : j < n.length
    · clear hown
      obtain ⟨nb, no, rfl, hnb, n0⟩ := int_at (Hn.out.below Hwr.out.2.2.2 (Nat.le_refl _)) hlt
      have Hkt := hid (key_take f.d n j hlt)
      cases hkb : keyB f.d n[j]
      · have Hno := hid (show pixOf f n = none from Hpx.out.trans (if_neg (fun h => by rw [List.all_eq_true] at h; have := h n[j] (List.getElem_mem hlt); rw [hkb] at this; cases this)))
        have hkf : ¬ (0 ≤ n[j] ∧ n[j] < pw f.d) := of_decide_eq_false hkb
        have r0 := Hwr.out.2.1.cell 0
        have r1 := Hwr.out.2.1.cell 1
        have r2 := Hwr.out.2.1.cell 2
        have r3 := Hwr.out.2.1.cell 3
        have fr := fun i => Hwr.out.2.1.frozen i
        simp only [List.getElem?_toArray, List.getElem?_cons_zero, List.getElem?_cons_succ] at r0 r1 r2 r3
        generalize n[j] = x at *
        clear hkb
        by_cases h0 : x < 0
        · have d0 : decide (x < 0) = true := decide_eq_true h0
          clear hkf
          go_wp2_with fail
          refine bodyPost_ret (v := .tuple #[.agg #[.int .i64 0, .int .i64 0, .int .i64 0, .int .i64 0], .bool false]) (by simp [results, Try.results52, go_sem, r0, r1, r2, r3]) rfl (pixEnd_none Hno.out ?_)
          exact below4 Hwr.out.2.2.2 (by omega)
        · have d0 : decide (x < 0) = false := decide_eq_false h0
          have d1 : decide (pw f.d - 1 < x) = true := decide_eq_true (by omega)
          clear hkf
          go_wp2_with fail
          refine bodyPost_ret (v := .tuple #[.agg #[.int .i64 0, .int .i64 0, .int .i64 0, .int .i64 0], .bool false]) (by simp [results, Try.results52, go_sem, r0, r1, r2, r3]) rfl (pixEnd_none Hno.out ?_)
          exact below4 Hwr.out.2.2.2 (by omega)
      · obtain ⟨k0, k1⟩ := keyB_bd hkb
        have Hal := hid (show (n.take (j + 1)).all (keyB f.d) = true by rw [Hkt.out, Hall.out, hkb]; rfl)
        have Hnx := hid (rcells_next f.d n j hlt)
        obtain ⟨w0, w1b, w2b⟩ := widen_eq Hd.out k0 k1
        generalize n[j] = x at *
        have d0 : decide (x < 0) = false := decide_eq_false (by omega)
        have d1 : decide (pw f.d - 1 < x) = false := decide_eq_false (by omega)
        clear hkb
        go_wp2_with (at_builtin; refine wpList_app _ rfl _ _ _ rfl W.heap.size 3 i0 (.int .i64 0) 1 8 Try.underlying25 Hi0.out Hz0.out Hz1.out Hz2.out rfl (by omega) A' j c' _ rfl (Hown.out.alloc _) _ _ 1 1 [.int .i64 (x * stp f.d)] rfl (rd_one _ _ _ _ (Blk.new _ _ _)) (by simp) (by simp [Value.oneCell']) (by simp only [maxLen]; omega) (by omega) (by simp; omega) ?_; rintro A3 c3 w3 ⟨hown3, hgr3, hb3, _⟩)
        go_roundw
        case rel =>
          refine ⟨j + 1, A3, c3, by omega, by go_num, rfl, ?_, Hal.out, (Hwr.out.alloc _).grown (Hown.out.alloc _) hgr3 ((Hwr.out.2.2.2.alloc (by omega) _).trans hb3)⟩
          rw [← Hnx.out]
          exact hown3
        case measure => simp [intOf]; omega
    · have e : j = n.length := by omega
      subst e
      have Hall2 := hid (show n.all (keyB f.d) = true by have := Hall.out; rwa [List.take_length] at this)
      obtain ⟨x0, hx⟩ : ∃ x0, n = [x0] := by
        have h := Hlk.out
        match n, h with
        | [x0], _ => exact ⟨x0, rfl⟩
      subst hx
      obtain ⟨g, hA, hg0, hg1⟩ := own_block hown (by simp)
      subst hA
      have y0 : wr.cell? ⟨g, 0, none⟩ = some (.int .i64 (x0 * stp f.d)) := hown.cellAt 0 (by simp)
      have p3 := Hwr.out.2.2.1.cell 3
      have q6 := Hwr.out.1.cell 6
      simp only [List.getElem?_toArray, List.getElem?_cons_zero, List.getElem?_cons_succ] at p3 q6
      clear hown Hall
      have g0 : W.heap.size < wr.heap.size := by omega
      have g1 : W.heap.size + 1 < wr.heap.size := by omega
      have hgp : W.heap.size ≤ wr.heap.size := by omega
      go_upto_region 16 with (fail)
      go_region_held3 (fun w' => w'.cell? ⟨g, 0, none⟩ = some (.int .i64 (x0 * stp f.d))) (first | go_keep | exact y0) (fail)
      go_wp2_with fail
      go_loopw [11, 12] (fun s i wi => ∃ (m : Nat) (b : Bool), m ≤ f.key.length ∧ i = .int .i64 m ∧ s = .bool b ∧ b = (decide (0 < f.key.length) && decide (f.key.take m = [x0].take m)) ∧ Blk wi wr.heap.size 62 #[.int .i64 (x0 * stp f.d), .int .i64 (x0 * stp f.d), .int .i64 (x0 * stp f.d), .int .i64 65535] ∧ RpW wi W f PA KA pc kc) (fun _ i _ => f.key.length - (intOf i).toNat)
      case atStart =>
        exact ⟨0, _, by omega, rfl, rfl, by simp, (Blk.new wr _ _).drew, (Hwr.out.alloc _).drew⟩
      case round =>
        obtain ⟨m, b, hm, rfl, rfl, hbe, hpb, hw⟩ := hrel
        have Hpb := hid hpb
        have Hwi := hid hw
        have Hbe := hid hbe
        clear hbe hpb hw p3 q6
        by_cases hlt : m < f.key.length
        · have hn4 : m < [x0].length := by have := Hkl.out; omega
          obtain ⟨kb, ko, rfl, hkb, k0⟩ := int_at (Hk.out.below Hwi.out.2.2.2 (Nat.le_refl _)) hlt
          obtain ⟨nb, no, rfl, hnb, n0⟩ := int_at (Hn.out.below Hwi.out.2.2.2 (Nat.le_refl _)) hn4
          have hn5 : m < 1 := hn4
          have hn6 : (m : Int) < 1 := by omega
          have Hkr := hid (key_run f.key [x0] m hlt hn4)
          have q6 := Hwi.out.1.cell 6
          simp only [List.getElem?_toArray, List.getElem?_cons_zero, List.getElem?_cons_succ] at q6
          generalize f.key[m] = kx at *
          generalize [x0][m] = nx at *
          cases b
          · have Hbe2 := hid (show false = (decide (0 < f.key.length) && decide (f.key.take (m + 1) = [x0].take (m + 1))) by rw [Hkr.out, ← Bool.and_assoc, ← Hbe.out]; rfl)
            go_wp2_with fail
            go_quiet (fail)
            go_wp2_with fail
            go_roundw
            case rel => exact ⟨m + 1, _, by omega, by go_num, rfl, Hbe2.out, Hpb.out.drewN _, Hwi.out.drewN _⟩
            case measure => simp [intOf]; omega
          · have Hbe2 := hid (show (kx == nx) = (decide (0 < f.key.length) && decide (f.key.take (m + 1) = [x0].take (m + 1))) by rw [Hkr.out, ← Bool.and_assoc, ← Hbe.out]; rfl)
            go_wp2_with fail
            go_quiet (fail)
            go_wp2_with fail
            go_roundw
            case rel => exact ⟨m + 1, _, by omega, by go_num, rfl, Hbe2.out, Hpb.out.drewN _, Hwi.out.drewN _⟩
            case measure => simp [intOf]; omega
        · have e : m = f.key.length := by omega
          subst e
          have Hb2 := hid (show b = decide (f.key ≠ [] ∧ f.key = [x0]) from key_end f.key [x0] Hkl.out Hbe.out)
          have q6 := Hwi.out.1.cell 6
          have s0 := Hpb.out.cell 0
          have s1 := Hpb.out.cell 1
          have s2 := Hpb.out.cell 2
          have s3 := Hpb.out.cell 3
          have fs := fun i => Hpb.out.frozen i
          have r0 := Hwi.out.2.1.cell 0
          have r1 := Hwi.out.2.1.cell 1
          have r2 := Hwi.out.2.1.cell 2
          have r3 := Hwi.out.2.1.cell 3
          have fr := fun i => Hwi.out.2.1.frozen i
          simp only [List.getElem?_toArray, List.getElem?_cons_zero, List.getElem?_cons_succ] at q6 s0 s1 s2 s3 r0 r1 r2 r3
          cases b
          · have Hfin := hid (show pixOf f [x0] = some (x0 * stp f.d, x0 * stp f.d, x0 * stp f.d, 65535) by
              rw [Hpx.out, if_pos Hall2.out, ← Hb2.out]
              unfold pxOf clear
              rw [Hc.out]
              rfl)
            go_wp2_with fail
            refine bodyPost_ret (v := .tuple #[.agg #[.int .i64 (x0 * stp f.d), .int .i64 (x0 * stp f.d), .int .i64 (x0 * stp f.d), .int .i64 65535], .bool true]) (by simp [results, Try.results52, go_sem, r0, r1, r2, r3]) rfl (pixEnd_some Hfin.out ?_)
            exact below4 Hwi.out.2.2.2 (by omega)
          · have Hfin := hid (show pixOf f [x0] = some (x0 * stp f.d, x0 * stp f.d, x0 * stp f.d, 0) by
              rw [Hpx.out, if_pos Hall2.out, ← Hb2.out]
              unfold pxOf clear
              rw [Hc.out]
              rfl)
            go_wp2_with fail
            refine bodyPost_ret (v := .tuple #[.agg #[.int .i64 (x0 * stp f.d), .int .i64 (x0 * stp f.d), .int .i64 (x0 * stp f.d), .int .i64 0], .bool true]) (by simp [results, Try.results52, go_sem, r0, r1, r2, r3]) rfl (pixEnd_some Hfin.out ?_)
            exact below4 (Hwi.out.2.2.2.setCell (by exact hgp) _) (by omega)

end Go.Proofs.Ytphhoihhmphbdaa

namespace Go.Proofs.Ytphhoihhmphbdaa
open Go.RowKit

set_option maxRecDepth 100000 in
set_option maxHeartbeats 8000000 in
theorem rpix_c2 (f : Fm) (PA KA NA : Option Addr) (pc kc nc : Nat) (n : List Int) (W : World) (hc : f.c = 2) (hl : (n.length : Int) = chan f.c) (hd : deepOk f.d) (hn : RdI W W.heap.size NA n) (hk : RdI W W.heap.size KA f.key) (hkl : f.key.length = 0 ∨ f.key.length = n.length) :
    Calls Try.prog 52 #[.agg #[.int .i64 f.w, .int .i64 f.h, .int .i64 f.d, .int .i64 f.c, .int .i64 f.l, .slice PA f.pal.length pc, .slice KA f.key.length kc], .slice NA n.length nc] W (PixEnd (pixOf f n) W) := by
  have hlk : n.length = 3 := by rw [hc] at hl; have : chan 2 = 3 := rfl; omega
  have hq : ((n.length : Int) != chan f.c) = false := by rw [bne_eq_false_iff_eq]; exact hl
  have e3 : (f.c == 3) = false := beq_eq_false_iff_ne.2 (by omega)
  have e2 : (f.c == 2) = true := beq_iff_eq.2 hc
  have e4 : (f.c == 4) = false := beq_eq_false_iff_ne.2 (by omega)
  have e6 : (f.c == 6) = false := beq_eq_false_iff_ne.2 (by omega)
  have Hpx := hid (show pixOf f n = if n.all (keyB f.d) = true then some (clear (pxOf f.c f.d n) (decide (f.key ≠ [] ∧ f.key = n))) else none by unfold pixOf; rw [if_neg (by simpa using hl), if_neg (by omega)])
  have Hd := hid hd
  have Hn := hid hn
  have Hk := hid hk
  have Hkl := hid hkl
  have Hc := hid hc
  have Hlk := hid hlk
  have hl4 : n.length ≤ 4 := by omega
  have hl0 : 0 < n.length := by omega
  obtain ⟨pw1, pw2⟩ := pw_bd f.d
  obtain ⟨st1, st2⟩ := stp_bd f.d
  have pne : (pw f.d - 1 == 0) = false := beq_eq_false_iff_ne.2 (by omega)
  obtain ⟨i0, hi0, hz0, hz1, hz2⟩ := info_parts int_info
  have Hi0 := hid hi0
  have Hz0 := hid hz0
  have Hz1 := hid hz1
  have Hz2 := hid hz2
  clear hl hc hd hn hk hkl hlk hi0 hz0 hz1 hz2
  go_enter Try.func52, Try.ntmps52
  go_wp2_with fail
  refine (refChannels_any f.c _).mono ?_
  rintro e w1 ⟨rfl, hb⟩
  have Hw := hid ((rpw_start f PA KA pc kc W).below hb)
  clear hb
  have p2 := Hw.out.2.2.1.cell 2
  have p3 := Hw.out.2.2.1.cell 3
  simp only [List.getElem?_toArray, List.getElem?_cons_zero, List.getElem?_cons_succ] at p2 p3
  go_wp2_with fail
  refine (top_same f.d Hd.out _).mono ?_
  rintro e w ⟨rfl, rfl⟩
  go_wp2_with fail
  clear p2 p3
  go_loopw [8, 9] (fun o i wr => ∃ (j : Nat) (A' : Option Addr) (c' : Nat), j ≤ n.length ∧ i = .int .i64 j ∧ o = .slice A' j c' ∧ wr.ownsRow W.heap.size 3 1 (.slice A' j c') j (rcells f.d n j) ∧ (n.take j).all (keyB f.d) = true ∧ RpW wr W f PA KA pc kc) (fun _ i _ => n.length - (intOf i).toNat)
  case atStart =>
    exact ⟨0, none, 0, by omega, rfl, rfl, World.ownsRow_nil _ _ _ _, rfl, Hw.out⟩
  case round =>
    obtain ⟨j, A', c', hj, rfl, rfl, hown, hall, hw⟩ := hrel
    have Hall := hid hall
    have Hwr := hid hw
    have Hown := hid hown
    have hgw := hw.size
    clear hall hw Hw
    by_cases hlt : j < n.length
    · clear hown
      obtain ⟨nb, no, rfl, hnb, n0⟩ := int_at (Hn.out.below Hwr.out.2.2.2 (Nat.le_refl _)) hlt
      have Hkt := hid (key_take f.d n j hlt)
      cases hkb : keyB f.d n[j]
      · have Hno := hid (show pixOf f n = none from Hpx.out.trans (if_neg (fun h => by rw [List.all_eq_true] at h; have := h n[j] (List.getElem_mem hlt); rw [hkb] at this; cases this)))
        have hkf : ¬ (0 ≤ n[j] ∧ n[j] < pw f.d) := of_decide_eq_false hkb
        have r0 := Hwr.out.2.1.cell 0
        have r1 := Hwr.out.2.1.cell 1
        have r2 := Hwr.out.2.1.cell 2
        have r3 := Hwr.out.2.1.cell 3
        have fr := fun i => Hwr.out.2.1.frozen i
        simp only [List.getElem?_toArray, List.getElem?_cons_zero, List.getElem?_cons_succ] at r0 r1 r2 r3
        generalize n[j] = x at *
        clear hkb
        by_cases h0 : x < 0
        · have d0 : decide (x < 0) = true := decide_eq_true h0
          clear hkf
          go_wp2_with fail
          refine bodyPost_ret (v := .tuple #[.agg #[.int .i64 0, .int .i64 0, .int .i64 0, .int .i64 0], .bool false]) (by simp [results, Try.results52, go_sem, r0, r1, r2, r3]) rfl (pixEnd_none Hno.out ?_)
          exact below4 Hwr.out.2.2.2 (by omega)
        · have d0 : decide (x < 0) = false := decide_eq_false h0
          have d1 : decide (pw f.d - 1 < x) = true := decide_eq_true (by omega)
          clear hkf
          go_wp2_with fail
          refine bodyPost_ret (v := .tuple #[.agg #[.int .i64 0, .int .i64 0, .int .i64 0, .int .i64 0], .bool false]) (by simp [results, Try.results52, go_sem, r0, r1, r2, r3]) rfl (pixEnd_none Hno.out ?_)
          exact below4 Hwr.out.2.2.2 (by omega)
      · obtain ⟨k0, k1⟩ := keyB_bd hkb
        have Hal := hid (show (n.take (j + 1)).all (keyB f.d) = true by rw [Hkt.out, Hall.out, hkb]; rfl)
        have Hnx := hid (rcells_next f.d n j hlt)
        obtain ⟨w0, w1b, w2b⟩ := widen_eq Hd.out k0 k1
        generalize n[j] = x at *
        have d0 : decide (x < 0) = false := decide_eq_false (by omega)
        have d1 : decide (pw f.d - 1 < x) = false := decide_eq_false (by omega)
        clear hkb
        go_wp2_with (at_builtin; refine wpList_app _ rfl _ _ _ rfl W.heap.size 3 i0 (.int .i64 0) 1 8 Try.underlying25 Hi0.out Hz0.out Hz1.out Hz2.out rfl (by omega) A' j c' _ rfl (Hown.out.alloc _) _ _ 1 1 [.int .i64 (x * stp f.d)] rfl (rd_one _ _ _ _ (Blk.new _ _ _)) (by simp) (by simp [Value.oneCell']) (by simp only [maxLen]; omega) (by omega) (by simp; omega) ?_; rintro A3 c3 w3 ⟨hown3, hgr3, hb3, _⟩)
        go_roundw
        case rel =>
          refine ⟨j + 1, A3, c3, by omega, by go_num, rfl, ?_, Hal.out, (Hwr.out.alloc _).grown (Hown.out.alloc _) hgr3 ((Hwr.out.2.2.2.alloc (by omega) _).trans hb3)⟩
          rw [← Hnx.out]
          exact hown3
        case measure => simp [intOf]; omega
    · have e : j = n.length := by omega
      subst e
      have Hall2 := hid (show n.all (keyB f.d) = true by have := Hall.out; rwa [List.take_length] at this)
      obtain ⟨x0, x1, x2, hx⟩ : ∃ x0 x1 x2, n = [x0, x1, x2] := by
        have h := Hlk.out
        match n, h with
        | [x0, x1, x2], _ => exact ⟨x0, x1, x2, rfl⟩
      subst hx
      obtain ⟨g, hA, hg0, hg1⟩ := own_block hown (by simp)
      subst hA
      have y0 : wr.cell? ⟨g, 0, none⟩ = some (.int .i64 (x0 * stp f.d)) := hown.cellAt 0 (by simp)
      have y1 : wr.cell? ⟨g, 1, none⟩ = some (.int .i64 (x1 * stp f.d)) := hown.cellAt 1 (by simp)
      have y2 : wr.cell? ⟨g, 2, none⟩ = some (.int .i64 (x2 * stp f.d)) := hown.cellAt 2 (by simp)
      have p3 := Hwr.out.2.2.1.cell 3
      have q6 := Hwr.out.1.cell 6
      simp only [List.getElem?_toArray, List.getElem?_cons_zero, List.getElem?_cons_succ] at p3 q6
      clear hown Hall
      have g0 : W.heap.size < wr.heap.size := by omega
      have g1 : W.heap.size + 1 < wr.heap.size := by omega
      have hgp : W.heap.size ≤ wr.heap.size := by omega
      go_upto_region 16 with (fail)
      go_region_held3 (fun w' => w'.cell? ⟨g, 0, none⟩ = some (.int .i64 (x0 * stp f.d)) ∧ w'.cell? ⟨g, 1, none⟩ = some (.int .i64 (x1 * stp f.d)) ∧ w'.cell? ⟨g, 2, none⟩ = some (.int .i64 (x2 * stp f.d))) (first | go_keep | exact ⟨y0, y1, y2⟩) (fail)
      go_wp2_with fail
      go_loopw [11, 12] (fun s i wi => ∃ (m : Nat) (b : Bool), m ≤ f.key.length ∧ i = .int .i64 m ∧ s = .bool b ∧ b = (decide (0 < f.key.length) && decide (f.key.take m = [x0, x1, x2].take m)) ∧ Blk wi wr.heap.size 62 #[.int .i64 (x0 * stp f.d), .int .i64 (x1 * stp f.d), .int .i64 (x2 * stp f.d), .int .i64 65535] ∧ RpW wi W f PA KA pc kc) (fun _ i _ => f.key.length - (intOf i).toNat)
      case atStart =>
        exact ⟨0, _, by omega, rfl, rfl, by simp, (Blk.new wr _ _).drew, (Hwr.out.alloc _).drew⟩
      case round =>
        obtain ⟨m, b, hm, rfl, rfl, hbe, hpb, hw⟩ := hrel
        have Hpb := hid hpb
        have Hwi := hid hw
        have Hbe := hid hbe
        clear hbe hpb hw p3 q6
        by_cases hlt : m < f.key.length
        · have hn4 : m < [x0, x1, x2].length := by have := Hkl.out; omega
          obtain ⟨kb, ko, rfl, hkb, k0⟩ := int_at (Hk.out.below Hwi.out.2.2.2 (Nat.le_refl _)) hlt
          obtain ⟨nb, no, rfl, hnb, n0⟩ := int_at (Hn.out.below Hwi.out.2.2.2 (Nat.le_refl _)) hn4
          have hn5 : m < 3 := hn4
          have hn6 : (m : Int) < 3 := by omega
          have Hkr := hid (key_run f.key [x0, x1, x2] m hlt hn4)
          have q6 := Hwi.out.1.cell 6
          simp only [List.getElem?_toArray, List.getElem?_cons_zero, List.getElem?_cons_succ] at q6
          generalize f.key[m] = kx at *
          generalize [x0, x1, x2][m] = nx at *
          cases b
          · have Hbe2 := hid (show false = (decide (0 < f.key.length) && decide (f.key.take (m + 1) = [x0, x1, x2].take (m + 1))) by rw [Hkr.out, ← Bool.and_assoc, ← Hbe.out]; rfl)
            go_wp2_with fail
            go_quiet (fail)
            go_wp2_with fail
            go_roundw
            case rel => exact ⟨m + 1, _, by omega, by go_num, rfl, Hbe2.out, Hpb.out.drewN _, Hwi.out.drewN _⟩
            case measure => simp [intOf]; omega
          · have Hbe2 := hid (show (kx == nx) = (decide (0 < f.key.length) && decide (f.key.take (m + 1) = [x0, x1, x2].take (m + 1))) by rw [Hkr.out, ← Bool.and_assoc, ← Hbe.out]; rfl)
            go_wp2_with fail
            go_quiet (fail)
            go_wp2_with fail
            go_roundw
            case rel => exact ⟨m + 1, _, by omega, by go_num, rfl, Hbe2.out, Hpb.out.drewN _, Hwi.out.drewN _⟩
            case measure => simp [intOf]; omega
        · have e : m = f.key.length := by omega
          subst e
          have Hb2 := hid (show b = decide (f.key ≠ [] ∧ f.key = [x0, x1, x2]) from key_end f.key [x0, x1, x2] Hkl.out Hbe.out)
          have q6 := Hwi.out.1.cell 6
          have s0 := Hpb.out.cell 0
          have s1 := Hpb.out.cell 1
          have s2 := Hpb.out.cell 2
          have s3 := Hpb.out.cell 3
          have fs := fun i => Hpb.out.frozen i
          have r0 := Hwi.out.2.1.cell 0
          have r1 := Hwi.out.2.1.cell 1
          have r2 := Hwi.out.2.1.cell 2
          have r3 := Hwi.out.2.1.cell 3
          have fr := fun i => Hwi.out.2.1.frozen i
          simp only [List.getElem?_toArray, List.getElem?_cons_zero, List.getElem?_cons_succ] at q6 s0 s1 s2 s3 r0 r1 r2 r3
          cases b
          · have Hfin := hid (show pixOf f [x0, x1, x2] = some (x0 * stp f.d, x1 * stp f.d, x2 * stp f.d, 65535) by
              rw [Hpx.out, if_pos Hall2.out, ← Hb2.out]
              unfold pxOf clear
              rw [Hc.out]
              rfl)
            go_wp2_with fail
            refine bodyPost_ret (v := .tuple #[.agg #[.int .i64 (x0 * stp f.d), .int .i64 (x1 * stp f.d), .int .i64 (x2 * stp f.d), .int .i64 65535], .bool true]) (by simp [results, Try.results52, go_sem, r0, r1, r2, r3]) rfl (pixEnd_some Hfin.out ?_)
            exact below4 Hwi.out.2.2.2 (by omega)
          · have Hfin := hid (show pixOf f [x0, x1, x2] = some (x0 * stp f.d, x1 * stp f.d, x2 * stp f.d, 0) by
              rw [Hpx.out, if_pos Hall2.out, ← Hb2.out]
              unfold pxOf clear
              rw [Hc.out]
              rfl)
            go_wp2_with fail
            refine bodyPost_ret (v := .tuple #[.agg #[.int .i64 (x0 * stp f.d), .int .i64 (x1 * stp f.d), .int .i64 (x2 * stp f.d), .int .i64 0], .bool true]) (by simp [results, Try.results52, go_sem, r0, r1, r2, r3]) rfl (pixEnd_some Hfin.out ?_)
            exact below4 (Hwi.out.2.2.2.setCell (by exact hgp) _) (by omega)

end Go.Proofs.Ytphhoihhmphbdaa

namespace Go.Proofs.Ytphhoihhmphbdaa
open Go.RowKit

set_option maxRecDepth 100000 in
set_option maxHeartbeats 8000000 in
theorem rpix_c4 (f : Fm) (PA KA NA : Option Addr) (pc kc nc : Nat) (n : List Int) (W : World) (hc : f.c = 4) (hl : (n.length : Int) = chan f.c) (hd : deepOk f.d) (hn : RdI W W.heap.size NA n) (hk : RdI W W.heap.size KA f.key) (hkl : f.key.length = 0 ∨ f.key.length = n.length) :
    Calls Try.prog 52 #[.agg #[.int .i64 f.w, .int .i64 f.h, .int .i64 f.d, .int .i64 f.c, .int .i64 f.l, .slice PA f.pal.length pc, .slice KA f.key.length kc], .slice NA n.length nc] W (PixEnd (pixOf f n) W) := by
  have hlk : n.length = 2 := by rw [hc] at hl; have : chan 4 = 2 := rfl; omega
  have hq : ((n.length : Int) != chan f.c) = false := by rw [bne_eq_false_iff_eq]; exact hl
  have e3 : (f.c == 3) = false := beq_eq_false_iff_ne.2 (by omega)
  have e2 : (f.c == 2) = false := beq_eq_false_iff_ne.2 (by omega)
  have e4 : (f.c == 4) = true := beq_iff_eq.2 hc
  have e6 : (f.c == 6) = false := beq_eq_false_iff_ne.2 (by omega)
  have Hpx := hid (show pixOf f n = if n.all (keyB f.d) = true then some (clear (pxOf f.c f.d n) (decide (f.key ≠ [] ∧ f.key = n))) else none by unfold pixOf; rw [if_neg (by simpa using hl), if_neg (by omega)])
  have Hd := hid hd
  have Hn := hid hn
  have Hk := hid hk
  have Hkl := hid hkl
  have Hc := hid hc
  have Hlk := hid hlk
  have hl4 : n.length ≤ 4 := by omega
  have hl0 : 0 < n.length := by omega
  obtain ⟨pw1, pw2⟩ := pw_bd f.d
  obtain ⟨st1, st2⟩ := stp_bd f.d
  have pne : (pw f.d - 1 == 0) = false := beq_eq_false_iff_ne.2 (by omega)
  obtain ⟨i0, hi0, hz0, hz1, hz2⟩ := info_parts int_info
  have Hi0 := hid hi0
  have Hz0 := hid hz0
  have Hz1 := hid hz1
  have Hz2 := hid hz2
  clear hl hc hd hn hk hkl hlk hi0 hz0 hz1 hz2
  go_enter Try.func52, Try.ntmps52
  go_wp2_with fail
  refine (refChannels_any f.c _).mono ?_
  rintro e w1 ⟨rfl, hb⟩
  have Hw := hid ((rpw_start f PA KA pc kc W).below hb)
  clear hb
  have p2 := Hw.out.2.2.1.cell 2
  have p3 := Hw.out.2.2.1.cell 3
  simp only [List.getElem?_toArray, List.getElem?_cons_zero, List.getElem?_cons_succ] at p2 p3
  go_wp2_with fail
  refine (top_same f.d Hd.out _).mono ?_
  rintro e w ⟨rfl, rfl⟩
  go_wp2_with fail
  clear p2 p3
  go_loopw [8, 9] (fun o i wr => ∃ (j : Nat) (A' : Option Addr) (c' : Nat), j ≤ n.length ∧ i = .int .i64 j ∧ o = .slice A' j c' ∧ wr.ownsRow W.heap.size 3 1 (.slice A' j c') j (rcells f.d n j) ∧ (n.take j).all (keyB f.d) = true ∧ RpW wr W f PA KA pc kc) (fun _ i _ => n.length - (intOf i).toNat)
  case atStart =>
    exact ⟨0, none, 0, by omega, rfl, rfl, World.ownsRow_nil _ _ _ _, rfl, Hw.out⟩
  case round =>
    obtain ⟨j, A', c', hj, rfl, rfl, hown, hall, hw⟩ := hrel
    have Hall := hid hall
    have Hwr := hid hw
    have Hown := hid hown
    have hgw := hw.size
    clear hall hw Hw
    by_cases hlt : j < n.length
    · clear hown
      obtain ⟨nb, no, rfl, hnb, n0⟩ := int_at (Hn.out.below Hwr.out.2.2.2 (Nat.le_refl _)) hlt
      have Hkt := hid (key_take f.d n j hlt)
      cases hkb : keyB f.d n[j]
      · have Hno := hid (show pixOf f n = none from Hpx.out.trans (if_neg (fun h => by rw [List.all_eq_true] at h; have := h n[j] (List.getElem_mem hlt); rw [hkb] at this; cases this)))
        have hkf : ¬ (0 ≤ n[j] ∧ n[j] < pw f.d) := of_decide_eq_false hkb
        have r0 := Hwr.out.2.1.cell 0
        have r1 := Hwr.out.2.1.cell 1
        have r2 := Hwr.out.2.1.cell 2
        have r3 := Hwr.out.2.1.cell 3
        have fr := fun i => Hwr.out.2.1.frozen i
        simp only [List.getElem?_toArray, List.getElem?_cons_zero, List.getElem?_cons_succ] at r0 r1 r2 r3
        generalize n[j] = x at *
        clear hkb
        by_cases h0 : x < 0
        · have d0 : decide (x < 0) = true := decide_eq_true h0
          clear hkf
          go_wp2_with fail
          refine bodyPost_ret (v := .tuple #[.agg #[.int .i64 0, .int .i64 0, .int .i64 0, .int .i64 0], .bool false]) (by simp [results, Try.results52, go_sem, r0, r1, r2, r3]) rfl (pixEnd_none Hno.out ?_)
          exact below4 Hwr.out.2.2.2 (by omega)
        · have d0 : decide (x < 0) = false := decide_eq_false h0
          have d1 : decide (pw f.d - 1 < x) = true := decide_eq_true (by omega)
          clear hkf
          go_wp2_with fail
          refine bodyPost_ret (v := .tuple #[.agg #[.int .i64 0, .int .i64 0, .int .i64 0, .int .i64 0], .bool false]) (by simp [results, Try.results52, go_sem, r0, r1, r2, r3]) rfl (pixEnd_none Hno.out ?_)
          exact below4 Hwr.out.2.2.2 (by omega)
      · obtain ⟨k0, k1⟩ := keyB_bd hkb
        have Hal := hid (show (n.take (j + 1)).all (keyB f.d) = true by rw [Hkt.out, Hall.out, hkb]; rfl)
        have Hnx := hid (rcells_next f.d n j hlt)
        obtain ⟨w0, w1b, w2b⟩ := widen_eq Hd.out k0 k1
        generalize n[j] = x at *
        have d0 : decide (x < 0) = false := decide_eq_false (by omega)
        have d1 : decide (pw f.d - 1 < x) = false := decide_eq_false (by omega)
        clear hkb
        go_wp2_with (at_builtin; refine wpList_app _ rfl _ _ _ rfl W.heap.size 3 i0 (.int .i64 0) 1 8 Try.underlying25 Hi0.out Hz0.out Hz1.out Hz2.out rfl (by omega) A' j c' _ rfl (Hown.out.alloc _) _ _ 1 1 [.int .i64 (x * stp f.d)] rfl (rd_one _ _ _ _ (Blk.new _ _ _)) (by simp) (by simp [Value.oneCell']) (by simp only [maxLen]; omega) (by omega) (by simp; omega) ?_; rintro A3 c3 w3 ⟨hown3, hgr3, hb3, _⟩)
        go_roundw
        case rel =>
          refine ⟨j + 1, A3, c3, by omega, by go_num, rfl, ?_, Hal.out, (Hwr.out.alloc _).grown (Hown.out.alloc _) hgr3 ((Hwr.out.2.2.2.alloc (by omega) _).trans hb3)⟩
          rw [← Hnx.out]
          exact hown3
        case measure => simp [intOf]; omega
    · have e : j = n.length := by omega
      subst e
      have Hall2 := hid (show n.all (keyB f.d) = true by have := Hall.out; rwa [List.take_length] at this)
      obtain ⟨x0, x1, hx⟩ : ∃ x0 x1, n = [x0, x1] := by
        have h := Hlk.out
        match n, h with
        | [x0, x1], _ => exact ⟨x0, x1, rfl⟩
      subst hx
      obtain ⟨g, hA, hg0, hg1⟩ := own_block hown (by simp)
      subst hA
      have y0 : wr.cell? ⟨g, 0, none⟩ = some (.int .i64 (x0 * stp f.d)) := hown.cellAt 0 (by simp)
      have y1 : wr.cell? ⟨g, 1, none⟩ = some (.int .i64 (x1 * stp f.d)) := hown.cellAt 1 (by simp)
      have p3 := Hwr.out.2.2.1.cell 3
      have q6 := Hwr.out.1.cell 6
      simp only [List.getElem?_toArray, List.getElem?_cons_zero, List.getElem?_cons_succ] at p3 q6
      clear hown Hall
      have g0 : W.heap.size < wr.heap.size := by omega
      have g1 : W.heap.size + 1 < wr.heap.size := by omega
      have hgp : W.heap.size ≤ wr.heap.size := by omega
      go_upto_region 16 with (fail)
      go_region_held3 (fun w' => w'.cell? ⟨g, 0, none⟩ = some (.int .i64 (x0 * stp f.d)) ∧ w'.cell? ⟨g, 1, none⟩ = some (.int .i64 (x1 * stp f.d))) (first | go_keep | exact ⟨y0, y1⟩) (fail)
      go_wp2_with fail
      go_loopw [11, 12] (fun s i wi => ∃ (m : Nat) (b : Bool), m ≤ f.key.length ∧ i = .int .i64 m ∧ s = .bool b ∧ b = (decide (0 < f.key.length) && decide (f.key.take m = [x0, x1].take m)) ∧ Blk wi wr.heap.size 62 #[.int .i64 (x0 * stp f.d), .int .i64 (x0 * stp f.d), .int .i64 (x0 * stp f.d), .int .i64 (x1 * stp f.d)] ∧ RpW wi W f PA KA pc kc) (fun _ i _ => f.key.length - (intOf i).toNat)
      case atStart =>
        exact ⟨0, _, by omega, rfl, rfl, by simp, (Blk.new wr _ _).drew, (Hwr.out.alloc _).drew⟩
      case round =>
        obtain ⟨m, b, hm, rfl, rfl, hbe, hpb, hw⟩ := hrel
        have Hpb := hid hpb
        have Hwi := hid hw
        have Hbe := hid hbe
        clear hbe hpb hw p3 q6
        by_cases hlt : m < f.key.length
        · have hn4 : m < [x0, x1].length := by have := Hkl.out; omega
          obtain ⟨kb, ko, rfl, hkb, k0⟩ := int_at (Hk.out.below Hwi.out.2.2.2 (Nat.le_refl _)) hlt
          obtain ⟨nb, no, rfl, hnb, n0⟩ := int_at (Hn.out.below Hwi.out.2.2.2 (Nat.le_refl _)) hn4
          have hn5 : m < 2 := hn4
          have hn6 : (m : Int) < 2 := by omega
          have Hkr := hid (key_run f.key [x0, x1] m hlt hn4)
          have q6 := Hwi.out.1.cell 6
          simp only [List.getElem?_toArray, List.getElem?_cons_zero, List.getElem?_cons_succ] at q6
          generalize f.key[m] = kx at *
          generalize [x0, x1][m] = nx at *
          cases b
          · have Hbe2 := hid (show false = (decide (0 < f.key.length) && decide (f.key.take (m + 1) = [x0, x1].take (m + 1))) by rw [Hkr.out, ← Bool.and_assoc, ← Hbe.out]; rfl)
            go_wp2_with fail
            go_quiet (fail)
            go_wp2_with fail
            go_roundw
            case rel => exact ⟨m + 1, _, by omega, by go_num, rfl, Hbe2.out, Hpb.out.drewN _, Hwi.out.drewN _⟩
            case measure => simp [intOf]; omega
          · have Hbe2 := hid (show (kx == nx) = (decide (0 < f.key.length) && decide (f.key.take (m + 1) = [x0, x1].take (m + 1))) by rw [Hkr.out, ← Bool.and_assoc, ← Hbe.out]; rfl)
            go_wp2_with fail
            go_quiet (fail)
            go_wp2_with fail
            go_roundw
            case rel => exact ⟨m + 1, _, by omega, by go_num, rfl, Hbe2.out, Hpb.out.drewN _, Hwi.out.drewN _⟩
            case measure => simp [intOf]; omega
        · have e : m = f.key.length := by omega
          subst e
          have Hb2 := hid (show b = decide (f.key ≠ [] ∧ f.key = [x0, x1]) from key_end f.key [x0, x1] Hkl.out Hbe.out)
          have q6 := Hwi.out.1.cell 6
          have s0 := Hpb.out.cell 0
          have s1 := Hpb.out.cell 1
          have s2 := Hpb.out.cell 2
          have s3 := Hpb.out.cell 3
          have fs := fun i => Hpb.out.frozen i
          have r0 := Hwi.out.2.1.cell 0
          have r1 := Hwi.out.2.1.cell 1
          have r2 := Hwi.out.2.1.cell 2
          have r3 := Hwi.out.2.1.cell 3
          have fr := fun i => Hwi.out.2.1.frozen i
          simp only [List.getElem?_toArray, List.getElem?_cons_zero, List.getElem?_cons_succ] at q6 s0 s1 s2 s3 r0 r1 r2 r3
          cases b
          · have Hfin := hid (show pixOf f [x0, x1] = some (x0 * stp f.d, x0 * stp f.d, x0 * stp f.d, x1 * stp f.d) by
              rw [Hpx.out, if_pos Hall2.out, ← Hb2.out]
              unfold pxOf clear
              rw [Hc.out]
              rfl)
            go_wp2_with fail
            refine bodyPost_ret (v := .tuple #[.agg #[.int .i64 (x0 * stp f.d), .int .i64 (x0 * stp f.d), .int .i64 (x0 * stp f.d), .int .i64 (x1 * stp f.d)], .bool true]) (by simp [results, Try.results52, go_sem, r0, r1, r2, r3]) rfl (pixEnd_some Hfin.out ?_)
            exact below4 Hwi.out.2.2.2 (by omega)
          · have Hfin := hid (show pixOf f [x0, x1] = some (x0 * stp f.d, x0 * stp f.d, x0 * stp f.d, 0) by
              rw [Hpx.out, if_pos Hall2.out, ← Hb2.out]
              unfold pxOf clear
              rw [Hc.out]
              rfl)
            go_wp2_with fail
            refine bodyPost_ret (v := .tuple #[.agg #[.int .i64 (x0 * stp f.d), .int .i64 (x0 * stp f.d), .int .i64 (x0 * stp f.d), .int .i64 0], .bool true]) (by simp [results, Try.results52, go_sem, r0, r1, r2, r3]) rfl (pixEnd_some Hfin.out ?_)
            exact below4 (Hwi.out.2.2.2.setCell (by exact hgp) _) (by omega)

end Go.Proofs.Ytphhoihhmphbdaa

namespace Go.Proofs.Ytphhoihhmphbdaa
open Go.RowKit

set_option maxRecDepth 100000 in
set_option maxHeartbeats 8000000 in
theorem rpix_c6 (f : Fm) (PA KA NA : Option Addr) (pc kc nc : Nat) (n : List Int) (W : World) (hc : f.c = 6) (hl : (n.length : Int) = chan f.c) (hd : deepOk f.d) (hn : RdI W W.heap.size NA n) (hk : RdI W W.heap.size KA f.key) (hkl : f.key.length = 0 ∨ f.key.length = n.length) :
    Calls Try.prog 52 #[.agg #[.int .i64 f.w, .int .i64 f.h, .int .i64 f.d, .int .i64 f.c, .int .i64 f.l, .slice PA f.pal.length pc, .slice KA f.key.length kc], .slice NA n.length nc] W (PixEnd (pixOf f n) W) := by
  have hlk : n.length = 4 := by rw [hc] at hl; have : chan 6 = 4 := rfl; omega
  have hq : ((n.length : Int) != chan f.c) = false := by rw [bne_eq_false_iff_eq]; exact hl
  have e3 : (f.c == 3) = false := beq_eq_false_iff_ne.2 (by omega)
  have e2 : (f.c == 2) = false := beq_eq_false_iff_ne.2 (by omega)
  have e4 : (f.c == 4) = false := beq_eq_false_iff_ne.2 (by omega)
  have e6 : (f.c == 6) = true := beq_iff_eq.2 hc
  have Hpx := hid (show pixOf f n = if n.all (keyB f.d) = true then some (clear (pxOf f.c f.d n) (decide (f.key ≠ [] ∧ f.key = n))) else none by unfold pixOf; rw [if_neg (by simpa using hl), if_neg (by omega)])
  have Hd := hid hd
  have Hn := hid hn
  have Hk := hid hk
  have Hkl := hid hkl
  have Hc := hid hc
  have Hlk := hid hlk
  have hl4 : n.length ≤ 4 := by omega
  have hl0 : 0 < n.length := by omega
  obtain ⟨pw1, pw2⟩ := pw_bd f.d
  obtain ⟨st1, st2⟩ := stp_bd f.d
  have pne : (pw f.d - 1 == 0) = false := beq_eq_false_iff_ne.2 (by omega)
  obtain ⟨i0, hi0, hz0, hz1, hz2⟩ := info_parts int_info
  have Hi0 := hid hi0
  have Hz0 := hid hz0
  have Hz1 := hid hz1
  have Hz2 := hid hz2
  clear hl hc hd hn hk hkl hlk hi0 hz0 hz1 hz2
  go_enter Try.func52, Try.ntmps52
  go_wp2_with fail
  refine (refChannels_any f.c _).mono ?_
  rintro e w1 ⟨rfl, hb⟩
  have Hw := hid ((rpw_start f PA KA pc kc W).below hb)
  clear hb
  have p2 := Hw.out.2.2.1.cell 2
  have p3 := Hw.out.2.2.1.cell 3
  simp only [List.getElem?_toArray, List.getElem?_cons_zero, List.getElem?_cons_succ] at p2 p3
  go_wp2_with fail
  refine (top_same f.d Hd.out _).mono ?_
  rintro e w ⟨rfl, rfl⟩
  go_wp2_with fail
  clear p2 p3
  go_loopw [8, 9] (fun o i wr => ∃ (j : Nat) (A' : Option Addr) (c' : Nat), j ≤ n.length ∧ i = .int .i64 j ∧ o = .slice A' j c' ∧ wr.ownsRow W.heap.size 3 1 (.slice A' j c') j (rcells f.d n j) ∧ (n.take j).all (keyB f.d) = true ∧ RpW wr W f PA KA pc kc) (fun _ i _ => n.length - (intOf i).toNat)
  case atStart =>
    exact ⟨0, none, 0, by omega, rfl, rfl, World.ownsRow_nil _ _ _ _, rfl, Hw.out⟩
  case round =>
    obtain ⟨j, A', c', hj, rfl, rfl, hown, hall, hw⟩ := hrel
    have Hall := hid hall
    have Hwr := hid hw
    have Hown := hid hown
    have hgw := hw.size
    clear hall hw Hw
    by_cases hlt : j < n.length
    · clear hown
      obtain ⟨nb, no, rfl, hnb, n0⟩ := int_at (Hn.out.below Hwr.out.2.2.2 (Nat.le_refl _)) hlt
      have Hkt := hid (key_take f.d n j hlt)
      cases hkb : keyB f.d n[j]
      · have Hno := hid (show pixOf f n = none from Hpx.out.trans (if_neg (fun h => by rw [List.all_eq_true] at h; have := h n[j] (List.getElem_mem hlt); rw [hkb] at this; cases this)))
        have hkf : ¬ (0 ≤ n[j] ∧ n[j] < pw f.d) := of_decide_eq_false hkb
        have r0 := Hwr.out.2.1.cell 0
        have r1 := Hwr.out.2.1.cell 1
        have r2 := Hwr.out.2.1.cell 2
        have r3 := Hwr.out.2.1.cell 3
        have fr := fun i => Hwr.out.2.1.frozen i
        simp only [List.getElem?_toArray, List.getElem?_cons_zero, List.getElem?_cons_succ] at r0 r1 r2 r3
        generalize n[j] = x at *
        clear hkb
        by_cases h0 : x < 0
        · have d0 : decide (x < 0) = true := decide_eq_true h0
          clear hkf
          go_wp2_with fail
          refine bodyPost_ret (v := .tuple #[.agg #[.int .i64 0, .int .i64 0, .int .i64 0, .int .i64 0], .bool false]) (by simp [results, Try.results52, go_sem, r0, r1, r2, r3]) rfl (pixEnd_none Hno.out ?_)
          exact below4 Hwr.out.2.2.2 (by omega)
        · have d0 : decide (x < 0) = false := decide_eq_false h0
          have d1 : decide (pw f.d - 1 < x) = true := decide_eq_true (by omega)
          clear hkf
          go_wp2_with fail
          refine bodyPost_ret (v := .tuple #[.agg #[.int .i64 0, .int .i64 0, .int .i64 0, .int .i64 0], .bool false]) (by simp [results, Try.results52, go_sem, r0, r1, r2, r3]) rfl (pixEnd_none Hno.out ?_)
          exact below4 Hwr.out.2.2.2 (by omega)
      · obtain ⟨k0, k1⟩ := keyB_bd hkb
        have Hal := hid (show (n.take (j + 1)).all (keyB f.d) = true by rw [Hkt.out, Hall.out, hkb]; rfl)
        have Hnx := hid (rcells_next f.d n j hlt)
        obtain ⟨w0, w1b, w2b⟩ := widen_eq Hd.out k0 k1
        generalize n[j] = x at *
        have d0 : decide (x < 0) = false := decide_eq_false (by omega)
        have d1 : decide (pw f.d - 1 < x) = false := decide_eq_false (by omega)
        clear hkb
        go_wp2_with (at_builtin; refine wpList_app _ rfl _ _ _ rfl W.heap.size 3 i0 (.int .i64 0) 1 8 Try.underlying25 Hi0.out Hz0.out Hz1.out Hz2.out rfl (by omega) A' j c' _ rfl (Hown.out.alloc _) _ _ 1 1 [.int .i64 (x * stp f.d)] rfl (rd_one _ _ _ _ (Blk.new _ _ _)) (by simp) (by simp [Value.oneCell']) (by simp only [maxLen]; omega) (by omega) (by simp; omega) ?_; rintro A3 c3 w3 ⟨hown3, hgr3, hb3, _⟩)
        go_roundw
        case rel =>
          refine ⟨j + 1, A3, c3, by omega, by go_num, rfl, ?_, Hal.out, (Hwr.out.alloc _).grown (Hown.out.alloc _) hgr3 ((Hwr.out.2.2.2.alloc (by omega) _).trans hb3)⟩
          rw [← Hnx.out]
          exact hown3
        case measure => simp [intOf]; omega
    · have e : j = n.length := by omega
      subst e
      have Hall2 := hid (show n.all (keyB f.d) = true by have := Hall.out; rwa [List.take_length] at this)
      obtain ⟨x0, x1, x2, x3, hx⟩ : ∃ x0 x1 x2 x3, n = [x0, x1, x2, x3] := by
        have h := Hlk.out
        match n, h with
        | [x0, x1, x2, x3], _ => exact ⟨x0, x1, x2, x3, rfl⟩
      subst hx
      obtain ⟨g, hA, hg0, hg1⟩ := own_block hown (by simp)
      subst hA
      have y0 : wr.cell? ⟨g, 0, none⟩ = some (.int .i64 (x0 * stp f.d)) := hown.cellAt 0 (by simp)
      have y1 : wr.cell? ⟨g, 1, none⟩ = some (.int .i64 (x1 * stp f.d)) := hown.cellAt 1 (by simp)
      have y2 : wr.cell? ⟨g, 2, none⟩ = some (.int .i64 (x2 * stp f.d)) := hown.cellAt 2 (by simp)
      have y3 : wr.cell? ⟨g, 3, none⟩ = some (.int .i64 (x3 * stp f.d)) := hown.cellAt 3 (by simp)
      have p3 := Hwr.out.2.2.1.cell 3
      have q6 := Hwr.out.1.cell 6
      simp only [List.getElem?_toArray, List.getElem?_cons_zero, List.getElem?_cons_succ] at p3 q6
      clear hown Hall
      have g0 : W.heap.size < wr.heap.size := by omega
      have g1 : W.heap.size + 1 < wr.heap.size := by omega
      have hgp : W.heap.size ≤ wr.heap.size := by omega
      go_upto_region 16 with (fail)
      go_region_held3 (fun w' => w'.cell? ⟨g, 0, none⟩ = some (.int .i64 (x0 * stp f.d)) ∧ w'.cell? ⟨g, 1, none⟩ = some (.int .i64 (x1 * stp f.d)) ∧ w'.cell? ⟨g, 2, none⟩ = some (.int .i64 (x2 * stp f.d)) ∧ w'.cell? ⟨g, 3, none⟩ = some (.int .i64 (x3 * stp f.d))) (first | go_keep | exact ⟨y0, y1, y2, y3⟩) (fail)
      go_wp2_with fail
      go_loopw [11, 12] (fun s i wi => ∃ (m : Nat) (b : Bool), m ≤ f.key.length ∧ i = .int .i64 m ∧ s = .bool b ∧ b = (decide (0 < f.key.length) && decide (f.key.take m = [x0, x1, x2, x3].take m)) ∧ Blk wi wr.heap.size 62 #[.int .i64 (x0 * stp f.d), .int .i64 (x1 * stp f.d), .int .i64 (x2 * stp f.d), .int .i64 (x3 * stp f.d)] ∧ RpW wi W f PA KA pc kc) (fun _ i _ => f.key.length - (intOf i).toNat)
      case atStart =>
        exact ⟨0, _, by omega, rfl, rfl, by simp, (Blk.new wr _ _).drew, (Hwr.out.alloc _).drew⟩
      case round =>
        obtain ⟨m, b, hm, rfl, rfl, hbe, hpb, hw⟩ := hrel
        have Hpb := hid hpb
        have Hwi := hid hw
        have Hbe := hid hbe
        clear hbe hpb hw p3 q6
        by_cases hlt : m < f.key.length
        · have hn4 : m < [x0, x1, x2, x3].length := by have := Hkl.out; omega
          obtain ⟨kb, ko, rfl, hkb, k0⟩ := int_at (Hk.out.below Hwi.out.2.2.2 (Nat.le_refl _)) hlt
          obtain ⟨nb, no, rfl, hnb, n0⟩ := int_at (Hn.out.below Hwi.out.2.2.2 (Nat.le_refl _)) hn4
          have hn5 : m < 4 := hn4
          have hn6 : (m : Int) < 4 := by omega
          have Hkr := hid (key_run f.key [x0, x1, x2, x3] m hlt hn4)
          have q6 := Hwi.out.1.cell 6
          simp only [List.getElem?_toArray, List.getElem?_cons_zero, List.getElem?_cons_succ] at q6
          generalize f.key[m] = kx at *
          generalize [x0, x1, x2, x3][m] = nx at *
          cases b
          · have Hbe2 := hid (show false = (decide (0 < f.key.length) && decide (f.key.take (m + 1) = [x0, x1, x2, x3].take (m + 1))) by rw [Hkr.out, ← Bool.and_assoc, ← Hbe.out]; rfl)
            go_wp2_with fail
            go_quiet (fail)
            go_wp2_with fail
            go_roundw
            case rel => exact ⟨m + 1, _, by omega, by go_num, rfl, Hbe2.out, Hpb.out.drewN _, Hwi.out.drewN _⟩
            case measure => simp [intOf]; omega
          · have Hbe2 := hid (show (kx == nx) = (decide (0 < f.key.length) && decide (f.key.take (m + 1) = [x0, x1, x2, x3].take (m + 1))) by rw [Hkr.out, ← Bool.and_assoc, ← Hbe.out]; rfl)
            go_wp2_with fail
            go_quiet (fail)
            go_wp2_with fail
            go_roundw
            case rel => exact ⟨m + 1, _, by omega, by go_num, rfl, Hbe2.out, Hpb.out.drewN _, Hwi.out.drewN _⟩
            case measure => simp [intOf]; omega
        · have e : m = f.key.length := by omega
          subst e
          have Hb2 := hid (show b = decide (f.key ≠ [] ∧ f.key = [x0, x1, x2, x3]) from key_end f.key [x0, x1, x2, x3] Hkl.out Hbe.out)
          have q6 := Hwi.out.1.cell 6
          have s0 := Hpb.out.cell 0
          have s1 := Hpb.out.cell 1
          have s2 := Hpb.out.cell 2
          have s3 := Hpb.out.cell 3
          have fs := fun i => Hpb.out.frozen i
          have r0 := Hwi.out.2.1.cell 0
          have r1 := Hwi.out.2.1.cell 1
          have r2 := Hwi.out.2.1.cell 2
          have r3 := Hwi.out.2.1.cell 3
          have fr := fun i => Hwi.out.2.1.frozen i
          simp only [List.getElem?_toArray, List.getElem?_cons_zero, List.getElem?_cons_succ] at q6 s0 s1 s2 s3 r0 r1 r2 r3
          cases b
          · have Hfin := hid (show pixOf f [x0, x1, x2, x3] = some (x0 * stp f.d, x1 * stp f.d, x2 * stp f.d, x3 * stp f.d) by
              rw [Hpx.out, if_pos Hall2.out, ← Hb2.out]
              unfold pxOf clear
              rw [Hc.out]
              rfl)
            go_wp2_with fail
            refine bodyPost_ret (v := .tuple #[.agg #[.int .i64 (x0 * stp f.d), .int .i64 (x1 * stp f.d), .int .i64 (x2 * stp f.d), .int .i64 (x3 * stp f.d)], .bool true]) (by simp [results, Try.results52, go_sem, r0, r1, r2, r3]) rfl (pixEnd_some Hfin.out ?_)
            exact below4 Hwi.out.2.2.2 (by omega)
          · have Hfin := hid (show pixOf f [x0, x1, x2, x3] = some (x0 * stp f.d, x1 * stp f.d, x2 * stp f.d, 0) by
              rw [Hpx.out, if_pos Hall2.out, ← Hb2.out]
              unfold pxOf clear
              rw [Hc.out]
              rfl)
            go_wp2_with fail
            refine bodyPost_ret (v := .tuple #[.agg #[.int .i64 (x0 * stp f.d), .int .i64 (x1 * stp f.d), .int .i64 (x2 * stp f.d), .int .i64 0], .bool true]) (by simp [results, Try.results52, go_sem, r0, r1, r2, r3]) rfl (pixEnd_some Hfin.out ?_)
            exact below4 (Hwi.out.2.2.2.setCell (by exact hgp) _) (by omega)

end Go.Proofs.Ytphhoihhmphbdaa
