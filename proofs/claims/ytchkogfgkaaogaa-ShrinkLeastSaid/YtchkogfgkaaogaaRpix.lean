/-
  burnishref17.Form.Pixel in a good form.
-/
import Derived.Test.YtchkogfgkaaogaaPixel
import Derived.Test.YtchkogfgkaaogaaBase
import Derived.Deep.RegionHeld3
import Derived.Deep.DeepCutAuto
import Derived.Deep.CutRange
namespace Go.Proofs.Ytchkogfgkaaogaa
open Go.RowKit

/-- the world while the reference makes a pixel -/
def RpW (wr W : World) (f : Fm) (PA KA : Option Addr) (pc kc : Nat) : Prop :=
  Blk wr W.heap.size 29 #[.int .i64 f.w, .int .i64 f.h, .int .i64 f.d, .int .i64 f.c, .int .i64 f.l, .slice PA f.pal.length pc, .slice KA f.key.length kc] ∧ Blk wr (W.heap.size + 1) 69 #[.int .i64 0, .int .i64 0, .int .i64 0, .int .i64 0] ∧ Blk wr (W.heap.size + 1 + 1) 26 #[.int .i64 f.w, .int .i64 f.h, .int .i64 f.d, .int .i64 f.c, .int .i64 f.l] ∧ Below W.heap.size W wr
theorem rpw_start (f : Fm) (PA KA : Option Addr) (pc kc : Nat) (W : World) : RpW (((W.alloc (.cells #[.int .i64 f.w, .int .i64 f.h, .int .i64 f.d, .int .i64 f.c, .int .i64 f.l, .slice PA f.pal.length pc, .slice KA f.key.length kc] 29)).alloc (.cells #[.int .i64 0, .int .i64 0, .int .i64 0, .int .i64 0] 69)).alloc (.cells #[.int .i64 f.w, .int .i64 f.h, .int .i64 f.d, .int .i64 f.c, .int .i64 f.l] 26)) W f PA KA pc kc := by
  have b0 := ((Blk.new W 29 #[.int .i64 f.w, .int .i64 f.h, .int .i64 f.d, .int .i64 f.c, .int .i64 f.l, .slice PA f.pal.length pc, .slice KA f.key.length kc]).alloc (.cells #[.int .i64 0, .int .i64 0, .int .i64 0, .int .i64 0] 69)).alloc (.cells #[.int .i64 f.w, .int .i64 f.h, .int .i64 f.d, .int .i64 f.c, .int .i64 f.l] 26)
  have b1 := (Blk.new (W.alloc (.cells #[.int .i64 f.w, .int .i64 f.h, .int .i64 f.d, .int .i64 f.c, .int .i64 f.l, .slice PA f.pal.length pc, .slice KA f.key.length kc] 29)) 69 #[.int .i64 0, .int .i64 0, .int .i64 0, .int .i64 0]).alloc (.cells #[.int .i64 f.w, .int .i64 f.h, .int .i64 f.d, .int .i64 f.c, .int .i64 f.l] 26)
  have b2 := Blk.new ((W.alloc (.cells #[.int .i64 f.w, .int .i64 f.h, .int .i64 f.d, .int .i64 f.c, .int .i64 f.l, .slice PA f.pal.length pc, .slice KA f.key.length kc] 29)).alloc (.cells #[.int .i64 0, .int .i64 0, .int .i64 0, .int .i64 0] 69)) 26 #[.int .i64 f.w, .int .i64 f.h, .int .i64 f.d, .int .i64 f.c, .int .i64 f.l]
  simp only [World.size_alloc] at b1 b2
  exact ⟨b0, b1, b2, (((Below.refl _ _).alloc (Nat.le_refl _) _).alloc (by simp) _).alloc (by simp; omega) _⟩
section
variable {wr w' W : World} {f : Fm} {PA KA : Option Addr} {pc kc : Nat}
theorem RpW.below (h : RpW wr W f PA KA pc kc) (hb : Below wr.heap.size wr w') : RpW w' W f PA KA pc kc := by
  obtain ⟨h1, h2, h3, h4⟩ := h
  have := h3.lt
  exact ⟨h1.below hb (by omega), h2.below hb (by omega), h3.below hb (by omega), h4.trans (hb.mono h4.size)⟩
theorem RpW.drewN (h : RpW wr W f PA KA pc kc) (k : Nat) : RpW (wr.drewN k) W f PA KA pc kc := ⟨h.1, h.2.1, h.2.2.1, below_drewN h.2.2.2 k⟩
theorem RpW.drew (h : RpW wr W f PA KA pc kc) : RpW wr.drew W f PA KA pc kc := ⟨h.1, h.2.1, h.2.2.1, h.2.2.2.drew⟩
theorem RpW.alloc (h : RpW wr W f PA KA pc kc) (o : Obj) : RpW (wr.alloc o) W f PA KA pc kc := ⟨h.1.alloc o, h.2.1.alloc o, h.2.2.1.alloc o, h.2.2.2.alloc h.2.2.2.size o⟩
theorem RpW.grown {base n : Nat} {v : Value} {xs : List Value} (h : RpW wr W f PA KA pc kc) (ho : wr.ownsRow base 3 1 v n xs) (hg : wr.grownBy w' v.ownBlock) (hb : Below W.heap.size W w') : RpW w' W f PA KA pc kc :=
  ⟨h.1.grown hg (own_blk_ne ho h.1 (by decide)), h.2.1.grown hg (own_blk_ne ho h.2.1 (by decide)), h.2.2.1.grown hg (own_blk_ne ho h.2.2.1 (by decide)), hb⟩
theorem RpW.size (h : RpW wr W f PA KA pc kc) : W.heap.size + 1 + 1 < wr.heap.size := h.2.2.1.lt
end

/-- the widened numbers, one behind the other -/
def rcells (d : Int) (n : List Int) (j : Nat) : List Value := (n.take j).map (fun x => Value.int .i64 (x * stp d))
theorem rcells_next (d : Int) (n : List Int) (j : Nat) (hj : j < n.length) : rcells d n j ++ [Value.int .i64 (n[j] * stp d)] = rcells d n (j + 1) := by
  unfold rcells
  rw [List.take_succ_eq_append_getElem hj, List.map_append]
  rfl
theorem widen_eq {d x : Int} (hd : deepOk d) (h0 : 0 ≤ x) (h1 : x < pw d) : (x * 65535).tdiv (pw d - 1) = x * stp d ∧ 0 ≤ x * stp d ∧ x * stp d ≤ 65535 := by
  have e := stp_pw d hd
  have p := (pw_bd d).1
  have s := (stp_bd d).1
  refine ⟨?_, Int.mul_nonneg h0 (by omega), ?_⟩
  · rw [← e, ← Int.mul_assoc]
    exact Int.mul_tdiv_cancel _ (by omega)
  · rw [← e, Int.mul_comm (stp d)]
    exact Int.mul_le_mul_of_nonneg_right (by omega) (by omega)
theorem key_run (k n : List Int) (i : Nat) (hk : i < k.length) (hn : i < n.length) : decide (k.take (i + 1) = n.take (i + 1)) = (decide (k.take i = n.take i) && (k[i] == n[i])) := by
  rw [List.take_succ_eq_append_getElem hk, List.take_succ_eq_append_getElem hn]
  by_cases h : k.take i = n.take i
  · rw [decide_eq_true h, h, Bool.true_and]
    by_cases e : k[i] = n[i]
    · rw [e]; simp
    · rw [beq_eq_false_iff_ne.2 e, decide_eq_false (fun h => e (List.cons.inj (List.append_cancel_left h)).1)]
  · rw [decide_eq_false h, Bool.false_and, decide_eq_false]
    intro h2
    exact h (List.append_inj h2 (by simp; omega)).1

theorem key_end (k n : List Int) {b : Bool} (hl : k.length = 0 ∨ k.length = n.length) (hb : b = (decide (0 < k.length) && decide (k.take k.length = n.take k.length))) : b = decide (k ≠ [] ∧ k = n) := by
  rw [hb, List.take_length]
  rcases Nat.eq_zero_or_pos k.length with h0 | h0
  · rw [List.eq_nil_of_length_eq_zero h0]; simp
  · rcases hl with h | h
    · omega
    · rw [h, List.take_length, decide_eq_true (by omega), Bool.true_and]
      have hk : k ≠ [] := fun e => by rw [e] at h0; simp at h0
      simp [hk]

set_option maxRecDepth 100000 in
set_option maxHeartbeats 8000000 in
theorem rpix_len (f : Fm) (PA KA NA : Option Addr) (pc kc nc : Nat) (n : List Int) (W : World) (hl : (n.length : Int) ≠ chan f.c) :
    Calls Try.prog 63 #[.agg #[.int .i64 f.w, .int .i64 f.h, .int .i64 f.d, .int .i64 f.c, .int .i64 f.l, .slice PA f.pal.length pc, .slice KA f.key.length kc], .slice NA n.length nc] W (PixEnd (pixOf f n) W) := by
  have Hn := hid (show pixOf f n = none by unfold pixOf; rw [if_pos hl])
  have hq : ((n.length : Int) != chan f.c) = true := bne_iff_ne.2 hl
  clear hl
  go_enter Try.func63, Try.ntmps63
  go_wp2_with fail
  refine (refChannels_any f.c _).mono ?_
  rintro e w1 ⟨rfl, hb⟩
  have Hw := hid ((rpw_start f PA KA pc kc W).below hb)
  clear hb
  have p3 := Hw.out.2.2.1.cell 3
  have r0 := Hw.out.2.1.cell 0
  have r1 := Hw.out.2.1.cell 1
  have r2 := Hw.out.2.1.cell 2
  have r3 := Hw.out.2.1.cell 3
  have fr := fun i => Hw.out.2.1.frozen i
  simp only [List.getElem?_toArray, List.getElem?_cons_zero, List.getElem?_cons_succ] at p3 r0 r1 r2 r3
  go_wp2_with fail
  refine bodyPost_ret (v := .tuple #[.agg #[.int .i64 0, .int .i64 0, .int .i64 0, .int .i64 0], .bool false]) (by simp [results, Try.results63, go_sem, r0, r1, r2, r3]) rfl (pixEnd_none Hn.out ?_)
  exact below4 Hw.out.2.2.2 (by omega)

set_option maxRecDepth 100000 in
set_option maxHeartbeats 8000000 in
theorem rpix_pal (f : Fm) (PA KA NA : Option Addr) (pc kc nc : Nat) (n : List Int) (W : World) (hl : (n.length : Int) = chan f.c) (h3 : f.c = 3) (hp : RdP W W.heap.size PA f.pal) (hn : RdI W W.heap.size NA n)  :
    Calls Try.prog 63 #[.agg #[.int .i64 f.w, .int .i64 f.h, .int .i64 f.d, .int .i64 f.c, .int .i64 f.l, .slice PA f.pal.length pc, .slice KA f.key.length kc], .slice NA n.length nc] W (PixEnd (pixOf f n) W) := by
  have hl1 : n.length = 1 := by rw [h3] at hl; have : chan 3 = 1 := rfl; omega
  obtain ⟨x, rfl⟩ : ∃ x, n = [x] := by
    match n, hl1 with
    | [x], _ => exact ⟨x, rfl⟩
  have hq : ((([x] : List Int).length : Int) != chan f.c) = false := by rw [bne_eq_false_iff_eq]; exact hl
  have hq1 : ((1 : Int) != chan f.c) = false := by rw [bne_eq_false_iff_eq]; exact hl
  have e3 : (f.c == 3) = true := beq_iff_eq.2 h3
  have Hpx := hid (show pixOf f [x] = if 0 ≤ x then f.pal[x.toNat]? else none by unfold pixOf; rw [if_neg (by simpa using hl), if_pos h3]; rfl)
  have Hp := hid hp
  have Hn := hid hn
  clear hl hl1 h3 hn hp
  go_enter Try.func63, Try.ntmps63
  go_wp2_with fail
  refine (refChannels_any f.c _).mono ?_
  rintro e w1 ⟨rfl, hb⟩
  have Hw := hid ((rpw_start f PA KA pc kc W).below hb)
  clear hb
  obtain ⟨nb, no, rfl, hnb, n0⟩ := int_at (Hn.out.below Hw.out.2.2.2 (Nat.le_refl _)) (show 0 < ([x] : List Int).length by simp)
  simp only [Nat.add_zero, List.getElem_cons_zero] at n0
  have N0 := hid n0
  have p3 := Hw.out.2.2.1.cell 3
  have q5 := Hw.out.1.cell 5
  have r0 := Hw.out.2.1.cell 0
  have r1 := Hw.out.2.1.cell 1
  have r2 := Hw.out.2.1.cell 2
  have r3 := Hw.out.2.1.cell 3
  have fr := fun i => Hw.out.2.1.frozen i
  simp only [List.getElem?_toArray, List.getElem?_cons_zero, List.getElem?_cons_succ] at p3 q5 r0 r1 r2 r3
  by_cases h0 : x < 0
  · have Hno := hid (Hpx.out.trans (if_neg (by omega)))
    have d0 : decide (x < 0) = true := decide_eq_true h0
    go_wp2_with fail
    go_quiet (fail)
    go_wp2_with fail
    refine bodyPost_ret (v := .tuple #[.agg #[.int .i64 0, .int .i64 0, .int .i64 0, .int .i64 0], .bool false]) (by simp [results, Try.results63, go_sem, r0, r1, r2, r3]) rfl (pixEnd_none Hno.out ?_)
    exact below4 (below_drewN Hw.out.2.2.2 _) (by omega)
  have d0 : decide (x < 0) = false := decide_eq_false h0
  by_cases h1 : (f.pal.length : Int) ≤ x
  · have Hno := hid (Hpx.out.trans ((if_pos (by omega)).trans (List.getElem?_eq_none (by omega))))
    have d1 : decide ((f.pal.length : Int) ≤ x) = true := decide_eq_true h1
    go_wp2_with fail
    go_quiet (fail)
    go_wp2_with fail
    refine bodyPost_ret (v := .tuple #[.agg #[.int .i64 0, .int .i64 0, .int .i64 0, .int .i64 0], .bool false]) (by simp [results, Try.results63, go_sem, r0, r1, r2, r3]) rfl (pixEnd_none Hno.out ?_)
    exact below4 (below_drewN Hw.out.2.2.2 _) (by omega)
  · have d1 : decide ((f.pal.length : Int) ≤ x) = false := decide_eq_false h1
    obtain ⟨j, rfl⟩ := Int.eq_ofNat_of_zero_le (show 0 ≤ x by omega)
    have hj : j < f.pal.length := by omega
    have Hno := hid (show pixOf f [(j : Int)] = some f.pal[j] from Hpx.out.trans ((if_pos (by omega)).trans (by rw [Int.toNat_natCast]; exact List.getElem?_eq_getElem hj)))
    go_wp2_with fail
    go_quiet (fail)
    have Hw2 := hid (Hw.out.drewN nq)
    have N2 : Hid ((w1.drewN nq).cell? ⟨nb, no, none⟩ = some (.int .i64 (j : Int))) := N0.out
    clear Hw N0 n0 p3 q5 r0 r1 r2 r3 fr
    generalize w1.drewN nq = wz at *
    obtain ⟨b, off, rfl, hbb, x0, x1, x2, x3⟩ := px_at (Rd.below Hp.out Hw2.out.2.2.2 (Nat.le_refl _)) hj
    generalize f.pal[j] = px at *
    obtain ⟨xr, xg, xb, xa⟩ := px
    simp only at x0 x1 x2 x3
    have n0 := N2.out
    have q5 := Hw2.out.1.cell 5
    have r0 := Hw2.out.2.1.cell 0
    have r1 := Hw2.out.2.1.cell 1
    have r2 := Hw2.out.2.1.cell 2
    have r3 := Hw2.out.2.1.cell 3
    have fr := fun i => Hw2.out.2.1.frozen i
    simp only [List.getElem?_toArray, List.getElem?_cons_zero, List.getElem?_cons_succ] at q5 r0 r1 r2 r3
    go_wp2_with fail
    go_region
    all_goals
      go_wp2
      refine bodyPost_ret (v := .tuple #[.agg #[.int .i64 xr, .int .i64 xg, .int .i64 xb, .int .i64 xa], .bool true]) (by simp [results, Try.results63, go_sem, r0, r1, r2, r3]) rfl (pixEnd_some Hno.out ?_)
      exact below4 Hw2.out.2.2.2.drew (by omega)

end Go.Proofs.Ytchkogfgkaaogaa
