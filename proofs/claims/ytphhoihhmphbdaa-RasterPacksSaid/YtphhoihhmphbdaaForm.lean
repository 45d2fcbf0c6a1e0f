/-
  raster.Form.Check.
-/
import Derived.Test.YtphhoihhmphbdaaRefHead
import Derived.Deep.CutRange
namespace Go.Proofs.Ytphhoihhmphbdaa
open Go.RowKit

/-- a pixel: red, green, blue, alpha -/
abbrev Px := Int × Int × Int × Int
def encP (p : Px) : List Value := [.int .i64 p.1, .int .i64 p.2.1, .int .i64 p.2.2.1, .int .i64 p.2.2.2]
def pxOk (p : Px) : Bool := narrowOk p.1 8 && narrowOk p.2.1 8 && narrowOk p.2.2.1 8 && narrowOk p.2.2.2 8
def RdP (w : World) (B : Nat) (A : Option Addr) (l : List Px) : Prop := Rd w B 4 A l.length (l.flatMap encP)
theorem px_at {w : World} {B : Nat} {A : Option Addr} {l : List Px} (h : RdP w B A l) {j : Nat} (hj : j < l.length) :
    ∃ b off, A = some ⟨b, off, none⟩ ∧ b < B ∧ w.cell? ⟨b, off + j * 4, none⟩ = some (.int .i64 l[j].1) ∧ w.cell? ⟨b, off + j * 4 + 1, none⟩ = some (.int .i64 l[j].2.1) ∧
      w.cell? ⟨b, off + j * 4 + 2, none⟩ = some (.int .i64 l[j].2.2.1) ∧ w.cell? ⟨b, off + j * 4 + 3, none⟩ = some (.int .i64 l[j].2.2.2) := by
  obtain ⟨b, off, hA, hb, hc⟩ := Rd.at_ h hj (by omega)
  have hl : ∀ a ∈ l, (encP a).length = 4 := fun _ _ => rfl
  have hjj : l[j]? = some l[j] := List.getElem?_eq_getElem hj
  have f := fun (i : Nat) (hi : i < 4) => fun (u : Value) (hu : (encP l[j])[i]? = some u) => hc (j * 4 + i) u ((flat_at encP 4 l hl j i l[j] hjj hi).trans hu)
  simp only [← Nat.add_assoc] at f
  exact ⟨b, off, hA, hb, f 0 (by omega) _ rfl, f 1 (by omega) _ rfl, f 2 (by omega) _ rfl, f 3 (by omega) _ rfl⟩

/-- a form: head, palette, key -/
structure Fm where
  w : Int
  h : Int
  d : Int
  c : Int
  l : Int
  pal : List Px
  key : List Int
def keyB (d : Int) (n : Int) : Bool := decide (0 ≤ n ∧ n < pw d)
def palB (f : Fm) : Bool := if f.c = 3 then decide (1 ≤ f.pal.length ∧ (f.pal.length : Int) ≤ pw f.d) else decide (f.pal.length = 0)
def keysB (f : Fm) : Bool := decide (f.key.length = 0) || (decide (f.c = 0 ∨ f.c = 2) && decide ((f.key.length : Int) = chan f.c) && f.key.all (keyB f.d))
def formOk (f : Fm) : Bool := decide (headErr f.w f.h f.d f.c f.l = 0) && palB f && f.pal.all pxOk && keysB f
theorem headErr_vals (w h d c l : Int) : headErr w h d c l = 0 ∨ headErr w h d c l = 2 ∨ headErr w h d c l = 4 := by unfold headErr; (repeat' split) <;> simp
theorem headErr_deep {w h d c l : Int} (hh : headErr w h d c l = 0) : deepOk d ∧ (c = 3 → d ≠ 16) ∧ 0 < chan c := by
  have hm : d ∈ dl c := by
    unfold headErr at hh
    split at hh
    · cases hh
    · rename_i hn
      exact Decidable.of_not_not (fun h => hn (.inr (.inr (.inl h))))
  unfold dl at hm
  unfold deepOk chan
  split at hm
  · simp at hm; omega
  split at hm
  · simp at hm; omega
  split at hm
  · simp at hm; omega
  · simp at hm

/-- a form, boxed -/
def FC (wr : World) (g : Nat) (f : Fm) (PA KA : Option Addr) (pc kc : Nat) : Prop := HC wr g f.w f.h f.d f.c f.l ∧ wr.cell? ⟨g, 5, none⟩ = some (.slice PA f.pal.length pc) ∧ wr.cell? ⟨g, 6, none⟩ = some (.slice KA f.key.length kc)
theorem errv_0 : errv 0 = .nilIface := rfl
theorem errv_2 : errv 2 = .iface 42 (.int .i64 2) := rfl
theorem errv_4 : errv 4 = .iface 42 (.int .i64 4) := rfl
/-- shifts by a depth -/
theorem shl_deep {d : Int} (h : deepOk d) (w : World) : (Op.shift .shl .i64 1 .i64 d).run Try.prog w = .ok (.int .i64 (pw d)) w := by
  rcases h with rfl | rfl | rfl | rfl | rfl <;> kernel_rfl

theorem shr_deep {d : Int} (h : deepOk d) (x : Int) (w : World) : (Op.shift .shr .i64 x .i64 d).run Try.prog w = .ok (Value.int .i64 (x / pw d)) w := by
  rcases h with rfl | rfl | rfl | rfl | rfl
  · show _ = Result.ok (Value.int .i64 (x / 2)) w
    go_simp
  · show _ = Result.ok (Value.int .i64 (x / 4)) w
    go_simp
  · show _ = Result.ok (Value.int .i64 (x / 16)) w
    go_simp
  · show _ = Result.ok (Value.int .i64 (x / 256)) w
    go_simp
  · show _ = Result.ok (Value.int .i64 (x / 65536)) w
    go_simp
def FcEnd (f : Fm) (W : World) (e : Ending) (w' : World) : Prop := e = .returned (errv (if formOk f = true then 0 else 6)) ∧ Below W.heap.size W w'
theorem fcEnd_no {f : Fm} {W w' : World} (h : formOk f = false) (hb : Below W.heap.size W w') : FcEnd f W (.returned (.iface 42 (.int .i64 6))) w' := by unfold FcEnd; rw [h]; exact ⟨rfl, hb⟩
theorem fcEnd_yes {f : Fm} {W w' : World} (h : formOk f = true) (hb : Below W.heap.size W w') : FcEnd f W (.returned .nilIface) w' := by unfold FcEnd; rw [h]; exact ⟨rfl, hb⟩


theorem box_cells (f : Fm) (PA KA : Option Addr) (pc kc : Nat) (W w1 : World) (hb : Below ((W.alloc (.cells #[.int .i64 f.w, .int .i64 f.h, .int .i64 f.d, .int .i64 f.c, .int .i64 f.l, .slice PA f.pal.length pc, .slice KA f.key.length kc] 38)).alloc (.cells #[.int .i64 f.w, .int .i64 f.h, .int .i64 f.d, .int .i64 f.c, .int .i64 f.l] 23)).heap.size ((W.alloc (.cells #[.int .i64 f.w, .int .i64 f.h, .int .i64 f.d, .int .i64 f.c, .int .i64 f.l, .slice PA f.pal.length pc, .slice KA f.key.length kc] 38)).alloc (.cells #[.int .i64 f.w, .int .i64 f.h, .int .i64 f.d, .int .i64 f.c, .int .i64 f.l] 23)) w1) :
    FC w1 W.heap.size f PA KA pc kc ∧ HC w1 (W.heap.size + 1) f.w f.h f.d f.c f.l ∧ Below W.heap.size W w1 ∧ W.heap.size + 2 ≤ w1.heap.size := by
  have b1 := (Blk.new W 38 #[.int .i64 f.w, .int .i64 f.h, .int .i64 f.d, .int .i64 f.c, .int .i64 f.l, .slice PA f.pal.length pc, .slice KA f.key.length kc]).alloc (.cells #[.int .i64 f.w, .int .i64 f.h, .int .i64 f.d, .int .i64 f.c, .int .i64 f.l] 23)
  have b2 := Blk.new (W.alloc (.cells #[.int .i64 f.w, .int .i64 f.h, .int .i64 f.d, .int .i64 f.c, .int .i64 f.l, .slice PA f.pal.length pc, .slice KA f.key.length kc] 38)) 23 #[.int .i64 f.w, .int .i64 f.h, .int .i64 f.d, .int .i64 f.c, .int .i64 f.l]
  rw [World.size_alloc] at b2
  have c1 := b1.below hb (by simp; omega)
  have c2 := b2.below hb (by simp)
  have hs := hb.size
  simp only [World.size_alloc] at hs
  exact ⟨⟨⟨c1.cell 0, c1.cell 1, c1.cell 2, c1.cell 3, c1.cell 4⟩, c1.cell 5, c1.cell 6⟩, ⟨c2.cell 0, c2.cell 1, c2.cell 2, c2.cell 3, c2.cell 4⟩, (((Below.refl _ _).alloc (Nat.le_refl _) _).alloc (by simp) _).trans (hb.mono (by simp; omega)), by omega⟩
theorem FC.below {w w' : World} {g B : Nat} {f : Fm} {PA KA : Option Addr} {pc kc : Nat} (h : FC w g f PA KA pc kc) (hb : Below B w w') (hg : g < B) : FC w' g f PA KA pc kc := by
  obtain ⟨⟨h0, h1, h2, h3, h4⟩, h5, h6⟩ := h
  have k := fun o => hb.cell (p := ⟨g, o, none⟩) hg
  exact ⟨⟨(k 0).trans h0, (k 1).trans h1, (k 2).trans h2, (k 3).trans h3, (k 4).trans h4⟩, (k 5).trans h5, (k 6).trans h6⟩
theorem HC.below {w w' : World} {g B : Nat} {a b c d e : Int} (h : HC w g a b c d e) (hb : Below B w w') (hg : g < B) : HC w' g a b c d e := by
  obtain ⟨h0, h1, h2, h3, h4⟩ := h
  have k := fun o => hb.cell (p := ⟨g, o, none⟩) hg
  exact ⟨(k 0).trans h0, (k 1).trans h1, (k 2).trans h2, (k 3).trans h3, (k 4).trans h4⟩
theorem RdP.below {w w' : World} {B C : Nat} {A : Option Addr} {l : List Px} (h : RdP w B A l) (hb : Below C w w') (hC : B ≤ C) : RdP w' B A l := Rd.below h hb hC

set_option maxRecDepth 100000 in
set_option maxHeartbeats 4000000 in
theorem fcheck_head (f : Fm) (PA KA : Option Addr) (pc kc : Nat) (W : World) (hh : headErr f.w f.h f.d f.c f.l ≠ 0) :
    Calls Try.prog 28 #[.agg #[.int .i64 f.w, .int .i64 f.h, .int .i64 f.d, .int .i64 f.c, .int .i64 f.l, .slice PA f.pal.length pc, .slice KA f.key.length kc]] W (FcEnd f W) := by
  have Hn := hid (show formOk f = false by unfold formOk; rw [decide_eq_false hh]; rfl)
  rcases headErr_vals f.w f.h f.d f.c f.l with h0 | h0 | h0
  · exact absurd h0 hh
  all_goals
    have Hh := hid h0
    clear h0 hh
    go_enter Try.func28, Try.ntmps28
    go_wp2_with fail
    refine (headCheck_any f.w f.h f.d f.c f.l _).mono ?_
    rintro e w1 ⟨rfl, hb⟩
    obtain ⟨_, _, hbw, _⟩ := box_cells f PA KA pc kc W w1 hb
    have Hb := hid hbw
    clear hb hbw
    rw [Hh.out]
    simp only [errv_2, errv_4]
    go_wp2_with fail
    go_ret
    exact fcEnd_no Hn.out Hb.out

theorem pal_take (l : List Px) (j : Nat) (hj : j < l.length) : (l.take (j + 1)).all pxOk = ((l.take j).all pxOk && pxOk l[j]) := by
  rw [List.take_succ_eq_append_getElem hj, List.all_append]; simp
theorem key_take (d : Int) (l : List Int) (j : Nat) (hj : j < l.length) : (l.take (j + 1)).all (keyB d) = ((l.take j).all (keyB d) && keyB d l[j]) := by
  rw [List.take_succ_eq_append_getElem hj, List.all_append]; simp

theorem keyB_shift (d x : Int) (h : 0 ≤ x) : keyB d x = (x / pw d == 0) := by
  obtain ⟨p1, p2⟩ := pw_bd d
  unfold keyB
  rw [Bool.eq_iff_iff]
  simp only [decide_eq_true_eq, beq_iff_eq]
  constructor
  · intro h1; exact Int.ediv_eq_zero_of_lt h h1.2
  · intro h1
    refine ⟨h, ?_⟩
    have := Int.emod_lt_of_pos x (show 0 < pw d by omega)
    have h2 := Int.emod_add_mul_ediv x (pw d)
    rw [h1] at h2
    omega
theorem channels_same (c : Int) (W : World) : Calls Try.prog 31 #[.int .i64 c] W fun e w' => e = .returned (.int .i64 (chan c)) ∧ w' = W := (channels_any c W).mono fun _ _ ⟨he, hw⟩ => ⟨he, hw.symm⟩

set_option maxRecDepth 100000 in
set_option maxHeartbeats 16000000 in
theorem fcheck_main (f : Fm) (PA KA : Option Addr) (pc kc : Nat) (W : World) (hh : headErr f.w f.h f.d f.c f.l = 0) (hp : RdP W W.heap.size PA f.pal) (hk : RdI W W.heap.size KA f.key) (hpm : f.pal.length ≤ 1000000) (hkm : f.key.length ≤ 1000000) :
    Calls Try.prog 28 #[.agg #[.int .i64 f.w, .int .i64 f.h, .int .i64 f.d, .int .i64 f.c, .int .i64 f.l, .slice PA f.pal.length pc, .slice KA f.key.length kc]] W (FcEnd f W) := by
  obtain ⟨hd, _, _⟩ := headErr_deep hh
  have Hd := hid hd
  have Hh := hid hh
  have Hp := hid hp
  have Hk := hid hk
  have Hfo := hid (show formOk f = (palB f && f.pal.all pxOk && keysB f) by unfold formOk; rw [decide_eq_true hh]; simp)
  obtain ⟨pw1, pw2⟩ := pw_bd f.d
  clear hd hh hp hk
  go_enter Try.func28, Try.ntmps28
  go_wp2_with fail
  refine (headCheck_any f.w f.h f.d f.c f.l _).mono ?_
  rintro e w1 ⟨rfl, hb⟩
  obtain ⟨hfc, hhc, hbw, hsz⟩ := box_cells f PA KA pc kc W w1 hb
  have Hfc := hid hfc
  have Hhc := hid hhc
  have Hb := hid hbw
  clear hb hbw hfc hhc
  rw [Hh.out]
  simp only [errv_0]
  obtain ⟨⟨q0, q1, q2, q3, q4⟩, q5, q6⟩ := Hfc.out
  obtain ⟨p0, p1, p2, p3, p4⟩ := Hhc.out
  have hsl : ∀ w : World, (Op.shift .shl .i64 1 .i64 f.d).run Try.prog w = .ok (.int .i64 (pw f.d)) w := fun w => shl_deep Hd.out w
  go_upto_if 23 with (fail)
  go_cut [5] from 24 to 32 (fun gv w => gv = .bool (palB f) ∧ w1 = w)
  case first =>
    by_cases h3 : f.c = 3
    · have Hg : Hid (palB f = decide (1 ≤ f.pal.length ∧ (f.pal.length : Int) ≤ pw f.d)) := by unfold Hid palB; rw [if_pos h3]
      have e3 : (f.c == 3) = true := beq_iff_eq.2 h3
      clear h3
      by_cases h1 : 1 ≤ f.pal.length
      · have d1 : decide ((1 : Int) ≤ (f.pal.length : Int)) = true := decide_eq_true (by omega)
        go_wp2
        go_meet
        exact ⟨by rw [Hg.out]; congr 1; rw [Bool.eq_iff_iff]; simp; try omega, rfl⟩
      · have d1 : decide ((1 : Int) ≤ (f.pal.length : Int)) = false := decide_eq_false (by omega)
        go_wp2
        go_meet
        exact ⟨by rw [Hg.out, decide_eq_false (fun h => h1 h.1)], rfl⟩
    · have Hg : Hid (palB f = decide (f.pal.length = 0)) := by unfold Hid palB; rw [if_neg h3]
      have e3 : (f.c == 3) = false := beq_eq_false_iff_ne.2 h3
      clear h3
      go_wp2
      go_meet
      exact ⟨by rw [Hg.out]; congr 1; rw [Bool.eq_iff_iff]; simp, rfl⟩
  case rest =>
    obtain ⟨rfl, rfl⟩ := hcut
    clear hsl
    go_wp2_with fail
    go_loopw [5, 36] (fun gv i wr => ∃ j : Nat, j ≤ f.pal.length ∧ i = .int .i64 j ∧ gv = .bool (palB f && (f.pal.take j).all pxOk) ∧ Below w1.heap.size w1 wr) (fun _ i _ => f.pal.length - (intOf i).toNat)
    case atStart => exact ⟨0, by omega, rfl, by simp, Below.refl _ _⟩
    case round =>
      obtain ⟨j, hj, rfl, rfl, hbr⟩ := hrel
      have Hbr := hid hbr
      have hszr := hbr.size
      have hcr := hid (Hfc.out.below hbr (by omega))
      have hhr := hid (Hhc.out.below hbr (by omega))
      clear hbr q0 q1 q2 q3 q4 q5 q6 p0 p1 p2 p3 p4
      by_cases hlt : j < f.pal.length
      · obtain ⟨b, off, rfl, hbb, x0, x1, x2, x3⟩ := px_at ((Hp.out.below Hb.out (Nat.le_refl _)).below Hbr.out (by omega)) hlt
        have Hpt := hid (pal_take f.pal j hlt)
        generalize f.pal[j] = x at *
        obtain ⟨xr, xg, xb, xa⟩ := x
        simp only at x0 x1 x2 x3
        have Hpx : Hid (pxOk (xr, xg, xb, xa) = (narrowOk xr 8 && narrowOk xg 8 && narrowOk xb 8 && narrowOk xa 8)) := rfl
        have Hbx := hid ((Below.refl wr.heap.size wr).alloc (Nat.le_refl _) (.cells #[.int .i64 xr, .int .i64 xg, .int .i64 xb, .int .i64 xa] 62))
        cases hg : (palB f && (f.pal.take j).all pxOk)
        · have Hn := hid (show (palB f && (f.pal.take (j + 1)).all pxOk) = false by rw [Hpt.out, ← Bool.and_assoc, hg]; rfl)
          clear hg
          go_wp2_with fail
          go_roundw
          case rel => exact ⟨j + 1, by omega, by go_num, by rw [Hn.out], Hbr.out.trans (Hbx.out.mono (by omega))⟩
          case measure => simp [intOf]; omega
        · have Hg := hid hg
          clear hg
          go_wp2_with fail
          refine (rnarrow_any xr _).mono ?_
          rintro e wa ⟨rfl, hba⟩
          have Hba := hid (Hbx.out.trans (hba.mono (by simp)))
          obtain ⟨hca, _⟩ := bcell hba
          have y1 := (hca wr.heap.size 1 (by simp)).trans ((Blk.new wr 62 _).cell 1)
          have y2 := (hca wr.heap.size 2 (by simp)).trans ((Blk.new wr 62 _).cell 2)
          have y3 := (hca wr.heap.size 3 (by simp)).trans ((Blk.new wr 62 _).cell 3)
          simp only [List.getElem?_toArray, List.getElem?_cons_zero, List.getElem?_cons_succ] at y1 y2 y3
          have hsa : wr.heap.size < wa.heap.size := by have := hba.size; simp at this; omega
          clear hba hca
          cases hr : narrowOk xr 8
          · have Hn := hid (show (palB f && (f.pal.take (j + 1)).all pxOk) = false by rw [Hpt.out, ← Bool.and_assoc, Hg.out, Hpx.out, hr]; rfl)
            clear hr
            go_wp2_with fail
            go_roundw
            case rel => exact ⟨j + 1, by omega, by go_num, by rw [Hn.out], Hbr.out.trans (Hba.out.mono (by omega))⟩
            case measure => simp [intOf]; omega
          have Hr := hid hr
          clear hr
          go_wp2_with fail
          refine (rnarrow_any xg _).mono ?_
          rintro e wb ⟨rfl, hbb⟩
          obtain ⟨hcb, _⟩ := bcell hbb
          have z2 := (hcb wr.heap.size 2 (by omega)).trans y2
          have z3 := (hcb wr.heap.size 3 (by omega)).trans y3
          have Hbb := hid (Hba.out.trans (hbb.mono (by omega)))
          have hsb := hbb.size
          clear hbb hcb y1 y2 y3
          cases hr : narrowOk xg 8
          · have Hn := hid (show (palB f && (f.pal.take (j + 1)).all pxOk) = false by rw [Hpt.out, ← Bool.and_assoc, Hg.out, Hpx.out, Hr.out, hr]; rfl)
            clear hr
            go_wp2_with fail
            go_roundw
            case rel => exact ⟨j + 1, by omega, by go_num, by rw [Hn.out], Hbr.out.trans (Hbb.out.mono (by omega))⟩
            case measure => simp [intOf]; omega
          have Hr2 := hid hr
          clear hr
          go_wp2_with fail
          refine (rnarrow_any xb _).mono ?_
          rintro e wc ⟨rfl, hbc⟩
          obtain ⟨hcc, _⟩ := bcell hbc
          have z4 := (hcc wr.heap.size 3 (by omega)).trans z3
          have Hbc := hid (Hbb.out.trans (hbc.mono (by omega)))
          have hsc := hbc.size
          clear hbc hcc z2 z3
          cases hr : narrowOk xb 8
          · have Hn := hid (show (palB f && (f.pal.take (j + 1)).all pxOk) = false by rw [Hpt.out, ← Bool.and_assoc, Hg.out, Hpx.out, Hr.out, Hr2.out, hr]; rfl)
            clear hr
            go_wp2_with fail
            go_roundw
            case rel => exact ⟨j + 1, by omega, by go_num, by rw [Hn.out], Hbr.out.trans (Hbc.out.mono (by omega))⟩
            case measure => simp [intOf]; omega
          have Hr3 := hid hr
          clear hr
          go_wp2_with fail
          refine (rnarrow_any xa _).mono ?_
          rintro e wd ⟨rfl, hbd⟩
          have Hbd := hid (Hbc.out.trans (hbd.mono (by omega)))
          clear hbd
          have Hn := hid (show (palB f && (f.pal.take (j + 1)).all pxOk) = narrowOk xa 8 by rw [Hpt.out, ← Bool.and_assoc, Hg.out, Hpx.out, Hr.out, Hr2.out, Hr3.out]; simp)
          generalize narrowOk xa 8 = na at *
          go_wp2_with fail
          go_roundw
          case rel => exact ⟨j + 1, by omega, by go_num, by rw [Hn.out], Hbr.out.trans (Hbd.out.mono (by omega))⟩
          case measure => simp [intOf]; omega
      · have e : j = f.pal.length := by omega
        subst e
        rw [List.take_length]
        obtain ⟨⟨q0, q1, q2, q3, q4⟩, q5, q6⟩ := hcr.out
        obtain ⟨p0, p1, p2, p3, p4⟩ := hhr.out
        have Hbw := hid (Hb.out.trans (Hbr.out.mono (by omega)))
        have Hgv : Hid (∃ G, (palB f && f.pal.all pxOk) = G) := ⟨_, rfl⟩
        obtain ⟨G, hG⟩ := Hgv.out
        rw [hG]
        have HG := hid hG
        clear hG Hgv Hbr
        by_cases hk0 : f.key.length = 0
        · have Hn := hid (show formOk f = G by rw [Hfo.out, HG.out]; unfold keysB; rw [decide_eq_true hk0]; simp)
          cases G
          · go_wp2_with fail
            go_ret
            exact fcEnd_no Hn.out Hbw.out
          · go_wp2_with fail
            go_ret
            exact fcEnd_yes Hn.out Hbw.out
        · have hkp : (0 : Int) < (f.key.length : Int) := by omega
          have Hks : Hid (keysB f = (decide (f.c = 0 ∨ f.c = 2) && decide ((f.key.length : Int) = chan f.c) && f.key.all (keyB f.d))) := by unfold Hid keysB; rw [decide_eq_false hk0]; simp
          have Hkr := hid (Hk.out.below Hbw.out (Nat.le_refl _))
          clear hk0
          have HFc := hcr
          have HHc := hhr
          generalize hwz : wr = wz at *
          clear hwz
          go_upto_region 14 with (fail)
          go_cut [5] from 66 to 85 (fun gv w => gv = .bool (G && (decide (f.c = 0 ∨ f.c = 2) && decide ((f.key.length : Int) = chan f.c))) ∧ ∃ n, w = wz.drewN n)
          case first =>
            cases G
            · go_quiet (fail)
              go_wp2
              go_meet
              exact ⟨by rw [Bool.false_and], nq, rfl⟩
            · by_cases c0 : f.c = 0
              · have e0 : (f.c == 0) = true := beq_iff_eq.2 c0
                have Hc := hid (show decide (f.c = 0 ∨ f.c = 2) = true from decide_eq_true (.inl c0))
                clear c0
                go_quiet ((go_at_call 31; exact Calls.quiet_of_same (channels_same _ _)))
                go_wp2
                go_meet
                exact ⟨by rw [Hc.out]; congr 1, nq, rfl⟩
              · have e0 : (f.c == 0) = false := beq_eq_false_iff_ne.2 c0
                by_cases c2 : f.c = 2
                · have e2 : (f.c == 2) = true := beq_iff_eq.2 c2
                  have Hc := hid (show decide (f.c = 0 ∨ f.c = 2) = true from decide_eq_true (.inr c2))
                  clear c0 c2
                  go_quiet ((go_at_call 31; exact Calls.quiet_of_same (channels_same _ _)))
                  go_wp2
                  go_meet
                  exact ⟨by rw [Hc.out]; congr 1, nq, rfl⟩
                · have e2 : (f.c == 2) = false := beq_eq_false_iff_ne.2 c2
                  have Hc := hid (show decide (f.c = 0 ∨ f.c = 2) = false from decide_eq_false (by omega))
                  clear c0 c2
                  go_quiet (fail)
                  go_wp2
                  go_meet
                  exact ⟨by rw [Hc.out]; rfl, nq, rfl⟩
          case rest =>
            obtain ⟨rfl, nd, rfl⟩ := hcut
            obtain ⟨K0, hK⟩ : ∃ K0, (G && (decide (f.c = 0 ∨ f.c = 2) && decide ((f.key.length : Int) = chan f.c))) = K0 := ⟨_, rfl⟩
            rw [hK]
            have Hfin := hid (show formOk f = (K0 && f.key.all (keyB f.d)) by rw [Hfo.out, HG.out, Hks.out, ← hK]; simp only [Bool.and_assoc])
            have Hby := hid (below_drewN Hbw.out nd)
            have Hky := hid (Hkr.out.drewN nd)
            have HHy : Hid (HC (wz.drewN nd) (W.heap.size + 1) f.w f.h f.d f.c f.l) := HHc.out
            have HFy : Hid (FC (wz.drewN nd) W.heap.size f PA KA pc kc) := HFc.out
            clear hK HG Hks Hbw Hkr
            generalize hwy : wz.drewN nd = wy at *
            clear hwy q0 q1 q2 q3 q4 q5 q6 p0 p1 p2 p3 p4
            obtain ⟨⟨q0, q1, q2, q3, q4⟩, q5, q6⟩ := HFy.out
            obtain ⟨p0, p1, p2, p3, p4⟩ := HHy.out
            go_wp2_with fail
            go_loop [5, 89] (fun gv i => ∃ j : Nat, j ≤ f.key.length ∧ i = .int .i64 j ∧ gv = .bool (K0 && (f.key.take j).all (keyB f.d))) (fun _ i => f.key.length - (intOf i).toNat)
            case atStart => exact ⟨0, by omega, rfl, by simp⟩
            case round =>
              obtain ⟨j, hj, rfl, rfl⟩ := hrel
              by_cases hlt : j < f.key.length
              · obtain ⟨b, off, rfl, hbb, x0⟩ := int_at Hky.out hlt
                have Hkt := hid (key_take f.d f.key j hlt)
                generalize f.key[j] = x at *
                cases hg : (K0 && (f.key.take j).all (keyB f.d))
                · have Hn := hid (show (K0 && (f.key.take (j + 1)).all (keyB f.d)) = false by rw [Hkt.out, ← Bool.and_assoc, hg]; rfl)
                  clear hg
                  go_wp2_with fail
                  go_round
                  case rel => exact ⟨j + 1, by omega, by go_num, by rw [Hn.out]⟩
                  case measure => simp [intOf]; omega
                · by_cases hx0 : 0 ≤ x
                  · have Hn := hid (show (K0 && (f.key.take (j + 1)).all (keyB f.d)) = (x / pw f.d == 0) by rw [Hkt.out, ← Bool.and_assoc, hg, Bool.true_and]; exact keyB_shift f.d x hx0)
                    have hsr : ∀ w : World, (Op.shift .shr .i64 x .i64 f.d).run Try.prog w = .ok (.int .i64 (x / pw f.d)) w := fun w => shr_deep Hd.out x w
                    have dx : decide (0 ≤ x) = true := decide_eq_true hx0
                    clear hg
                    go_wp2_with fail
                    go_round
                    case rel => exact ⟨j + 1, by omega, by go_num, by rw [Hn.out]⟩
                    case measure => simp [intOf]; omega
                  · have Hn := hid (show (K0 && (f.key.take (j + 1)).all (keyB f.d)) = false by rw [Hkt.out, ← Bool.and_assoc, hg, Bool.true_and]; exact decide_eq_false (fun h => hx0 h.1))
                    have dx : decide (0 ≤ x) = false := decide_eq_false hx0
                    clear hg
                    go_wp2_with fail
                    go_round
                    case rel => exact ⟨j + 1, by omega, by go_num, by rw [Hn.out]⟩
                    case measure => simp [intOf]; omega
              · have e : j = f.key.length := by omega
                subst e
                rw [List.take_length]
                cases hg : (K0 && f.key.all (keyB f.d))
                · have Hn := hid (Hfin.out.trans hg)
                  clear hg
                  go_wp2_with fail
                  go_ret
                  exact fcEnd_no Hn.out Hby.out
                · have Hn := hid (Hfin.out.trans hg)
                  clear hg
                  go_wp2_with fail
                  go_ret
                  exact fcEnd_yes Hn.out Hby.out

end Go.Proofs.Ytphhoihhmphbdaa
