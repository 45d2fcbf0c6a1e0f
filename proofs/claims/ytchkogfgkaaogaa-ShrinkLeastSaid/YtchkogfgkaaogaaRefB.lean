/-
  burnishref18.Good, Holds.
-/
import Derived.Test.YtchkogfgkaaogaaShC
import Derived.Deep.RegionHeld3
import Derived.Test.YtchkogfgkaaogaaRnums
import Derived.Test.YtchkogfgkaaogaaShPl
import Derived.Lib.QuietBelow
import Derived.BigQuiet
namespace Go.Proofs.Ytchkogfgkaaogaa
open Go.RowKit Go.Shelf

theorem sound_no {a0 a1 a2 a3 : Int} (h : a0 < 0 ∨ a1 < 0 ∨ a2 < 0 ∨ a3 < 0 ∨ 65535 < a0 ∨ 65535 < a1 ∨ 65535 < a2 ∨ 65535 < a3) : soundB (a0, a1, a2, a3) = false := by
  unfold soundB
  rw [List.all_eq_false]
  rcases h with h | h | h | h | h | h | h | h
  · exact ⟨a0, by simp, by simp; omega⟩
  · exact ⟨a1, by simp, by simp; omega⟩
  · exact ⟨a2, by simp, by simp; omega⟩
  · exact ⟨a3, by simp, by simp; omega⟩
  · exact ⟨a0, by simp, by simp; omega⟩
  · exact ⟨a1, by simp, by simp; omega⟩
  · exact ⟨a2, by simp, by simp; omega⟩
  · exact ⟨a3, by simp, by simp; omega⟩
theorem sound_yes {a0 a1 a2 a3 : Int} (h0 : ¬ a0 < 0) (h1 : ¬ a1 < 0) (h2 : ¬ a2 < 0) (h3 : ¬ a3 < 0) (h4 : ¬ 65535 < a0) (h5 : ¬ 65535 < a1) (h6 : ¬ 65535 < a2) (h7 : ¬ 65535 < a3) : soundB (a0, a1, a2, a3) = true := by
  unfold soundB
  simp
  omega
set_option maxRecDepth 100000 in
set_option maxHeartbeats 8000000 in
theorem rgood_any (x y : Int) (PA : Option Addr) (pc : Nat) (l : List Px) (W : World) (hp : RdP W W.heap.size PA l) (hm : l.length ≤ 1000000) :
    Calls Try.prog 9 #[.agg #[.int .i64 x, .int .i64 y, .slice PA l.length pc]] W fun e w' => e = .returned (.bool (rasOk x y l)) ∧ Below W.heap.size W w' := by
  have Hp := hid hp
  have Hw := hid (rcw_start x y PA l.length pc W)
  clear hp
  by_cases hh : headErr x y 8 0 0 = 0
  · obtain ⟨b1, b2, b3, b4, b5, _, _⟩ := headErr_bd hh
    have b6 : 0 ≤ x * y := Int.mul_nonneg (by omega) (by omega)
    have Hhh := hid hh
    clear hh
    go_enter Try.func9, Try.ntmps9
    go_wp2_with fail
    refine (refCheck_any x y 8 0 0 _).mono ?_
    rintro e w1 ⟨rfl, hb⟩
    rw [Hhh.out]
    have Hw1 := hid (Hw.out.below hb)
    have q0 := Hw1.out.1.cell 0
    have q1 := Hw1.out.1.cell 1
    have q2 := Hw1.out.1.cell 2
    simp only [List.getElem?_toArray, List.getElem?_cons_zero, List.getElem?_cons_succ] at q0 q1 q2
    clear hb Hw
    by_cases hn : (l.length : Int) = x * y
    · have hq : ((l.length : Int) != x * y) = false := by rw [bne_eq_false_iff_eq]; exact hn
      have Hro := hid (show rasOk x y l = l.all soundB by unfold rasOk; rw [decide_eq_true Hhh.out, decide_eq_true hn]; simp)
      clear hn
      go_wp2_with fail
      go_loopw [3] (fun i wr => ∃ j : Nat, j ≤ l.length ∧ i = .int .i64 j ∧ (l.take j).all soundB = true ∧ RcW wr W x y PA l.length pc) (fun i _ => l.length - (intOf i).toNat)
      case atStart => exact ⟨0, by omega, rfl, rfl, Hw1.out⟩
      case round =>
        obtain ⟨j, hj, rfl, hall, hwr⟩ := hrel
        have Hall := hid hall
        have Hwr := hid hwr
        clear hall hwr hq q0 q1 q2
        have q2 := Hwr.out.1.cell 2
        simp only [List.getElem?_toArray, List.getElem?_cons_zero, List.getElem?_cons_succ] at q2
        by_cases hlt : j < l.length
        · obtain ⟨b, off, hA, hbb, x0, x1, x2, x3⟩ := px_at (Rd.below Hp.out Hwr.out.2 (Nat.le_refl _)) hlt
          subst hA
          have Hst := hid (sound_take l j hlt)
          have Hno := hid (fun (h : soundB l[j] = false) => show rasOk x y l = false by
            rw [Hro.out, List.all_eq_false]
            exact ⟨l[j], List.getElem_mem hlt, by rw [h]; simp⟩)
          generalize l[j] = p at *
          obtain ⟨a0, a1, a2, a3⟩ := p
          simp only at x0 x1 x2 x3
          have Hwx := hid (Hwr.out.alloc (.cells #[.int .i64 a0, .int .i64 a1, .int .i64 a2, .int .i64 a3] 69))
          by_cases h0 : a0 < 0
          · have Hn := hid (Hno.out (sound_no (by omega)))
            have d0 : decide (a0 < 0) = true := decide_eq_true h0
            go_wp2
            go_ret
            exact ⟨by rw [Hn.out]; first | done | rfl, Hwx.out.2⟩
          have d0 : decide (a0 < 0) = false := decide_eq_false h0
          by_cases h1 : a1 < 0
          · have Hn := hid (Hno.out (sound_no (by omega)))
            have d1 : decide (a1 < 0) = true := decide_eq_true h1
            go_wp2
            go_ret
            exact ⟨by rw [Hn.out]; first | done | rfl, Hwx.out.2⟩
          have d1 : decide (a1 < 0) = false := decide_eq_false h1
          by_cases h2 : a2 < 0
          · have Hn := hid (Hno.out (sound_no (by omega)))
            have d2 : decide (a2 < 0) = true := decide_eq_true h2
            go_wp2
            go_ret
            exact ⟨by rw [Hn.out]; first | done | rfl, Hwx.out.2⟩
          have d2 : decide (a2 < 0) = false := decide_eq_false h2
          by_cases h3 : a3 < 0
          · have Hn := hid (Hno.out (sound_no (by omega)))
            have d3 : decide (a3 < 0) = true := decide_eq_true h3
            go_wp2
            go_ret
            exact ⟨by rw [Hn.out]; first | done | rfl, Hwx.out.2⟩
          have d3 : decide (a3 < 0) = false := decide_eq_false h3
          by_cases h4 : 65535 < a0
          · have Hn := hid (Hno.out (sound_no (by omega)))
            have d4 : decide (65535 < a0) = true := decide_eq_true h4
            go_wp2
            go_ret
            exact ⟨by rw [Hn.out]; first | done | rfl, Hwx.out.2⟩
          have d4 : decide (65535 < a0) = false := decide_eq_false h4
          by_cases h5 : 65535 < a1
          · have Hn := hid (Hno.out (sound_no (by omega)))
            have d5 : decide (65535 < a1) = true := decide_eq_true h5
            go_wp2
            go_ret
            exact ⟨by rw [Hn.out]; first | done | rfl, Hwx.out.2⟩
          have d5 : decide (65535 < a1) = false := decide_eq_false h5
          by_cases h6 : 65535 < a2
          · have Hn := hid (Hno.out (sound_no (by omega)))
            have d6 : decide (65535 < a2) = true := decide_eq_true h6
            go_wp2
            go_ret
            exact ⟨by rw [Hn.out]; first | done | rfl, Hwx.out.2⟩
          have d6 : decide (65535 < a2) = false := decide_eq_false h6
          by_cases h7 : 65535 < a3
          · have Hn := hid (Hno.out (sound_no (by omega)))
            have d7 : decide (65535 < a3) = true := decide_eq_true h7
            go_wp2
            go_ret
            exact ⟨by rw [Hn.out]; first | done | rfl, Hwx.out.2⟩
          have d7 : decide (65535 < a3) = false := decide_eq_false h7
          have Hal := hid (show (l.take (j + 1)).all soundB = true by rw [Hst.out, Hall.out, sound_yes h0 h1 h2 h3 h4 h5 h6 h7]; rfl)
          clear h0 h1 h2 h3 h4 h5 h6 h7
          go_wp2
          go_roundw
          case rel => exact ⟨j + 1, by omega, by go_num, Hal.out, Hwx.out⟩
          case measure => simp [intOf]; omega
        · have e : j = l.length := by omega
          have Hn := hid (show rasOk x y l = true by rw [Hro.out]; have := Hall.out; rwa [e, List.take_length] at this)
          go_wp2
          go_ret
          exact ⟨by rw [Hn.out]; first | done | rfl, Hwr.out.2⟩
    · have hq : ((l.length : Int) != x * y) = true := bne_iff_ne.2 hn
      have Hro := hid (show rasOk x y l = false by unfold rasOk; rw [decide_eq_false hn]; simp)
      clear hn
      go_wp2
      go_ret
      exact ⟨by rw [Hro.out]; first | done | rfl, Hw1.out.2⟩
  · have Hro := hid (show rasOk x y l = false by unfold rasOk; rw [decide_eq_false hh]; rfl)
    have Hv := hid (show headErr x y 8 0 0 = 2 ∨ headErr x y 8 0 0 = 4 by have := headErr_vals x y 8 0 0; omega)
    clear hh
    go_enter Try.func9, Try.ntmps9
    go_wp2_with fail
    refine (refCheck_any x y 8 0 0 _).mono ?_
    rintro e w1 ⟨rfl, hb⟩
    have Hw1 := hid (Hw.out.below hb)
    clear hb Hw
    rcases Hv.out with h | h
    all_goals
      rw [h]
      clear h
      go_wp2
      go_ret
      exact ⟨by rw [Hro.out]; first | done | rfl, Hw1.out.2⟩

/-- a form of the reference, boxed -/
def RbW (w W : World) (f : Fm) (PA KA : Option Addr) (pc kc : Nat) : Prop := Blk w W.heap.size 29 #[.int .i64 f.w, .int .i64 f.h, .int .i64 f.d, .int .i64 f.c, .int .i64 f.l, .slice PA f.pal.length pc, .slice KA f.key.length kc] ∧ Below W.heap.size W w
section
variable {w w' W : World} {f : Fm} {PA KA : Option Addr} {pc kc : Nat}
theorem rbw_start (f : Fm) (PA KA : Option Addr) (pc kc : Nat) (W : World) : RbW (W.alloc (.cells #[.int .i64 f.w, .int .i64 f.h, .int .i64 f.d, .int .i64 f.c, .int .i64 f.l, .slice PA f.pal.length pc, .slice KA f.key.length kc] 29)) W f PA KA pc kc := ⟨Blk.new _ _ _, (Below.refl _ _).alloc (Nat.le_refl _) _⟩
theorem RbW.below (h : RbW w W f PA KA pc kc) (hb : Below w.heap.size w w') : RbW w' W f PA KA pc kc := ⟨h.1.below hb h.1.lt, h.2.trans (hb.mono h.2.size)⟩
theorem RbW.alloc (h : RbW w W f PA KA pc kc) (o : Obj) : RbW (w.alloc o) W f PA KA pc kc := ⟨h.1.alloc o, h.2.alloc h.2.size o⟩
theorem RbW.rdp (h : RbW w W f PA KA pc kc) (hp : RdP W W.heap.size PA f.pal) : RdP w w.heap.size PA f.pal := (Rd.below hp h.2 (Nat.le_refl _)).more h.2.size
theorem RbW.rdi (h : RbW w W f PA KA pc kc) (hk : RdI W W.heap.size KA f.key) : RdI w w.heap.size KA f.key := (RdI.below hk h.2 (Nat.le_refl _)).more h.2.size
theorem RbW.rdx {A : Option Addr} {l : List Px} (h : RbW w W f PA KA pc kc) (hp : RdP W W.heap.size A l) : RdP w w.heap.size A l := (Rd.below hp h.2 (Nat.le_refl _)).more h.2.size
end
theorem fn_ok {f : Fm} (hf : formOk f = true) (p : Px) : fnumsOf f p = numsOf f p := by unfold fnumsOf; rw [if_pos hf]
theorem fits_no {f : Fm} {l : List Px} (hf : formOk f = false) : fitsB f l = false := by unfold fitsB; rw [hf, Bool.and_false]
/-- a pixel's numbers, whatever becomes of them: a region that draws may call for them -/
def numV (o : Option (List Int)) (A : Option Addr) (c : Nat) : Value := match o with
  | some l => .tuple #[.slice A l.length c, .bool true]
  | none => .tuple #[.slice none 0 0, .bool false]

set_option maxRecDepth 100000 in
set_option maxHeartbeats 8000000 in
theorem rholds_any (f : Fm) (PA KA A : Option Addr) (pc kc c : Nat) (l : List Px) (W : World) (hp : RdP W W.heap.size PA f.pal) (hk : RdI W W.heap.size KA f.key) (hpm : f.pal.length ≤ 1000000) (hkm : f.key.length ≤ 1000000) (hl : RdP W W.heap.size A l) (hm : l.length ≤ 1000000) :
    Calls Try.prog 10 #[.agg #[.int .i64 f.w, .int .i64 f.h, .int .i64 f.d, .int .i64 f.c, .int .i64 f.l, .slice PA f.pal.length pc, .slice KA f.key.length kc], .slice A l.length c] W fun e w' => e = .returned (.bool (fitsB f l)) ∧ Below W.heap.size W w' := by
  have Hp := hid hp
  have Hk := hid hk
  have Hl := hid hl
  have Hw := hid (rbw_start f PA KA pc kc W)
  clear hp hk hl
  go_enter Try.func10, Try.ntmps10
  go_wp2_with fail
  refine (good_form f PA KA pc kc _ (Hw.out.rdp Hp.out) (Hw.out.rdi Hk.out) hpm hkm).mono ?_
  rintro e w1 ⟨rfl, hb⟩
  have Hw1 := hid (Hw.out.below hb)
  clear hb Hw
  cases hf : formOk f
  · have Hn := hid (fits_no (l := l) hf)
    clear hf
    go_wp2
    go_ret
    exact ⟨by rw [Hn.out]; first | done | rfl, Hw1.out.2⟩
  · have Hf := hid hf
    have Hfd := hid (show fitsB f l = l.all (fun p => (numsOf f p).isSome) by
      unfold fitsB
      rw [hf, Bool.and_true]
      congr 1
      funext p
      rw [fn_ok hf])
    clear hf
    go_upto_region 4 with (fail)
    go_loopw [5] (fun i wr => ∃ j : Nat, j ≤ l.length ∧ i = .int .i64 j ∧ (l.take j).all (fun p => (numsOf f p).isSome) = true ∧ RbW wr W f PA KA pc kc) (fun i _ => l.length - (intOf i).toNat)
    case atStart => exact ⟨0, by omega, rfl, rfl, Hw1.out⟩
    case round =>
      obtain ⟨j, hj, rfl, hall, hwr⟩ := hrel
      have Hall := hid hall
      have Hwr := hid hwr
      clear hall hwr Hw1
      by_cases hlt : j < l.length
      · obtain ⟨b, off, hA, hbb, x0, x1, x2, x3⟩ := px_at (Rd.below Hl.out Hwr.out.2 (Nat.le_refl _)) hlt
        subst hA
        have Hst := hid (show (l.take (j + 1)).all (fun p => (numsOf f p).isSome) = ((l.take j).all (fun p => (numsOf f p).isSome) && (numsOf f l[j]).isSome) by
          rw [List.take_succ_eq_append_getElem hlt, List.all_append]; simp)
        have Hno := hid (fun (h : (numsOf f l[j]).isSome = false) => show fitsB f l = false by
          rw [Hfd.out, List.all_eq_false]
          exact ⟨l[j], List.getElem_mem hlt, by show ¬ ((numsOf f l[j]).isSome = true); rw [h]; simp⟩)
        generalize l[j] = p at *
        obtain ⟨a0, a1, a2, a3⟩ := p
        simp only at x0 x1 x2 x3
        have q0 := Hwr.out.1.cell 0
        have q1 := Hwr.out.1.cell 1
        have q2 := Hwr.out.1.cell 2
        have q3 := Hwr.out.1.cell 3
        have q4 := Hwr.out.1.cell 4
        have q5 := Hwr.out.1.cell 5
        have q6 := Hwr.out.1.cell 6
        simp only [List.getElem?_toArray, List.getElem?_cons_zero, List.getElem?_cons_succ] at q0 q1 q2 q3 q4 q5 q6
        have HD : Hid (RbW wr.drew W f PA KA pc kc) := hid ⟨Hwr.out.1.drew, Hwr.out.2.drew⟩
        cases hn : numsOf f (a0, a1, a2, a3) with
        | none =>
          have Hn := hid (Hno.out (by rw [hn]; rfl))
          have Hnn := hid hn
          clear hn
          go_upto_region 6 with (fail)
          go_region_held3 (fun w' => w'.cell? ⟨W.heap.size, 0, none⟩ = some (.int .i64 f.w) ∧ w'.cell? ⟨W.heap.size, 1, none⟩ = some (.int .i64 f.h) ∧ w'.cell? ⟨W.heap.size, 2, none⟩ = some (.int .i64 f.d) ∧ w'.cell? ⟨W.heap.size, 3, none⟩ = some (.int .i64 f.c) ∧ w'.cell? ⟨W.heap.size, 4, none⟩ = some (.int .i64 f.l) ∧ w'.cell? ⟨W.heap.size, 5, none⟩ = some (.slice PA f.pal.length pc) ∧ w'.cell? ⟨W.heap.size, 6, none⟩ = some (.slice KA f.key.length kc) ∧ w'.cell? ⟨b, off + j * 4, none⟩ = some (.int .i64 a0) ∧ w'.cell? ⟨b, off + j * 4 + 1, none⟩ = some (.int .i64 a1) ∧ w'.cell? ⟨b, off + j * 4 + 2, none⟩ = some (.int .i64 a2) ∧ w'.cell? ⟨b, off + j * 4 + 3, none⟩ = some (.int .i64 a3)) (first | go_keep | exact ⟨q0, q1, q2, q3, q4, q5, q6, x0, x1, x2, x3⟩ | exact K2.out) (first
            | (go_at_call 35; refine (rnums_any f PA KA pc kc a0 a1 a2 a3 _ Hf.out (HD.out.rdp Hp.out) (HD.out.rdi Hk.out) hpm).mono ?_; rintro e2 w2 h2; rw [Hnn.out] at h2; obtain ⟨rfl, hb2⟩ := h2; have H2 := hid (HD.out.below hb2); have K2 : Hid (w2.cell? ⟨W.heap.size, 0, none⟩ = some (.int .i64 f.w) ∧ w2.cell? ⟨W.heap.size, 1, none⟩ = some (.int .i64 f.h) ∧ w2.cell? ⟨W.heap.size, 2, none⟩ = some (.int .i64 f.d) ∧ w2.cell? ⟨W.heap.size, 3, none⟩ = some (.int .i64 f.c) ∧ w2.cell? ⟨W.heap.size, 4, none⟩ = some (.int .i64 f.l) ∧ w2.cell? ⟨W.heap.size, 5, none⟩ = some (.slice PA f.pal.length pc) ∧ w2.cell? ⟨W.heap.size, 6, none⟩ = some (.slice KA f.key.length kc) ∧ w2.cell? ⟨b, off + j * 4, none⟩ = some (.int .i64 a0) ∧ w2.cell? ⟨b, off + j * 4 + 1, none⟩ = some (.int .i64 a1) ∧ w2.cell? ⟨b, off + j * 4 + 2, none⟩ = some (.int .i64 a2) ∧ w2.cell? ⟨b, off + j * 4 + 3, none⟩ = some (.int .i64 a3)) := hid (by obtain ⟨hcb, _⟩ := bcell hb2; have hbs : b < wr.drew.heap.size := Nat.lt_of_lt_of_le hbb Hwr.out.2.size; have hgs := HD.out.1.lt; exact ⟨(hcb _ _ hgs).trans q0, (hcb _ _ hgs).trans q1, (hcb _ _ hgs).trans q2, (hcb _ _ hgs).trans q3, (hcb _ _ hgs).trans q4, (hcb _ _ hgs).trans q5, (hcb _ _ hgs).trans q6, (hcb _ _ hbs).trans x0, (hcb _ _ hbs).trans x1, (hcb _ _ hbs).trans x2, (hcb _ _ hbs).trans x3⟩); clear hb2))
          all_goals
            go_wp2
            go_ret
            exact ⟨by rw [Hn.out]; first | done | rfl, H2.out.2⟩
        | some ns =>
          have Hal := hid (show (l.take (j + 1)).all (fun p => (numsOf f p).isSome) = true by rw [Hst.out, Hall.out, hn]; rfl)
          have Hnn := hid hn
          clear hn
          go_upto_region 6 with (fail)
          go_region_held3 (fun w' => w'.cell? ⟨W.heap.size, 0, none⟩ = some (.int .i64 f.w) ∧ w'.cell? ⟨W.heap.size, 1, none⟩ = some (.int .i64 f.h) ∧ w'.cell? ⟨W.heap.size, 2, none⟩ = some (.int .i64 f.d) ∧ w'.cell? ⟨W.heap.size, 3, none⟩ = some (.int .i64 f.c) ∧ w'.cell? ⟨W.heap.size, 4, none⟩ = some (.int .i64 f.l) ∧ w'.cell? ⟨W.heap.size, 5, none⟩ = some (.slice PA f.pal.length pc) ∧ w'.cell? ⟨W.heap.size, 6, none⟩ = some (.slice KA f.key.length kc) ∧ w'.cell? ⟨b, off + j * 4, none⟩ = some (.int .i64 a0) ∧ w'.cell? ⟨b, off + j * 4 + 1, none⟩ = some (.int .i64 a1) ∧ w'.cell? ⟨b, off + j * 4 + 2, none⟩ = some (.int .i64 a2) ∧ w'.cell? ⟨b, off + j * 4 + 3, none⟩ = some (.int .i64 a3)) (first | go_keep | exact ⟨q0, q1, q2, q3, q4, q5, q6, x0, x1, x2, x3⟩ | exact K2.out) (first
            | (go_at_call 35; refine (rnums_any f PA KA pc kc a0 a1 a2 a3 _ Hf.out (HD.out.rdp Hp.out) (HD.out.rdi Hk.out) hpm).mono ?_; rintro e2 w2 h2; rw [Hnn.out] at h2; obtain ⟨⟨NA, nc, rfl, _⟩, hb2⟩ := h2; have H2 := hid (HD.out.below hb2); have K2 : Hid (w2.cell? ⟨W.heap.size, 0, none⟩ = some (.int .i64 f.w) ∧ w2.cell? ⟨W.heap.size, 1, none⟩ = some (.int .i64 f.h) ∧ w2.cell? ⟨W.heap.size, 2, none⟩ = some (.int .i64 f.d) ∧ w2.cell? ⟨W.heap.size, 3, none⟩ = some (.int .i64 f.c) ∧ w2.cell? ⟨W.heap.size, 4, none⟩ = some (.int .i64 f.l) ∧ w2.cell? ⟨W.heap.size, 5, none⟩ = some (.slice PA f.pal.length pc) ∧ w2.cell? ⟨W.heap.size, 6, none⟩ = some (.slice KA f.key.length kc) ∧ w2.cell? ⟨b, off + j * 4, none⟩ = some (.int .i64 a0) ∧ w2.cell? ⟨b, off + j * 4 + 1, none⟩ = some (.int .i64 a1) ∧ w2.cell? ⟨b, off + j * 4 + 2, none⟩ = some (.int .i64 a2) ∧ w2.cell? ⟨b, off + j * 4 + 3, none⟩ = some (.int .i64 a3)) := hid (by obtain ⟨hcb, _⟩ := bcell hb2; have hbs : b < wr.drew.heap.size := Nat.lt_of_lt_of_le hbb Hwr.out.2.size; have hgs := HD.out.1.lt; exact ⟨(hcb _ _ hgs).trans q0, (hcb _ _ hgs).trans q1, (hcb _ _ hgs).trans q2, (hcb _ _ hgs).trans q3, (hcb _ _ hgs).trans q4, (hcb _ _ hgs).trans q5, (hcb _ _ hgs).trans q6, (hcb _ _ hbs).trans x0, (hcb _ _ hbs).trans x1, (hcb _ _ hbs).trans x2, (hcb _ _ hbs).trans x3⟩); clear hb2))
          all_goals
            go_wp2
            go_roundw
            case rel => exact ⟨j + 1, by omega, by go_num, Hal.out, H2.out⟩
            case measure => simp [intOf]; omega
      · have e : j = l.length := by omega
        have Hn := hid (show fitsB f l = true by rw [Hfd.out]; have := Hall.out; rwa [e, List.take_length] at this)
        go_wp2
        go_ret
        exact ⟨by rw [Hn.out]; first | done | rfl, Hwr.out.2⟩

end Go.Proofs.Ytchkogfgkaaogaa
