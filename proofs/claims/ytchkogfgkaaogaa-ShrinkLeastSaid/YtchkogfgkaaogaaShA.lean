/-
  shrink.sound, Check, depths, plain.
-/
import Derived.Test.YtchkogfgkaaogaaNumIdx
import Derived.Test.YtchkogfgkaaogaaNums
namespace Go.Proofs.Ytchkogfgkaaogaa
open Go.RowKit

def soundB (p : Px) : Bool := [p.1, p.2.1, p.2.2.1, p.2.2.2].all (fun n => decide (0 ≤ n ∧ n ≤ 65535))
theorem sound_any (a0 a1 a2 a3 : Int) (W : World) :
    Calls Try.prog 115 #[.agg #[.int .i64 a0, .int .i64 a1, .int .i64 a2, .int .i64 a3]] W fun e w' => e = .returned (.bool (soundB (a0, a1, a2, a3))) ∧ Below W.heap.size W w' := by
  have Hs : Hid (soundB (a0, a1, a2, a3) = [a0, a1, a2, a3].all (fun n => decide (0 ≤ n ∧ n ≤ 65535))) := rfl
  have Hr := hid (show RdI ((W.alloc (.cells #[.int .i64 a0, .int .i64 a1, .int .i64 a2, .int .i64 a3] 69)).alloc (.cells #[.int .i64 a0, .int .i64 a1, .int .i64 a2, .int .i64 a3] 3)) (W.heap.size + 1 + 1) (some ⟨W.heap.size + 1, 0, none⟩) [a0, a1, a2, a3] by
    have h := RdI.new (w := W.alloc (.cells #[.int .i64 a0, .int .i64 a1, .int .i64 a2, .int .i64 a3] 69)) (t := 3) (l := [a0, a1, a2, a3]) rfl
    simpa using h)
  have Hl := hid (show [a0, a1, a2, a3].length = 4 from rfl)
  have Hb := hid (show Below W.heap.size W ((W.alloc (.cells #[.int .i64 a0, .int .i64 a1, .int .i64 a2, .int .i64 a3] 69)).alloc (.cells #[.int .i64 a0, .int .i64 a1, .int .i64 a2, .int .i64 a3] 3)) from ((Below.refl _ _).alloc (Nat.le_refl _) _).alloc (by simp) _)
  go_enter Try.func115, Try.ntmps115
  go_upto_region 2 with (fail)
  generalize (W.alloc (.cells #[.int .i64 a0, .int .i64 a1, .int .i64 a2, .int .i64 a3] 69)).alloc (.cells #[.int .i64 a0, .int .i64 a1, .int .i64 a2, .int .i64 a3] 3) = wz at *
  generalize [a0, a1, a2, a3] = l at *
  go_loop [15] (fun i => ∃ j : Nat, j ≤ 4 ∧ i = .int .i64 j ∧ (l.take j).all (fun n => decide (0 ≤ n ∧ n ≤ 65535)) = true) (fun i => 4 - (intOf i).toNat)
  case atStart => exact ⟨0, by omega, rfl, rfl⟩
  case round =>
    obtain ⟨j, hj, rfl, hall⟩ := hrel
    have Hall := hid hall
    clear hall
    by_cases hlt : j < 4
    · have hlt' : j < l.length := by rw [Hl.out]; exact hlt
      obtain ⟨b, off, hA, hbb, q0⟩ := int_at Hr.out hlt'
      simp only [Option.some.injEq, Addr.mk.injEq] at hA
      obtain ⟨rfl, rfl, _⟩ := hA
      simp only [Nat.zero_add] at q0
      have Hat := hid (all_take l (fun n => decide (0 ≤ n ∧ n ≤ 65535)) j hlt')
      have Hno := hid (fun (h : decide (0 ≤ l[j] ∧ l[j] ≤ 65535) = false) => show soundB (a0, a1, a2, a3) = false by
        rw [Hs.out, List.all_eq_false]
        exact ⟨l[j], List.getElem_mem hlt', by rw [h]; simp⟩)
      generalize l[j] = x at *
      by_cases h0 : x < 0
      · have Hn := hid (Hno.out (decide_eq_false (fun h => by omega)))
        have d0 : decide (x < 0) = true := decide_eq_true h0
        clear hlt'
        go_wp2
        go_ret
        exact ⟨by rw [Hn.out]; rfl, Hb.out⟩
      have d0 : decide (x < 0) = false := decide_eq_false h0
      by_cases h1 : 65535 < x
      · have Hn := hid (Hno.out (decide_eq_false (fun h => by omega)))
        have d1 : decide (65535 < x) = true := decide_eq_true h1
        clear hlt'
        go_wp2
        go_ret
        exact ⟨by rw [Hn.out]; rfl, Hb.out⟩
      · have d1 : decide (65535 < x) = false := decide_eq_false h1
        have Hal := hid (show (l.take (j + 1)).all (fun n => decide (0 ≤ n ∧ n ≤ 65535)) = true by rw [Hat.out, Hall.out, decide_eq_true (by omega)]; rfl)
        clear hlt'
        go_wp2
        go_round
        case rel => exact ⟨j + 1, by omega, by go_num, Hal.out⟩
        case measure => simp [intOf]; omega
    · have e : j = 4 := by omega
      have Hn := hid (show soundB (a0, a1, a2, a3) = true by rw [Hs.out]; have := Hall.out; rwa [e, ← Hl.out, List.take_length] at this)
      go_wp2
      go_ret
      exact ⟨by rw [Hn.out]; rfl, Hb.out⟩

/-- is it a raster? -/
def rasOk (w h : Int) (l : List Px) : Bool := decide (headErr w h 8 0 0 = 0) && decide ((l.length : Int) = w * h) && l.all soundB
def ScEnd (w h : Int) (l : List Px) (W : World) (e : Ending) (w' : World) : Prop := e = .returned (errv (if rasOk w h l = true then 0 else 6)) ∧ Below W.heap.size W w'
theorem scEnd_no {w h : Int} {l : List Px} {W w' : World} (hr : rasOk w h l = false) (hb : Below W.heap.size W w') : ScEnd w h l W (.returned (.iface 50 (.int .i64 6))) w' := by unfold ScEnd; rw [hr]; exact ⟨rfl, hb⟩
theorem scEnd_yes {w h : Int} {l : List Px} {W w' : World} (hr : rasOk w h l = true) (hb : Below W.heap.size W w') : ScEnd w h l W (.returned .nilIface) w' := by unfold ScEnd; rw [hr]; exact ⟨rfl, hb⟩
/-- a raster, boxed -/
def RcW (w W : World) (x y : Int) (PA : Option Addr) (n pc : Nat) : Prop := Blk w W.heap.size 24 #[.int .i64 x, .int .i64 y, .slice PA n pc] ∧ Below W.heap.size W w
section
variable {w w' W : World} {x y : Int} {PA : Option Addr} {n pc : Nat}
theorem rcw_start (x y : Int) (PA : Option Addr) (n pc : Nat) (W : World) : RcW (W.alloc (.cells #[.int .i64 x, .int .i64 y, .slice PA n pc] 24)) W x y PA n pc := ⟨Blk.new _ _ _, (Below.refl _ _).alloc (Nat.le_refl _) _⟩
theorem RcW.below (h : RcW w W x y PA n pc) (hb : Below w.heap.size w w') : RcW w' W x y PA n pc := ⟨h.1.below hb h.1.lt, h.2.trans (hb.mono h.2.size)⟩
theorem RcW.alloc (h : RcW w W x y PA n pc) (o : Obj) : RcW (w.alloc o) W x y PA n pc := ⟨h.1.alloc o, h.2.alloc h.2.size o⟩
theorem RcW.drewN (h : RcW w W x y PA n pc) (k : Nat) : RcW (w.drewN k) W x y PA n pc := ⟨h.1, below_drewN h.2 k⟩
end
theorem sound_take (l : List Px) (j : Nat) (hj : j < l.length) : (l.take (j + 1)).all soundB = ((l.take j).all soundB && soundB l[j]) := by
  rw [List.take_succ_eq_append_getElem hj, List.all_append]; simp
theorem headErr_bd {w h d c l : Int} (hh : headErr w h d c l = 0) : 1 ≤ w ∧ w ≤ 65535 ∧ 1 ≤ h ∧ h ≤ 65535 ∧ w * h ≤ 262144 ∧ 0 ≤ l ∧ l ≤ 1 := by
  unfold headErr at hh
  split at hh
  · cases hh
  · split at hh
    · cases hh
    · omega

set_option maxRecDepth 100000 in
set_option maxHeartbeats 4000000 in
theorem scheck_any (x y : Int) (PA : Option Addr) (pc : Nat) (l : List Px) (W : World) (hp : RdP W W.heap.size PA l) (hm : l.length ≤ 1000000) :
    Calls Try.prog 71 #[.agg #[.int .i64 x, .int .i64 y, .slice PA l.length pc]] W (ScEnd x y l W) := by
  have Hp := hid hp
  have Hw := hid (rcw_start x y PA l.length pc W)
  have Hh := hid (Blk.new (W.alloc (.cells #[.int .i64 x, .int .i64 y, .slice PA l.length pc] 24)) 26 #[.int .i64 x, .int .i64 y, .int .i64 8, .int .i64 0, .int .i64 0])
  clear hp
  by_cases hh : headErr x y 8 0 0 = 0
  · obtain ⟨b1, b2, b3, b4, b5, _, _⟩ := headErr_bd hh
    have b6 : 0 ≤ x * y := Int.mul_nonneg (by omega) (by omega)
    have Hhh := hid hh
    clear hh
    go_enter Try.func71, Try.ntmps71
    go_wp2_with fail
    refine (headCheck_any x y 8 0 0 _).mono ?_
    rintro e w1 ⟨rfl, hb⟩
    rw [Hhh.out, errv_0]
    have Hw1 := hid ((Hw.out.alloc _).below hb)
    have q0 := Hw1.out.1.cell 0
    have q1 := Hw1.out.1.cell 1
    have q2 := Hw1.out.1.cell 2
    simp only [List.getElem?_toArray, List.getElem?_cons_zero, List.getElem?_cons_succ] at q0 q1 q2
    clear hb Hw Hh
    by_cases hn : (l.length : Int) = x * y
    · have hq : ((l.length : Int) != x * y) = false := by rw [bne_eq_false_iff_eq]; exact hn
      have Hro := hid (show rasOk x y l = l.all soundB by unfold rasOk; rw [decide_eq_true Hhh.out, decide_eq_true hn]; simp)
      clear hn
      go_wp2_with fail
      go_loopw [29] (fun i wr => ∃ j : Nat, j ≤ l.length ∧ i = .int .i64 j ∧ (l.take j).all soundB = true ∧ RcW wr W x y PA l.length pc) (fun i _ => l.length - (intOf i).toNat)
      case atStart => exact ⟨0, by omega, rfl, rfl, Hw1.out⟩
      case round =>
        obtain ⟨j, hj, rfl, hall, hwr⟩ := hrel
        have Hall := hid hall
        have Hwr := hid hwr
        clear hall hwr hq q0 q1 q2
        by_cases hlt : j < l.length
        · obtain ⟨b, off, rfl, hbb, x0, x1, x2, x3⟩ := px_at (Rd.below Hp.out Hwr.out.2 (Nat.le_refl _)) hlt
          have Hst := hid (sound_take l j hlt)
          have Hno := hid (fun (h : soundB l[j] = false) => show rasOk x y l = false by
            rw [Hro.out, List.all_eq_false]
            exact ⟨l[j], List.getElem_mem hlt, by rw [h]; simp⟩)
          generalize l[j] = p at *
          obtain ⟨p0, p1, p2, p3⟩ := p
          simp only at x0 x1 x2 x3
          go_wp2_with fail
          refine (sound_any p0 p1 p2 p3 _).mono ?_
          rintro e w2 ⟨rfl, hb⟩
          have Hw2 := hid ((Hwr.out.alloc _).below hb)
          clear hb
          cases hs : soundB (p0, p1, p2, p3)
          · have Hn := hid (Hno.out hs)
            clear hs
            go_wp2
            go_ret
            exact scEnd_no Hn.out Hw2.out.2
          · have Hal := hid (show (l.take (j + 1)).all soundB = true by rw [Hst.out, Hall.out, hs]; rfl)
            clear hs
            go_wp2
            go_roundw
            case rel => exact ⟨j + 1, by omega, by go_num, Hal.out, Hw2.out⟩
            case measure => simp [intOf]; omega
        · have e : j = l.length := by omega
          have Hn := hid (show rasOk x y l = true by rw [Hro.out]; have := Hall.out; rwa [e, List.take_length] at this)
          go_wp2
          go_ret
          exact scEnd_yes Hn.out Hwr.out.2
    · have hq : ((l.length : Int) != x * y) = true := bne_iff_ne.2 hn
      have Hro := hid (show rasOk x y l = false by unfold rasOk; rw [decide_eq_false hn]; simp)
      clear hn
      go_wp2
      go_ret
      exact scEnd_no Hro.out Hw1.out.2
  · have Hro := hid (show rasOk x y l = false by unfold rasOk; rw [decide_eq_false hh]; rfl)
    have Hv := hid (show headErr x y 8 0 0 = 2 ∨ headErr x y 8 0 0 = 4 by have := headErr_vals x y 8 0 0; omega)
    clear hh
    go_enter Try.func71, Try.ntmps71
    go_wp2_with fail
    refine (headCheck_any x y 8 0 0 _).mono ?_
    rintro e w1 ⟨rfl, hb⟩
    have Hw1 := hid ((Hw.out.alloc _).below hb)
    clear hb Hw Hh
    rcases Hv.out with h | h
    all_goals
      rw [h]
      simp only [errv_2, errv_4]
      clear h
      go_wp2
      go_ret
      exact scEnd_no Hro.out Hw1.out.2

/-- the depths that are tried -/
def depthsM (c : Int) : List Int := if c = 0 then [1, 2, 4, 8, 16] else if c = 3 then [1, 2, 4, 8] else [8, 16]
theorem sdepths_any (c : Int) (W : World) :
    Calls Try.prog 116 #[.int .i64 c] W fun e w' => ∃ cc, e = .returned (.slice (some ⟨W.heap.size, 0, none⟩) (depthsM c).length cc) ∧ RdI w' w'.heap.size (some ⟨W.heap.size, 0, none⟩) (depthsM c) ∧ Below W.heap.size W w' := by
  by_cases h0 : c = 0
  · subst h0
    go_enter Try.func116, Try.ntmps116
    go_wp2
    go_ret
    exact ⟨5, rfl, by show RdI _ _ _ [1, 2, 4, 8, 16]; have h := RdI.new (w := W) (t := 3) (l := [1, 2, 4, 8, 16]) rfl; simpa using h, (Below.refl _ _).alloc (Nat.le_refl _) _⟩
  have e0 : (c == 0) = false := beq_eq_false_iff_ne.2 h0
  by_cases h3 : c = 3
  · subst h3
    clear h0 e0
    go_enter Try.func116, Try.ntmps116
    go_wp2
    go_ret
    exact ⟨4, rfl, by show RdI _ _ _ [1, 2, 4, 8]; have h := RdI.new (w := W) (t := 3) (l := [1, 2, 4, 8]) rfl; simpa using h, (Below.refl _ _).alloc (Nat.le_refl _) _⟩
  · have e3 : (c == 3) = false := beq_eq_false_iff_ne.2 h3
    have Hd := hid (show depthsM c = [8, 16] by unfold depthsM; rw [if_neg h0, if_neg h3])
    clear h0 h3
    go_enter Try.func116, Try.ntmps116
    go_wp2
    go_ret
    rw [Hd.out]
    exact ⟨2, rfl, by have h := RdI.new (w := W) (t := 3) (l := [8, 16]) rfl; simpa using h, (Below.refl _ _).alloc (Nat.le_refl _) _⟩

/-- a form as a value -/
def vF (f : Fm) (PA KA : Option Addr) (pc kc : Nat) : Value := .agg #[.int .i64 f.w, .int .i64 f.h, .int .i64 f.d, .int .i64 f.c, .int .i64 f.l, .slice PA f.pal.length pc, .slice KA f.key.length kc]
set_option maxRecDepth 100000 in
theorem plain_any (f : Fm) (PA KA : Option Addr) (pc kc : Nat) (W : World) :
    Calls Try.prog 74 #[.agg #[.int .i64 f.w, .int .i64 f.h, .int .i64 f.d, .int .i64 f.c, .int .i64 f.l, .slice PA f.pal.length pc, .slice KA f.key.length kc]] W fun e w' => e = .returned (.agg #[.int .i64 f.w, .int .i64 f.h, .int .i64 f.d, .int .i64 f.c, .int .i64 f.l, .slice PA f.pal.length pc, .slice KA f.key.length kc]) ∧ Below W.heap.size W w' := by
  go_enter Try.func74, Try.ntmps74
  go_wp2
  refine bodyPost_ret (v := .agg #[.int .i64 f.w, .int .i64 f.h, .int .i64 f.d, .int .i64 f.c, .int .i64 f.l, .slice PA f.pal.length pc, .slice KA f.key.length kc]) (by simp [results, Try.results74, go_sem]) rfl ⟨rfl, ?_⟩
  exact ((Below.refl _ _).alloc (Nat.le_refl _) _).alloc (by simp) _

end Go.Proofs.Ytchkogfgkaaogaa
