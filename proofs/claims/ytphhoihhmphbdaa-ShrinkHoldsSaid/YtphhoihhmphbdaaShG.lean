/-
  shrink.sound, Check, depths, plain.
  A map from pixels to counts, of the call's own: looked up, and raised by one.
  shrink.unlike: all unlike pixels of a list, in the order in which they stand first.
  shrink.palette, fits; slices.Clone and IndexFunc of pixels.
  shrink.keyed, its closure and the palette's closure: what makes a form of a head.
  shrink.least: the form of the least depth that holds pixels, made in three ways.
  shrink.Forms's inner function: the least form of a color joins the list.
  shrink.Forms: the least forms of a raster.
-/
import Derived.Test.YtphhoihhmphbdaaNumIdx
import Derived.Test.YtphhoihhmphbdaaNums
import Derived.Test.YtphhoihhmphbdaaRlaw
import Derived.Test.YtphhoihhmphbdaaPair
import Derived.WideKeyEntry
import Derived.DeepKeys4
import Derived.Deep.RegionHeld3
import Derived.Deep.RegionLaw
import Derived.BigRegion
import Derived.Maps.OwnOps
import Derived.WalkSpells
import Derived.Deep.DeepCutAuto
import Derived.Deep.CutRange
namespace Go.Proofs.Ytphhoihhmphbdaa
open Go.RowKit

def soundB (p : Px) : Bool := [p.1, p.2.1, p.2.2.1, p.2.2.2].all (fun n => decide (0 ≤ n ∧ n ≤ 65535))
theorem sound_any (a0 a1 a2 a3 : Int) (W : World) :
    Calls Try.prog 109 #[.agg #[.int .i64 a0, .int .i64 a1, .int .i64 a2, .int .i64 a3]] W fun e w' => e = .returned (.bool (soundB (a0, a1, a2, a3))) ∧ Below W.heap.size W w' := by
  have Hs : Hid (soundB (a0, a1, a2, a3) = [a0, a1, a2, a3].all (fun n => decide (0 ≤ n ∧ n ≤ 65535))) := rfl
  have Hr := hid (show RdI ((W.alloc (.cells #[.int .i64 a0, .int .i64 a1, .int .i64 a2, .int .i64 a3] 62)).alloc (.cells #[.int .i64 a0, .int .i64 a1, .int .i64 a2, .int .i64 a3] 3)) (W.heap.size + 1 + 1) (some ⟨W.heap.size + 1, 0, none⟩) [a0, a1, a2, a3] by
    have h := RdI.new (w := W.alloc (.cells #[.int .i64 a0, .int .i64 a1, .int .i64 a2, .int .i64 a3] 62)) (t := 3) (l := [a0, a1, a2, a3]) rfl
    simpa using h)
  have Hl := hid (show [a0, a1, a2, a3].length = 4 from rfl)
  have Hb := hid (show Below W.heap.size W ((W.alloc (.cells #[.int .i64 a0, .int .i64 a1, .int .i64 a2, .int .i64 a3] 62)).alloc (.cells #[.int .i64 a0, .int .i64 a1, .int .i64 a2, .int .i64 a3] 3)) from ((Below.refl _ _).alloc (Nat.le_refl _) _).alloc (by simp) _)
  go_enter Try.func109, Try.ntmps109
  go_upto_region 2 with (fail)
  generalize (W.alloc (.cells #[.int .i64 a0, .int .i64 a1, .int .i64 a2, .int .i64 a3] 62)).alloc (.cells #[.int .i64 a0, .int .i64 a1, .int .i64 a2, .int .i64 a3] 3) = wz at *
  generalize [a0, a1, a2, a3] = l at *
  go_loop [15] (fun i => ∃ j : Nat, j ≤ 4 ∧ i = .int .i64 j ∧ (l.take j).all (fun n => decide (0 ≤ n ∧ n ≤ 65535)) = true) (fun i => 4 - (intOf i).toNat)
  case atStart => exact ⟨0, by omega, rfl, rfl⟩
  case round =>
    obtain ⟨j, hj, rfl, hall⟩ := hrel
    have Hall := hid hall
    clear hall
    by_cases hlt : j < 4
    · have hlt' : j < l.length := by rw [Hl.out]; exact hlt
      obtain ⟨b, off, hA, hbb, q0⟩ := int_at Hr.out hlt'
      simp only [Option.some.injEq, Addr.mk.injEq] at hA
      obtain ⟨rfl, rfl, _⟩ := hA
      simp only [Nat.zero_add] at q0
      have Hat := hid (all_take l (fun n => decide (0 ≤ n ∧ n ≤ 65535)) j hlt')
      have Hno := hid (fun (h : decide (0 ≤ l[j] ∧ l[j] ≤ 65535) = false) => show soundB (a0, a1, a2, a3) = false by
        rw [Hs.out, List.all_eq_false]
        exact ⟨l[j], List.getElem_mem hlt', by rw [h]; simp⟩)
      generalize l[j] = x at *
      by_cases h0 : x < 0
      · have Hn := hid (Hno.out (decide_eq_false (fun h => by omega)))
        have d0 : decide (x < 0) = true := decide_eq_true h0
        clear hlt'
        go_wp2
        go_ret
        exact ⟨by rw [Hn.out]; rfl, Hb.out⟩
      have d0 : decide (x < 0) = false := decide_eq_false h0
      by_cases h1 : 65535 < x
      · have Hn := hid (Hno.out (decide_eq_false (fun h => by omega)))
        have d1 : decide (65535 < x) = true := decide_eq_true h1
        clear hlt'
        go_wp2
        go_ret
        exact ⟨by rw [Hn.out]; rfl, Hb.out⟩
      · have d1 : decide (65535 < x) = false := decide_eq_false h1
        have Hal := hid (show (l.take (j + 1)).all (fun n => decide (0 ≤ n ∧ n ≤ 65535)) = true by rw [Hat.out, Hall.out, decide_eq_true (by omega)]; rfl)
        clear hlt'
        go_wp2
        go_round
        case rel => exact ⟨j + 1, by omega, by go_num, Hal.out⟩
        case measure => simp [intOf]; omega
    · have e : j = 4 := by omega
      have Hn := hid (show soundB (a0, a1, a2, a3) = true by rw [Hs.out]; have := Hall.out; rwa [e, ← Hl.out, List.take_length] at this)
      go_wp2
      go_ret
      exact ⟨by rw [Hn.out]; rfl, Hb.out⟩

/-- is it a raster? -/
def rasOk (w h : Int) (l : List Px) : Bool := decide (headErr w h 8 0 0 = 0) && decide ((l.length : Int) = w * h) && l.all soundB
def ScEnd (w h : Int) (l : List Px) (W : World) (e : Ending) (w' : World) : Prop := e = .returned (errv (if rasOk w h l = true then 0 else 6)) ∧ Below W.heap.size W w'
theorem scEnd_no {w h : Int} {l : List Px} {W w' : World} (hr : rasOk w h l = false) (hb : Below W.heap.size W w') : ScEnd w h l W (.returned (.iface 42 (.int .i64 6))) w' := by unfold ScEnd; rw [hr]; exact ⟨rfl, hb⟩
theorem scEnd_yes {w h : Int} {l : List Px} {W w' : World} (hr : rasOk w h l = true) (hb : Below W.heap.size W w') : ScEnd w h l W (.returned .nilIface) w' := by unfold ScEnd; rw [hr]; exact ⟨rfl, hb⟩
/-- a raster, boxed -/
def RcW (w W : World) (x y : Int) (PA : Option Addr) (n pc : Nat) : Prop := Blk w W.heap.size 33 #[.int .i64 x, .int .i64 y, .slice PA n pc] ∧ Below W.heap.size W w
section
variable {w w' W : World} {x y : Int} {PA : Option Addr} {n pc : Nat}
theorem rcw_start (x y : Int) (PA : Option Addr) (n pc : Nat) (W : World) : RcW (W.alloc (.cells #[.int .i64 x, .int .i64 y, .slice PA n pc] 33)) W x y PA n pc := ⟨Blk.new _ _ _, (Below.refl _ _).alloc (Nat.le_refl _) _⟩
theorem RcW.below (h : RcW w W x y PA n pc) (hb : Below w.heap.size w w') : RcW w' W x y PA n pc := ⟨h.1.below hb h.1.lt, h.2.trans (hb.mono h.2.size)⟩
theorem RcW.alloc (h : RcW w W x y PA n pc) (o : Obj) : RcW (w.alloc o) W x y PA n pc := ⟨h.1.alloc o, h.2.alloc h.2.size o⟩
theorem RcW.drewN (h : RcW w W x y PA n pc) (k : Nat) : RcW (w.drewN k) W x y PA n pc := ⟨h.1, below_drewN h.2 k⟩
end
theorem sound_take (l : List Px) (j : Nat) (hj : j < l.length) : (l.take (j + 1)).all soundB = ((l.take j).all soundB && soundB l[j]) := by
  rw [List.take_succ_eq_append_getElem hj, List.all_append]; simp
theorem headErr_bd {w h d c l : Int} (hh : headErr w h d c l = 0) : 1 ≤ w ∧ w ≤ 65535 ∧ 1 ≤ h ∧ h ≤ 65535 ∧ w * h ≤ 262144 ∧ 0 ≤ l ∧ l ≤ 1 := by
  unfold headErr at hh
  split at hh
  · cases hh
  · split at hh
    · cases hh
    · omega

set_option maxRecDepth 100000 in
set_option maxHeartbeats 4000000 in
theorem scheck_any (x y : Int) (PA : Option Addr) (pc : Nat) (l : List Px) (W : World) (hp : RdP W W.heap.size PA l) (hm : l.length ≤ 1000000) :
    Calls Try.prog 64 #[.agg #[.int .i64 x, .int .i64 y, .slice PA l.length pc]] W (ScEnd x y l W) := by
  have Hp := hid hp
  have Hw := hid (rcw_start x y PA l.length pc W)
  have Hh := hid (Blk.new (W.alloc (.cells #[.int .i64 x, .int .i64 y, .slice PA l.length pc] 33)) 23 #[.int .i64 x, .int .i64 y, .int .i64 8, .int .i64 0, .int .i64 0])
  clear hp
  by_cases hh : headErr x y 8 0 0 = 0
  · obtain ⟨b1, b2, b3, b4, b5, _, _⟩ := headErr_bd hh
    have b6 : 0 ≤ x * y := Int.mul_nonneg (by omega) (by omega)
    have Hhh := hid hh
    clear hh
    go_enter Try.func64, Try.ntmps64
    go_wp2_with fail
    refine (headCheck_any x y 8 0 0 _).mono ?_
    rintro e w1 ⟨rfl, hb⟩
    rw [Hhh.out, errv_0]
    have Hw1 := hid ((Hw.out.alloc _).below hb)
    have q0 := Hw1.out.1.cell 0
    have q1 := Hw1.out.1.cell 1
    have q2 := Hw1.out.1.cell 2
    simp only [List.getElem?_toArray, List.getElem?_cons_zero, List.getElem?_cons_succ] at q0 q1 q2
    clear hb Hw Hh
    by_cases hn : (l.length : Int) = x * y
    · have hq : ((l.length : Int) != x * y) = false := by rw [bne_eq_false_iff_eq]; exact hn
      have Hro := hid (show rasOk x y l = l.all soundB by unfold rasOk; rw [decide_eq_true Hhh.out, decide_eq_true hn]; simp)
      clear hn
      go_wp2_with fail
      go_loopw [29] (fun i wr => ∃ j : Nat, j ≤ l.length ∧ i = .int .i64 j ∧ (l.take j).all soundB = true ∧ RcW wr W x y PA l.length pc) (fun i _ => l.length - (intOf i).toNat)
      case atStart => exact ⟨0, by omega, rfl, rfl, Hw1.out⟩
      case round =>
        obtain ⟨j, hj, rfl, hall, hwr⟩ := hrel
        have Hall := hid hall
        have Hwr := hid hwr
        clear hall hwr hq q0 q1 q2
        by_cases hlt : j < l.length
        · obtain ⟨b, off, rfl, hbb, x0, x1, x2, x3⟩ := px_at (Rd.below Hp.out Hwr.out.2 (Nat.le_refl _)) hlt
          have Hst := hid (sound_take l j hlt)
          have Hno := hid (fun (h : soundB l[j] = false) => show rasOk x y l = false by
            rw [Hro.out, List.all_eq_false]
            exact ⟨l[j], List.getElem_mem hlt, by rw [h]; simp⟩)
          generalize l[j] = p at *
          obtain ⟨p0, p1, p2, p3⟩ := p
          simp only at x0 x1 x2 x3
          go_wp2_with fail
          refine (sound_any p0 p1 p2 p3 _).mono ?_
          rintro e w2 ⟨rfl, hb⟩
          have Hw2 := hid ((Hwr.out.alloc _).below hb)
          clear hb
          cases hs : soundB (p0, p1, p2, p3)
          · have Hn := hid (Hno.out hs)
            clear hs
            go_wp2
            go_ret
            exact scEnd_no Hn.out Hw2.out.2
          · have Hal := hid (show (l.take (j + 1)).all soundB = true by rw [Hst.out, Hall.out, hs]; rfl)
            clear hs
            go_wp2
            go_roundw
            case rel => exact ⟨j + 1, by omega, by go_num, Hal.out, Hw2.out⟩
            case measure => simp [intOf]; omega
        · have e : j = l.length := by omega
          have Hn := hid (show rasOk x y l = true by rw [Hro.out]; have := Hall.out; rwa [e, List.take_length] at this)
          go_wp2
          go_ret
          exact scEnd_yes Hn.out Hwr.out.2
    · have hq : ((l.length : Int) != x * y) = true := bne_iff_ne.2 hn
      have Hro := hid (show rasOk x y l = false by unfold rasOk; rw [decide_eq_false hn]; simp)
      clear hn
      go_wp2
      go_ret
      exact scEnd_no Hro.out Hw1.out.2
  · have Hro := hid (show rasOk x y l = false by unfold rasOk; rw [decide_eq_false hh]; rfl)
    have Hv := hid (show headErr x y 8 0 0 = 2 ∨ headErr x y 8 0 0 = 4 by have := headErr_vals x y 8 0 0; omega)
    clear hh
    go_enter Try.func64, Try.ntmps64
    go_wp2_with fail
    refine (headCheck_any x y 8 0 0 _).mono ?_
    rintro e w1 ⟨rfl, hb⟩
    have Hw1 := hid ((Hw.out.alloc _).below hb)
    clear hb Hw Hh
    rcases Hv.out with h | h
    all_goals
      rw [h]
      simp only [errv_2, errv_4]
      clear h
      go_wp2
      go_ret
      exact scEnd_no Hro.out Hw1.out.2

/-- the depths that are tried -/
def depthsM (c : Int) : List Int := if c = 0 then [1, 2, 4, 8, 16] else if c = 3 then [1, 2, 4, 8] else [8, 16]
theorem sdepths_any (c : Int) (W : World) :
    Calls Try.prog 110 #[.int .i64 c] W fun e w' => ∃ cc, e = .returned (.slice (some ⟨W.heap.size, 0, none⟩) (depthsM c).length cc) ∧ RdI w' w'.heap.size (some ⟨W.heap.size, 0, none⟩) (depthsM c) ∧ Below W.heap.size W w' := by
  by_cases h0 : c = 0
  · subst h0
    go_enter Try.func110, Try.ntmps110
    go_wp2
    go_ret
    exact ⟨5, rfl, by show RdI _ _ _ [1, 2, 4, 8, 16]; have h := RdI.new (w := W) (t := 3) (l := [1, 2, 4, 8, 16]) rfl; simpa using h, (Below.refl _ _).alloc (Nat.le_refl _) _⟩
  have e0 : (c == 0) = false := beq_eq_false_iff_ne.2 h0
  by_cases h3 : c = 3
  · subst h3
    clear h0 e0
    go_enter Try.func110, Try.ntmps110
    go_wp2
    go_ret
    exact ⟨4, rfl, by show RdI _ _ _ [1, 2, 4, 8]; have h := RdI.new (w := W) (t := 3) (l := [1, 2, 4, 8]) rfl; simpa using h, (Below.refl _ _).alloc (Nat.le_refl _) _⟩
  · have e3 : (c == 3) = false := beq_eq_false_iff_ne.2 h3
    have Hd := hid (show depthsM c = [8, 16] by unfold depthsM; rw [if_neg h0, if_neg h3])
    clear h0 h3
    go_enter Try.func110, Try.ntmps110
    go_wp2
    go_ret
    rw [Hd.out]
    exact ⟨2, rfl, by have h := RdI.new (w := W) (t := 3) (l := [8, 16]) rfl; simpa using h, (Below.refl _ _).alloc (Nat.le_refl _) _⟩

/-- a form as a value -/
def vF (f : Fm) (PA KA : Option Addr) (pc kc : Nat) : Value := .agg #[.int .i64 f.w, .int .i64 f.h, .int .i64 f.d, .int .i64 f.c, .int .i64 f.l, .slice PA f.pal.length pc, .slice KA f.key.length kc]
set_option maxRecDepth 100000 in
theorem plain_any (f : Fm) (PA KA : Option Addr) (pc kc : Nat) (W : World) :
    Calls Try.prog 68 #[.agg #[.int .i64 f.w, .int .i64 f.h, .int .i64 f.d, .int .i64 f.c, .int .i64 f.l, .slice PA f.pal.length pc, .slice KA f.key.length kc]] W fun e w' => e = .returned (.agg #[.int .i64 f.w, .int .i64 f.h, .int .i64 f.d, .int .i64 f.c, .int .i64 f.l, .slice PA f.pal.length pc, .slice KA f.key.length kc]) ∧ Below W.heap.size W w' := by
  go_enter Try.func68, Try.ntmps68
  go_wp2
  refine bodyPost_ret (v := .agg #[.int .i64 f.w, .int .i64 f.h, .int .i64 f.d, .int .i64 f.c, .int .i64 f.l, .slice PA f.pal.length pc, .slice KA f.key.length kc]) (by simp [results, Try.results68, go_sem]) rfl ⟨rfl, ?_⟩
  exact ((Below.refl _ _).alloc (Nat.le_refl _) _).alloc (by simp) _

end Go.Proofs.Ytphhoihhmphbdaa

namespace Go.Proofs.Ytphhoihhmphbdaa
open Go.RowKit Go.MapKept Go.WideElems Go.ChangeMaps
open Go.WideMaps (KeyLaw)

theorem wide_px : (match Try.prog.underlying 62 with | some (.array _ _) | some (.struct _) => true | _ => false) = true := by kernel_rfl
theorem row_px : (62 : TypeId) < Try.prog.types.size := of_decide_eq_true (by kernel_rfl)
theorem law_px : KeyLaw Try.prog 62 := deep_law_laid laidOut (m := 3) (by omega) row_px (by kernel_rfl) (by kernel_rfl)
def smallB (x : Int) : Prop := 0 ≤ x ∧ x ≤ 65535
theorem small_wf {x : Int} (h : smallB x) : (Lit.int .i64 x).wf = true := by
  obtain ⟨h1, h2⟩ := h
  exact WalkArith.wf_i64 (by omega)
theorem px_key {a0 a1 a2 a3 : Int} (w0 : (Lit.int .i64 a0).wf = true) (w1 : (Lit.int .i64 a1).wf = true) (w2 : (Lit.int .i64 a2).wf = true) (w3 : (Lit.int .i64 a3).wf = true) :
    ∃ kl, keyOf Try.prog 62 (.agg #[.int .i64 a0, .int .i64 a1, .int .i64 a2, .int .i64 a3]) = some kl := by
  have hs : ∃ m, Try.prog.types.size = m + 1 := ⟨Try.prog.types.size - 1, by have : 0 < Try.prog.types.size := of_decide_eq_true (by kernel_rfl); omega⟩
  obtain ⟨m, hm⟩ := hs
  have hkt : Try.prog.keyType 62 = true := by kernel_rfl
  have hc : Try.prog.cellsOf 62 = 4 := by kernel_rfl
  have hc1 : Try.prog.cellsOf 3 = 1 := by kernel_rfl
  unfold keyOf
  simp only [Try.underlying62]
  rw [if_pos (by simp [hkt, Value.formed, Try.underlying62, hc]), hm]
  unfold Program.keyLits
  simp only [Try.underlying62, Value.cells]
  rw [if_pos (by rw [hc]; exact ⟨rfl, by kernel_rfl⟩)]
  simp [Program.keyLits, Try.underlying3, hc1, w0, w1, w2, w3]

/-- the entries of a map from pixels to counts -/
def mapEs (u : List (Px × Int)) : Array MapEntry := (u.mapIdx (fun i x => (⟨vP x.1, .int .i64 x.2, i⟩ : MapEntry))).toArray
def MapW (w : World) (g : Nat) (u : List (Px × Int)) : Prop := w.heap[g]? = some (.map (mapEs u) u.length)
/-- all keys are pixels' numbers, and unlike -/
def KeysOk (u : List (Px × Int)) : Prop := (∀ x ∈ u, soundB x.1 = true) ∧ (u.map (·.1)).Nodup
def cntOf (u : List (Px × Int)) (p : Px) : Int := ((u.find? (fun x => x.1 == p)).map (·.2)).getD 0
def idxOf' (u : List (Px × Int)) (p : Px) : Nat := u.findIdx (fun x => x.1 == p)
def touch (u : List (Px × Int)) (p : Px) : List (Px × Int) := if p ∈ u.map (·.1) then u else u ++ [(p, 0)]
theorem vP_inj {p q : Px} (h : vP p = vP q) : p = q := by
  obtain ⟨p0, p1, p2, p3⟩ := p
  obtain ⟨q0, q1, q2, q3⟩ := q
  unfold vP at h
  simp at h
  obtain ⟨rfl, rfl, rfl, rfl⟩ := h
  rfl
theorem sound_key {p : Px} (h : soundB p = true) : ∃ kl, keyOf Try.prog 62 (vP p) = some kl := by
  obtain ⟨p0, p1, p2, p3⟩ := p
  unfold soundB at h
  simp at h
  obtain ⟨h0, h1, h2, h3⟩ := h
  exact px_key (small_wf h0) (small_wf h1) (small_wf h2) (small_wf h3)
theorem mapEs_at (u : List (Px × Int)) (j : Nat) : (mapEs u).toList[j]? = (u[j]?).map (fun x => (⟨vP x.1, .int .i64 x.2, j⟩ : MapEntry)) := by
  simp [mapEs, List.getElem?_mapIdx]
theorem mapEs_keys {u : List (Px × Int)} (hk : KeysOk u) : ∀ e ∈ (mapEs u).toList, ∃ l, keyOf Try.prog 62 e.key = some l := by
  intro e he
  obtain ⟨j, hj⟩ := List.getElem?_of_mem he
  rw [mapEs_at] at hj
  cases hx : u[j]? with
  | none => rw [hx] at hj; cases hj
  | some x =>
    rw [hx] at hj
    injection hj with hj
    subst hj
    exact sound_key (hk.1 x (List.mem_of_getElem? hx))
theorem find_hit {u : List (Px × Int)} (hk : KeysOk u) {p : Px} {j : Nat} {x : Px × Int} (hx : u[j]? = some x) (hp : x.1 = p) : cntOf u p = x.2 ∧ idxOf' u p = j ∧ p ∈ u.map (·.1) := by
  obtain ⟨hj, hxe⟩ := List.getElem?_eq_some_iff.1 hx
  have hfirst : ∀ i, i < j → ∀ (hi : i < u.length), (u[i].1 == p) = false := by
    intro i hi hl
    rw [beq_eq_false_iff_ne]
    intro h
    have := (List.pairwise_iff_getElem.1 hk.2) i j (by simpa using hl) (by simpa using hj) hi
    apply this
    simp [h, hxe, hp]
  have hidx : idxOf' u p = j := by
    unfold idxOf'
    rw [List.findIdx_eq hj]
    exact ⟨by rw [hxe, hp]; simp, fun i hi => hfirst i hi (by omega)⟩
  refine ⟨?_, hidx, List.mem_map.2 ⟨x, List.mem_of_getElem? hx, hp⟩⟩
  unfold cntOf
  have hf : u.find? (fun x => x.1 == p) = some x := by
    rw [List.find?_eq_some_iff_getElem]
    exact ⟨by simp [hp], j, hj, hxe, fun i hi => by simpa using hfirst i hi (by omega)⟩
  rw [hf]; rfl
theorem find_no {u : List (Px × Int)} {p : Px} (h : p ∉ u.map (·.1)) : cntOf u p = 0 ∧ idxOf' u p = u.length := by
  have h' : ∀ x ∈ u, ¬ (x.1 == p) = true := fun x hx he => h (List.mem_map.2 ⟨x, hx, eq_of_beq he⟩)
  refine ⟨?_, ?_⟩
  · unfold cntOf
    rw [List.find?_eq_none.2 h']
    rfl
  · unfold idxOf'
    exact List.findIdx_eq_length_of_false (fun x hx => by simpa using h' x hx)
theorem map_find {u : List (Px × Int)} (hk : KeysOk u) {p : Px} (hp : soundB p = true) (w : World) :
    ((Instr.findKey 62 (vP p) (mapEs u).toList).run Try.prog w = .ok none w ∧ p ∉ u.map (·.1)) ∨
    (∃ j x, (Instr.findKey 62 (vP p) (mapEs u).toList).run Try.prog w = .ok (some (j, .int .i64 x.2)) w ∧ u[j]? = some x ∧ x.1 = p) := by
  obtain ⟨kl, hkl⟩ := sound_key hp
  rcases law_px.find w hkl _ (mapEs_keys hk) with ⟨h1, h2⟩ | ⟨j, e, h1, h2, h3⟩
  · refine .inl ⟨h1, fun hm => ?_⟩
    obtain ⟨x, hx, hxp⟩ := List.mem_map.1 hm
    obtain ⟨j, hj⟩ := List.getElem?_of_mem hx
    have := mapEs_at u j
    rw [hj] at this
    exact h2 _ (List.mem_of_getElem? this) (by rw [← hxp])
  · rw [mapEs_at] at h2
    cases hx : u[j]? with
    | none => rw [hx] at h2; cases h2
    | some x =>
      rw [hx] at h2
      injection h2 with h2
      subst h2
      exact .inr ⟨j, x, h1, hx, vP_inj h3⟩
theorem map_lookup {w : World} {g : Nat} {u : List (Px × Int)} (h : MapW w g u) (hk : KeysOk u) {p : Px} (hp : soundB p = true) :
    (Instr.lookup 154 (.map (some g)) (vP p) false).run Try.prog w = .ok (.int .i64 (cntOf u p)) w := by
  obtain ⟨kl, hkl⟩ := sound_key hp
  rcases map_find hk hp w with ⟨h1, h2⟩ | ⟨j, x, h1, h2, h3⟩
  · rw [(find_no h2).1]
    simp [Instr.lookup, run_underlying Try.underlying154, MapKept.run_getObj_map h, law_px.check w _ hkl, h1, Result.andThen]
  · rw [(find_hit hk h2 h3).1]
    simp [Instr.lookup, run_underlying Try.underlying154, MapKept.run_getObj_map h, law_px.check w _ hkl, h1, Result.andThen]
theorem setBlock_at {w : World} {g : Nat} {o o' : Obj} (h : w.heap[g]? = some o') : (setBlock w g o).heap[g]? = some o := by
  have hg : g < w.heap.size := (Array.getElem?_eq_some_iff.1 h).1
  simp [setBlock, hg]
/-- nothing but block g has turned -/
def Only (g : Nat) (w w' : World) : Prop := w'.heap.size = w.heap.size ∧ (∀ k, k ≠ g → w'.heap[k]? = w.heap[k]?) ∧ w'.os = w.os ∧ w'.tape = w.tape ∧ w'.output = w.output
theorem only_set (w : World) (g : Nat) (o : Obj) : Only g w (setBlock w g o) := by
  refine ⟨by simp [setBlock], fun k hk => ?_, rfl, rfl, rfl⟩
  simp [setBlock, Ne.symm hk]
theorem Only.trans {g : Nat} {a b c : World} (h1 : Only g a b) (h2 : Only g b c) : Only g a c := ⟨h2.1.trans h1.1, fun k hk => (h2.2.1 k hk).trans (h1.2.1 k hk), h2.2.2.1.trans h1.2.2.1, h2.2.2.2.1.trans h1.2.2.2.1, h2.2.2.2.2.trans h1.2.2.2.2⟩
theorem touch_ok {u : List (Px × Int)} (hk : KeysOk u) {p : Px} (hp : soundB p = true) : KeysOk (touch u p) := by
  unfold touch
  split
  · exact hk
  · rename_i h
    refine ⟨fun x hx => ?_, ?_⟩
    · rcases List.mem_append.1 hx with hx | hx
      · exact hk.1 x hx
      · simp at hx; subst hx; exact hp
    · rw [List.map_append, List.nodup_append]
      refine ⟨hk.2, by simp, fun a ha b hb hab => ?_⟩
      simp at hb
      subst hb hab
      exact h ha
theorem touch_at {u : List (Px × Int)} (hk : KeysOk u) (p : Px) : (touch u p)[idxOf' u p]? = some (p, cntOf u p) := by
  unfold touch
  split
  · rename_i h
    obtain ⟨x, hx, hxp⟩ := List.mem_map.1 h
    obtain ⟨j, hj⟩ := List.getElem?_of_mem hx
    obtain ⟨h1, h2, _⟩ := find_hit hk hj hxp
    rw [h2, h1, hj, ← hxp]
  · rename_i h
    obtain ⟨h1, h2⟩ := find_no h
    rw [h1, h2, List.getElem?_append_right (Nat.le_refl _)]
    simp
theorem map_entry {w : World} {g : Nat} {u : List (Px × Int)} (h : MapW w g u) (hk : KeysOk u) {p : Px} (hp : soundB p = true) :
    ∃ w1, (Instr.mapEntry 154 (.map (some g)) (vP p)).run Try.prog w = .ok (.tuple #[.int .i64 (cntOf u p), .int .i64 (idxOf' u p : Nat)]) w1 ∧ MapW w1 g (touch u p) ∧ Only g w w1 := by
  obtain ⟨kl, hkl⟩ := sound_key hp
  rcases map_find hk hp w with ⟨h1, h2⟩ | ⟨j, x, h1, h2, h3⟩
  · obtain ⟨e1, e2⟩ := find_no h2
    have ht : touch u p = u ++ [(p, 0)] := by unfold touch; rw [if_neg h2]
    refine ⟨setBlock w g (.map (mapEs (touch u p)) (u.length + 1)), ?_, ?_, only_set _ _ _⟩
    · rw [e1, e2, ht]
      have he : mapEs (u ++ [(p, 0)]) = (mapEs u).push ⟨vP p, .int .i64 0, u.length⟩ := by simp [mapEs, List.mapIdx_append]
      rw [he]
      simp [Instr.mapEntry, run_underlying Try.underlying154, MapKept.run_getObj_map h, law_px.check w _ hkl, h1, MapKept.run_setObj_map _ h, Result.andThen, setBlock, goInt]
    · have := setBlock_at (o := .map (mapEs (touch u p)) (u.length + 1)) h
      rw [ht] at this ⊢
      unfold MapW
      rw [this]; simp
  · obtain ⟨e1, e2, e3⟩ := find_hit hk h2 h3
    have ht : touch u p = u := by unfold touch; rw [if_pos e3]
    have hat : (mapEs u)[j]? = some ⟨vP p, .int .i64 x.2, j⟩ := by
      have := mapEs_at u j
      rw [h2] at this
      rw [← h3]
      simpa using this
    have hsame : (mapEs u).modify j (fun e => { e with key := vP p }) = mapEs u := by
      apply Array.ext'
      rw [Array.toList_modify]
      apply List.ext_getElem?
      intro i
      rw [List.getElem?_modify]
      have hl : (mapEs u).toList[j]? = some ⟨vP p, .int .i64 x.2, j⟩ := by simpa using hat
      by_cases hi : j = i
      · subst hi
        simp [hl]
      · simp [hi]
    refine ⟨setBlock w g (.map (mapEs (touch u p)) u.length), ?_, ?_, only_set _ _ _⟩
    · rw [e1, e2, ht]
      simp [Instr.mapEntry, run_underlying Try.underlying154, MapKept.run_getObj_map h, law_px.check w _ hkl, h1, hat, law_px.stays w hkl, hsame, MapKept.run_setObj_map _ h, Result.andThen, setBlock, goInt]
    · have := setBlock_at (o := .map (mapEs (touch u p)) u.length) h
      rw [ht] at this ⊢
      exact this
theorem mapEs_set (u : List (Px × Int)) (j : Nat) (p : Px) (n v : Int) (h : u[j]? = some (p, n)) : (mapEs u).modify j (fun e => { e with val := .int .i64 v }) = mapEs (u.set j (p, v)) := by
  apply Array.ext'
  rw [Array.toList_modify]
  apply List.ext_getElem?
  intro i
  rw [List.getElem?_modify, mapEs_at, mapEs_at]
  obtain ⟨hj, _⟩ := List.getElem?_eq_some_iff.1 h
  by_cases hi : j = i
  · subst hi
    have e : u[j] = (p, n) := by rw [List.getElem?_eq_getElem hj] at h; injection h
    simp [hj, e]
  · simp [hi]
theorem map_store {w : World} {g : Nat} {u : List (Px × Int)} (h : MapW w g u) {j : Nat} {p : Px} {n : Int} (hj : u[j]? = some (p, n)) (v : Int) :
    ∃ w1, (Instr.entryStore 154 (.map (some g)) (.int .i64 (j : Nat)) (.int .i64 v)).run Try.prog w = .ok () w1 ∧ MapW w1 g (u.set j (p, v)) ∧ Only g w w1 := by
  have hborn : (((mapEs u).toList).map (·.born)).Nodup := by
    have : ((mapEs u).toList).map (·.born) = List.range u.length := by
      apply List.ext_getElem?
      intro i
      rw [List.getElem?_map, mapEs_at]
      by_cases hi : i < u.length
      · simp [hi]
      · simp [hi]
    rw [this]; exact List.nodup_range
  have hat : (mapEs u).toList[j]? = some ⟨vP p, .int .i64 n, j⟩ := by rw [mapEs_at, hj]; rfl
  have hidx : (mapEs u).findIdx? (fun e => ((e.born : Nat) : Int) == ((j : Nat) : Int)) = some j := by
    rw [findIdx_arr]
    exact findIdx_born hborn hat
  refine ⟨setBlock w g (.map (mapEs (u.set j (p, v))) u.length), ?_, ?_, only_set _ _ _⟩
  · rw [← mapEs_set u j p n v hj]
    simp [Instr.entryStore, MapKept.run_getObj_map h, asInt, asIntOf, hidx, MapKept.run_setObj_map _ h, Result.andThen, setBlock]
  · have := setBlock_at (o := .map (mapEs (u.set j (p, v))) u.length) h
    unfold MapW
    rw [this]; simp

/-- the map with a pixel counted once more -/
def bump (u : List (Px × Int)) (p : Px) : List (Px × Int) := (touch u p).set (idxOf' u p) (p, cntOf u p + 1)
theorem bump_keys {u : List (Px × Int)} (hk : KeysOk u) (p : Px) : (bump u p).map (·.1) = (touch u p).map (·.1) := by
  unfold bump
  rw [List.map_set]
  have h := touch_at hk p
  obtain ⟨hj, he⟩ := List.getElem?_eq_some_iff.1 h
  apply List.ext_getElem?
  intro i
  by_cases hi : idxOf' u p = i
  · subst hi
    rw [List.getElem?_set_self (by simpa using hj)]
    simp [h]
  · rw [List.getElem?_set_ne hi]
theorem bump_ok {u : List (Px × Int)} (hk : KeysOk u) {p : Px} (hp : soundB p = true) : KeysOk (bump u p) := by
  refine ⟨fun x hx => ?_, by rw [bump_keys hk]; exact (touch_ok hk hp).2⟩
  have : x.1 ∈ (bump u p).map (·.1) := List.mem_map.2 ⟨x, hx, rfl⟩
  rw [bump_keys hk] at this
  obtain ⟨y, hy, he⟩ := List.mem_map.1 this
  rw [← he]
  exact (touch_ok hk hp).1 y hy
theorem cnt_touch {u : List (Px × Int)} (hk : KeysOk u) {p : Px} (hp : soundB p = true) : cntOf (touch u p) p = cntOf u p := (find_hit (touch_ok hk hp) (touch_at hk p) rfl).1
theorem cnt_bump {u : List (Px × Int)} (hk : KeysOk u) {p : Px} (hp : soundB p = true) : cntOf (bump u p) p = cntOf u p + 1 := by
  obtain ⟨hj, _⟩ := List.getElem?_eq_some_iff.1 (touch_at hk p)
  exact (find_hit (j := idxOf' u p) (x := (p, cntOf u p + 1)) (bump_ok hk hp) (by unfold bump; rw [List.getElem?_set_self hj]) rfl).1
/-- what 'seen[p]++' needs, in whatever order -/
theorem map_bump {w : World} {g : Nat} {u : List (Px × Int)} (h : MapW w g u) (hk : KeysOk u) {p : Px} (hp : soundB p = true) : ∃ w1 w2,
    (Instr.lookup 154 (.map (some g)) (vP p) false).run Try.prog w = .ok (.int .i64 (cntOf u p)) w ∧
    (Instr.mapEntry 154 (.map (some g)) (vP p)).run Try.prog w = .ok (.tuple #[.int .i64 (cntOf u p), .int .i64 (idxOf' u p : Nat)]) w1 ∧
    (Instr.lookup 154 (.map (some g)) (vP p) false).run Try.prog w1 = .ok (.int .i64 (cntOf u p)) w1 ∧
    (Instr.entryStore 154 (.map (some g)) (.int .i64 (idxOf' u p : Nat)) (.int .i64 (cntOf u p + 1))).run Try.prog w1 = .ok () w2 ∧
    (Instr.lookup 154 (.map (some g)) (vP p) false).run Try.prog w2 = .ok (.int .i64 (cntOf u p + 1)) w2 ∧
    MapW w2 g (bump u p) ∧ Only g w w1 ∧ Only g w w2 := by
  obtain ⟨w1, e1, m1, o1⟩ := map_entry h hk hp
  obtain ⟨w2, e2, m2, o2⟩ := map_store m1 (touch_at hk p) (cntOf u p + 1)
  refine ⟨w1, w2, map_lookup h hk hp, e1, ?_, e2, ?_, m2, o1, o1.trans o2⟩
  · have := map_lookup m1 (touch_ok hk hp) hp
    rwa [cnt_touch hk hp] at this
  · have := map_lookup (u := bump u p) m2 (bump_ok hk hp) hp
    rwa [cnt_bump hk hp] at this

end Go.Proofs.Ytphhoihhmphbdaa

namespace Go.Proofs.Ytphhoihhmphbdaa
open Go.RowKit

/-- the unlike pixels -/
def unlStep (acc : List Px) (p : Px) : List Px := if p ∈ acc then acc else acc ++ [p]
def unl (l : List Px) : List Px := l.foldl unlStep []
theorem unl_take (l : List Px) (j : Nat) (hj : j < l.length) : unl (l.take (j + 1)) = unlStep (unl (l.take j)) l[j] := by
  unfold unl
  rw [List.take_succ_eq_append_getElem hj, List.foldl_append]; rfl
/-- the map behind j pixels -/
def CInv (u : List (Px × Int)) (j : Nat) (keys : List Px) : Prop := KeysOk u ∧ (∀ x ∈ u, 1 ≤ x.2 ∧ x.2 ≤ j) ∧ u.map (·.1) = keys
theorem bump_keys' {u : List (Px × Int)} (hk : KeysOk u) (p : Px) : (bump u p).map (·.1) = unlStep (u.map (·.1)) p := by
  rw [bump_keys hk]
  unfold touch unlStep
  split
  · rfl
  · simp
theorem cnt_some {u : List (Px × Int)} {j : Nat} {keys : List Px} (h : CInv u j keys) (p : Px) : 0 ≤ cntOf u p ∧ cntOf u p ≤ j ∧ (cntOf u p = 0 ↔ p ∉ keys) := by
  obtain ⟨hk, hc, hkeys⟩ := h
  by_cases hp : p ∈ u.map (·.1)
  · obtain ⟨x, hx, hxp⟩ := List.mem_map.1 hp
    obtain ⟨i, hi⟩ := List.getElem?_of_mem hx
    rw [(find_hit hk hi hxp).1]
    have := hc x hx
    exact ⟨by omega, this.2, fun h => by omega, fun h => absurd (hkeys ▸ hp) h⟩
  · rw [(find_no hp).1]
    exact ⟨by omega, by omega, fun _ h => hp (hkeys ▸ h), fun _ => rfl⟩
theorem cinv_next {u : List (Px × Int)} {j : Nat} {keys : List Px} (h : CInv u j keys) {p : Px} (hp : soundB p = true) : CInv (bump u p) (j + 1) (unlStep keys p) := by
  have hcn := cnt_some h p
  obtain ⟨hk, hc, hkeys⟩ := h
  refine ⟨bump_ok hk hp, fun x hx => ?_, by rw [bump_keys' hk, hkeys]⟩
  have hat := touch_at hk p
  obtain ⟨hil, _⟩ := List.getElem?_eq_some_iff.1 hat
  obtain ⟨i, hi⟩ := List.getElem?_of_mem hx
  unfold bump at hi
  by_cases e : idxOf' u p = i
  · subst e
    rw [List.getElem?_set_self hil] at hi
    injection hi with hi
    subst hi
    show 1 ≤ cntOf u p + 1 ∧ cntOf u p + 1 ≤ _
    omega
  · rw [List.getElem?_set_ne e] at hi
    unfold touch at hi
    split at hi
    · have := hc x (List.mem_of_getElem? hi); omega
    · rename_i hno
      by_cases hl : i < u.length
      · rw [List.getElem?_append_left hl] at hi
        have := hc x (List.mem_of_getElem? hi); omega
      · have := (find_no hno).2
        rw [List.getElem?_append_right (by omega)] at hi
        have h2 := (List.getElem?_eq_some_iff.1 hi).1
        simp at h2
        omega

section
variable {g B base : Nat} {w w' : World}
theorem Only.grown (h : Only g w w') : w.grownBy w' (some g) := ⟨h.2.2.1, h.2.2.2.1, h.2.2.2.2, Nat.le_of_eq h.1.symm, fun k _ hk => h.2.1 k (fun e => hk (by rw [e]))⟩
theorem Only.below (h : Only g w w') (hg : B ≤ g) : Below B w w' := ⟨h.2.2.1, h.2.2.2.1, h.2.2.2.2, Nat.le_of_eq h.1.symm, fun k hk => h.2.1 k (by omega)⟩
theorem Only.blk (h : Only g w w') {b : Nat} {t : TypeId} {cs : Array Value} (hb : Blk w b t cs) (hne : b ≠ g) : Blk w' b t cs := (h.2.1 b hne).trans hb
theorem own_only {e : TypeId} {size n : Nat} {v : Value} {xs : List Value} (ho : w.ownsRow base e size v n xs) (h : Only g w w') (hg : g < base) : w'.ownsRow base e size v n xs :=
  ho.kept h.grown (by
    cases hv : v.ownBlock with
    | none => exact .inl rfl
    | some k => exact .inr (fun he => by have := (ho.lt k hv).1; injection he with he; omega))
theorem MapW.alloc {u : List (Px × Int)} (h : MapW w g u) (o : Obj) : MapW (w.alloc o) g u := (Below.heap_alloc w o g (Array.getElem?_eq_some_iff.1 h).1).trans h
theorem MapW.drew {u : List (Px × Int)} (h : MapW w g u) : MapW w.drew g u := h
theorem MapW.grown {u : List (Px × Int)} {row : Option Nat} (h : MapW w g u) (hb : w.grownBy w' row) (hne : some g ≠ row) : MapW w' g u := (hb.block g (Array.getElem?_eq_some_iff.1 h).1 hne).trans h
end
theorem unl_sub (l : List Px) : ∀ x ∈ unl l, x ∈ l := by
  have : ∀ (l acc : List Px), ∀ x ∈ l.foldl unlStep acc, x ∈ acc ∨ x ∈ l := by
    intro l
    induction l with
    | nil => intro acc x hx; exact .inl hx
    | cons a l ih =>
      intro acc x hx
      rcases ih _ x hx with h | h
      · unfold unlStep at h
        split at h
        · exact .inl h
        · rcases List.mem_append.1 h with h | h
          · exact .inl h
          · simp at h; subst h; exact .inr (by simp)
      · exact .inr (by simp [h])
  intro x hx
  rcases this l [] x hx with h | h
  · cases h
  · exact h
theorem unl_len (l : List Px) : (unl l).length ≤ l.length := by
  have : ∀ (l acc : List Px), (l.foldl unlStep acc).length ≤ acc.length + l.length := by
    intro l
    induction l with
    | nil => intro acc; simp
    | cons a l ih =>
      intro acc
      have := ih (unlStep acc a)
      have h2 : (unlStep acc a).length ≤ acc.length + 1 := by unfold unlStep; split <;> simp
      simp only [List.foldl_cons, List.length_cons]; omega
  have h := this l []
  unfold unl
  simpa using h

theorem own_rdp {w : World} {base : Nat} {A : Option Addr} {c : Nat} {o : List Px} (h : w.ownsRow base 62 4 (.slice A o.length c) o.length (o.flatMap encP)) : RdP w w.heap.size A o := own_rd h
theorem own_nil_n {w : World} {base : Nat} {e : TypeId} {size n c : Nat} {A : Option Addr} {xs : List Value} (h : w.ownsRow base e size (.slice A n c) n xs) (hA : A = none) : n = 0 := by
  subst hA
  rcases h.2 with ⟨h1, _⟩ | ⟨g, cap, cur, h1, _⟩
  · injection h1
  · injection h1 with h1; cases h1
/-- what a list of pixels ends in -/
def PxsEnd (l : List Px) (W : World) (e : Ending) (w' : World) : Prop := ∃ A c, e = .returned (.slice A l.length c) ∧ w'.ownsRow W.heap.size 62 4 (.slice A l.length c) l.length (l.flatMap encP) ∧ Below W.heap.size W w'

set_option maxRecDepth 100000 in
set_option maxHeartbeats 8000000 in
theorem unlike_any (A : Option Addr) (c : Nat) (l : List Px) (W : World) (hp : RdP W W.heap.size A l) (hm : l.length ≤ 1000000) (hs : l.all soundB = true) :
    Calls Try.prog 65 #[.slice A l.length c] W (PxsEnd (unl l) W) := by
  have Hp := hid hp
  have Hs := hid hs
  obtain ⟨i0, hi0, hz0, hz1, hz2⟩ := info_parts px_info
  have Hi0 := hid hi0
  have Hz0 := hid hz0
  have Hz1 := hid hz1
  have Hz2 := hid hz2
  have hmm := @run_makeMap Try.prog
  have H0 := hid (show MapW (W.alloc (.map #[] 0)) W.heap.size [] from heap_alloc_new W _)
  clear hp hs hi0 hz0 hz1 hz2
  go_enter Try.func65, Try.ntmps65
  go_upto_region 4 with (fail)
  go_loopw [4, 10] (fun o i wr => ∃ (j : Nat) (A' : Option Addr) (c' : Nat) (u : List (Px × Int)), j ≤ l.length ∧ i = .int .i64 j ∧ o = .slice A' (unl (l.take j)).length c' ∧ wr.ownsRow (W.heap.size + 1) 62 4 (.slice A' (unl (l.take j)).length c') (unl (l.take j)).length ((unl (l.take j)).flatMap encP) ∧ MapW wr W.heap.size u ∧ CInv u j (unl (l.take j)) ∧ Below W.heap.size W wr) (fun _ i _ => l.length - (intOf i).toNat)
  case atStart =>
    exact ⟨0, none, 0, [], by omega, rfl, rfl, World.ownsRow_nil _ _ _ _, H0.out, ⟨⟨by simp, by simp⟩, by simp, rfl⟩, (Below.refl _ _).alloc (Nat.le_refl _) _⟩
  case round =>
    obtain ⟨j, A', c', u, hj, rfl, rfl, hown, hmap, hinv, hb⟩ := hrel
    have Hown := hid hown
    have Hmap := hid hmap
    have Hinv := hid hinv
    have Hb := hid hb
    have hg : W.heap.size < wr.heap.size := (Array.getElem?_eq_some_iff.1 hmap).1
    clear hown hmap hinv hb H0
    by_cases hlt : j < l.length
    · obtain ⟨b, off, rfl, hbb, x0, x1, x2, x3⟩ := px_at (Rd.below Hp.out Hb.out (Nat.le_refl _)) hlt
      have Hut := hid (unl_take l j hlt)
      have hsp : soundB l[j] = true := List.all_eq_true.1 Hs.out _ (List.getElem_mem hlt)
      have hul : (unl (l.take j)).length ≤ j := Nat.le_trans (unl_len _) (List.length_take_le _ _)
      generalize l[j] = p at *
      have Hsp := hid hsp
      have Hnx := hid (cinv_next Hinv.out Hsp.out)
      obtain ⟨c0, cj, cz⟩ := cnt_some Hinv.out p
      have Hcz := hid cz
      obtain ⟨p0, p1, p2, p3⟩ := p
      simp only at x0 x1 x2 x3
      obtain ⟨w1, w2, h1, h2, h3, h4, h5, h6, h7, h8⟩ := map_bump (p := (p0, p1, p2, p3)) ((Hmap.out.alloc (.cells #[.int .i64 p0, .int .i64 p1, .int .i64 p2, .int .i64 p3] 62)).drew) Hinv.out.1 Hsp.out
      have Hbox := hid (h8.blk ((Blk.new wr 62 #[.int .i64 p0, .int .i64 p1, .int .i64 p2, .int .i64 p3]).drew) (by omega))
      have Hown2 := hid (own_only (World.ownsRow.drew (Hown.out.alloc (.cells #[.int .i64 p0, .int .i64 p1, .int .i64 p2, .int .i64 p3] 62))) h8 (by omega))
      have Hb2 := hid (((Hb.out.alloc (by omega) (.cells #[.int .i64 p0, .int .i64 p1, .int .i64 p2, .int .i64 p3] 62)).drew).trans (h8.below (Nat.le_refl _)))
      have hsz2 : W.heap.size + 1 ≤ w2.heap.size ∧ wr.heap.size < w2.heap.size := by have := h8.1; simp at this; omega
      obtain ⟨hs2, hs3⟩ := hsz2
      have H6 := hid h6
      have hbx : w1.cell? ⟨wr.heap.size, 0, none⟩ = some (.int .i64 p0) := (World.cell?_of_block (h7.2.1 wr.heap.size (by omega))).trans ((Blk.new wr 62 #[.int .i64 p0, .int .i64 p1, .int .i64 p2, .int .i64 p3]).drew.cell 0)
      generalize cntOf u (p0, p1, p2, p3) = n at *
      generalize (idxOf' u (p0, p1, p2, p3) : Nat) = st at *
      unfold vP at h1 h2 h3 h5
      simp only at h1 h2 h3 h5
      have hq : IntKind.i64.wrap (n + 1) = n + 1 := IntWalk.i64_in _ (by omega)
      clear h6 h7 h8 hsp cz hmm
      by_cases hn : n = 0
      · have he := hid (show unl (l.take (j + 1)) = unl (l.take j) ++ [(p0, p1, p2, p3)] by rw [Hut.out]; unfold unlStep; rw [if_neg (Hcz.out.1 hn)])
        have hq2 : (n + 1 == 1) = true := beq_iff_eq.2 (by omega)
        clear hn
        go_wp2_with fail
        go_region
        have r0 := Hbox.out.cell 0
        have r1 := Hbox.out.cell 1
        have r2 := Hbox.out.cell 2
        have r3 := Hbox.out.cell 3
        simp only [List.getElem?_toArray, List.getElem?_cons_zero, List.getElem?_cons_succ] at r0 r1 r2 r3
        go_wp2_with (at_builtin; refine wpList_app _ rfl _ _ _ rfl (W.heap.size + 1) 62 i0 (.agg #[.int .i64 0, .int .i64 0, .int .i64 0, .int .i64 0]) 4 32 Try.underlying24 Hi0.out Hz0.out Hz1.out Hz2.out rfl (by omega) A' (unl (l.take j)).length c' _ rfl (Hown2.out.alloc _) _ _ 1 1 [.int .i64 p0, .int .i64 p1, .int .i64 p2, .int .i64 p3] rfl (rd_one _ _ _ _ (Blk.new _ _ _)) (by simp) (by simp [Value.oneCell']) (by simp only [maxLen]; omega) (by omega) (by simp; omega) ?_; rintro A3 c3 w3 ⟨hown3, hgr3, hb3, _⟩)
        go_roundw
        case rel =>
          refine ⟨j + 1, A3, c3, bump u (p0, p1, p2, p3), by omega, by go_num, by rw [he.out, List.length_append]; rfl, ?_, ?_, ?_, (Hb2.out.alloc (by omega) _).trans (hb3.mono (by omega))⟩
          · rw [he.out, List.flatMap_append, List.length_append]
            exact hown3
          · refine MapW.grown (MapW.alloc H6.out _) hgr3 ?_
            intro e
            have := ((Hown2.out.alloc (.cells #[.int .i64 p0, .int .i64 p1, .int .i64 p2, .int .i64 p3] 62)).lt _ e.symm).1
            omega
          · rw [Hut.out]; exact Hnx.out
        case measure => simp [intOf]; omega
      · have he := hid (show unl (l.take (j + 1)) = unl (l.take j) by rw [Hut.out]; unfold unlStep; rw [if_pos (Decidable.of_not_not (fun h => hn (Hcz.out.2 h)))])
        have hq2 : (n + 1 == 1) = false := beq_eq_false_iff_ne.2 (by omega)
        clear hn
        go_wp2_with fail
        go_region
        have r0 := Hbox.out.cell 0
        have r1 := Hbox.out.cell 1
        have r2 := Hbox.out.cell 2
        have r3 := Hbox.out.cell 3
        simp only [List.getElem?_toArray, List.getElem?_cons_zero, List.getElem?_cons_succ] at r0 r1 r2 r3
        go_wp2_with fail
        go_roundw
        case rel =>
          refine ⟨j + 1, A', c', bump u (p0, p1, p2, p3), by omega, by go_num, by rw [he.out], by rw [he.out]; exact Hown2.out, H6.out, by rw [Hut.out]; exact Hnx.out, Hb2.out⟩
        case measure => simp [intOf]; omega
    · have e : j = l.length := by omega
      have ht : l.take j = l := by rw [e, List.take_length]
      rw [ht] at Hown ⊢
      go_wp2
      go_ret
      exact ⟨A', c', rfl, own_base Hown.out (by omega), Hb.out⟩

end Go.Proofs.Ytphhoihhmphbdaa

namespace Go.Proofs.Ytphhoihhmphbdaa
open Go.RowKit

/-- the pixels that aren't opaque, then the others -/
def clearL (l : List Px) : List Px := l.filter (fun p => decide (p.2.2.2 ≠ 65535))
def restL (l : List Px) : List Px := l.filter (fun p => decide (p.2.2.2 = 65535))
def palM (l : List Px) : List Px := clearL l ++ restL l
theorem clear_len (l : List Px) : (clearL l).length ≤ l.length := List.length_filter_le _ _
theorem rest_len (l : List Px) : (restL l).length ≤ l.length := List.length_filter_le _ _
theorem parts_len (l : List Px) : (clearL l).length + (restL l).length = l.length := by
  unfold clearL restL
  induction l with
  | nil => rfl
  | cons a l ih =>
    by_cases h : a.2.2.2 = 65535
    · rw [List.filter_cons_of_neg (by simp [h]), List.filter_cons_of_pos (by simp [h])]; simp only [List.length_cons]; omega
    · rw [List.filter_cons_of_pos (by simp [h]), List.filter_cons_of_neg (by simp [h])]; simp only [List.length_cons]; omega

theorem two_start (W : World) (e : TypeId) (size : Nat) : Two W W e size none 0 0 [] none 0 0 [] :=
  ⟨World.ownsRow_nil _ _ _ _, World.ownsRow_nil _ _ _ _, by intro g h; simp [Value.ownBlock] at h, Below.refl _ _⟩

set_option maxRecDepth 100000 in
set_option maxHeartbeats 8000000 in
theorem palette_any (A : Option Addr) (c : Nat) (l : List Px) (W : World) (hp : RdP W W.heap.size A l) (hm : l.length ≤ 1000000) :
    Calls Try.prog 72 #[.slice A l.length c] W (PxsEnd (palM l) W) := by
  have Hp := hid hp
  obtain ⟨i0, hi0, hz0, hz1, hz2⟩ := info_parts px_info
  have Hi0 := hid hi0
  have Hz0 := hid hz0
  have Hz1 := hid hz1
  have Hz2 := hid hz2
  clear hp hi0 hz0 hz1 hz2
  go_enter Try.func72, Try.ntmps72
  go_upto_region 3 with (fail)
  go_loopw [3, 4, 9] (fun o q i wr => ∃ (j : Nat) (A1 : Option Addr) (c1 : Nat) (A2 : Option Addr) (c2 : Nat), j ≤ l.length ∧ i = .int .i64 j ∧ o = .slice A1 (clearL (l.take j)).length c1 ∧ q = .slice A2 (restL (l.take j)).length c2 ∧ Two W wr 62 4 A1 (clearL (l.take j)).length c1 ((clearL (l.take j)).flatMap encP) A2 (restL (l.take j)).length c2 ((restL (l.take j)).flatMap encP)) (fun _ _ i _ => l.length - (intOf i).toNat)
  case atStart =>
    exact ⟨0, none, 0, none, 0, by omega, rfl, rfl, rfl, two_start W _ _⟩
  case round =>
    obtain ⟨j, A1, c1, A2, c2, hj, rfl, rfl, rfl, htwo⟩ := hrel
    have Ht := hid htwo
    have hsz := htwo.2.2.2.size
    clear htwo
    by_cases hlt : j < l.length
    · obtain ⟨b, off, rfl, hbb, x0, x1, x2, x3⟩ := px_at (Rd.below Hp.out Ht.out.2.2.2 (Nat.le_refl _)) hlt
      have hl1 : (clearL (l.take j)).length ≤ j := Nat.le_trans (clear_len _) (List.length_take_le _ _)
      have hl2 : (restL (l.take j)).length ≤ j := Nat.le_trans (rest_len _) (List.length_take_le _ _)
      have Hc := hid (show clearL (l.take (j + 1)) = clearL (l.take j) ++ (if l[j].2.2.2 = 65535 then [] else [l[j]]) by
        unfold clearL
        rw [List.take_succ_eq_append_getElem hlt, List.filter_append]
        by_cases h : l[j].2.2.2 = 65535 <;> simp [h])
      have Hr := hid (show restL (l.take (j + 1)) = restL (l.take j) ++ (if l[j].2.2.2 = 65535 then [l[j]] else []) by
        unfold restL
        rw [List.take_succ_eq_append_getElem hlt, List.filter_append]
        by_cases h : l[j].2.2.2 = 65535 <;> simp [h])
      generalize l[j] = p at *
      obtain ⟨p0, p1, p2, p3⟩ := p
      simp only at x0 x1 x2 x3
      have Ht1 := hid (Ht.out.alloc (.cells #[.int .i64 p0, .int .i64 p1, .int .i64 p2, .int .i64 p3] 62))
      have Ht2 := hid (Ht1.out.alloc (.cells #[.int .i64 p0, .int .i64 p1, .int .i64 p2, .int .i64 p3] 62))
      have hk1 := Blk.new (wr.alloc (.cells #[.int .i64 p0, .int .i64 p1, .int .i64 p2, .int .i64 p3] 62)) 62 #[.int .i64 p0, .int .i64 p1, .int .i64 p2, .int .i64 p3]
      simp only [World.size_alloc] at hk1
      have Hk1 := hid hk1
      clear hk1
      by_cases ha : p3 = 65535
      · have hq : (p3 == 65535) = true := beq_iff_eq.2 ha
        have hc1 := hid (show clearL (l.take (j + 1)) = clearL (l.take j) by rw [Hc.out, if_pos ha, List.append_nil])
        have hr1 := hid (show restL (l.take (j + 1)) = restL (l.take j) ++ [(p0, p1, p2, p3)] by rw [Hr.out, if_pos ha])
        clear ha
        go_wp2_with (at_builtin; refine wpList_app _ rfl _ _ _ rfl W.heap.size 62 i0 (.agg #[.int .i64 0, .int .i64 0, .int .i64 0, .int .i64 0]) 4 32 Try.underlying24 Hi0.out Hz0.out Hz1.out Hz2.out rfl (by omega) A2 (restL (l.take j)).length c2 _ rfl Ht2.out.2.1 _ _ 1 1 [.int .i64 p0, .int .i64 p1, .int .i64 p2, .int .i64 p3] rfl (rd_one _ _ _ _ Hk1.out) (by simp) (by simp [Value.oneCell']) (by simp only [maxLen]; omega) (by omega) (by simp; omega) ?_; intro A3 c3 w3 ha3)
        go_roundw
        case rel =>
          refine ⟨j + 1, A1, c1, A3, c3, by omega, by go_num, by rw [hc1.out], by rw [hr1.out, List.length_append]; rfl, ?_⟩
          have := (Ht2.out.swap.app ha3).1.swap
          rw [hc1.out, hr1.out, List.length_append, List.flatMap_append]
          exact this
        case measure => simp [intOf]; omega
      · have hq : (p3 == 65535) = false := beq_eq_false_iff_ne.2 ha
        have hc1 := hid (show clearL (l.take (j + 1)) = clearL (l.take j) ++ [(p0, p1, p2, p3)] by rw [Hc.out, if_neg ha])
        have hr1 := hid (show restL (l.take (j + 1)) = restL (l.take j) by rw [Hr.out, if_neg ha, List.append_nil])
        clear ha
        go_wp2_with (at_builtin; refine wpList_app _ rfl _ _ _ rfl W.heap.size 62 i0 (.agg #[.int .i64 0, .int .i64 0, .int .i64 0, .int .i64 0]) 4 32 Try.underlying24 Hi0.out Hz0.out Hz1.out Hz2.out rfl (by omega) A1 (clearL (l.take j)).length c1 _ rfl Ht2.out.1 _ _ 1 1 [.int .i64 p0, .int .i64 p1, .int .i64 p2, .int .i64 p3] rfl (rd_one _ _ _ _ Hk1.out) (by simp) (by simp [Value.oneCell']) (by simp only [maxLen]; omega) (by omega) (by simp; omega) ?_; intro A3 c3 w3 ha3)
        go_roundw
        case rel =>
          refine ⟨j + 1, A3, c3, A2, c2, by omega, by go_num, by rw [hc1.out, List.length_append]; rfl, by rw [hr1.out], ?_⟩
          have := (Ht2.out.app ha3).1
          rw [hc1.out, hr1.out, List.length_append, List.flatMap_append]
          exact this
        case measure => simp [intOf]; omega
    · have e : j = l.length := by omega
      have ht : l.take j = l := by rw [e, List.take_length]
      rw [ht] at Ht ⊢
      have hpl := Nat.le_of_eq (parts_len l)
      have Hrr := hid (own_rdp Ht.out.2.1)
      have Hrn := hid (fun h => own_nil_n Ht.out.2.1 h)
      have Henc := hid (enc_cells (restL l))
      have Hpm := hid (show palM l = clearL l ++ restL l from rfl)
      generalize clearL l = cl at *
      generalize restL l = rl at *
      clear ht
      go_wp2_with (at_builtin; refine wpList_app _ rfl _ _ _ rfl W.heap.size 62 i0 (.agg #[.int .i64 0, .int .i64 0, .int .i64 0, .int .i64 0]) 4 32 Try.underlying24 Hi0.out Hz0.out Hz1.out Hz2.out rfl (by omega) A1 cl.length c1 _ rfl Ht.out.1 _ A2 rl.length c2 (rl.flatMap encP) rfl Hrr.out Hrn.out Henc.out (by simp only [maxLen]; omega) (by omega) (by omega) ?_; intro A3 c3 w3 ha3)
      go_ret
      rw [Hpm.out]
      have ho : w3.ownsRow W.heap.size 62 4 (.slice A3 (cl ++ rl).length c3) (cl ++ rl).length ((cl ++ rl).flatMap encP) := by
        rw [List.length_append, List.flatMap_append]; exact ha3.1
      exact ⟨A3, c3, by rw [List.length_append]; rfl, ho, Ht.out.2.2.2.trans ha3.2.2.1⟩

set_option maxRecDepth 100000 in
set_option maxHeartbeats 4000000 in
theorem cloneP_any (A : Option Addr) (c : Nat) (l : List Px) (W : World) (hp : RdP W W.heap.size A l) (hn : A = none → l.length = 0) (hm : l.length ≤ 1000000) :
    Calls Try.prog 74 #[.slice A l.length c] W (PxsEnd l W) := by
  have Hp := hid hp
  have Hn := hid hn
  obtain ⟨i0, hi0, hz0, hz1, hz2⟩ := info_parts px_info
  have Hi0 := hid hi0
  have Hz0 := hid hz0
  have Hz1 := hid hz1
  have Hz2 := hid hz2
  have hnil := fun (w : World) => Lib.run_eql_slice_nil (P := Try.prog) w 24 62 A l.length c 0 0 Try.underlying24
  have Henc := hid (enc_cells l)
  clear hp hn hi0 hz0 hz1 hz2
  cases A with
  | none =>
    have hl := hid (Hn.out rfl)
    go_enter Try.func74, Try.ntmps74
    go_wp2
    go_ret
    obtain rfl := List.eq_nil_of_length_eq_zero hl.out
    exact ⟨none, 0, rfl, World.ownsRow_nil _ _ _ _, Below.refl _ _⟩
  | some ad =>
    have Ho := hid (empty_rowP W 62 4)
    go_enter Try.func74, Try.ntmps74
    go_wp2_with (at_builtin; refine wpList_app _ rfl _ _ _ rfl W.heap.size 62 i0 (.agg #[.int .i64 0, .int .i64 0, .int .i64 0, .int .i64 0]) 4 32 Try.underlying24 Hi0.out Hz0.out Hz1.out Hz2.out rfl (by omega) _ 0 0 _ rfl Ho.out W.heap.size (some ad) l.length c (l.flatMap encP) rfl (Rd.alloc Hp.out (Nat.le_refl _) _) (by simp) Henc.out (by simp only [maxLen]; omega) (by omega) (by simp) ?_; intro A3 c3 w3 ha3)
    go_ret
    have ho : w3.ownsRow W.heap.size 62 4 (.slice A3 l.length c3) l.length (l.flatMap encP) := by
      have := ha3.1; simpa using this
    exact ⟨A3, c3, by first | rfl | (rw [Nat.zero_add]; rfl) | simp, ho, ((Below.refl _ _).alloc (Nat.le_refl _) _).trans ha3.2.2.1⟩

/-- where the first clear pixel stands -/
def clearAt (l : List Px) : Int := if l.findIdx (fun p => p.2.2.2 == 0) < l.length then (l.findIdx (fun p => p.2.2.2 == 0) : Nat) else -1
set_option maxRecDepth 100000 in
theorem isclear_any (a0 a1 a2 a3 : Int) (W : World) :
    Calls Try.prog 70 #[.agg #[.int .i64 a0, .int .i64 a1, .int .i64 a2, .int .i64 a3]] W fun e w' => e = .returned (.bool (a3 == 0)) ∧ Below W.heap.size W w' := by
  go_enter Try.func70, Try.ntmps70
  go_wp2
  go_ret
  exact ⟨rfl, (Below.refl _ _).alloc (Nat.le_refl _) _⟩
set_option maxHeartbeats 1000000 in
theorem indexClear_any (A : Option Addr) (c : Nat) (l : List Px) (W : World) (hr : RdP W W.heap.size A l) (hm : l.length ≤ 1000000) :
    Calls Try.prog 69 #[.slice A l.length c, .func (.func 70) #[] #[]] W fun e w' => e = .returned (.int .i64 (clearAt l)) ∧ Below W.heap.size W w' := by
  have Hr := hid hr
  clear hr
  go_enter Try.func69, Try.ntmps69
  go_wp2
  go_loopw [8] (fun i wr => ∃ j : Nat, j ≤ l.length ∧ i = .int .i64 j ∧ (∀ p ∈ l.take j, (p.2.2.2 == 0) = false) ∧ Below W.heap.size W wr) (fun i _ => l.length - (intOf i).toNat)
  case atStart => exact ⟨0, by omega, rfl, by simp, Below.refl _ _⟩
  case round =>
    obtain ⟨j, hj, rfl, hno, hb⟩ := hrel
    have Hno := hid hno
    have Hb := hid hb
    clear hno hb
    by_cases hlt : j < l.length
    · obtain ⟨b, off, rfl, hbb, x0, x1, x2, x3⟩ := px_at (Rd.below Hr.out Hb.out (Nat.le_refl _)) hlt
      have Hhit := hid (fun (h : (l[j].2.2.2 == 0) = true) => show clearAt l = j by
        have e : l.findIdx (fun p => p.2.2.2 == 0) = j := by
          rw [List.findIdx_eq hlt]
          exact ⟨h, fun i hi => Hno.out _ (by rw [List.mem_take_iff_getElem]; exact ⟨i, by omega, rfl⟩)⟩
        unfold clearAt
        rw [e, if_pos hlt])
      have Hnx := hid (fun (h : (l[j].2.2.2 == 0) = false) => show ∀ p ∈ l.take (j + 1), (p.2.2.2 == 0) = false by
        intro p hp
        rw [List.take_succ_eq_append_getElem hlt] at hp
        rcases List.mem_append.1 hp with hp | hp
        · exact Hno.out p hp
        · simp at hp; subst hp; exact h)
      generalize l[j] = p at *
      obtain ⟨p0, p1, p2, p3⟩ := p
      simp only at x0 x1 x2 x3 Hhit Hnx
      go_wp2_with fail
      refine (isclear_any p0 p1 p2 p3 _).mono ?_
      rintro e w2 ⟨rfl, hb2⟩
      have Hb2 := hid (Hb.out.trans (hb2.mono Hb.out.size))
      clear hb2
      cases hq : (p3 == 0)
      · have Hn2 := hid (Hnx.out hq)
        clear hq
        go_wp2
        go_roundw
        case rel => exact ⟨j + 1, by omega, by go_num, Hn2.out, Hb2.out⟩
        case measure => simp [intOf]; omega
      · have Hn2 := hid (Hhit.out hq)
        clear hq
        go_wp2
        go_ret
        exact ⟨ret_int (by rw [Hn2.out]), Hb2.out⟩
    · have e : j = l.length := by omega
      have Hn2 := hid (show clearAt l = -1 by
        unfold clearAt
        rw [if_neg]
        rw [List.findIdx_lt_length]
        rintro ⟨x, hx, h⟩
        have := Hno.out x (by rw [e, List.take_length]; exact hx)
        rw [this] at h; cases h)
      go_wp2
      go_ret
      exact ⟨ret_int (by rw [Hn2.out]), Hb.out⟩

/-- do all pixels have numbers in a form? -/
def fitsB (f : Fm) (l : List Px) : Bool := l.all (fun p => (fnumsOf f p).isSome) && formOk f
theorem fits_take (f : Fm) (l : List Px) (j : Nat) (hj : j < l.length) : (l.take (j + 1)).all (fun p => (fnumsOf f p).isSome) = ((l.take j).all (fun p => (fnumsOf f p).isSome) && (fnumsOf f l[j]).isSome) := by
  rw [List.take_succ_eq_append_getElem hj, List.all_append]; simp
/-- a form, boxed -/
def FbW (w W : World) (f : Fm) (PA KA : Option Addr) (pc kc : Nat) : Prop := Blk w W.heap.size 38 #[.int .i64 f.w, .int .i64 f.h, .int .i64 f.d, .int .i64 f.c, .int .i64 f.l, .slice PA f.pal.length pc, .slice KA f.key.length kc] ∧ Below W.heap.size W w
section
variable {w w' W : World} {f : Fm} {PA KA : Option Addr} {pc kc : Nat}
theorem fbw_start (f : Fm) (PA KA : Option Addr) (pc kc : Nat) (W : World) : FbW (W.alloc (.cells #[.int .i64 f.w, .int .i64 f.h, .int .i64 f.d, .int .i64 f.c, .int .i64 f.l, .slice PA f.pal.length pc, .slice KA f.key.length kc] 38)) W f PA KA pc kc := ⟨Blk.new _ _ _, (Below.refl _ _).alloc (Nat.le_refl _) _⟩
theorem FbW.below (h : FbW w W f PA KA pc kc) (hb : Below w.heap.size w w') : FbW w' W f PA KA pc kc := ⟨h.1.below hb h.1.lt, h.2.trans (hb.mono h.2.size)⟩
theorem FbW.alloc (h : FbW w W f PA KA pc kc) (o : Obj) : FbW (w.alloc o) W f PA KA pc kc := ⟨h.1.alloc o, h.2.alloc h.2.size o⟩
theorem FbW.drewN (h : FbW w W f PA KA pc kc) (k : Nat) : FbW (w.drewN k) W f PA KA pc kc := ⟨h.1, below_drewN h.2 k⟩
theorem FbW.rdp (h : FbW w W f PA KA pc kc) {A : Option Addr} {l : List Px} (hp : RdP W W.heap.size A l) : RdP w w.heap.size A l := Rd.more (Rd.below hp h.2 (Nat.le_refl _)) h.2.size
theorem FbW.rdi (h : FbW w W f PA KA pc kc) {A : Option Addr} {l : List Int} (hk : RdI W W.heap.size A l) : RdI w w.heap.size A l := (hk.below h.2 (Nat.le_refl _)).more h.2.size
end

set_option maxRecDepth 100000 in
set_option maxHeartbeats 4000000 in
theorem fits_any (f : Fm) (PA KA A : Option Addr) (pc kc c : Nat) (l : List Px) (W : World) (hp : RdP W W.heap.size PA f.pal) (hk : RdI W W.heap.size KA f.key) (hpm : f.pal.length ≤ 1000000) (hkm : f.key.length ≤ 1000000) (hl : RdP W W.heap.size A l) (hm : l.length ≤ 1000000) :
    Calls Try.prog 75 #[.agg #[.int .i64 f.w, .int .i64 f.h, .int .i64 f.d, .int .i64 f.c, .int .i64 f.l, .slice PA f.pal.length pc, .slice KA f.key.length kc], .slice A l.length c] W fun e w' => e = .returned (.bool (fitsB f l)) ∧ Below W.heap.size W w' := by
  have Hp := hid hp
  have Hk := hid hk
  have Hl := hid hl
  have Hw := hid (fbw_start f PA KA pc kc W)
  have Hf : Hid (fitsB f l = (l.all (fun p => (fnumsOf f p).isSome) && formOk f)) := rfl
  clear hp hk hl
  go_enter Try.func75, Try.ntmps75
  go_wp2_with fail
  go_loopw [11] (fun i wr => ∃ j : Nat, j ≤ l.length ∧ i = .int .i64 j ∧ (l.take j).all (fun p => (fnumsOf f p).isSome) = true ∧ FbW wr W f PA KA pc kc) (fun i _ => l.length - (intOf i).toNat)
  case atStart => exact ⟨0, by omega, rfl, rfl, Hw.out⟩
  case round =>
    obtain ⟨j, hj, rfl, hall, hw⟩ := hrel
    have Hall := hid hall
    have Hwr := hid hw
    clear hall hw Hw
    have q0 := Hwr.out.1.cell 0
    have q1 := Hwr.out.1.cell 1
    have q2 := Hwr.out.1.cell 2
    have q3 := Hwr.out.1.cell 3
    have q4 := Hwr.out.1.cell 4
    have q5 := Hwr.out.1.cell 5
    have q6 := Hwr.out.1.cell 6
    simp only [List.getElem?_toArray, List.getElem?_cons_zero, List.getElem?_cons_succ] at q0 q1 q2 q3 q4 q5 q6
    have hg := Hwr.out.1.lt
    by_cases hlt : j < l.length
    · obtain ⟨b, off, rfl, hbb, x0, x1, x2, x3⟩ := px_at (Rd.below Hl.out Hwr.out.2 (Nat.le_refl _)) hlt
      have Hst := hid (fits_take f l j hlt)
      have Hno := hid (fun (h : fnumsOf f l[j] = none) => show fitsB f l = false by
        rw [Hf.out]
        have : l.all (fun p => (fnumsOf f p).isSome) = false := by rw [List.all_eq_false]; exact ⟨l[j], List.getElem_mem hlt, by rw [h]; simp⟩
        rw [this]; rfl)
      generalize l[j] = p at *
      obtain ⟨p0, p1, p2, p3⟩ := p
      simp only at x0 x1 x2 x3
      have Hw1 := hid (Hwr.out.alloc (.cells #[.int .i64 p0, .int .i64 p1, .int .i64 p2, .int .i64 p3] 62))
      go_wp2_with fail
      refine (fnums_any f PA KA pc kc p0 p1 p2 p3 _ (Hw1.out.rdp Hp.out) (Hw1.out.rdi Hk.out) hpm hkm).mono ?_
      rintro e w2 ⟨he, hb2⟩
      have Hw2 := hid (Hw1.out.below hb2)
      clear hb2 Hw1 q0 q1 q2 q3 q4 q5 q6
      cases hn : fnumsOf f (p0, p1, p2, p3) with
      | none =>
        rw [hn] at he
        have he : e = .returned (.tuple #[.slice none 0 0, .bool false]) := he
        subst he
        have Hn := hid (Hno.out hn)
        clear hn
        go_wp2
        go_ret
        exact ⟨by rw [Hn.out]; rfl, Hw2.out.2⟩
      | some o =>
        rw [hn] at he
        obtain ⟨A', c', rfl, _⟩ := he
        have Hal := hid (show (l.take (j + 1)).all (fun p => (fnumsOf f p).isSome) = true by rw [Hst.out, Hall.out, hn]; rfl)
        clear hn
        go_wp2
        go_roundw
        case rel => exact ⟨j + 1, by omega, by go_num, Hal.out, Hw2.out⟩
        case measure => simp [intOf]; omega
    · have e : j = l.length := by omega
      have Hal := hid (show fitsB f l = formOk f by rw [Hf.out]; have := Hall.out; rw [e, List.take_length] at this; rw [this]; simp)
      go_wp2_with fail
      refine (fcheck_any f PA KA pc kc _ (Hwr.out.rdp Hp.out) (Hwr.out.rdi Hk.out) hpm hkm).mono ?_
      rintro e w2 ⟨rfl, hb2⟩
      have Hw2 := hid (Hwr.out.below hb2)
      clear hb2
      cases hf : formOk f
      · have Hff := hid hf
        rw [if_neg (by simp), errv_6]
        clear hf
        go_wp2
        go_ret
        exact ⟨by rw [Hal.out, Hff.out]; rfl, Hw2.out.2⟩
      · have Hff := hid hf
        rw [if_pos rfl, errv_0]
        clear hf
        go_wp2
        go_ret
        exact ⟨by rw [Hal.out, Hff.out]; rfl, Hw2.out.2⟩

end Go.Proofs.Ytphhoihhmphbdaa

namespace Go.Proofs.Ytphhoihhmphbdaa
open Go.RowKit

/-- a bare form -/
def bare (w h d c l : Int) : Fm := ⟨w, h, d, c, l, [], []⟩
/-- the key of a pixel -/
def keyOf' (f : Fm) (p : Px) : List Int := (fnumsOf f (p.1, p.2.1, p.2.2.1, 65535)).getD []
def mkKey (p : Px) (f : Fm) : Fm := ⟨f.w, f.h, f.d, f.c, f.l, f.pal, keyOf' f p⟩
def mkPal (l : List Px) (f : Fm) : Fm := ⟨f.w, f.h, f.d, f.c, f.l, palM l, f.key⟩
theorem key_len (f : Fm) (p : Px) : (keyOf' f p).length ≤ 4 := by
  unfold keyOf' fnumsOf
  split
  · cases h : numsOf f (p.1, p.2.1, p.2.2.1, 65535) with
    | none => simp
    | some l =>
      simp only [Option.getD_some]
      unfold numsOf at h
      split at h
      · split at h
        · injection h with h; subst h; simp
        · cases h
      · split at h
        · split at h
          · injection h with h; subst h; have := (wide_len f.c (p.1, p.2.1, p.2.2.1, 65535)).2; simpa using this
          · cases h
        · cases h
  · simp

theorem keyed_any (a0 a1 a2 a3 : Int) (W : World) :
    Calls Try.prog 71 #[.agg #[.int .i64 a0, .int .i64 a1, .int .i64 a2, .int .i64 a3]] W fun e w' => e = .returned (.func (.func 111) #[] #[.pointer (some ⟨W.heap.size, 0, none⟩)]) ∧ W.alloc (.cells #[.int .i64 a0, .int .i64 a1, .int .i64 a2, .int .i64 a3] 62) = w' := by
  go_enter Try.func71, Try.ntmps71
  go_wp2
  go_ret
  exact ⟨rfl, rfl⟩

/-- a form's rows, the call's own -/
def FmOwn (w : World) (base : Nat) (f : Fm) (PA KA : Option Addr) (pc kc : Nat) : Prop :=
  w.ownsRow base 62 4 (.slice PA f.pal.length pc) f.pal.length (f.pal.flatMap encP) ∧ w.ownsRow base 3 1 (.slice KA f.key.length kc) f.key.length (intsV f.key)
section
variable {w w' : World} {base base' : Nat} {f : Fm} {PA KA : Option Addr} {pc kc : Nat}
theorem FmOwn.below (h : FmOwn w base f PA KA pc kc) {C : Nat} (hb : Below C w w') (hC : w.heap.size ≤ C) : FmOwn w' base f PA KA pc kc := ⟨own_below h.1 hb hC, own_below h.2 hb hC⟩
theorem FmOwn.lower (h : FmOwn w base' f PA KA pc kc) (hb : base ≤ base') : FmOwn w base f PA KA pc kc := ⟨own_base h.1 hb, own_base h.2 hb⟩
theorem FmOwn.alloc (h : FmOwn w base f PA KA pc kc) (o : Obj) : FmOwn (w.alloc o) base f PA KA pc kc := ⟨h.1.alloc o, h.2.alloc o⟩
theorem FmOwn.drewN (h : FmOwn w base f PA KA pc kc) (n : Nat) : FmOwn (w.drewN n) base f PA KA pc kc := h
theorem FmOwn.set_ (h : FmOwn w base f PA KA pc kc) {g : Nat} {t : TypeId} {cs : Array Value} (hg : Blk w g t cs) (h1 : 62 ≠ t) (h2 : 3 ≠ t) (o : Nat) (u : Value) : FmOwn (w.setCell ⟨g, o, none⟩ u) base f PA KA pc kc :=
  ⟨ownsRow_setCell_other (a := ⟨g, o, none⟩) h.1 (fun e => own_blk_ne h.1 hg h1 e.symm) u, ownsRow_setCell_other (a := ⟨g, o, none⟩) h.2 (fun e => own_blk_ne h.2 hg h2 e.symm) u⟩
theorem FmOwn.rdp (h : FmOwn w base f PA KA pc kc) : RdP w w.heap.size PA f.pal := own_rdp h.1
theorem FmOwn.rdi (h : FmOwn w base f PA KA pc kc) : RdI w w.heap.size KA f.key := own_rdi h.2
end
/-- what making a form ends in -/
def MkEnd (f : Fm) (W : World) (e : Ending) (w' : World) : Prop := ∃ PA KA pc kc, e = .returned (.agg #[.int .i64 f.w, .int .i64 f.h, .int .i64 f.d, .int .i64 f.c, .int .i64 f.l, .slice PA f.pal.length pc, .slice KA f.key.length kc]) ∧ FmOwn w' W.heap.size f PA KA pc kc
theorem below8 {B g : Nat} {W w : World} {a0 a1 a2 a3 a4 a5 a6 : Value} (h : Below B W w) (hg : B ≤ g) : Below B W (((((((w.setCell ⟨g, 0, none⟩ a0).setCell ⟨g, 1, none⟩ a1).setCell ⟨g, 2, none⟩ a2).setCell ⟨g, 3, none⟩ a3).setCell ⟨g, 4, none⟩ a4).setCell ⟨g, 5, none⟩ a5).setCell ⟨g, 6, none⟩ a6) :=
  ((((((h.setCell hg _).setCell hg _).setCell hg _).setCell hg _).setCell hg _).setCell hg _).setCell hg _

theorem set7_own {w : World} {base : Nat} {e : TypeId} {size n : Nat} {v : Value} {xs : List Value} {g : Nat} (h : w.ownsRow base e size v n xs) (hn : v.ownBlock ≠ some g) (a0 a1 a2 a3 a4 a5 a6 : Value) :
    (((((((w.setCell ⟨g, 0, none⟩ a0).setCell ⟨g, 1, none⟩ a1).setCell ⟨g, 2, none⟩ a2).setCell ⟨g, 3, none⟩ a3).setCell ⟨g, 4, none⟩ a4).setCell ⟨g, 5, none⟩ a5).setCell ⟨g, 6, none⟩ a6).ownsRow base e size v n xs :=
  ownsRow_setCell_other (ownsRow_setCell_other (ownsRow_setCell_other (ownsRow_setCell_other (ownsRow_setCell_other (ownsRow_setCell_other (ownsRow_setCell_other h hn a0) hn a1) hn a2) hn a3) hn a4) hn a5) hn a6
theorem set7_blk {w : World} {b g : Nat} {t : TypeId} {cs : Array Value} (h : Blk w b t cs) (hn : b ≠ g) (a0 a1 a2 a3 a4 a5 a6 : Value) :
    Blk (((((((w.setCell ⟨g, 0, none⟩ a0).setCell ⟨g, 1, none⟩ a1).setCell ⟨g, 2, none⟩ a2).setCell ⟨g, 3, none⟩ a3).setCell ⟨g, 4, none⟩ a4).setCell ⟨g, 5, none⟩ a5).setCell ⟨g, 6, none⟩ a6) b t cs :=
  ((((((h.far hn a0).far hn a1).far hn a2).far hn a3).far hn a4).far hn a5).far hn a6
theorem FmOwn.set7 {w : World} {base : Nat} {f : Fm} {PA KA : Option Addr} {pc kc : Nat} (h : FmOwn w base f PA KA pc kc) {g : Nat} {t : TypeId} {cs : Array Value} (hg : Blk w g t cs) (h1 : 62 ≠ t) (h2 : 3 ≠ t) (a0 a1 a2 a3 a4 a5 a6 : Value) :
    FmOwn (((((((w.setCell ⟨g, 0, none⟩ a0).setCell ⟨g, 1, none⟩ a1).setCell ⟨g, 2, none⟩ a2).setCell ⟨g, 3, none⟩ a3).setCell ⟨g, 4, none⟩ a4).setCell ⟨g, 5, none⟩ a5).setCell ⟨g, 6, none⟩ a6) base f PA KA pc kc :=
  ⟨set7_own h.1 (fun e => own_blk_ne h.1 hg h1 e.symm) _ _ _ _ _ _ _, set7_own h.2 (fun e => own_blk_ne h.2 hg h2 e.symm) _ _ _ _ _ _ _⟩
theorem grown_new {W w : World} {r : Option Nat} (h : W.grownBy w r) {k : Nat} (hk : W.heap.size ≤ k) (o : Nat) (u : Value) : W.grownBy (w.setCell ⟨k, o, none⟩ u) r :=
  ⟨h.os, h.tape, h.output, by simpa using h.size, fun j hj hr => (Below.heap_setCell w ⟨k, o, none⟩ u j (fun e => by have : j = k := e; omega)).trans (h.block j hj hr)⟩
theorem below_grown {B g : Nat} {w w' : World} (h : Below B w w') (hB : w.heap.size ≤ B) : w.grownBy w' (some g) := ⟨h.os, h.tape, h.output, h.size, fun k hk _ => h.block k (by omega)⟩
theorem grown_set {w : World} (g o : Nat) (u : Value) : w.grownBy (w.setCell ⟨g, o, none⟩ u) (some g) := ⟨by first | rfl | simp, by first | rfl | simp, by first | rfl | simp, by simp, fun k _ hk => Below.heap_setCell w ⟨g, o, none⟩ u k (fun e => hk (by rw [e]))⟩
theorem grown_trans {a b c : World} {r : Option Nat} (h1 : a.grownBy b r) (h2 : b.grownBy c r) : a.grownBy c r := ⟨h2.os.trans h1.os, h2.tape.trans h1.tape, h2.output.trans h1.output, Nat.le_trans h1.size h2.size, fun k hk hr => (h2.block k (by have := h1.size; omega) hr).trans (h1.block k hk hr)⟩
set_option maxRecDepth 100000 in
set_option maxHeartbeats 4000000 in
theorem keyf_any (w h d c l a0 a1 a2 a3 : Int) (g : Nat) (W : World) (hg : Blk W g 62 #[.int .i64 a0, .int .i64 a1, .int .i64 a2, .int .i64 a3]) :
    Calls Try.prog 111 #[.agg #[.int .i64 w, .int .i64 h, .int .i64 d, .int .i64 c, .int .i64 l, .slice none 0 0, .slice none 0 0], .pointer (some ⟨g, 0, none⟩)] W fun e w' => MkEnd (mkKey (a0, a1, a2, a3) (bare w h d c l)) W e w' ∧ Blk w' g 62 #[.int .i64 a0, .int .i64 a1, .int .i64 a2, .int .i64 65535] ∧ W.grownBy w' (some g) := by
  have hlt := hg.lt
  have s3 : W.cell? ⟨g, 3, none⟩ = some (.int .i64 a3) := hg.cell 3
  have sf : W.frozen? ⟨g, 3, none⟩ = false := hg.frozen 3
  have hsz1 : (W.setCell ⟨g, 3, none⟩ (.int .i64 65535)).heap.size = W.heap.size := by simp
  have Hb0 := hid (show Blk (((W.setCell ⟨g, 3, none⟩ (.int .i64 65535)).alloc (.cells #[.int .i64 w, .int .i64 h, .int .i64 d, .int .i64 c, .int .i64 l, .slice none 0 0, .slice none 0 0] 38)).alloc (.cells #[.int .i64 0, .int .i64 0, .int .i64 0, .int .i64 0, .int .i64 0, .slice none 0 0, .slice none 0 0] 38)) g 62 #[.int .i64 a0, .int .i64 a1, .int .i64 a2, .int .i64 65535] from ((hg.set_ 3 (.int .i64 65535)).alloc _).alloc _)
  have hf0 := (Blk.new (W.setCell ⟨g, 3, none⟩ (.int .i64 65535)) 38 #[.int .i64 w, .int .i64 h, .int .i64 d, .int .i64 c, .int .i64 l, .slice none 0 0, .slice none 0 0]).alloc (.cells #[.int .i64 0, .int .i64 0, .int .i64 0, .int .i64 0, .int .i64 0, .slice none 0 0, .slice none 0 0] 38)
  have hr0 := Blk.new ((W.setCell ⟨g, 3, none⟩ (.int .i64 65535)).alloc (.cells #[.int .i64 w, .int .i64 h, .int .i64 d, .int .i64 c, .int .i64 l, .slice none 0 0, .slice none 0 0] 38)) 38 #[.int .i64 0, .int .i64 0, .int .i64 0, .int .i64 0, .int .i64 0, .slice none 0 0, .slice none 0 0]
  simp only [World.size_alloc, hsz1] at hf0 hr0
  have Hf0 := hid hf0
  have Hr0 := hid hr0
  have Hgr0 := hid (show W.grownBy (((W.setCell ⟨g, 3, none⟩ (.int .i64 65535)).alloc (.cells #[.int .i64 w, .int .i64 h, .int .i64 d, .int .i64 c, .int .i64 l, .slice none 0 0, .slice none 0 0] 38)).alloc (.cells #[.int .i64 0, .int .i64 0, .int .i64 0, .int .i64 0, .int .i64 0, .slice none 0 0, .slice none 0 0] 38)) (some g) from grown_trans (grown_set g 3 (.int .i64 65535)) (below_grown (((Below.refl (W.setCell ⟨g, 3, none⟩ (.int .i64 65535)).heap.size _).alloc (Nat.le_refl _) _).alloc (by simp) _) (Nat.le_refl _)))
  have hsz2 : W.heap.size + 1 < (((W.setCell ⟨g, 3, none⟩ (.int .i64 65535)).alloc (.cells #[.int .i64 w, .int .i64 h, .int .i64 d, .int .i64 c, .int .i64 l, .slice none 0 0, .slice none 0 0] 38)).alloc (.cells #[.int .i64 0, .int .i64 0, .int .i64 0, .int .i64 0, .int .i64 0, .slice none 0 0, .slice none 0 0] 38)).heap.size := by simp
  clear hg hf0 hr0 hsz1
  go_enter Try.func111, Try.ntmps111
  go_upto_region 2 with (fail)
  generalize (((W.setCell ⟨g, 3, none⟩ (.int .i64 65535)).alloc (.cells #[.int .i64 w, .int .i64 h, .int .i64 d, .int .i64 c, .int .i64 l, .slice none 0 0, .slice none 0 0] 38)).alloc (.cells #[.int .i64 0, .int .i64 0, .int .i64 0, .int .i64 0, .int .i64 0, .slice none 0 0, .slice none 0 0] 38)) = wz at *
  have p0 := Hb0.out.cell 0
  have p1 := Hb0.out.cell 1
  have p2 := Hb0.out.cell 2
  have p3 := Hb0.out.cell 3
  have q0 := Hf0.out.cell 0
  have q1 := Hf0.out.cell 1
  have q2 := Hf0.out.cell 2
  have q3 := Hf0.out.cell 3
  have q4 := Hf0.out.cell 4
  have q5 := Hf0.out.cell 5
  have q6 := Hf0.out.cell 6
  simp only [List.getElem?_toArray, List.getElem?_cons_zero, List.getElem?_cons_succ] at p0 p1 p2 p3 q0 q1 q2 q3 q4 q5 q6
  clear s3 sf
  go_wp2_with fail
  refine (fnums_any (bare w h d c l) none none 0 0 a0 a1 a2 65535 wz Rd.nil RdI.nil (by simp [bare]) (by simp [bare])).mono ?_
  rintro e w2 ⟨he, hb2⟩
  have Hb2 := hid (Hb0.out.below hb2 (by omega))
  have Hf2 := hid (Hf0.out.below hb2 (by omega))
  have Hr2 := hid (Hr0.out.below hb2 (by omega))
  have Hgr2 := hid (grown_trans Hgr0.out (below_grown hb2 (Nat.le_refl _)))
  have hsz3 : W.heap.size + 1 < w2.heap.size := Nat.lt_of_lt_of_le hsz2 hb2.size
  have Hk := hid (key_len (bare w h d c l) (a0, a1, a2, a3))
  have Hkd : Hid (keyOf' (bare w h d c l) (a0, a1, a2, a3) = (fnumsOf (bare w h d c l) (a0, a1, a2, 65535)).getD []) := rfl
  clear hb2 p0 p1 p2 p3 q0 q1 q2 q3 q4 q5 q6
  have Hend := hid (show ∃ KA kc n, e = .returned (.tuple #[.slice KA (keyOf' (bare w h d c l) (a0, a1, a2, a3)).length kc, .bool n]) ∧ w2.ownsRow wz.heap.size 3 1 (.slice KA (keyOf' (bare w h d c l) (a0, a1, a2, a3)).length kc) (keyOf' (bare w h d c l) (a0, a1, a2, a3)).length (intsV (keyOf' (bare w h d c l) (a0, a1, a2, a3))) by
    rw [Hkd.out]
    cases hn : fnumsOf (bare w h d c l) (a0, a1, a2, 65535) with
    | none =>
      rw [hn] at he
      exact ⟨none, 0, false, he, World.ownsRow_nil _ _ _ _⟩
    | some o =>
      rw [hn] at he
      obtain ⟨A, cc, rfl, hr⟩ := he
      exact ⟨A, cc, true, rfl, hr⟩)
  clear he
  obtain ⟨KA, kc, n, rfl, hr⟩ := Hend.out
  have Hr := hid hr
  clear hr
  have Hmk : Hid (mkKey (a0, a1, a2, a3) (bare w h d c l) = ⟨w, h, d, c, l, [], keyOf' (bare w h d c l) (a0, a1, a2, a3)⟩) := rfl
  generalize keyOf' (bare w h d c l) (a0, a1, a2, a3) = key at *
  have q0 := Hf2.out.cell 0
  have q1 := Hf2.out.cell 1
  have q2 := Hf2.out.cell 2
  have q3 := Hf2.out.cell 3
  have q4 := Hf2.out.cell 4
  have q5 := Hf2.out.cell 5
  have q6 := Hf2.out.cell 6
  have r0 := Hr2.out.cell 0
  have r1 := Hr2.out.cell 1
  have r2 := Hr2.out.cell 2
  have r3 := Hr2.out.cell 3
  have r4 := Hr2.out.cell 4
  have r5 := Hr2.out.cell 5
  have r6 := Hr2.out.cell 6
  have fq := fun i => Hf2.out.frozen i
  have fr := fun i => Hr2.out.frozen i
  simp only [List.getElem?_toArray, List.getElem?_cons_zero, List.getElem?_cons_succ] at q0 q1 q2 q3 q4 q5 q6 r0 r1 r2 r3 r4 r5 r6
  have Hfo := hid (show FmOwn w2 W.heap.size ⟨w, h, d, c, l, [], key⟩ none KA 0 kc from ⟨World.ownsRow_nil _ _ _ _, own_base Hr.out (by omega)⟩)
  have Hf3 := hid ((Hfo.out.set_ Hf2.out (by decide) (by decide) 6 (.slice KA key.length kc)))
  have Hr3 := hid (Hr2.out.far (p := ⟨W.heap.size, 6, none⟩) (by show W.heap.size + 1 ≠ W.heap.size; omega) (.slice KA key.length kc))
  have Hp3 := hid (Hb2.out.far (p := ⟨W.heap.size, 6, none⟩) (by show g ≠ W.heap.size; omega) (.slice KA key.length kc))
  have hgl : g < W.heap.size := by omega
  go_wp2_with fail
  refine bodyPost_ret (v := .agg #[.int .i64 w, .int .i64 h, .int .i64 d, .int .i64 c, .int .i64 l, .slice none 0 0, .slice KA key.length kc]) (by simp [results, Try.results111, go_sem, r0, r1, r2, r3, r4, r5, r6]) rfl ⟨?_, ?_, ?_⟩
  · rw [Hmk.out]
    exact ⟨none, KA, 0, kc, rfl, Hf3.out.set7 Hr3.out (by decide) (by decide) _ _ _ _ _ _ _⟩
  · exact set7_blk Hp3.out (by omega) _ _ _ _ _ _ _
  · exact grown_new (grown_new (grown_new (grown_new (grown_new (grown_new (grown_new (grown_new Hgr2.out (by omega) _ _) (by omega) _ _) (by omega) _ _) (by omega) _ _) (by omega) _ _) (by omega) _ _) (by omega) _ _) (by omega) _ _

/-- the palette's closure -/
theorem palf_any (w h d c l : Int) (g : Nat) (PA : Option Addr) (pl : List Px) (pc : Nat) (W : World) (hg : Blk W g 24 #[.slice PA (palM pl).length pc]) (hp : RdP W W.heap.size PA (palM pl)) (hn : PA = none → (palM pl).length = 0) (hm : (palM pl).length ≤ 1000000) :
    Calls Try.prog 73 #[.agg #[.int .i64 w, .int .i64 h, .int .i64 d, .int .i64 c, .int .i64 l, .slice none 0 0, .slice none 0 0], .pointer (some ⟨g, 0, none⟩)] W fun e w' => MkEnd (mkPal pl (bare w h d c l)) W e w' ∧ Below W.heap.size W w' := by
  have hlt := hg.lt
  have hwz0 := (((Below.refl W.heap.size W).alloc (Nat.le_refl _) (.cells #[.int .i64 w, .int .i64 h, .int .i64 d, .int .i64 c, .int .i64 l, .slice none 0 0, .slice none 0 0] 38)).alloc (by simp) (.cells #[.int .i64 0, .int .i64 0, .int .i64 0, .int .i64 0, .int .i64 0, .slice none 0 0, .slice none 0 0] 38))
  have hf0 := (Blk.new W 38 #[.int .i64 w, .int .i64 h, .int .i64 d, .int .i64 c, .int .i64 l, .slice none 0 0, .slice none 0 0]).alloc (.cells #[.int .i64 0, .int .i64 0, .int .i64 0, .int .i64 0, .int .i64 0, .slice none 0 0, .slice none 0 0] 38)
  have hr0 := Blk.new (W.alloc (.cells #[.int .i64 w, .int .i64 h, .int .i64 d, .int .i64 c, .int .i64 l, .slice none 0 0, .slice none 0 0] 38)) 38 #[.int .i64 0, .int .i64 0, .int .i64 0, .int .i64 0, .int .i64 0, .slice none 0 0, .slice none 0 0]
  simp only [World.size_alloc] at hr0
  have Hf0 := hid hf0
  have Hr0 := hid hr0
  have Hg0 := hid (hg.below hwz0 hlt)
  have Hp := hid (Rd.more (Rd.below hp hwz0 (Nat.le_refl _)) hwz0.size)
  have Hb0 := hid hwz0
  have hsz2 : W.heap.size + 1 < ((W.alloc (.cells #[.int .i64 w, .int .i64 h, .int .i64 d, .int .i64 c, .int .i64 l, .slice none 0 0, .slice none 0 0] 38)).alloc (.cells #[.int .i64 0, .int .i64 0, .int .i64 0, .int .i64 0, .int .i64 0, .slice none 0 0, .slice none 0 0] 38)).heap.size := by simp
  have Hn := hid hn
  have Hmk : Hid (mkPal pl (bare w h d c l) = ⟨w, h, d, c, l, palM pl, []⟩) := rfl
  clear hg hp hn hwz0 hf0 hr0
  generalize palM pl = pal at *
  go_enter Try.func73, Try.ntmps73
  go_upto_region 1 with (fail)
  generalize (W.alloc (.cells #[.int .i64 w, .int .i64 h, .int .i64 d, .int .i64 c, .int .i64 l, .slice none 0 0, .slice none 0 0] 38)).alloc (.cells #[.int .i64 0, .int .i64 0, .int .i64 0, .int .i64 0, .int .i64 0, .slice none 0 0, .slice none 0 0] 38) = wz at *
  have g0 := Hg0.out.cell 0
  simp only [List.getElem?_toArray, List.getElem?_cons_zero] at g0
  go_wp2_with fail
  refine (cloneP_any PA pc pal wz Hp.out Hn.out hm).mono ?_
  rintro e w2 ⟨PB, pb, rfl, ho, hb2⟩
  have Hf2 := hid (Hf0.out.below hb2 (by omega))
  have Hr2 := hid (Hr0.out.below hb2 (by omega))
  have Hb2 := hid (Hb0.out.trans (hb2.mono (by omega)))
  have hsz3 : W.heap.size + 1 < w2.heap.size := Nat.lt_of_lt_of_le hsz2 hb2.size
  have Hfo := hid (show FmOwn w2 W.heap.size ⟨w, h, d, c, l, pal, []⟩ PB none pb 0 from ⟨own_base ho (by omega), World.ownsRow_nil _ _ _ _⟩)
  have Hf3 := hid ((Hfo.out.set_ Hf2.out (by decide) (by decide) 5 (.slice PB pal.length pb)))
  have Hr3 := hid (Hr2.out.far (p := ⟨W.heap.size, 5, none⟩) (by show W.heap.size + 1 ≠ W.heap.size; omega) (.slice PB pal.length pb))
  clear hb2 ho g0
  have q0 := Hf2.out.cell 0
  have q1 := Hf2.out.cell 1
  have q2 := Hf2.out.cell 2
  have q3 := Hf2.out.cell 3
  have q4 := Hf2.out.cell 4
  have q5 := Hf2.out.cell 5
  have q6 := Hf2.out.cell 6
  have r0 := Hr2.out.cell 0
  have r1 := Hr2.out.cell 1
  have r2 := Hr2.out.cell 2
  have r3 := Hr2.out.cell 3
  have r4 := Hr2.out.cell 4
  have r5 := Hr2.out.cell 5
  have r6 := Hr2.out.cell 6
  have fq := fun i => Hf2.out.frozen i
  have fr := fun i => Hr2.out.frozen i
  simp only [List.getElem?_toArray, List.getElem?_cons_zero, List.getElem?_cons_succ] at q0 q1 q2 q3 q4 q5 q6 r0 r1 r2 r3 r4 r5 r6
  go_wp2_with fail
  refine bodyPost_ret (v := .agg #[.int .i64 w, .int .i64 h, .int .i64 d, .int .i64 c, .int .i64 l, .slice PB pal.length pb, .slice none 0 0]) (by simp [results, Try.results73, go_sem, r0, r1, r2, r3, r4, r5, r6]) rfl ⟨?_, ?_⟩
  · rw [Hmk.out]
    exact ⟨PB, none, pb, 0, rfl, Hf3.out.set7 Hr3.out (by decide) (by decide) _ _ _ _ _ _ _⟩
  · exact below8 (Hb2.out.setCell (by exact Nat.le_refl _) _) (by omega)

end Go.Proofs.Ytphhoihhmphbdaa

namespace Go.Proofs.Ytphhoihhmphbdaa
open Go.RowKit

def tryM (mk : Fm → Fm) (x y c lc : Int) (l : List Px) : List Int → Option Fm
  | [] => none
  | d :: ds => if fitsB (mk (bare x y d c lc)) l = true then some (mk (bare x y d c lc)) else tryM mk x y c lc l ds
def leastM (mk : Fm → Fm) (x y c lc : Int) (l : List Px) : Option Fm := tryM mk x y c lc l (depthsM c)
theorem try_drop (mk : Fm → Fm) (x y c lc : Int) (l : List Px) (ds : List Int) (j : Nat) (hj : j < ds.length) :
    tryM mk x y c lc l (ds.drop j) = if fitsB (mk (bare x y ds[j] c lc)) l = true then some (mk (bare x y ds[j] c lc)) else tryM mk x y c lc l (ds.drop (j + 1)) := by
  rw [List.drop_eq_getElem_cons hj]; rfl
def LeastEnd (r : Option Fm) (B : Nat) (W : World) (e : Ending) (w' : World) : Prop :=
  (match r with
  | some f => ∃ PA KA pc kc, e = .returned (.tuple #[.agg #[.int .i64 f.w, .int .i64 f.h, .int .i64 f.d, .int .i64 f.c, .int .i64 f.l, .slice PA f.pal.length pc, .slice KA f.key.length kc], .bool true]) ∧ FmOwn w' W.heap.size f PA KA pc kc
  | none => e = .returned (.tuple #[.agg #[.int .i64 0, .int .i64 0, .int .i64 0, .int .i64 0, .int .i64 0, .slice none 0 0, .slice none 0 0], .bool false])) ∧ Below B W w'
theorem leastEnd_none {r : Option Fm} {B : Nat} {W w' : World} (h : r = none) (hb : Below B W w') : LeastEnd r B W (.returned (.tuple #[.agg #[.int .i64 0, .int .i64 0, .int .i64 0, .int .i64 0, .int .i64 0, .slice none 0 0, .slice none 0 0], .bool false])) w' := by subst h; exact ⟨rfl, hb⟩
theorem leastEnd_some {r : Option Fm} {f : Fm} {B : Nat} {W w' : World} {PA KA : Option Addr} {pc kc : Nat} {e : Ending} (h : r = some f) (he : e = .returned (.tuple #[.agg #[.int .i64 f.w, .int .i64 f.h, .int .i64 f.d, .int .i64 f.c, .int .i64 f.l, .slice PA f.pal.length pc, .slice KA f.key.length kc], .bool true])) (hf : FmOwn w' W.heap.size f PA KA pc kc) (hb : Below B W w') : LeastEnd r B W e w' := by subst h; exact ⟨⟨PA, KA, pc, kc, he, hf⟩, hb⟩

/-- the world while depths are tried -/
def LsW (w W : World) (row : Option Nat) (x y d c l : Int) : Prop :=
  Blk w W.heap.size 23 #[.int .i64 x, .int .i64 y, .int .i64 d, .int .i64 c, .int .i64 l] ∧ Blk w (W.heap.size + 1) 38 #[.int .i64 0, .int .i64 0, .int .i64 0, .int .i64 0, .int .i64 0, .slice none 0 0, .slice none 0 0] ∧
  (∀ j, (hj : j < (depthsM c).length) → w.cell? ⟨W.heap.size + 2, j, none⟩ = some (.int .i64 (depthsM c)[j])) ∧ W.grownBy w row ∧ W.heap.size + 2 < w.heap.size
section
variable {w w' W : World} {row : Option Nat} {x y d c l : Int}
theorem LsW.below (h : LsW w W row x y d c l) (hb : Below w.heap.size w w') : LsW w' W row x y d c l := by
  obtain ⟨h1, h2, h3, h4, h5⟩ := h
  exact ⟨h1.below hb h1.lt, h2.below hb h2.lt, fun j hj => (hb.cell (p := ⟨W.heap.size + 2, j, none⟩) h5).trans (h3 j hj), ⟨hb.os.trans h4.os, hb.tape.trans h4.tape, hb.output.trans h4.output, Nat.le_trans h4.size hb.size, fun k hk hr => (hb.block k (by have := h4.size; omega)).trans (h4.block k hk hr)⟩, Nat.lt_of_lt_of_le h5 hb.size⟩
theorem LsW.alloc (h : LsW w W row x y d c l) (o : Obj) : LsW (w.alloc o) W row x y d c l := h.below ((Below.refl _ _).alloc (Nat.le_refl _) o)
theorem LsW.deep (h : LsW w W row x y d c l) (d' : Int) : LsW (w.setCell ⟨W.heap.size, 2, none⟩ (.int .i64 d')) W row x y d' c l := by
  obtain ⟨h1, h2, h3, h4, h5⟩ := h
  refine ⟨h1.set_ 2 _, h2.far (by show W.heap.size + 1 ≠ W.heap.size; omega) _, fun j hj => ?_, grown_new h4 (Nat.le_refl _) _ _, by simpa using h5⟩
  rw [World.cell?_setCell_other w _ _ _ (fun e => by injection e with e; omega)]
  exact h3 j hj
theorem LsW.turned (h : LsW w W row x y d c l) {g : Nat} (hg : w.grownBy w' (some g)) (hr : row = some g) (hgl : g < W.heap.size) : LsW w' W row x y d c l := by
  obtain ⟨h1, h2, h3, h4, h5⟩ := h
  subst hr
  exact ⟨h1.grown hg (by simp; omega), h2.grown hg (by simp; omega), fun j hj => (World.cell?_of_block (hg.block (W.heap.size + 2) h5 (by simp; omega))).trans (h3 j hj), grown_trans h4 hg, Nat.lt_of_lt_of_le h5 hg.size⟩
theorem LsW.rdp (h : LsW w W row x y d c l) {B : Nat} {A : Option Addr} {p : List Px} (hp : RdP W B A p) (hB : B ≤ W.heap.size) (hr : ∀ g, row = some g → B ≤ g) : RdP w w.heap.size A p := Rd.more (Rd.grown hp h.2.2.2.1 hB hr) (Nat.le_trans hB h.2.2.2.1.size)
theorem LsW.low (h : LsW w W row x y d c l) {B : Nat} (hB : B ≤ W.heap.size) (hr : ∀ g, row = some g → B ≤ g) : Below B W w := ⟨h.2.2.2.1.os, h.2.2.2.1.tape, h.2.2.2.1.output, h.2.2.2.1.size, fun k hk => h.2.2.2.1.block k (by omega) (fun e => by have := hr k e.symm; omega)⟩
end
theorem lsw_start (x y d c l : Int) (W w1 : World) (row : Option Nat) (hb : Below (((W.alloc (.cells #[.int .i64 x, .int .i64 y, .int .i64 d, .int .i64 c, .int .i64 l] 23)).alloc (.cells #[.int .i64 0, .int .i64 0, .int .i64 0, .int .i64 0, .int .i64 0, .slice none 0 0, .slice none 0 0] 38))).heap.size (((W.alloc (.cells #[.int .i64 x, .int .i64 y, .int .i64 d, .int .i64 c, .int .i64 l] 23)).alloc (.cells #[.int .i64 0, .int .i64 0, .int .i64 0, .int .i64 0, .int .i64 0, .slice none 0 0, .slice none 0 0] 38))) w1)
    (hr : RdI w1 w1.heap.size (some ⟨W.heap.size + 2, 0, none⟩) (depthsM c)) : LsW w1 W row x y d c l := by
  have h1 := (Blk.new W 23 #[.int .i64 x, .int .i64 y, .int .i64 d, .int .i64 c, .int .i64 l]).alloc (.cells #[.int .i64 0, .int .i64 0, .int .i64 0, .int .i64 0, .int .i64 0, .slice none 0 0, .slice none 0 0] 38)
  have h2 := Blk.new (W.alloc (.cells #[.int .i64 x, .int .i64 y, .int .i64 d, .int .i64 c, .int .i64 l] 23)) 38 #[.int .i64 0, .int .i64 0, .int .i64 0, .int .i64 0, .int .i64 0, .slice none 0 0, .slice none 0 0]
  simp only [World.size_alloc] at h2
  have hdl : 0 < (depthsM c).length := by unfold depthsM; (repeat' split) <;> simp
  obtain ⟨b, off, hA, hbb, _⟩ := int_at hr hdl
  simp only [Option.some.injEq, Addr.mk.injEq] at hA
  obtain ⟨rfl, rfl, _⟩ := hA
  refine ⟨h1.below hb (by simp; omega), h2.below hb (by simp), fun j hj => ?_, ⟨hb.os, hb.tape, hb.output, by have := hb.size; simp at this; omega, fun k hk _ => ?_⟩, hbb⟩
  · obtain ⟨b, off, hA, _, hc⟩ := int_at hr hj
    simp only [Option.some.injEq, Addr.mk.injEq] at hA
    obtain ⟨rfl, rfl, _⟩ := hA
    rw [Nat.zero_add] at hc
    exact hc
  · have hx : Below W.heap.size W w1 := (((Below.refl W.heap.size W).alloc (Nat.le_refl _) _).alloc (by simp) _).trans (hb.mono (by simp; omega))
    exact hx.block k hk

/-- a form as it is -/
def idF (f : Fm) : Fm := f
theorem plain_mk (x y d c l : Int) (W : World) : Calls Try.prog 68 #[.agg #[.int .i64 x, .int .i64 y, .int .i64 d, .int .i64 c, .int .i64 l, .slice none 0 0, .slice none 0 0]] W fun e w' => MkEnd (idF (bare x y d c l)) W e w' ∧ Below W.heap.size W w' :=
  (plain_any (bare x y d c l) none none 0 0 W).mono fun _ _ h => ⟨⟨none, none, 0, 0, h.1, World.ownsRow_nil _ _ _ _, World.ownsRow_nil _ _ _ _⟩, h.2⟩

set_option maxRecDepth 100000 in
set_option maxHeartbeats 8000000 in
theorem least_plain (x y d c lc : Int) (A : Option Addr) (cc : Nat) (l : List Px) (B : Nat) (W : World) (hl : RdP W B A l) (hm : l.length ≤ 1000000) (hB : B ≤ W.heap.size) :
    Calls Try.prog 67 #[.agg #[.int .i64 x, .int .i64 y, .int .i64 d, .int .i64 c, .int .i64 lc], .slice A l.length cc, .func (.func 68) #[] #[]] W (LeastEnd (leastM idF x y c lc l) B W) := by
  have Hl := hid hl
  have Hrow := hid (show ∀ g', none = some g' → B ≤ g' by intro g' h; cases h)
  have hdl5 : (depthsM c).length ≤ 5 := by unfold depthsM; (repeat' split) <;> simp
  clear hl
  go_enter Try.func67, Try.ntmps67
  go_wp2_with fail
  refine (sdepths_any c _).mono ?_
  rintro e w1 ⟨dc, rfl, hr, hb⟩
  have Hw := hid (lsw_start x y d c lc W w1 none hb (by simpa using hr))
  have Hlm : Hid (leastM idF x y c lc l = tryM idF x y c lc l ((depthsM c).drop 0)) := rfl
  clear hr hb
  go_wp2_with fail
  go_loopw [15] (fun i wr => ∃ (j : Nat) (dd : Int), j ≤ (depthsM c).length ∧ i = .int .i64 j ∧ leastM idF x y c lc l = tryM idF x y c lc l ((depthsM c).drop j) ∧ LsW wr W (none) x y dd c lc) (fun i _ => (depthsM c).length - (intOf i).toNat)
  case atStart => exact ⟨0, d, by omega, rfl, Hlm.out, Hw.out⟩
  case round =>
    obtain ⟨j, dd, hj, rfl, hlm, hw⟩ := hrel
    have Hlj := hid hlm
    have Hwr := hid hw
    clear hlm hw Hw Hlm
    have hg := Hwr.out.1.lt
    have hg2 := Hwr.out.2.2.2.2
    have q0 := Hwr.out.1.cell 0
    have q1 := Hwr.out.1.cell 1
    have q2 := Hwr.out.1.cell 2
    have q3 := Hwr.out.1.cell 3
    have q4 := Hwr.out.1.cell 4
    simp only [List.getElem?_toArray, List.getElem?_cons_zero, List.getElem?_cons_succ] at q0 q1 q2 q3 q4
    have fq := fun i => Hwr.out.1.frozen i
    have fz := fun i => Hwr.out.2.1.frozen i
    have z0 := Hwr.out.2.1.cell 0
    have z1 := Hwr.out.2.1.cell 1
    have z2 := Hwr.out.2.1.cell 2
    have z3 := Hwr.out.2.1.cell 3
    have z4 := Hwr.out.2.1.cell 4
    have z5 := Hwr.out.2.1.cell 5
    have z6 := Hwr.out.2.1.cell 6
    simp only [List.getElem?_toArray, List.getElem?_cons_zero, List.getElem?_cons_succ] at z0 z1 z2 z3 z4 z5 z6
    by_cases hlt : j < (depthsM c).length
    · have d0 := Hwr.out.2.2.1 j hlt
      have Htd := hid (try_drop idF x y c lc l (depthsM c) j hlt)
      generalize (depthsM c)[j] = dj at *
      have Hw1 := hid (Hwr.out.deep dj)
      have hsz1 : W.heap.size + 2 < (wr.setCell ⟨W.heap.size, 2, none⟩ (.int .i64 dj)).heap.size := Hw1.out.2.2.2.2
      go_upto_region 5 with (fail)
      generalize wr.setCell ⟨W.heap.size, 2, none⟩ (.int .i64 dj) = wx at *
      clear q0 q1 q2 q3 q4 fq z0 z1 z2 z3 z4 z5 z6 fz d0
      have q0 := Hw1.out.1.cell 0
      have q1 := Hw1.out.1.cell 1
      have q2 := Hw1.out.1.cell 2
      have q3 := Hw1.out.1.cell 3
      have q4 := Hw1.out.1.cell 4
      simp only [List.getElem?_toArray, List.getElem?_cons_zero, List.getElem?_cons_succ] at q0 q1 q2 q3 q4
      go_wp2_with fail
      refine (plain_mk x y dj c lc wx).mono ?_
      rintro e w2 ⟨hmk, hb2⟩
      obtain ⟨PA, KA, pc, kc, rfl, ho⟩ := hmk
      have Hw2 := hid (Hw1.out.below hb2)
      have Ho2 := hid (ho.lower (base := W.heap.size) (by omega))
      obtain ⟨f, hfm⟩ : ∃ f, f = idF (bare x y dj c lc) := ⟨_, rfl⟩
      have Hfm := hid hfm
      rw [← hfm] at Ho2
      have Hpm := hid (show f.pal.length ≤ 1000000 by rw [hfm]; simp [idF, bare])
      have Hkm := hid (show f.key.length ≤ 1000000 by rw [hfm]; simp [idF, bare])
      rw [← hfm]
      clear hfm ho hb2
      have hg3 := Hw2.out.1.lt
      have hgz := Hw2.out.2.2.2.2
      have Hw3 := hid (Hw2.out.alloc (.cells #[.int .i64 f.w, .int .i64 f.h, .int .i64 f.d, .int .i64 f.c, .int .i64 f.l, .slice PA f.pal.length pc, .slice KA f.key.length kc] 38))
      have Ho3 := hid (Ho2.out.alloc (.cells #[.int .i64 f.w, .int .i64 f.h, .int .i64 f.d, .int .i64 f.c, .int .i64 f.l, .slice PA f.pal.length pc, .slice KA f.key.length kc] 38))
      have Hbx := hid (Blk.new w2 38 #[.int .i64 f.w, .int .i64 f.h, .int .i64 f.d, .int .i64 f.c, .int .i64 f.l, .slice PA f.pal.length pc, .slice KA f.key.length kc])
      clear q0 q1 q2 q3 q4
      go_wp2_with fail
      refine (fits_any f PA KA A pc kc cc l _ Ho3.out.rdp Ho3.out.rdi Hpm.out Hkm.out (Hw3.out.rdp Hl.out hB Hrow.out) hm).mono ?_
      rintro e w3 ⟨rfl, hb3⟩
      have Hw4 := hid (Hw3.out.below hb3)
      have Ho4 := hid (Ho3.out.below hb3 (Nat.le_refl _))
      have Hby := hid (Hbx.out.below hb3 (by simp))
      clear hb3
      cases hft : fitsB f l
      · have Hnx := hid (show leastM idF x y c lc l = tryM idF x y c lc l ((depthsM c).drop (j + 1)) by rw [Hlj.out, Htd.out, if_neg (by rw [← Hfm.out, hft]; simp)])
        clear hft
        go_wp2_with fail
        go_roundw
        case rel => exact ⟨j + 1, dj, by omega, by go_num, Hnx.out, Hw4.out⟩
        case measure => simp [intOf]; omega
      · have Hnx := hid (show leastM idF x y c lc l = some f by rw [Hlj.out, Htd.out, if_pos (by rw [← Hfm.out, hft]), ← Hfm.out])
        have hg4 := Hw4.out.1.lt
        have r0 := Hby.out.cell 0
        have r1 := Hby.out.cell 1
        have r2 := Hby.out.cell 2
        have r3 := Hby.out.cell 3
        have r4 := Hby.out.cell 4
        have r5 := Hby.out.cell 5
        have r6 := Hby.out.cell 6
        simp only [List.getElem?_toArray, List.getElem?_cons_zero, List.getElem?_cons_succ] at r0 r1 r2 r3 r4 r5 r6
        have z0 := Hw4.out.2.1.cell 0
        have z1 := Hw4.out.2.1.cell 1
        have z2 := Hw4.out.2.1.cell 2
        have z3 := Hw4.out.2.1.cell 3
        have z4 := Hw4.out.2.1.cell 4
        have z5 := Hw4.out.2.1.cell 5
        have z6 := Hw4.out.2.1.cell 6
        simp only [List.getElem?_toArray, List.getElem?_cons_zero, List.getElem?_cons_succ] at z0 z1 z2 z3 z4 z5 z6
        have fz := fun i => Hw4.out.2.1.frozen i
        have hyl := Hby.out.lt
        clear hft
        go_wp2_with fail
        refine bodyPost_ret (v := .tuple #[.agg #[.int .i64 f.w, .int .i64 f.h, .int .i64 f.d, .int .i64 f.c, .int .i64 f.l, .slice PA f.pal.length pc, .slice KA f.key.length kc], .bool true]) (by simp [results, Try.results67, go_sem, z0, z1, z2, z3, z4, z5, z6]) rfl ?_
        exact leastEnd_some Hnx.out rfl (Ho4.out.set7 Hw4.out.2.1 (by decide) (by decide) _ _ _ _ _ _ _) (below8 (Hw4.out.low hB Hrow.out) (by omega))
    · have Hnx := hid (show leastM idF x y c lc l = none by rw [Hlj.out, List.drop_eq_nil_of_le (by omega)]; rfl)
      go_wp2_with fail
      refine bodyPost_ret (v := .tuple #[.agg #[.int .i64 0, .int .i64 0, .int .i64 0, .int .i64 0, .int .i64 0, .slice none 0 0, .slice none 0 0], .bool false]) (by simp [results, Try.results67, go_sem, z0, z1, z2, z3, z4, z5, z6]) rfl ?_
      exact leastEnd_none Hnx.out (below8 (Hwr.out.low hB Hrow.out) (by omega))

set_option maxRecDepth 100000 in
set_option maxHeartbeats 8000000 in
theorem least_keyed (x y d c lc : Int) (a0 a1 a2 a3 : Int) (g : Nat) (A : Option Addr) (cc : Nat) (l : List Px) (B : Nat) (W : World) (hl : RdP W B A l) (hm : l.length ≤ 1000000) (hB : B ≤ W.heap.size) (hBg : B ≤ g) (hg0 : Blk W g 62 #[.int .i64 a0, .int .i64 a1, .int .i64 a2, .int .i64 a3]) :
    Calls Try.prog 67 #[.agg #[.int .i64 x, .int .i64 y, .int .i64 d, .int .i64 c, .int .i64 lc], .slice A l.length cc, .func (.func 111) #[] #[.pointer (some ⟨g, 0, none⟩)]] W (LeastEnd (leastM (mkKey (a0, a1, a2, a3)) x y c lc l) B W) := by
  have Hl := hid hl
  have Hrow := hid (show ∀ g', (some g) = some g' → B ≤ g' by intro g' h; injection h with h; omega)
  have Hk0 := hid hg0
  have hgl := hg0.lt
  clear hg0
  have hdl5 : (depthsM c).length ≤ 5 := by unfold depthsM; (repeat' split) <;> simp
  clear hl
  go_enter Try.func67, Try.ntmps67
  go_wp2_with fail
  refine (sdepths_any c _).mono ?_
  rintro e w1 ⟨dc, rfl, hr, hb⟩
  have Hw := hid (lsw_start x y d c lc W w1 (some g) hb (by simpa using hr))
  have Hkx := hid (show ∃ x3, Blk w1 g 62 #[.int .i64 a0, .int .i64 a1, .int .i64 a2, .int .i64 x3] from ⟨a3, ((Hk0.out.alloc _).alloc _).below hb (by have := Hk0.out.lt; simp; omega)⟩)
  have Hlm : Hid (leastM (mkKey (a0, a1, a2, a3)) x y c lc l = tryM (mkKey (a0, a1, a2, a3)) x y c lc l ((depthsM c).drop 0)) := rfl
  clear hr hb
  go_wp2_with fail
  go_loopw [15] (fun i wr => ∃ (j : Nat) (dd : Int), j ≤ (depthsM c).length ∧ i = .int .i64 j ∧ leastM (mkKey (a0, a1, a2, a3)) x y c lc l = tryM (mkKey (a0, a1, a2, a3)) x y c lc l ((depthsM c).drop j) ∧ LsW wr W ((some g)) x y dd c lc ∧ ∃ x3, Blk wr g 62 #[.int .i64 a0, .int .i64 a1, .int .i64 a2, .int .i64 x3]) (fun i _ => (depthsM c).length - (intOf i).toNat)
  case atStart => exact ⟨0, d, by omega, rfl, Hlm.out, Hw.out, Hkx.out⟩
  case round =>
    obtain ⟨j, dd, hj, rfl, hlm, hw, hkx⟩ := hrel
    have Hlj := hid hlm
    have Hwr := hid hw
    have Hkr := hid hkx
    clear hlm hw Hw Hlm hkx Hkx
    have hg := Hwr.out.1.lt
    have hg2 := Hwr.out.2.2.2.2
    have q0 := Hwr.out.1.cell 0
    have q1 := Hwr.out.1.cell 1
    have q2 := Hwr.out.1.cell 2
    have q3 := Hwr.out.1.cell 3
    have q4 := Hwr.out.1.cell 4
    simp only [List.getElem?_toArray, List.getElem?_cons_zero, List.getElem?_cons_succ] at q0 q1 q2 q3 q4
    have fq := fun i => Hwr.out.1.frozen i
    have fz := fun i => Hwr.out.2.1.frozen i
    have z0 := Hwr.out.2.1.cell 0
    have z1 := Hwr.out.2.1.cell 1
    have z2 := Hwr.out.2.1.cell 2
    have z3 := Hwr.out.2.1.cell 3
    have z4 := Hwr.out.2.1.cell 4
    have z5 := Hwr.out.2.1.cell 5
    have z6 := Hwr.out.2.1.cell 6
    simp only [List.getElem?_toArray, List.getElem?_cons_zero, List.getElem?_cons_succ] at z0 z1 z2 z3 z4 z5 z6
    by_cases hlt : j < (depthsM c).length
    · have d0 := Hwr.out.2.2.1 j hlt
      have Htd := hid (try_drop (mkKey (a0, a1, a2, a3)) x y c lc l (depthsM c) j hlt)
      generalize (depthsM c)[j] = dj at *
      have Hw1 := hid (Hwr.out.deep dj)
      have hsz1 : W.heap.size + 2 < (wr.setCell ⟨W.heap.size, 2, none⟩ (.int .i64 dj)).heap.size := Hw1.out.2.2.2.2
      obtain ⟨x3, hkb⟩ := Hkr.out
      have Hkw := hid (hkb.far (p := ⟨W.heap.size, 2, none⟩) (by show g ≠ W.heap.size; omega) (.int .i64 dj))
      clear hkb
      go_upto_region 5 with (fail)
      generalize wr.setCell ⟨W.heap.size, 2, none⟩ (.int .i64 dj) = wx at *
      clear q0 q1 q2 q3 q4 fq z0 z1 z2 z3 z4 z5 z6 fz d0
      have q0 := Hw1.out.1.cell 0
      have q1 := Hw1.out.1.cell 1
      have q2 := Hw1.out.1.cell 2
      have q3 := Hw1.out.1.cell 3
      have q4 := Hw1.out.1.cell 4
      simp only [List.getElem?_toArray, List.getElem?_cons_zero, List.getElem?_cons_succ] at q0 q1 q2 q3 q4
      go_wp2_with fail
      refine (keyf_any x y dj c lc a0 a1 a2 x3 g wx Hkw.out).mono ?_
      rintro e w2 ⟨hmk, hk2, hgr2⟩
      obtain ⟨PA, KA, pc, kc, rfl, ho⟩ := hmk
      have Hw2 := hid (Hw1.out.turned hgr2 rfl hgl)
      have Hk2 := hid hk2
      have hmkk : mkKey (a0, a1, a2, x3) (bare x y dj c lc) = mkKey (a0, a1, a2, a3) (bare x y dj c lc) := rfl
      rw [hmkk] at ho ⊢
      have Ho2 := hid (ho.lower (base := W.heap.size) (by omega))
      obtain ⟨f, hfm⟩ : ∃ f, f = mkKey (a0, a1, a2, a3) (bare x y dj c lc) := ⟨_, rfl⟩
      have Hfm := hid hfm
      rw [← hfm] at Ho2
      have Hpm := hid (show f.pal.length ≤ 1000000 by rw [hfm]; simp [mkKey, bare])
      have Hkm := hid (show f.key.length ≤ 1000000 by rw [hfm]; have := key_len (bare x y dj c lc) (a0, a1, a2, a3); simp only [mkKey]; omega)
      rw [← hfm]
      clear hfm ho hk2 hgr2 hmkk
      have hg3 := Hw2.out.1.lt
      have hgz := Hw2.out.2.2.2.2
      have Hw3 := hid (Hw2.out.alloc (.cells #[.int .i64 f.w, .int .i64 f.h, .int .i64 f.d, .int .i64 f.c, .int .i64 f.l, .slice PA f.pal.length pc, .slice KA f.key.length kc] 38))
      have Ho3 := hid (Ho2.out.alloc (.cells #[.int .i64 f.w, .int .i64 f.h, .int .i64 f.d, .int .i64 f.c, .int .i64 f.l, .slice PA f.pal.length pc, .slice KA f.key.length kc] 38))
      have Hbx := hid (Blk.new w2 38 #[.int .i64 f.w, .int .i64 f.h, .int .i64 f.d, .int .i64 f.c, .int .i64 f.l, .slice PA f.pal.length pc, .slice KA f.key.length kc])
      clear q0 q1 q2 q3 q4
      go_wp2_with fail
      refine (fits_any f PA KA A pc kc cc l _ Ho3.out.rdp Ho3.out.rdi Hpm.out Hkm.out (Hw3.out.rdp Hl.out hB Hrow.out) hm).mono ?_
      rintro e w3 ⟨rfl, hb3⟩
      have Hw4 := hid (Hw3.out.below hb3)
      have Ho4 := hid (Ho3.out.below hb3 (Nat.le_refl _))
      have Hby := hid (Hbx.out.below hb3 (by simp))
      have Hk4 := hid ((Hk2.out.alloc _).below hb3 (by have := Hk2.out.lt; simp; omega))
      clear hb3
      cases hft : fitsB f l
      · have Hnx := hid (show leastM (mkKey (a0, a1, a2, a3)) x y c lc l = tryM (mkKey (a0, a1, a2, a3)) x y c lc l ((depthsM c).drop (j + 1)) by rw [Hlj.out, Htd.out, if_neg (by rw [← Hfm.out, hft]; simp)])
        clear hft
        go_wp2_with fail
        go_roundw
        case rel => exact ⟨j + 1, dj, by omega, by go_num, Hnx.out, Hw4.out, 65535, Hk4.out⟩
        case measure => simp [intOf]; omega
      · have Hnx := hid (show leastM (mkKey (a0, a1, a2, a3)) x y c lc l = some f by rw [Hlj.out, Htd.out, if_pos (by rw [← Hfm.out, hft]), ← Hfm.out])
        have hg4 := Hw4.out.1.lt
        have r0 := Hby.out.cell 0
        have r1 := Hby.out.cell 1
        have r2 := Hby.out.cell 2
        have r3 := Hby.out.cell 3
        have r4 := Hby.out.cell 4
        have r5 := Hby.out.cell 5
        have r6 := Hby.out.cell 6
        simp only [List.getElem?_toArray, List.getElem?_cons_zero, List.getElem?_cons_succ] at r0 r1 r2 r3 r4 r5 r6
        have z0 := Hw4.out.2.1.cell 0
        have z1 := Hw4.out.2.1.cell 1
        have z2 := Hw4.out.2.1.cell 2
        have z3 := Hw4.out.2.1.cell 3
        have z4 := Hw4.out.2.1.cell 4
        have z5 := Hw4.out.2.1.cell 5
        have z6 := Hw4.out.2.1.cell 6
        simp only [List.getElem?_toArray, List.getElem?_cons_zero, List.getElem?_cons_succ] at z0 z1 z2 z3 z4 z5 z6
        have fz := fun i => Hw4.out.2.1.frozen i
        have hyl := Hby.out.lt
        clear hft
        go_wp2_with fail
        refine bodyPost_ret (v := .tuple #[.agg #[.int .i64 f.w, .int .i64 f.h, .int .i64 f.d, .int .i64 f.c, .int .i64 f.l, .slice PA f.pal.length pc, .slice KA f.key.length kc], .bool true]) (by simp [results, Try.results67, go_sem, z0, z1, z2, z3, z4, z5, z6]) rfl ?_
        exact leastEnd_some Hnx.out rfl (Ho4.out.set7 Hw4.out.2.1 (by decide) (by decide) _ _ _ _ _ _ _) (below8 (Hw4.out.low hB Hrow.out) (by omega))
    · have Hnx := hid (show leastM (mkKey (a0, a1, a2, a3)) x y c lc l = none by rw [Hlj.out, List.drop_eq_nil_of_le (by omega)]; rfl)
      go_wp2_with fail
      refine bodyPost_ret (v := .tuple #[.agg #[.int .i64 0, .int .i64 0, .int .i64 0, .int .i64 0, .int .i64 0, .slice none 0 0, .slice none 0 0], .bool false]) (by simp [results, Try.results67, go_sem, z0, z1, z2, z3, z4, z5, z6]) rfl ?_
      exact leastEnd_none Hnx.out (below8 (Hwr.out.low hB Hrow.out) (by omega))

set_option maxRecDepth 100000 in
set_option maxHeartbeats 8000000 in
theorem least_pal (x y d c lc : Int) (g : Nat) (QA : Option Addr) (pl : List Px) (qc : Nat) (A : Option Addr) (cc : Nat) (l : List Px) (B : Nat) (W : World) (hl : RdP W B A l) (hm : l.length ≤ 1000000) (hB : B ≤ W.heap.size) (hg0 : Blk W g 24 #[.slice QA (palM pl).length qc]) (hq : W.ownsRow 0 62 4 (.slice QA (palM pl).length qc) (palM pl).length ((palM pl).flatMap encP)) (hpl : (palM pl).length ≤ 1000000) :
    Calls Try.prog 67 #[.agg #[.int .i64 x, .int .i64 y, .int .i64 d, .int .i64 c, .int .i64 lc], .slice A l.length cc, .func (.func 73) #[] #[.pointer (some ⟨g, 0, none⟩)]] W (LeastEnd (leastM (mkPal pl) x y c lc l) B W) := by
  have Hl := hid hl
  have Hrow := hid (show ∀ g', none = some g' → B ≤ g' by intro g' h; cases h)
  have Hg0 := hid hg0
  have hgl := hg0.lt
  have Hq := hid hq
  have Hqn := hid (fun h => own_nil_n hq h)
  clear hg0 hq
  have hdl5 : (depthsM c).length ≤ 5 := by unfold depthsM; (repeat' split) <;> simp
  clear hl
  go_enter Try.func67, Try.ntmps67
  go_wp2_with fail
  refine (sdepths_any c _).mono ?_
  rintro e w1 ⟨dc, rfl, hr, hb⟩
  have Hw := hid (lsw_start x y d c lc W w1 none hb (by simpa using hr))
  have Hlm : Hid (leastM (mkPal pl) x y c lc l = tryM (mkPal pl) x y c lc l ((depthsM c).drop 0)) := rfl
  clear hr hb
  go_wp2_with fail
  go_loopw [15] (fun i wr => ∃ (j : Nat) (dd : Int), j ≤ (depthsM c).length ∧ i = .int .i64 j ∧ leastM (mkPal pl) x y c lc l = tryM (mkPal pl) x y c lc l ((depthsM c).drop j) ∧ LsW wr W (none) x y dd c lc) (fun i _ => (depthsM c).length - (intOf i).toNat)
  case atStart => exact ⟨0, d, by omega, rfl, Hlm.out, Hw.out⟩
  case round =>
    obtain ⟨j, dd, hj, rfl, hlm, hw⟩ := hrel
    have Hlj := hid hlm
    have Hwr := hid hw
    clear hlm hw Hw Hlm
    have hg := Hwr.out.1.lt
    have hg2 := Hwr.out.2.2.2.2
    have q0 := Hwr.out.1.cell 0
    have q1 := Hwr.out.1.cell 1
    have q2 := Hwr.out.1.cell 2
    have q3 := Hwr.out.1.cell 3
    have q4 := Hwr.out.1.cell 4
    simp only [List.getElem?_toArray, List.getElem?_cons_zero, List.getElem?_cons_succ] at q0 q1 q2 q3 q4
    have fq := fun i => Hwr.out.1.frozen i
    have fz := fun i => Hwr.out.2.1.frozen i
    have z0 := Hwr.out.2.1.cell 0
    have z1 := Hwr.out.2.1.cell 1
    have z2 := Hwr.out.2.1.cell 2
    have z3 := Hwr.out.2.1.cell 3
    have z4 := Hwr.out.2.1.cell 4
    have z5 := Hwr.out.2.1.cell 5
    have z6 := Hwr.out.2.1.cell 6
    simp only [List.getElem?_toArray, List.getElem?_cons_zero, List.getElem?_cons_succ] at z0 z1 z2 z3 z4 z5 z6
    by_cases hlt : j < (depthsM c).length
    · have d0 := Hwr.out.2.2.1 j hlt
      have Htd := hid (try_drop (mkPal pl) x y c lc l (depthsM c) j hlt)
      generalize (depthsM c)[j] = dj at *
      have Hw1 := hid (Hwr.out.deep dj)
      have hsz1 : W.heap.size + 2 < (wr.setCell ⟨W.heap.size, 2, none⟩ (.int .i64 dj)).heap.size := Hw1.out.2.2.2.2
      have Hgx := hid (show Blk (wr.setCell ⟨W.heap.size, 2, none⟩ (.int .i64 dj)) g 24 #[.slice QA (palM pl).length qc] from Blk.far (Hg0.out.grown Hwr.out.2.2.2.1 (by simp)) (p := ⟨W.heap.size, 2, none⟩) (by show g ≠ W.heap.size; omega) (.int .i64 dj))
      have Hqx := hid (ownsRow_setCell_other (a := ⟨W.heap.size, 2, none⟩) (Hq.out.kept Hwr.out.2.2.2.1 (by cases h : (Value.slice QA (palM pl).length qc).ownBlock with | none => exact .inl rfl | some k => exact .inr (by simp))) (fun e => by have := (Hq.out.lt W.heap.size e).2; omega) (.int .i64 dj))
      go_upto_region 5 with (fail)
      generalize wr.setCell ⟨W.heap.size, 2, none⟩ (.int .i64 dj) = wx at *
      clear q0 q1 q2 q3 q4 fq z0 z1 z2 z3 z4 z5 z6 fz d0
      have q0 := Hw1.out.1.cell 0
      have q1 := Hw1.out.1.cell 1
      have q2 := Hw1.out.1.cell 2
      have q3 := Hw1.out.1.cell 3
      have q4 := Hw1.out.1.cell 4
      simp only [List.getElem?_toArray, List.getElem?_cons_zero, List.getElem?_cons_succ] at q0 q1 q2 q3 q4
      go_wp2_with fail
      refine (palf_any x y dj c lc g QA pl qc wx Hgx.out (own_rdp Hqx.out) Hqn.out hpl).mono ?_
      rintro e w2 ⟨hmk, hb2⟩
      obtain ⟨PA, KA, pc, kc, rfl, ho⟩ := hmk
      have Hw2 := hid (Hw1.out.below hb2)
      have Ho2 := hid (ho.lower (base := W.heap.size) (by omega))
      obtain ⟨f, hfm⟩ : ∃ f, f = mkPal pl (bare x y dj c lc) := ⟨_, rfl⟩
      have Hfm := hid hfm
      rw [← hfm] at Ho2
      have Hpm := hid (show f.pal.length ≤ 1000000 by rw [hfm]; simp only [mkPal]; omega)
      have Hkm := hid (show f.key.length ≤ 1000000 by rw [hfm]; simp [mkPal, bare])
      rw [← hfm]
      clear hfm ho hb2
      have hg3 := Hw2.out.1.lt
      have hgz := Hw2.out.2.2.2.2
      have Hw3 := hid (Hw2.out.alloc (.cells #[.int .i64 f.w, .int .i64 f.h, .int .i64 f.d, .int .i64 f.c, .int .i64 f.l, .slice PA f.pal.length pc, .slice KA f.key.length kc] 38))
      have Ho3 := hid (Ho2.out.alloc (.cells #[.int .i64 f.w, .int .i64 f.h, .int .i64 f.d, .int .i64 f.c, .int .i64 f.l, .slice PA f.pal.length pc, .slice KA f.key.length kc] 38))
      have Hbx := hid (Blk.new w2 38 #[.int .i64 f.w, .int .i64 f.h, .int .i64 f.d, .int .i64 f.c, .int .i64 f.l, .slice PA f.pal.length pc, .slice KA f.key.length kc])
      clear q0 q1 q2 q3 q4
      go_wp2_with fail
      refine (fits_any f PA KA A pc kc cc l _ Ho3.out.rdp Ho3.out.rdi Hpm.out Hkm.out (Hw3.out.rdp Hl.out hB Hrow.out) hm).mono ?_
      rintro e w3 ⟨rfl, hb3⟩
      have Hw4 := hid (Hw3.out.below hb3)
      have Ho4 := hid (Ho3.out.below hb3 (Nat.le_refl _))
      have Hby := hid (Hbx.out.below hb3 (by simp))
      clear hb3
      cases hft : fitsB f l
      · have Hnx := hid (show leastM (mkPal pl) x y c lc l = tryM (mkPal pl) x y c lc l ((depthsM c).drop (j + 1)) by rw [Hlj.out, Htd.out, if_neg (by rw [← Hfm.out, hft]; simp)])
        clear hft
        go_wp2_with fail
        go_roundw
        case rel => exact ⟨j + 1, dj, by omega, by go_num, Hnx.out, Hw4.out⟩
        case measure => simp [intOf]; omega
      · have Hnx := hid (show leastM (mkPal pl) x y c lc l = some f by rw [Hlj.out, Htd.out, if_pos (by rw [← Hfm.out, hft]), ← Hfm.out])
        have hg4 := Hw4.out.1.lt
        have r0 := Hby.out.cell 0
        have r1 := Hby.out.cell 1
        have r2 := Hby.out.cell 2
        have r3 := Hby.out.cell 3
        have r4 := Hby.out.cell 4
        have r5 := Hby.out.cell 5
        have r6 := Hby.out.cell 6
        simp only [List.getElem?_toArray, List.getElem?_cons_zero, List.getElem?_cons_succ] at r0 r1 r2 r3 r4 r5 r6
        have z0 := Hw4.out.2.1.cell 0
        have z1 := Hw4.out.2.1.cell 1
        have z2 := Hw4.out.2.1.cell 2
        have z3 := Hw4.out.2.1.cell 3
        have z4 := Hw4.out.2.1.cell 4
        have z5 := Hw4.out.2.1.cell 5
        have z6 := Hw4.out.2.1.cell 6
        simp only [List.getElem?_toArray, List.getElem?_cons_zero, List.getElem?_cons_succ] at z0 z1 z2 z3 z4 z5 z6
        have fz := fun i => Hw4.out.2.1.frozen i
        have hyl := Hby.out.lt
        clear hft
        go_wp2_with fail
        refine bodyPost_ret (v := .tuple #[.agg #[.int .i64 f.w, .int .i64 f.h, .int .i64 f.d, .int .i64 f.c, .int .i64 f.l, .slice PA f.pal.length pc, .slice KA f.key.length kc], .bool true]) (by simp [results, Try.results67, go_sem, z0, z1, z2, z3, z4, z5, z6]) rfl ?_
        exact leastEnd_some Hnx.out rfl (Ho4.out.set7 Hw4.out.2.1 (by decide) (by decide) _ _ _ _ _ _ _) (below8 (Hw4.out.low hB Hrow.out) (by omega))
    · have Hnx := hid (show leastM (mkPal pl) x y c lc l = none by rw [Hlj.out, List.drop_eq_nil_of_le (by omega)]; rfl)
      go_wp2_with fail
      refine bodyPost_ret (v := .tuple #[.agg #[.int .i64 0, .int .i64 0, .int .i64 0, .int .i64 0, .int .i64 0, .slice none 0 0, .slice none 0 0], .bool false]) (by simp [results, Try.results67, go_sem, z0, z1, z2, z3, z4, z5, z6]) rfl ?_
      exact leastEnd_none Hnx.out (below8 (Hwr.out.low hB Hrow.out) (by omega))

end Go.Proofs.Ytphhoihhmphbdaa

namespace Go.Proofs.Ytphhoihhmphbdaa
open Go.RowKit

/-- a form in a list: what it says, and where its rows lie -/
structure FR where
  f : Fm
  PA : Option Addr
  KA : Option Addr
  pc : Nat
  kc : Nat
def encF (z : FR) : List Value := [.int .i64 z.f.w, .int .i64 z.f.h, .int .i64 z.f.d, .int .i64 z.f.c, .int .i64 z.f.l, .slice z.PA z.f.pal.length z.pc, .slice z.KA z.f.key.length z.kc]
theorem form_info : (Try.prog.info? 38).map (fun i => (i.zero, i.size, i.bytes)) = some (some (.agg #[.int .i64 0, .int .i64 0, .int .i64 0, .int .i64 0, .int .i64 0, .slice none 0 0, .slice none 0 0]), 7, 88) := by kernel_rfl
theorem own_own_ne {w : World} {b1 b2 : Nat} {e1 e2 : TypeId} {s1 s2 n1 n2 : Nat} {v1 v2 : Value} {x1 x2 : List Value} (h1 : w.ownsRow b1 e1 s1 v1 n1 x1) (h2 : w.ownsRow b2 e2 s2 v2 n2 x2) (hne : e2 ≠ e1) : v1.ownBlock = none ∨ v1.ownBlock ≠ v2.ownBlock := by
  rcases h1.2 with ⟨rfl, _⟩ | ⟨g, cap, cur, rfl, _, hg, _⟩
  · exact .inl rfl
  · exact .inr (own_blk_ne h2 hg hne)
theorem FmOwn.grown {w w' : World} {base b : Nat} {f : Fm} {PA KA : Option Addr} {pc kc n : Nat} {v : Value} {xs : List Value} (h : FmOwn w base f PA KA pc kc) (ho : w.ownsRow b 38 7 v n xs) (hg : w.grownBy w' v.ownBlock) : FmOwn w' base f PA KA pc kc :=
  ⟨h.1.kept hg (own_own_ne h.1 ho (by decide)), h.2.kept hg (own_own_ne h.2 ho (by decide))⟩

/-- the world while forms are gathered -/
def FSt (w W0 : World) (x y lc : Int) (PR : Option Addr) (np pr : Nat) (sb ob : Nat) (A : Option Addr) (cc : Nat) (l : List Px) (zs : List FR) : Prop :=
  Blk w W0.heap.size 33 #[.int .i64 x, .int .i64 y, .slice PR np pr] ∧ Blk w (W0.heap.size + 1) 3 #[.int .i64 lc] ∧ Blk w sb 24 #[.slice A l.length cc] ∧
  (∃ OA oc, Blk w ob 55 #[.slice OA zs.length oc] ∧ w.ownsRow W0.heap.size 38 7 (.slice OA zs.length oc) zs.length (zs.flatMap encF)) ∧
  w.ownsRow W0.heap.size 62 4 (.slice A l.length cc) l.length (l.flatMap encP) ∧ (∀ z ∈ zs, FmOwn w W0.heap.size z.f z.PA z.KA z.pc z.kc) ∧ Below W0.heap.size W0 w ∧ W0.heap.size + 1 < sb ∧ sb < ob
section
variable {w w' W0 : World} {x y lc : Int} {PR A : Option Addr} {np pr sb ob cc : Nat} {l : List Px} {zs : List FR}
theorem FSt.below (h : FSt w W0 x y lc PR np pr sb ob A cc l zs) (hb : Below w.heap.size w w') : FSt w' W0 x y lc PR np pr sb ob A cc l zs := by
  obtain ⟨h1, h2, h3, ⟨OA, oc, h4, h5⟩, h6, h7, h8, h9, h10⟩ := h
  exact ⟨h1.below hb h1.lt, h2.below hb h2.lt, h3.below hb h3.lt, ⟨OA, oc, h4.below hb h4.lt, own_below h5 hb (Nat.le_refl _)⟩, own_below h6 hb (Nat.le_refl _), fun z hz => (h7 z hz).below hb (Nat.le_refl _), h8.trans (hb.mono h8.size), h9, h10⟩
theorem FSt.alloc (h : FSt w W0 x y lc PR np pr sb ob A cc l zs) (o : Obj) : FSt (w.alloc o) W0 x y lc PR np pr sb ob A cc l zs := h.below ((Below.refl _ _).alloc (Nat.le_refl _) o)
theorem FSt.oblt (h : FSt w W0 x y lc PR np pr sb ob A cc l zs) : ob < w.heap.size := by obtain ⟨_, _, _, ⟨_, _, h4, _⟩, _⟩ := h; exact h4.lt
end
/-- the forms with one more, if there is one -/
def addM (r : Option Fm) (fs : List Fm) : List Fm := match r with
  | some f => fs ++ [f]
  | none => fs

set_option maxRecDepth 100000 in
set_option maxHeartbeats 8000000 in
theorem add_plain (W0 V : World) (x y lc col : Int) (PR A : Option Addr) (np pr sb ob cc : Nat) (l : List Px) (zs : List FR) (S : FSt V W0 x y lc PR np pr sb ob A cc l zs) (hm : l.length ≤ 1000000) (hz : zs.length ≤ 1000) :
    Calls Try.prog 66 #[.int .i64 col, .func (.func 68) #[] #[], .pointer (some ⟨W0.heap.size, 0, none⟩), .pointer (some ⟨W0.heap.size + 1, 0, none⟩), .pointer (some ⟨sb, 0, none⟩), .pointer (some ⟨ob, 0, none⟩)] V fun e w' => e = .returned (.tuple #[]) ∧ ∃ zs', FSt w' W0 x y lc PR np pr sb ob A cc l zs' ∧ zs'.map (·.f) = addM (leastM idF x y col lc l) (zs.map (·.f)) ∧ ∀ b t cs, Blk V b t cs → 38 ≠ t → b ≠ ob → Blk w' b t cs := by
  have SV := hid S
  have S1 := hid S
  have HVW := hid ((Below.refl V.heap.size V).alloc (Nat.le_refl _) (.cells #[.int .i64 x, .int .i64 y, .int .i64 0, .int .i64 col, .int .i64 lc] 23))
  have Hrd := hid (Rd.alloc (own_rdp S.2.2.2.2.1) (Nat.le_refl _) (.cells #[.int .i64 x, .int .i64 y, .int .i64 0, .int .i64 col, .int .i64 lc] 23))
  clear S
  have hsl : sb < V.heap.size := SV.out.2.2.1.lt
  have hsl1 : sb < V.heap.size + 1 := by omega
  have hso : W0.heap.size + 1 < sb ∧ sb < ob := S1.out.2.2.2.2.2.2.2
  obtain ⟨hso1, hso2⟩ := hso
  have q0 := S1.out.1.cell 0
  have q1 := S1.out.1.cell 1
  have q2 := S1.out.1.cell 2
  simp only [List.getElem?_toArray, List.getElem?_cons_zero, List.getElem?_cons_succ] at q0 q1 q2
  have l0 := S1.out.2.1.cell 0
  have s0 := S1.out.2.2.1.cell 0
  simp only [List.getElem?_toArray, List.getElem?_cons_zero] at l0 s0
  obtain ⟨i0, hi0, hz0, hz1, hz2⟩ := info_parts form_info
  have Hi0 := hid hi0
  have Hz0 := hid hz0
  have Hz1 := hid hz1
  have Hz2 := hid hz2
  clear hi0 hz0 hz1 hz2
  go_enter Try.func66, Try.ntmps66
  go_wp2_with fail
  refine (least_plain x y 0 col lc A cc l V.heap.size _ Hrd.out hm (by simp)).mono ?_
  rintro e w2 ⟨he, hb2⟩
  have S2 := hid (SV.out.below (HVW.out.trans hb2))
  have hsz2 : W0.heap.size + 1 < w2.heap.size := S2.out.2.1.lt
  have hV2 : V.heap.size ≤ w2.heap.size := (HVW.out.trans hb2).size
  clear q0 q1 q2 l0 s0 S1 hsl hsl1
  cases hr : leastM idF x y col lc l with
  | none =>
    rw [hr] at he
    have he : e = .returned (.tuple #[.agg #[.int .i64 0, .int .i64 0, .int .i64 0, .int .i64 0, .int .i64 0, .slice none 0 0, .slice none 0 0], .bool false]) := he
    subst he
    have HrM := hid hr
    clear hr
    go_wp2_with fail
    go_end0
    exact ⟨rfl, zs, S2.out.alloc _, by rw [HrM.out]; rfl, fun b t cs h _ _ => ((h.below (HVW.out.trans hb2) h.lt)).alloc _⟩
  | some f =>
    rw [hr] at he
    obtain ⟨PA, KA, pc, kc, rfl, hfo⟩ := he
    have Hfo := hid (hfo.lower (base := W0.heap.size) (by have := S2.out.2.2.2.2.2.2.1.size; have := SV.out.2.2.2.2.2.2.1.size; have := HVW.out.size; simp; omega))
    obtain ⟨OA, oc, ho0, ho1⟩ := S2.out.2.2.2.1
    have Hob := hid ho0
    have Hown := hid ho1
    have S3 := hid (S2.out.alloc (.cells #[.int .i64 f.w, .int .i64 f.h, .int .i64 f.d, .int .i64 f.c, .int .i64 f.l, .slice PA f.pal.length pc, .slice KA f.key.length kc] 38))
    have hob := S2.out.oblt
    have hob1 : ob < w2.heap.size + 1 := by omega
    have hob2 : ob < w2.heap.size + 1 + 1 := by omega
    have o0 := ho0.cell 0
    have of0 := ho0.frozen 0
    simp only [List.getElem?_toArray, List.getElem?_cons_zero] at o0
    have hk1 := Blk.new (w2.alloc (.cells #[.int .i64 f.w, .int .i64 f.h, .int .i64 f.d, .int .i64 f.c, .int .i64 f.l, .slice PA f.pal.length pc, .slice KA f.key.length kc] 38)) 38 #[.int .i64 f.w, .int .i64 f.h, .int .i64 f.d, .int .i64 f.c, .int .i64 f.l, .slice PA f.pal.length pc, .slice KA f.key.length kc]
    simp only [World.size_alloc] at hk1
    have Hk1 := hid hk1
    have hle : W0.heap.size ≤ w2.heap.size := by omega
    have Hbw := hid (S2.out.2.2.2.2.2.2.1)
    have HrM := hid hr
    clear hr hfo ho0 ho1 hk1
    go_wp2_with (at_builtin; refine wpList_app _ rfl _ _ _ rfl W0.heap.size 38 i0 (.agg #[.int .i64 0, .int .i64 0, .int .i64 0, .int .i64 0, .int .i64 0, .slice none 0 0, .slice none 0 0]) 7 88 Try.underlying55 Hi0.out Hz0.out Hz1.out Hz2.out rfl (by omega) OA zs.length oc _ rfl ((Hown.out.alloc _).alloc _) _ _ 1 1 [.int .i64 f.w, .int .i64 f.h, .int .i64 f.d, .int .i64 f.c, .int .i64 f.l, .slice PA f.pal.length pc, .slice KA f.key.length kc] rfl (rd_one _ _ _ _ Hk1.out) (by simp) (by simp [Value.oneCell']) (by simp only [maxLen]; omega) (by omega) (by simp; omega) ?_; intro A3 c3 w3 ha3; have o3 := ((((Hob.out.alloc (.cells #[.int .i64 f.w, .int .i64 f.h, .int .i64 f.d, .int .i64 f.c, .int .i64 f.l, .slice PA f.pal.length pc, .slice KA f.key.length kc] 38)).alloc (.cells #[.int .i64 f.w, .int .i64 f.h, .int .i64 f.d, .int .i64 f.c, .int .i64 f.l, .slice PA f.pal.length pc, .slice KA f.key.length kc] 38)).grown ha3.2.1 (own_blk_ne ((Hown.out.alloc (.cells #[.int .i64 f.w, .int .i64 f.h, .int .i64 f.d, .int .i64 f.c, .int .i64 f.l, .slice PA f.pal.length pc, .slice KA f.key.length kc] 38)).alloc (.cells #[.int .i64 f.w, .int .i64 f.h, .int .i64 f.d, .int .i64 f.c, .int .i64 f.l, .slice PA f.pal.length pc, .slice KA f.key.length kc] 38)) ((Hob.out.alloc (.cells #[.int .i64 f.w, .int .i64 f.h, .int .i64 f.d, .int .i64 f.c, .int .i64 f.l, .slice PA f.pal.length pc, .slice KA f.key.length kc] 38)).alloc (.cells #[.int .i64 f.w, .int .i64 f.h, .int .i64 f.d, .int .i64 f.c, .int .i64 f.l, .slice PA f.pal.length pc, .slice KA f.key.length kc] 38)) (by decide))) : Blk w3 ob 55 #[.slice OA zs.length oc]); have O3 := hid o3; have p0 := o3.cell 0; have pf := o3.frozen 0; simp only [List.getElem?_toArray, List.getElem?_cons_zero] at p0; have Ha3 := hid ha3; clear ha3 o3)
    go_end0
    have Ho2 := (Hown.out.alloc (.cells #[.int .i64 f.w, .int .i64 f.h, .int .i64 f.d, .int .i64 f.c, .int .i64 f.l, .slice PA f.pal.length pc, .slice KA f.key.length kc] 38)).alloc (.cells #[.int .i64 f.w, .int .i64 f.h, .int .i64 f.d, .int .i64 f.c, .int .i64 f.l, .slice PA f.pal.length pc, .slice KA f.key.length kc] 38)
    refine ⟨rfl, zs ++ [⟨f, PA, KA, pc, kc⟩], ?_, by rw [HrM.out]; simp [addM], fun b t cs h ht hne => ((((h.below (HVW.out.trans hb2) h.lt).alloc _).alloc _).grown Ha3.out.2.1 (own_blk_ne Ho2 (((h.below (HVW.out.trans hb2) h.lt).alloc _).alloc _) ht)).far hne _⟩
    obtain ⟨h1, h2, h3, _, h6, h7, h8, h9⟩ := (S3.out.alloc (.cells #[.int .i64 f.w, .int .i64 f.h, .int .i64 f.d, .int .i64 f.c, .int .i64 f.l, .slice PA f.pal.length pc, .slice KA f.key.length kc] 38))
    have hgr := Ha3.out.2.1
    have hf2 := ((Hfo.out.alloc (.cells #[.int .i64 f.w, .int .i64 f.h, .int .i64 f.d, .int .i64 f.c, .int .i64 f.l, .slice PA f.pal.length pc, .slice KA f.key.length kc] 38)).alloc (.cells #[.int .i64 f.w, .int .i64 f.h, .int .i64 f.d, .int .i64 f.c, .int .i64 f.l, .slice PA f.pal.length pc, .slice KA f.key.length kc] 38)).grown Ho2 hgr
    have hlen : (zs ++ [(⟨f, PA, KA, pc, kc⟩ : FR)]).length = zs.length + 1 := by simp
    refine ⟨(h1.grown hgr (own_blk_ne Ho2 h1 (by decide))).far (by show W0.heap.size ≠ ob; omega) _, (h2.grown hgr (own_blk_ne Ho2 h2 (by decide))).far (by show W0.heap.size + 1 ≠ ob; omega) _, (h3.grown hgr (own_blk_ne Ho2 h3 (by decide))).far (by show sb ≠ ob; omega) _, ⟨A3, c3, ?_, ?_⟩, ?_, ?_, ?_, h9⟩
    · rw [hlen]; exact O3.out.set_ 0 _
    · rw [hlen, List.flatMap_append]
      exact ownsRow_setCell_other (a := ⟨ob, 0, none⟩) Ha3.out.1 (fun e => own_blk_ne Ha3.out.1 O3.out (by decide) e.symm) _
    · have h6' := h6.kept hgr (own_own_ne h6 Ho2 (by decide))
      exact ownsRow_setCell_other (a := ⟨ob, 0, none⟩) h6' (fun e => own_blk_ne h6' O3.out (by decide) e.symm) _
    · intro z hz
      rcases List.mem_append.1 hz with hz | hz
      · exact ((h7 z hz).grown Ho2 hgr).set_ O3.out (by decide) (by decide) 0 _
      · simp at hz
        subst hz
        exact hf2.set_ O3.out (by decide) (by decide) 0 _
    · exact (h8.trans Ha3.out.2.2.1).setCell (by show W0.heap.size ≤ ob; omega) _

set_option maxRecDepth 100000 in
set_option maxHeartbeats 8000000 in
theorem add_keyed (W0 V : World) (x y lc col : Int) (PR A : Option Addr) (np pr sb ob cc : Nat) (l : List Px) (zs : List FR) (a0 a1 a2 a3 : Int) (S : FSt V W0 x y lc PR np pr sb ob A cc l zs) (hm : l.length ≤ 1000000) (hz : zs.length ≤ 1000) :
    Calls Try.prog 66 #[.int .i64 col, .func (.func 111) #[] #[.pointer (some ⟨V.heap.size, 0, none⟩)], .pointer (some ⟨W0.heap.size, 0, none⟩), .pointer (some ⟨W0.heap.size + 1, 0, none⟩), .pointer (some ⟨sb, 0, none⟩), .pointer (some ⟨ob, 0, none⟩)] (V.alloc (.cells #[.int .i64 a0, .int .i64 a1, .int .i64 a2, .int .i64 a3] 62)) fun e w' => e = .returned (.tuple #[]) ∧ ∃ zs', FSt w' W0 x y lc PR np pr sb ob A cc l zs' ∧ zs'.map (·.f) = addM (leastM (mkKey (a0, a1, a2, a3)) x y col lc l) (zs.map (·.f)) ∧ ∀ b t cs, Blk V b t cs → 38 ≠ t → b ≠ ob → Blk w' b t cs := by
  have SV := hid S
  have S1 := hid (S.alloc (.cells #[.int .i64 a0, .int .i64 a1, .int .i64 a2, .int .i64 a3] 62))
  have HVW := hid (((Below.refl V.heap.size V).alloc (Nat.le_refl _) (.cells #[.int .i64 a0, .int .i64 a1, .int .i64 a2, .int .i64 a3] 62)).alloc (by simp) (.cells #[.int .i64 x, .int .i64 y, .int .i64 0, .int .i64 col, .int .i64 lc] 23))
  have Hrd := hid (Rd.alloc (Rd.alloc (own_rdp S.2.2.2.2.1) (Nat.le_refl _) (.cells #[.int .i64 a0, .int .i64 a1, .int .i64 a2, .int .i64 a3] 62)) (by simp) (.cells #[.int .i64 x, .int .i64 y, .int .i64 0, .int .i64 col, .int .i64 lc] 23))
  have Hk := hid ((Blk.new V 62 #[.int .i64 a0, .int .i64 a1, .int .i64 a2, .int .i64 a3]).alloc (.cells #[.int .i64 x, .int .i64 y, .int .i64 0, .int .i64 col, .int .i64 lc] 23))
  clear S
  have hsl : sb < V.heap.size := SV.out.2.2.1.lt
  have hsl1 : sb < V.heap.size + 1 := by omega
  have hso : W0.heap.size + 1 < sb ∧ sb < ob := S1.out.2.2.2.2.2.2.2
  obtain ⟨hso1, hso2⟩ := hso
  have q0 := S1.out.1.cell 0
  have q1 := S1.out.1.cell 1
  have q2 := S1.out.1.cell 2
  simp only [List.getElem?_toArray, List.getElem?_cons_zero, List.getElem?_cons_succ] at q0 q1 q2
  have l0 := S1.out.2.1.cell 0
  have s0 := S1.out.2.2.1.cell 0
  simp only [List.getElem?_toArray, List.getElem?_cons_zero] at l0 s0
  obtain ⟨i0, hi0, hz0, hz1, hz2⟩ := info_parts form_info
  have Hi0 := hid hi0
  have Hz0 := hid hz0
  have Hz1 := hid hz1
  have Hz2 := hid hz2
  clear hi0 hz0 hz1 hz2
  go_enter Try.func66, Try.ntmps66
  go_wp2_with fail
  refine (least_keyed x y 0 col lc a0 a1 a2 a3 V.heap.size A cc l V.heap.size _ Hrd.out hm (by simp; omega) (Nat.le_refl _) Hk.out).mono ?_
  rintro e w2 ⟨he, hb2⟩
  have S2 := hid (SV.out.below (HVW.out.trans hb2))
  have hsz2 : W0.heap.size + 1 < w2.heap.size := S2.out.2.1.lt
  have hV2 : V.heap.size ≤ w2.heap.size := (HVW.out.trans hb2).size
  clear q0 q1 q2 l0 s0 S1 hsl hsl1
  cases hr : leastM (mkKey (a0, a1, a2, a3)) x y col lc l with
  | none =>
    rw [hr] at he
    have he : e = .returned (.tuple #[.agg #[.int .i64 0, .int .i64 0, .int .i64 0, .int .i64 0, .int .i64 0, .slice none 0 0, .slice none 0 0], .bool false]) := he
    subst he
    have HrM := hid hr
    clear hr
    go_wp2_with fail
    go_end0
    exact ⟨rfl, zs, S2.out.alloc _, by rw [HrM.out]; rfl, fun b t cs h _ _ => ((h.below (HVW.out.trans hb2) h.lt)).alloc _⟩
  | some f =>
    rw [hr] at he
    obtain ⟨PA, KA, pc, kc, rfl, hfo⟩ := he
    have Hfo := hid (hfo.lower (base := W0.heap.size) (by have := S2.out.2.2.2.2.2.2.1.size; have := SV.out.2.2.2.2.2.2.1.size; have := HVW.out.size; simp; omega))
    obtain ⟨OA, oc, ho0, ho1⟩ := S2.out.2.2.2.1
    have Hob := hid ho0
    have Hown := hid ho1
    have S3 := hid (S2.out.alloc (.cells #[.int .i64 f.w, .int .i64 f.h, .int .i64 f.d, .int .i64 f.c, .int .i64 f.l, .slice PA f.pal.length pc, .slice KA f.key.length kc] 38))
    have hob := S2.out.oblt
    have hob1 : ob < w2.heap.size + 1 := by omega
    have hob2 : ob < w2.heap.size + 1 + 1 := by omega
    have o0 := ho0.cell 0
    have of0 := ho0.frozen 0
    simp only [List.getElem?_toArray, List.getElem?_cons_zero] at o0
    have hk1 := Blk.new (w2.alloc (.cells #[.int .i64 f.w, .int .i64 f.h, .int .i64 f.d, .int .i64 f.c, .int .i64 f.l, .slice PA f.pal.length pc, .slice KA f.key.length kc] 38)) 38 #[.int .i64 f.w, .int .i64 f.h, .int .i64 f.d, .int .i64 f.c, .int .i64 f.l, .slice PA f.pal.length pc, .slice KA f.key.length kc]
    simp only [World.size_alloc] at hk1
    have Hk1 := hid hk1
    have hle : W0.heap.size ≤ w2.heap.size := by omega
    have Hbw := hid (S2.out.2.2.2.2.2.2.1)
    have HrM := hid hr
    clear hr hfo ho0 ho1 hk1
    go_wp2_with (at_builtin; refine wpList_app _ rfl _ _ _ rfl W0.heap.size 38 i0 (.agg #[.int .i64 0, .int .i64 0, .int .i64 0, .int .i64 0, .int .i64 0, .slice none 0 0, .slice none 0 0]) 7 88 Try.underlying55 Hi0.out Hz0.out Hz1.out Hz2.out rfl (by omega) OA zs.length oc _ rfl ((Hown.out.alloc _).alloc _) _ _ 1 1 [.int .i64 f.w, .int .i64 f.h, .int .i64 f.d, .int .i64 f.c, .int .i64 f.l, .slice PA f.pal.length pc, .slice KA f.key.length kc] rfl (rd_one _ _ _ _ Hk1.out) (by simp) (by simp [Value.oneCell']) (by simp only [maxLen]; omega) (by omega) (by simp; omega) ?_; intro A3 c3 w3 ha3; have o3 := ((((Hob.out.alloc (.cells #[.int .i64 f.w, .int .i64 f.h, .int .i64 f.d, .int .i64 f.c, .int .i64 f.l, .slice PA f.pal.length pc, .slice KA f.key.length kc] 38)).alloc (.cells #[.int .i64 f.w, .int .i64 f.h, .int .i64 f.d, .int .i64 f.c, .int .i64 f.l, .slice PA f.pal.length pc, .slice KA f.key.length kc] 38)).grown ha3.2.1 (own_blk_ne ((Hown.out.alloc (.cells #[.int .i64 f.w, .int .i64 f.h, .int .i64 f.d, .int .i64 f.c, .int .i64 f.l, .slice PA f.pal.length pc, .slice KA f.key.length kc] 38)).alloc (.cells #[.int .i64 f.w, .int .i64 f.h, .int .i64 f.d, .int .i64 f.c, .int .i64 f.l, .slice PA f.pal.length pc, .slice KA f.key.length kc] 38)) ((Hob.out.alloc (.cells #[.int .i64 f.w, .int .i64 f.h, .int .i64 f.d, .int .i64 f.c, .int .i64 f.l, .slice PA f.pal.length pc, .slice KA f.key.length kc] 38)).alloc (.cells #[.int .i64 f.w, .int .i64 f.h, .int .i64 f.d, .int .i64 f.c, .int .i64 f.l, .slice PA f.pal.length pc, .slice KA f.key.length kc] 38)) (by decide))) : Blk w3 ob 55 #[.slice OA zs.length oc]); have O3 := hid o3; have p0 := o3.cell 0; have pf := o3.frozen 0; simp only [List.getElem?_toArray, List.getElem?_cons_zero] at p0; have Ha3 := hid ha3; clear ha3 o3)
    go_end0
    have Ho2 := (Hown.out.alloc (.cells #[.int .i64 f.w, .int .i64 f.h, .int .i64 f.d, .int .i64 f.c, .int .i64 f.l, .slice PA f.pal.length pc, .slice KA f.key.length kc] 38)).alloc (.cells #[.int .i64 f.w, .int .i64 f.h, .int .i64 f.d, .int .i64 f.c, .int .i64 f.l, .slice PA f.pal.length pc, .slice KA f.key.length kc] 38)
    refine ⟨rfl, zs ++ [⟨f, PA, KA, pc, kc⟩], ?_, by rw [HrM.out]; simp [addM], fun b t cs h ht hne => ((((h.below (HVW.out.trans hb2) h.lt).alloc _).alloc _).grown Ha3.out.2.1 (own_blk_ne Ho2 (((h.below (HVW.out.trans hb2) h.lt).alloc _).alloc _) ht)).far hne _⟩
    obtain ⟨h1, h2, h3, _, h6, h7, h8, h9⟩ := (S3.out.alloc (.cells #[.int .i64 f.w, .int .i64 f.h, .int .i64 f.d, .int .i64 f.c, .int .i64 f.l, .slice PA f.pal.length pc, .slice KA f.key.length kc] 38))
    have hgr := Ha3.out.2.1
    have hf2 := ((Hfo.out.alloc (.cells #[.int .i64 f.w, .int .i64 f.h, .int .i64 f.d, .int .i64 f.c, .int .i64 f.l, .slice PA f.pal.length pc, .slice KA f.key.length kc] 38)).alloc (.cells #[.int .i64 f.w, .int .i64 f.h, .int .i64 f.d, .int .i64 f.c, .int .i64 f.l, .slice PA f.pal.length pc, .slice KA f.key.length kc] 38)).grown Ho2 hgr
    have hlen : (zs ++ [(⟨f, PA, KA, pc, kc⟩ : FR)]).length = zs.length + 1 := by simp
    refine ⟨(h1.grown hgr (own_blk_ne Ho2 h1 (by decide))).far (by show W0.heap.size ≠ ob; omega) _, (h2.grown hgr (own_blk_ne Ho2 h2 (by decide))).far (by show W0.heap.size + 1 ≠ ob; omega) _, (h3.grown hgr (own_blk_ne Ho2 h3 (by decide))).far (by show sb ≠ ob; omega) _, ⟨A3, c3, ?_, ?_⟩, ?_, ?_, ?_, h9⟩
    · rw [hlen]; exact O3.out.set_ 0 _
    · rw [hlen, List.flatMap_append]
      exact ownsRow_setCell_other (a := ⟨ob, 0, none⟩) Ha3.out.1 (fun e => own_blk_ne Ha3.out.1 O3.out (by decide) e.symm) _
    · have h6' := h6.kept hgr (own_own_ne h6 Ho2 (by decide))
      exact ownsRow_setCell_other (a := ⟨ob, 0, none⟩) h6' (fun e => own_blk_ne h6' O3.out (by decide) e.symm) _
    · intro z hz
      rcases List.mem_append.1 hz with hz | hz
      · exact ((h7 z hz).grown Ho2 hgr).set_ O3.out (by decide) (by decide) 0 _
      · simp at hz
        subst hz
        exact hf2.set_ O3.out (by decide) (by decide) 0 _
    · exact (h8.trans Ha3.out.2.2.1).setCell (by show W0.heap.size ≤ ob; omega) _

set_option maxRecDepth 100000 in
set_option maxHeartbeats 8000000 in
theorem add_pal (W0 V : World) (x y lc col : Int) (PR A : Option Addr) (np pr sb ob cc : Nat) (l : List Px) (zs : List FR) (g : Nat) (QA : Option Addr) (pl : List Px) (qc : Nat) (S : FSt V W0 x y lc PR np pr sb ob A cc l zs) (hm : l.length ≤ 1000000) (hz : zs.length ≤ 1000) (hg0 : Blk V g 24 #[.slice QA (palM pl).length qc]) (hq : V.ownsRow 0 62 4 (.slice QA (palM pl).length qc) (palM pl).length ((palM pl).flatMap encP)) (hpl : (palM pl).length ≤ 1000000) :
    Calls Try.prog 66 #[.int .i64 col, .func (.func 73) #[] #[.pointer (some ⟨g, 0, none⟩)], .pointer (some ⟨W0.heap.size, 0, none⟩), .pointer (some ⟨W0.heap.size + 1, 0, none⟩), .pointer (some ⟨sb, 0, none⟩), .pointer (some ⟨ob, 0, none⟩)] V fun e w' => e = .returned (.tuple #[]) ∧ ∃ zs', FSt w' W0 x y lc PR np pr sb ob A cc l zs' ∧ zs'.map (·.f) = addM (leastM (mkPal pl) x y col lc l) (zs.map (·.f)) ∧ ∀ b t cs, Blk V b t cs → 38 ≠ t → b ≠ ob → Blk w' b t cs := by
  have SV := hid S
  have S1 := hid S
  have HVW := hid ((Below.refl V.heap.size V).alloc (Nat.le_refl _) (.cells #[.int .i64 x, .int .i64 y, .int .i64 0, .int .i64 col, .int .i64 lc] 23))
  have Hrd := hid (Rd.alloc (own_rdp S.2.2.2.2.1) (Nat.le_refl _) (.cells #[.int .i64 x, .int .i64 y, .int .i64 0, .int .i64 col, .int .i64 lc] 23))
  have Hg := hid (hg0.alloc (.cells #[.int .i64 x, .int .i64 y, .int .i64 0, .int .i64 col, .int .i64 lc] 23))
  have Hq := hid (hq.alloc (.cells #[.int .i64 x, .int .i64 y, .int .i64 0, .int .i64 col, .int .i64 lc] 23))
  clear S hg0 hq
  have hsl : sb < V.heap.size := SV.out.2.2.1.lt
  have hsl1 : sb < V.heap.size + 1 := by omega
  have hso : W0.heap.size + 1 < sb ∧ sb < ob := S1.out.2.2.2.2.2.2.2
  obtain ⟨hso1, hso2⟩ := hso
  have q0 := S1.out.1.cell 0
  have q1 := S1.out.1.cell 1
  have q2 := S1.out.1.cell 2
  simp only [List.getElem?_toArray, List.getElem?_cons_zero, List.getElem?_cons_succ] at q0 q1 q2
  have l0 := S1.out.2.1.cell 0
  have s0 := S1.out.2.2.1.cell 0
  simp only [List.getElem?_toArray, List.getElem?_cons_zero] at l0 s0
  obtain ⟨i0, hi0, hz0, hz1, hz2⟩ := info_parts form_info
  have Hi0 := hid hi0
  have Hz0 := hid hz0
  have Hz1 := hid hz1
  have Hz2 := hid hz2
  clear hi0 hz0 hz1 hz2
  go_enter Try.func66, Try.ntmps66
  go_wp2_with fail
  refine (least_pal x y 0 col lc g QA pl qc A cc l V.heap.size _ Hrd.out hm (by simp) Hg.out Hq.out hpl).mono ?_
  rintro e w2 ⟨he, hb2⟩
  have S2 := hid (SV.out.below (HVW.out.trans hb2))
  have hsz2 : W0.heap.size + 1 < w2.heap.size := S2.out.2.1.lt
  have hV2 : V.heap.size ≤ w2.heap.size := (HVW.out.trans hb2).size
  clear q0 q1 q2 l0 s0 S1 hsl hsl1
  cases hr : leastM (mkPal pl) x y col lc l with
  | none =>
    rw [hr] at he
    have he : e = .returned (.tuple #[.agg #[.int .i64 0, .int .i64 0, .int .i64 0, .int .i64 0, .int .i64 0, .slice none 0 0, .slice none 0 0], .bool false]) := he
    subst he
    have HrM := hid hr
    clear hr
    go_wp2_with fail
    go_end0
    exact ⟨rfl, zs, S2.out.alloc _, by rw [HrM.out]; rfl, fun b t cs h _ _ => ((h.below (HVW.out.trans hb2) h.lt)).alloc _⟩
  | some f =>
    rw [hr] at he
    obtain ⟨PA, KA, pc, kc, rfl, hfo⟩ := he
    have Hfo := hid (hfo.lower (base := W0.heap.size) (by have := S2.out.2.2.2.2.2.2.1.size; have := SV.out.2.2.2.2.2.2.1.size; have := HVW.out.size; simp; omega))
    obtain ⟨OA, oc, ho0, ho1⟩ := S2.out.2.2.2.1
    have Hob := hid ho0
    have Hown := hid ho1
    have S3 := hid (S2.out.alloc (.cells #[.int .i64 f.w, .int .i64 f.h, .int .i64 f.d, .int .i64 f.c, .int .i64 f.l, .slice PA f.pal.length pc, .slice KA f.key.length kc] 38))
    have hob := S2.out.oblt
    have hob1 : ob < w2.heap.size + 1 := by omega
    have hob2 : ob < w2.heap.size + 1 + 1 := by omega
    have o0 := ho0.cell 0
    have of0 := ho0.frozen 0
    simp only [List.getElem?_toArray, List.getElem?_cons_zero] at o0
    have hk1 := Blk.new (w2.alloc (.cells #[.int .i64 f.w, .int .i64 f.h, .int .i64 f.d, .int .i64 f.c, .int .i64 f.l, .slice PA f.pal.length pc, .slice KA f.key.length kc] 38)) 38 #[.int .i64 f.w, .int .i64 f.h, .int .i64 f.d, .int .i64 f.c, .int .i64 f.l, .slice PA f.pal.length pc, .slice KA f.key.length kc]
    simp only [World.size_alloc] at hk1
    have Hk1 := hid hk1
    have hle : W0.heap.size ≤ w2.heap.size := by omega
    have Hbw := hid (S2.out.2.2.2.2.2.2.1)
    have HrM := hid hr
    clear hr hfo ho0 ho1 hk1
    go_wp2_with (at_builtin; refine wpList_app _ rfl _ _ _ rfl W0.heap.size 38 i0 (.agg #[.int .i64 0, .int .i64 0, .int .i64 0, .int .i64 0, .int .i64 0, .slice none 0 0, .slice none 0 0]) 7 88 Try.underlying55 Hi0.out Hz0.out Hz1.out Hz2.out rfl (by omega) OA zs.length oc _ rfl ((Hown.out.alloc _).alloc _) _ _ 1 1 [.int .i64 f.w, .int .i64 f.h, .int .i64 f.d, .int .i64 f.c, .int .i64 f.l, .slice PA f.pal.length pc, .slice KA f.key.length kc] rfl (rd_one _ _ _ _ Hk1.out) (by simp) (by simp [Value.oneCell']) (by simp only [maxLen]; omega) (by omega) (by simp; omega) ?_; intro A3 c3 w3 ha3; have o3 := ((((Hob.out.alloc (.cells #[.int .i64 f.w, .int .i64 f.h, .int .i64 f.d, .int .i64 f.c, .int .i64 f.l, .slice PA f.pal.length pc, .slice KA f.key.length kc] 38)).alloc (.cells #[.int .i64 f.w, .int .i64 f.h, .int .i64 f.d, .int .i64 f.c, .int .i64 f.l, .slice PA f.pal.length pc, .slice KA f.key.length kc] 38)).grown ha3.2.1 (own_blk_ne ((Hown.out.alloc (.cells #[.int .i64 f.w, .int .i64 f.h, .int .i64 f.d, .int .i64 f.c, .int .i64 f.l, .slice PA f.pal.length pc, .slice KA f.key.length kc] 38)).alloc (.cells #[.int .i64 f.w, .int .i64 f.h, .int .i64 f.d, .int .i64 f.c, .int .i64 f.l, .slice PA f.pal.length pc, .slice KA f.key.length kc] 38)) ((Hob.out.alloc (.cells #[.int .i64 f.w, .int .i64 f.h, .int .i64 f.d, .int .i64 f.c, .int .i64 f.l, .slice PA f.pal.length pc, .slice KA f.key.length kc] 38)).alloc (.cells #[.int .i64 f.w, .int .i64 f.h, .int .i64 f.d, .int .i64 f.c, .int .i64 f.l, .slice PA f.pal.length pc, .slice KA f.key.length kc] 38)) (by decide))) : Blk w3 ob 55 #[.slice OA zs.length oc]); have O3 := hid o3; have p0 := o3.cell 0; have pf := o3.frozen 0; simp only [List.getElem?_toArray, List.getElem?_cons_zero] at p0; have Ha3 := hid ha3; clear ha3 o3)
    go_end0
    have Ho2 := (Hown.out.alloc (.cells #[.int .i64 f.w, .int .i64 f.h, .int .i64 f.d, .int .i64 f.c, .int .i64 f.l, .slice PA f.pal.length pc, .slice KA f.key.length kc] 38)).alloc (.cells #[.int .i64 f.w, .int .i64 f.h, .int .i64 f.d, .int .i64 f.c, .int .i64 f.l, .slice PA f.pal.length pc, .slice KA f.key.length kc] 38)
    refine ⟨rfl, zs ++ [⟨f, PA, KA, pc, kc⟩], ?_, by rw [HrM.out]; simp [addM], fun b t cs h ht hne => ((((h.below (HVW.out.trans hb2) h.lt).alloc _).alloc _).grown Ha3.out.2.1 (own_blk_ne Ho2 (((h.below (HVW.out.trans hb2) h.lt).alloc _).alloc _) ht)).far hne _⟩
    obtain ⟨h1, h2, h3, _, h6, h7, h8, h9⟩ := (S3.out.alloc (.cells #[.int .i64 f.w, .int .i64 f.h, .int .i64 f.d, .int .i64 f.c, .int .i64 f.l, .slice PA f.pal.length pc, .slice KA f.key.length kc] 38))
    have hgr := Ha3.out.2.1
    have hf2 := ((Hfo.out.alloc (.cells #[.int .i64 f.w, .int .i64 f.h, .int .i64 f.d, .int .i64 f.c, .int .i64 f.l, .slice PA f.pal.length pc, .slice KA f.key.length kc] 38)).alloc (.cells #[.int .i64 f.w, .int .i64 f.h, .int .i64 f.d, .int .i64 f.c, .int .i64 f.l, .slice PA f.pal.length pc, .slice KA f.key.length kc] 38)).grown Ho2 hgr
    have hlen : (zs ++ [(⟨f, PA, KA, pc, kc⟩ : FR)]).length = zs.length + 1 := by simp
    refine ⟨(h1.grown hgr (own_blk_ne Ho2 h1 (by decide))).far (by show W0.heap.size ≠ ob; omega) _, (h2.grown hgr (own_blk_ne Ho2 h2 (by decide))).far (by show W0.heap.size + 1 ≠ ob; omega) _, (h3.grown hgr (own_blk_ne Ho2 h3 (by decide))).far (by show sb ≠ ob; omega) _, ⟨A3, c3, ?_, ?_⟩, ?_, ?_, ?_, h9⟩
    · rw [hlen]; exact O3.out.set_ 0 _
    · rw [hlen, List.flatMap_append]
      exact ownsRow_setCell_other (a := ⟨ob, 0, none⟩) Ha3.out.1 (fun e => own_blk_ne Ha3.out.1 O3.out (by decide) e.symm) _
    · have h6' := h6.kept hgr (own_own_ne h6 Ho2 (by decide))
      exact ownsRow_setCell_other (a := ⟨ob, 0, none⟩) h6' (fun e => own_blk_ne h6' O3.out (by decide) e.symm) _
    · intro z hz
      rcases List.mem_append.1 hz with hz | hz
      · exact ((h7 z hz).grown Ho2 hgr).set_ O3.out (by decide) (by decide) 0 _
      · simp at hz
        subst hz
        exact hf2.set_ O3.out (by decide) (by decide) 0 _
    · exact (h8.trans Ha3.out.2.2.1).setCell (by show W0.heap.size ≤ ob; omega) _

end Go.Proofs.Ytphhoihhmphbdaa

namespace Go.Proofs.Ytphhoihhmphbdaa
open Go.RowKit

def plainM (x y lc : Int) (l : List Px) : List Int → List Fm → List Fm
  | [], fs => fs
  | c :: cs, fs => plainM x y lc l cs (addM (leastM idF x y c lc l) fs)
def keyedM (x y lc : Int) (l : List Px) (fs : List Fm) : List Fm :=
  if 0 ≤ clearAt l then addM (leastM (mkKey (l.getD (clearAt l).toNat (0, 0, 0, 0))) x y 2 lc l) (addM (leastM (mkKey (l.getD (clearAt l).toNat (0, 0, 0, 0))) x y 0 lc l) fs) else fs
def paledM (x y lc : Int) (l : List Px) (fs : List Fm) : List Fm :=
  if l.length ≤ 256 then addM (leastM (mkPal l) x y 3 lc l) fs else fs
/-- the least forms of a raster that is one -/
def formsM (x y lc : Int) (px : List Px) : List Fm := paledM x y lc (unl px) (keyedM x y lc (unl px) (plainM x y lc (unl px) [0, 2, 4, 6] []))
/-- the least forms of a raster, if it is one -/
def fformsM (x y lc : Int) (px : List Px) : Option (List Fm) := if rasOk x y px = true ∧ 0 ≤ lc ∧ lc ≤ 1 then some (formsM x y lc px) else none
theorem addM_len (r : Option Fm) (fs : List Fm) : (addM r fs).length ≤ fs.length + 1 := by unfold addM; split <;> simp
theorem plain_drop (x y lc : Int) (l : List Px) (cs : List Int) (fs : List Fm) (j : Nat) (hj : j < cs.length) : plainM x y lc l (cs.drop j) fs = plainM x y lc l (cs.drop (j + 1)) (addM (leastM idF x y cs[j] lc l) fs) := by
  rw [List.drop_eq_getElem_cons hj]; rfl

/-- what forms end in -/
def SfEnd (r : Option (List Fm)) (W : World) (e : Ending) (w' : World) : Prop :=
  (match r with
  | none => e = .returned (.tuple #[.slice none 0 0, .iface 42 (.int .i64 6)])
  | some fs => ∃ (OA : Option Addr) (oc : Nat) (zs : List FR), e = .returned (.tuple #[.slice OA zs.length oc, .nilIface]) ∧ zs.map (·.f) = fs ∧ w'.ownsRow W.heap.size 38 7 (.slice OA zs.length oc) zs.length (zs.flatMap encF) ∧ ∀ z ∈ zs, FmOwn w' W.heap.size z.f z.PA z.KA z.pc z.kc) ∧ Below W.heap.size W w'
theorem sfEnd_none {r : Option (List Fm)} {W w' : World} (h : r = none) (hb : Below W.heap.size W w') : SfEnd r W (.returned (.tuple #[.slice none 0 0, .iface 42 (.int .i64 6)])) w' := by subst h; exact ⟨rfl, hb⟩
theorem sfEnd_some {r : Option (List Fm)} {fs : List Fm} {W w' : World} {OA : Option Addr} {oc : Nat} {zs : List FR} (h : r = some fs) (hz : zs.map (·.f) = fs) (ho : w'.ownsRow W.heap.size 38 7 (.slice OA zs.length oc) zs.length (zs.flatMap encF)) (hf : ∀ z ∈ zs, FmOwn w' W.heap.size z.f z.PA z.KA z.pc z.kc) (hb : Below W.heap.size W w') : SfEnd r W (.returned (.tuple #[.slice OA zs.length oc, .nilIface])) w' := by subst h; exact ⟨⟨OA, oc, zs, rfl, hz, ho, hf⟩, hb⟩
theorem fst_start {W0 w : World} {x y lc : Int} {PR A : Option Addr} {np pr cc : Nat} {l : List Px} (hw : RcW w W0 x y PR np pr) (hl : Blk w (W0.heap.size + 1) 3 #[.int .i64 lc]) (ho : w.ownsRow W0.heap.size 62 4 (.slice A l.length cc) l.length (l.flatMap encP)) :
    FSt ((w.alloc (.cells #[.slice A l.length cc] 24)).alloc (.cells #[.slice none 0 0] 55)) W0 x y lc PR np pr w.heap.size (w.heap.size + 1) A cc l [] := by
  have h4 := Blk.new (w.alloc (.cells #[.slice A l.length cc] 24)) 55 #[.slice none 0 0]
  simp only [World.size_alloc] at h4
  exact ⟨(hw.1.alloc _).alloc _, (hl.alloc _).alloc _, (Blk.new w _ _).alloc _, ⟨none, 0, h4, World.ownsRow_nil _ _ _ _⟩, (ho.alloc _).alloc _, by simp, (hw.2.alloc hw.2.size _).alloc (by have := hw.2.size; simp; omega) _, hl.lt, Nat.lt_succ_self _⟩

set_option maxRecDepth 100000 in
set_option maxHeartbeats 8000000 in
theorem sforms_no (x y lc : Int) (PR : Option Addr) (pr : Nat) (px : List Px) (W : World) (hp : RdP W W.heap.size PR px) (hm : px.length ≤ 1000000) (hno : fformsM x y lc px = none) :
    Calls Try.prog 25 #[.agg #[.int .i64 x, .int .i64 y, .slice PR px.length pr], .int .i64 lc] W (SfEnd (fformsM x y lc px) W) := by
  have Hno := hid hno
  have Hp := hid hp
  have Hw := hid ((rcw_start x y PR px.length pr W).alloc (.cells #[.int .i64 lc] 3))
  have hl0 := Blk.new (W.alloc (.cells #[.int .i64 x, .int .i64 y, .slice PR px.length pr] 33)) 3 #[.int .i64 lc]
  simp only [World.size_alloc] at hl0
  have Hl0 := hid hl0
  have Hcase := hid (show rasOk x y px = false ∨ (rasOk x y px = true ∧ lc < 0) ∨ (rasOk x y px = true ∧ ¬ lc < 0 ∧ 1 < lc) by
    unfold fformsM at hno
    cases h : rasOk x y px
    · exact .inl rfl
    · rw [h] at hno
      by_cases h1 : lc < 0
      · exact .inr (.inl ⟨rfl, h1⟩)
      · by_cases h2 : 1 < lc
        · exact .inr (.inr ⟨rfl, h1, h2⟩)
        · rw [if_pos ⟨rfl, by omega, by omega⟩] at hno; cases hno)
  clear hno hp hl0
  go_enter Try.func25, Try.ntmps25
  go_wp2_with fail
  refine (scheck_any x y PR pr px _ (Rd.more (Rd.below Hp.out Hw.out.2 (Nat.le_refl _)) Hw.out.2.size) hm).mono ?_
  rintro e w1 ⟨rfl, hb⟩
  have Hw1 := hid (Hw.out.below hb)
  have Hl1 := hid (Hl0.out.below hb (by simp))
  clear hb
  have l0 := Hl1.out.cell 0
  simp only [List.getElem?_toArray, List.getElem?_cons_zero] at l0
  rcases Hcase.out with h | ⟨h, h1⟩ | ⟨h, h1, h2⟩
  · rw [h, if_neg (by simp), errv_6]
    clear h
    go_wp2
    go_ret2
    exact sfEnd_none Hno.out Hw1.out.2
  · rw [h, if_pos rfl, errv_0]
    have d1 : decide (lc < 0) = true := decide_eq_true h1
    clear h
    go_wp2
    go_ret2
    exact sfEnd_none Hno.out Hw1.out.2
  · rw [h, if_pos rfl, errv_0]
    have d1 : decide (lc < 0) = false := decide_eq_false (by omega)
    have d2 : decide (1 < lc) = true := decide_eq_true h2
    clear h
    go_wp2
    go_ret2
    exact sfEnd_none Hno.out Hw1.out.2

set_option maxRecDepth 100000 in
set_option maxHeartbeats 8000000 in
theorem sforms_yes (x y lc : Int) (PR : Option Addr) (pr : Nat) (px : List Px) (W : World) (hp : RdP W W.heap.size PR px) (hm : px.length ≤ 1000000) (hr : rasOk x y px = true) (hl1 : 0 ≤ lc) (hl2 : lc ≤ 1) :
    Calls Try.prog 25 #[.agg #[.int .i64 x, .int .i64 y, .slice PR px.length pr], .int .i64 lc] W (SfEnd (fformsM x y lc px) W) := by
  have Hfm := hid (show fformsM x y lc px = some (formsM x y lc px) from if_pos ⟨hr, hl1, hl2⟩)
  have Hp := hid hp
  have Hr := hid hr
  have Hsd := hid (show px.all soundB = true by unfold rasOk at hr; simp only [Bool.and_eq_true] at hr; exact hr.2)
  have Hw := hid ((rcw_start x y PR px.length pr W).alloc (.cells #[.int .i64 lc] 3))
  have hl0 := Blk.new (W.alloc (.cells #[.int .i64 x, .int .i64 y, .slice PR px.length pr] 33)) 3 #[.int .i64 lc]
  simp only [World.size_alloc] at hl0
  have Hl0 := hid hl0
  have d1 : decide (lc < 0) = false := decide_eq_false (by omega)
  have d2 : decide (1 < lc) = false := decide_eq_false (by omega)
  clear hp hr hl0
  go_enter Try.func25, Try.ntmps25
  go_wp2_with fail
  refine (scheck_any x y PR pr px _ (Rd.more (Rd.below Hp.out Hw.out.2 (Nat.le_refl _)) Hw.out.2.size) hm).mono ?_
  rintro e w1 ⟨rfl, hb⟩
  have Hw1 := hid (Hw.out.below hb)
  have Hl1 := hid (Hl0.out.below hb (by simp))
  clear hb
  have l0 := Hl1.out.cell 0
  have q2 := Hw1.out.1.cell 2
  simp only [List.getElem?_toArray, List.getElem?_cons_zero, List.getElem?_cons_succ] at l0 q2
  rw [Hr.out, if_pos rfl, errv_0]
  go_wp2_with fail
  refine (unlike_any PR pr px _ (Rd.more (Rd.below Hp.out Hw1.out.2 (Nat.le_refl _)) Hw1.out.2.size) hm Hsd.out).mono ?_
  rintro e w2 ⟨A, cc, rfl, ho, hb⟩
  have Hul := hid (unl_len px)
  have Hfd : Hid (formsM x y lc px = paledM x y lc (unl px) (keyedM x y lc (unl px) (plainM x y lc (unl px) [0, 2, 4, 6] []))) := rfl
  have hlm : (unl px).length ≤ 1000000 := Nat.le_trans Hul.out hm
  generalize unl px = l at *
  have S0 := hid (fst_start (Hw1.out.below hb) (Hl1.out.below hb Hl1.out.lt) (own_base ho (by have := Hw1.out.2.size; omega)))
  have hcb0 := Blk.new ((w2.alloc (.cells #[.slice A l.length cc] 24)).alloc (.cells #[.slice none 0 0] 55)) 3 #[.int .i64 0, .int .i64 2, .int .i64 4, .int .i64 6]
  simp only [World.size_alloc] at hcb0
  have Hcb := hid hcb0
  have S1 := hid (S0.out.alloc (.cells #[.int .i64 0, .int .i64 2, .int .i64 4, .int .i64 6] 3))
  clear hb ho l0 q2 Hw1 Hl1 Hw Hl0 hcb0 S0
  go_upto_region 8 with (fail)
  generalize ((w2.alloc (.cells #[.slice A l.length cc] 24)).alloc (.cells #[.slice none 0 0] 55)).alloc (.cells #[.int .i64 0, .int .i64 2, .int .i64 4, .int .i64 6] 3) = wy at *
  generalize hsb : w2.heap.size = sb at *
  clear hsb
  go_loopw [33] (fun i wr => ∃ (j : Nat) (zs : List FR), j ≤ 4 ∧ i = .int .i64 j ∧ plainM x y lc l [0, 2, 4, 6] [] = plainM x y lc l (([0, 2, 4, 6] : List Int).drop j) (zs.map (·.f)) ∧ zs.length ≤ j ∧ Blk wr (sb + 1 + 1) 3 #[.int .i64 0, .int .i64 2, .int .i64 4, .int .i64 6] ∧ FSt wr W x y lc PR px.length pr sb (sb + 1) A cc l zs) (fun i _ => 4 - (intOf i).toNat)
  case atStart => exact ⟨0, [], by omega, rfl, rfl, Nat.le_refl _, Hcb.out, S1.out⟩
  case round =>
    obtain ⟨j, zs, hj, rfl, hpm, hzl, hcb, hs⟩ := hrel
    have Hpm := hid hpm
    have Hcr := hid hcb
    have Sr := hid hs
    clear hpm hcb hs S1 Hcb
    by_cases hlt : j < 4
    · have c0 : wr.cell? ⟨sb + 1 + 1, j, none⟩ = some (.int .i64 (([0, 2, 4, 6] : List Int)[j]'hlt)) := by
        rw [Hcr.out.cell j]
        have : j = 0 ∨ j = 1 ∨ j = 2 ∨ j = 3 := by omega
        rcases this with rfl | rfl | rfl | rfl <;> rfl
      have Hnx := hid (plain_drop x y lc l [0, 2, 4, 6] (zs.map (·.f)) j hlt)
      generalize ([0, 2, 4, 6] : List Int)[j]'hlt = col at *
      go_wp2_with fail
      refine (add_plain W wr x y lc col PR A px.length pr sb (sb + 1) cc l zs Sr.out hlm (by omega)).mono ?_
      rintro e w3 ⟨rfl, zs', hs', hz', hk'⟩
      have Sn := hid hs'
      have Hk := hid (hk' _ _ _ Hcr.out (by decide) (by omega))
      have Hzl := hid (show zs'.length ≤ j + 1 by
        have h := congrArg List.length hz'
        have h2 := addM_len (leastM idF x y col lc l) (zs.map (·.f))
        simp only [List.length_map] at h h2
        omega)
      have Hp2 := hid (show plainM x y lc l [0, 2, 4, 6] [] = plainM x y lc l (([0, 2, 4, 6] : List Int).drop (j + 1)) (zs'.map (·.f)) by rw [Hpm.out, Hnx.out, hz'])
      clear hs' hz' hk' c0
      go_wp2_with fail
      go_roundw
      case rel => exact ⟨j + 1, zs', by omega, by go_num, Hp2.out, Hzl.out, Hk.out, Sn.out⟩
      case measure => simp [intOf]; omega
    · have e : j = 4 := by omega
      subst e
      have Hp4 := hid (show plainM x y lc l [0, 2, 4, 6] [] = zs.map (·.f) from Hpm.out)
      clear Hpm hlt hj Hcr
      obtain ⟨wz, rfl⟩ : ∃ wz : World, wz = wr := ⟨_, rfl⟩
      have s0 := Sr.out.2.2.1.cell 0
      simp only [List.getElem?_toArray, List.getElem?_cons_zero] at s0
      go_wp2_with fail
      refine (indexClear_any A cc l wz (own_rdp Sr.out.2.2.2.2.1) hlm).mono ?_
      rintro e w3 ⟨rfl, hb3⟩
      have S3 := hid (Sr.out.below hb3)
      clear hb3 s0
      have hca : clearAt l = -1 ∨ ∃ k : Nat, clearAt l = k ∧ k < l.length := by
        unfold clearAt
        by_cases h : l.findIdx (fun p => p.2.2.2 == 0) < l.length
        · rw [if_pos h]; exact .inr ⟨_, rfl, h⟩
        · rw [if_neg h]; exact .inl rfl
      have Hca := hid hca
      have Hkd : Hid (keyedM x y lc l (plainM x y lc l [0, 2, 4, 6] []) = if 0 ≤ clearAt l then addM (leastM (mkKey (l.getD (clearAt l).toNat (0, 0, 0, 0))) x y 2 lc l) (addM (leastM (mkKey (l.getD (clearAt l).toNat (0, 0, 0, 0))) x y 0 lc l) (plainM x y lc l [0, 2, 4, 6] [])) else (plainM x y lc l [0, 2, 4, 6] [])) := rfl
      have Hzl := hid hzl
      clear hca hzl
      go_upto_if 44 with (fail)
      go_cut [] from 42 to 58 (fun w => ∃ zs', FSt w W x y lc PR px.length pr sb (sb + 1) A cc l zs' ∧ zs'.map (·.f) = keyedM x y lc l (plainM x y lc l [0, 2, 4, 6] []) ∧ zs'.length ≤ 6)
      case first =>
        rcases Hca.out with h | ⟨k, h, hk⟩
        · have d : decide (0 ≤ clearAt l) = false := decide_eq_false (by omega)
          have Hk2 := hid (show keyedM x y lc l (plainM x y lc l [0, 2, 4, 6] []) = zs.map (·.f) by rw [Hkd.out, if_neg (by omega), Hp4.out])
          rw [d]
          clear h d
          go_wp2
          go_meet
          exact ⟨zs, S3.out, by rw [Hk2.out], by have := Hzl.out; omega⟩
        · have Hk2 := hid (show keyedM x y lc l (plainM x y lc l [0, 2, 4, 6] []) = addM (leastM (mkKey l[k]) x y 2 lc l) (addM (leastM (mkKey l[k]) x y 0 lc l) (zs.map (·.f))) by
            have e1 : l.getD (clearAt l).toNat (0, 0, 0, 0) = l[k] := by rw [h, Int.toNat_natCast]; simp [List.getD, List.getElem?_eq_getElem hk]
            rw [Hkd.out, if_pos (by omega), e1, Hp4.out])
          rw [show decide (0 ≤ clearAt l) = true from decide_eq_true (by omega)]
          generalize clearAt l = ca at *
          subst h
          obtain ⟨b, off, hA, hbb, x0, x1, x2, x3⟩ := px_at (own_rdp S3.out.2.2.2.2.1) hk
          subst hA
          have Hpx := hid (fun (w : World) (S : FSt w W x y lc PR px.length pr sb (sb + 1) (some ⟨b, off, none⟩) cc l zs) => px_at (own_rdp S.2.2.2.2.1) hk)
          generalize hpk : l[k] = p at *
          obtain ⟨p0, p1, p2, p3⟩ := p
          simp only at x0 x1 x2 x3
          have Hpk := hid hpk
          have s0 := S3.out.2.2.1.cell 0
          simp only [List.getElem?_toArray, List.getElem?_cons_zero] at s0
          clear hpk Hkd
          go_wp2_with fail
          refine (keyed_any p0 p1 p2 p3 _).mono ?_
          rintro e w4 ⟨rfl, rfl⟩
          go_wp2_with fail
          refine (add_keyed W w3 x y lc 0 PR (some ⟨b, off, none⟩) px.length pr sb (sb + 1) cc l zs p0 p1 p2 p3 S3.out hlm (by have := Hzl.out; omega)).mono ?_
          rintro e w5 ⟨rfl, zs1, hs1, hz1, _⟩
          have S5 := hid hs1
          have Hz1 := hid hz1
          have Hl1 := hid (show zs1.length ≤ 5 by
            have h := congrArg List.length hz1
            have h2 := addM_len (leastM (mkKey (p0, p1, p2, p3)) x y 0 lc l) (zs.map (·.f))
            have := Hzl.out
            simp only [List.length_map] at h h2
            omega)
          obtain ⟨b', off', hA, hbb', y0, y1, y2, y3⟩ := px_at (own_rdp hs1.2.2.2.2.1) hk
          simp only [Option.some.injEq, Addr.mk.injEq] at hA
          obtain ⟨rfl, rfl, _⟩ := hA
          rw [Hpk.out] at y0 y1 y2 y3
          simp only at y0 y1 y2 y3
          have s1 := hs1.2.2.1.cell 0
          simp only [List.getElem?_toArray, List.getElem?_cons_zero] at s1
          clear hs1 hz1 s0 x0 x1 x2 x3
          go_wp2_with fail
          refine (keyed_any p0 p1 p2 p3 _).mono ?_
          rintro e w6 ⟨rfl, rfl⟩
          go_wp2_with fail
          refine (add_keyed W w5 x y lc 2 PR (some ⟨b, off, none⟩) px.length pr sb (sb + 1) cc l zs1 p0 p1 p2 p3 S5.out hlm (by have := Hl1.out; omega)).mono ?_
          rintro e w7 ⟨rfl, zs2, hs2, hz2, _⟩
          have S7 := hid hs2
          have Hz2 := hid hz2
          have Hl2 := hid (show zs2.length ≤ 6 by
            have h := congrArg List.length hz2
            have h2 := addM_len (leastM (mkKey (p0, p1, p2, p3)) x y 2 lc l) (zs1.map (·.f))
            have := Hl1.out
            simp only [List.length_map] at h h2
            omega)
          clear hs2 hz2 s1 y0 y1 y2 y3
          go_wp2_with fail
          go_meet
          exact ⟨zs2, S7.out, by rw [Hk2.out, Hz2.out, Hz1.out], Hl2.out⟩
      case rest =>
      obtain ⟨zs1, hs1, hz1, hl1⟩ := hcut
      obtain ⟨wq, rfl⟩ : ∃ wq : World, wq = wc := ⟨_, rfl⟩
      have S4 := hid hs1
      have Hz1 := hid hz1
      have Hl1 := hid hl1
      clear hs1 hz1 hl1 S3 Sr Hkd Hca Hp4 Hzl
      have s0 := S4.out.2.2.1.cell 0
      simp only [List.getElem?_toArray, List.getElem?_cons_zero] at s0
      by_cases h256 : l.length ≤ 256
      · have hfin := hid (show formsM x y lc px = addM (leastM (mkPal l) x y 3 lc l) (zs1.map (·.f)) by rw [Hfd.out]; unfold paledM; rw [if_pos h256, Hz1.out])
        have d3 : decide ((l.length : Int) ≤ 256) = true := decide_eq_true (by omega)
        have d3' : decide (l.length ≤ 256) = true := decide_eq_true h256
        clear h256
        go_wp2_with fail
        refine (palette_any A cc l wq (own_rdp S4.out.2.2.2.2.1) hlm).mono ?_
        rintro e w4 ⟨QA, qc, rfl, hq, hb4⟩
        have S5 := hid ((S4.out.below hb4).alloc (.cells #[.slice QA (palM l).length qc] 24))
        have Hq := hid ((own_base (b := 0) hq (Nat.zero_le _)).alloc (.cells #[.slice QA (palM l).length qc] 24))
        have Hg := hid (Blk.new w4 24 #[.slice QA (palM l).length qc])
        have Hpl := hid (show (palM l).length ≤ 1000000 by unfold palM; rw [List.length_append, parts_len]; exact hlm)
        clear hq hb4 s0
        go_wp2_with fail
        refine (add_pal W (w4.alloc (.cells #[.slice QA (palM l).length qc] 24)) x y lc 3 PR A px.length pr sb (sb + 1) cc l zs1 w4.heap.size QA l qc S5.out hlm (by have := Hl1.out; omega) Hg.out Hq.out Hpl.out).mono ?_
        rintro e w5 ⟨rfl, zs2, hs2, hz2, _⟩
        have S6 := hid hs2
        have Hz2 := hid hz2
        obtain ⟨OA, oc, ho0, ho1⟩ := hs2.2.2.2.1
        have Ho1 := hid ho1
        have o0 := ho0.cell 0
        simp only [List.getElem?_toArray, List.getElem?_cons_zero] at o0
        clear hs2 hz2 ho0 ho1
        go_wp2_with fail
        go_ret2
        exact sfEnd_some Hfm.out (by rw [hfin.out, Hz2.out]) Ho1.out S6.out.2.2.2.2.2.1 S6.out.2.2.2.2.2.2.1
      · have hfin := hid (show formsM x y lc px = zs1.map (·.f) by rw [Hfd.out]; unfold paledM; rw [if_neg h256, Hz1.out])
        have d3 : decide ((l.length : Int) ≤ 256) = false := decide_eq_false (by omega)
        have d3' : decide (l.length ≤ 256) = false := decide_eq_false h256
        clear h256
        obtain ⟨OA, oc, ho0, ho1⟩ := S4.out.2.2.2.1
        have Ho1 := hid ho1
        have o0 := ho0.cell 0
        simp only [List.getElem?_toArray, List.getElem?_cons_zero] at o0
        clear ho0 ho1
        go_wp2_with fail
        go_ret2
        exact sfEnd_some Hfm.out (by rw [hfin.out]) Ho1.out S4.out.2.2.2.2.2.1 S4.out.2.2.2.2.2.2.1

theorem sforms_any (x y lc : Int) (PR : Option Addr) (pr : Nat) (px : List Px) (W : World) (hp : RdP W W.heap.size PR px) (hm : px.length ≤ 1000000) :
    Calls Try.prog 25 #[.agg #[.int .i64 x, .int .i64 y, .slice PR px.length pr], .int .i64 lc] W (SfEnd (fformsM x y lc px) W) := by
  by_cases h : rasOk x y px = true ∧ 0 ≤ lc ∧ lc ≤ 1
  · exact sforms_yes x y lc PR pr px W hp hm h.1 h.2.1 h.2.2
  · exact sforms_no x y lc PR pr px W hp hm (if_neg h)

end Go.Proofs.Ytphhoihhmphbdaa
