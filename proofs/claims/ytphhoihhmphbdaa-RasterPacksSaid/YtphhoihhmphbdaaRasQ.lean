/-
  raster.Same of two rasters that are the same; burnishlaw17.largeRaster; a raster that came in, its ints wf.
  raster.Pack in two ways: bad, or a list of bytes. The reference's Pack beside it.
-/
import Derived.Test.YtphhoihhmphbdaaRs17
import Derived.Test.YtphhoihhmphbdaaRlaw
import Derived.Test.YtphhoihhmphbdaaPakN
import Derived.Test.YtphhoihhmphbdaaRpkA
import Derived.Deep.QuietTactic
import Derived.BigQuiet
namespace Go.Proofs.Ytphhoihhmphbdaa
open Go.ChangeShapes Go.WideShapes Go.ChangeAt Go.RowKit Go.Deep

set_option maxRecDepth 100000 in
set_option maxHeartbeats 4000000 in
theorem eqpx_any (A B : Option Addr) (c d : Nat) (l : List Px) (W : World) (ha : RdP W W.heap.size A l) (hb : RdP W W.heap.size B l) (hm : l.length ≤ 1000000) :
    Calls Try.prog 60 #[.slice A l.length c, .slice B l.length d] W fun e w' => e = .returned (.bool true) ∧ Below W.heap.size W w' := by
  have Ha := hid ha
  have Hb := hid hb
  clear ha hb
  go_enter Try.func60, Try.ntmps60
  go_wp2
  go_loopw [13] (fun i wr => ∃ j n : Nat, j ≤ l.length ∧ i = .int .i64 j ∧ wr = W.drewN n) (fun i _ => l.length - (intOf i).toNat)
  case atStart => exact ⟨0, 0, by omega, rfl, rfl⟩
  case round =>
    obtain ⟨j, n, hj, rfl, rfl⟩ := hrel
    by_cases hlt : j < l.length
    · obtain ⟨b, off, hA, hbb, x0, x1, x2, x3⟩ := px_at Ha.out hlt
      subst hA
      obtain ⟨b', off', hB, hbb', y0, y1, y2, y3⟩ := px_at Hb.out hlt
      subst hB
      generalize l[j] = p at *
      obtain ⟨p0, p1, p2, p3⟩ := p
      simp only at x0 x1 x2 x3 y0 y1 y2 y3
      go_wp2
      go_quiet (fail)
      go_wp2
      go_roundw
      case rel => exact ⟨j + 1, n + nq, by omega, by go_num, by simp⟩
      case measure => simp [intOf]; omega
    · obtain rfl : j = l.length := by omega
      go_wp2
      go_ret
      exact ⟨rfl, below_drewN (Below.refl _ _) _⟩
set_option maxRecDepth 100000 in
set_option maxHeartbeats 4000000 in
theorem rassame_any (x y : Int) (A B : Option Addr) (c d : Nat) (l : List Px) (W : World) (ha : RdP W W.heap.size A l) (hb : RdP W W.heap.size B l) (hm : l.length ≤ 1000000) :
    Calls Try.prog 22 #[.agg #[.int .i64 x, .int .i64 y, .slice A l.length c], .agg #[.int .i64 x, .int .i64 y, .slice B l.length d]] W fun e w' => e = .returned (.bool true) ∧ Below W.heap.size W w' := by
  have Ha := hid ha
  have Hb := hid hb
  have h1 := Blk.new (W.alloc (.cells #[.int .i64 x, .int .i64 y, .slice A l.length c] 33)) 33 #[.int .i64 x, .int .i64 y, .slice B l.length d]
  rw [World.size_alloc] at h1
  have H0 : Hid (S2W ((W.alloc (.cells #[.int .i64 x, .int .i64 y, .slice A l.length c] 33)).alloc (.cells #[.int .i64 x, .int .i64 y, .slice B l.length d] 33)) W x y A B l.length l.length c d) := hid ⟨(Blk.new W _ _).alloc _, h1, ((Below.refl _ _).alloc (Nat.le_refl _) _).alloc (by simp) _⟩
  clear ha hb h1
  go_enter Try.func22, Try.ntmps22
  go_upto_region 1 with (fail)
  generalize (W.alloc (.cells #[.int .i64 x, .int .i64 y, .slice A l.length c] 33)).alloc (.cells #[.int .i64 x, .int .i64 y, .slice B l.length d] 33) = w0 at *
  have q0 := H0.out.1.cell 0
  have q1 := H0.out.1.cell 1
  have q2 := H0.out.1.cell 2
  simp only [List.getElem?_toArray, List.getElem?_cons_zero, List.getElem?_cons_succ] at q0 q1 q2
  have r0 := H0.out.2.1.cell 0
  have r1 := H0.out.2.1.cell 1
  have r2 := H0.out.2.1.cell 2
  simp only [List.getElem?_toArray, List.getElem?_cons_zero, List.getElem?_cons_succ] at r0 r1 r2
  go_wp2_with fail
  refine (eqpx_any A B c d l _ ((RdP.below Ha.out H0.out.2.2 (Nat.le_refl _)).more H0.out.2.2.size) ((RdP.below Hb.out H0.out.2.2 (Nat.le_refl _)).more H0.out.2.2.size) hm).mono ?_
  rintro e w1 ⟨rfl, hb1⟩
  have B1 := hid (H0.out.2.2.trans (hb1.mono H0.out.2.2.size))
  clear hb1
  go_wp2_with fail
  go_ret
  exact ⟨rfl, B1.out⟩
def largeQ (n : Nat) : Bool := decide (400 < n)
set_option maxRecDepth 100000 in
theorem largeras_any (x y : Int) (PA : Option Addr) (n pc : Nat) (W : World) : Calls Try.prog 17 #[.agg #[.int .i64 x, .int .i64 y, .slice PA n pc]] W fun e w' => e = .returned (.bool (largeQ n)) ∧ Below W.heap.size W w' := by
  have Hw := hid (show Below W.heap.size W (W.alloc (.cells #[.int .i64 x, .int .i64 y, .slice PA n pc] 33)) from (Below.refl _ _).alloc (Nat.le_refl _) _)
  by_cases h : 400 < n
  · have d : decide ((400 : Int) < (n : Int)) = true := decide_eq_true (by omega)
    have Hl := hid (show largeQ n = true from decide_eq_true h)
    clear h
    go_enter Try.func17, Try.ntmps17
    go_wp2
    go_ret
    exact ⟨by rw [Hl.out]; first | done | rfl, Hw.out⟩
  · have d : decide ((400 : Int) < (n : Int)) = false := decide_eq_false (by omega)
    have Hl := hid (show largeQ n = false from decide_eq_false h)
    clear h
    go_enter Try.func17, Try.ntmps17
    go_wp2
    go_ret
    exact ⟨by rw [Hl.out]; first | done | rfl, Hw.out⟩
theorem list3W {α : Type} {l : List α} (h : l.length = 3) : ∃ a b c, l = [a, b, c] := by
  match l, h with
  | [a, b, c], _ => exact ⟨a, b, c, rfl⟩
theorem px_ofW {H : Type} {enc : TypeId × Value → H} {w : World} {base : Nat} {spare : Nat → Bool} {held : Bool} (n : Nat) (cs : List Value) (y : DataW H × List MemPlace) (hl : cs.length = 4)
    (h : DataW.trod enc Try.prog w base spare held n 62 cs = some y) : ∃ t : Px, cs = encP t ∧ wfP t := by
  have L := leaf_at 1 62 n cs y (by kernel_rfl) (by rw [hl]; kernel_rfl) h
  obtain ⟨_, _, u0, e0, t0⟩ := L 0 3 (by kernel_rfl)
  obtain ⟨_, _, u1, e1, t1⟩ := L 1 3 (by kernel_rfl)
  obtain ⟨_, _, u2, e2, t2⟩ := L 2 3 (by kernel_rfl)
  obtain ⟨_, _, u3, e3, t3⟩ := L 3 3 (by kernel_rfl)
  obtain ⟨x0, rfl, f0⟩ := leaf_int Try.underlying3 t0
  obtain ⟨x1, rfl, f1⟩ := leaf_int Try.underlying3 t1
  obtain ⟨x2, rfl, f2⟩ := leaf_int Try.underlying3 t2
  obtain ⟨x3, rfl, f3⟩ := leaf_int Try.underlying3 t3
  obtain ⟨c0, c1, c2, c3, rfl⟩ := list4 hl
  simp at e0 e1 e2 e3
  subst e0 e1 e2 e3
  exact ⟨(x0, x1, x2, x3), rfl, f0, f1, f2, f3⟩
set_option maxRecDepth 100000 in
/-- a raster that came in -/
theorem open_rasW {H : Type} {enc : TypeId × Value → H} {w : World} {v : Value} {x : DataW H} {ps : List MemPlace} {r : Reach} {b0 : Nat}
    (hv : Value.okWide Try.prog w r b0 33 v) (h : DataW.Trod enc Try.prog w 0 (fun _ => true) true 33 v x ps) :
    ∃ (x y : Int) (PR : Option Addr) (pr : Nat) (px : List Px), v = .agg #[.int .i64 x, .int .i64 y, .slice PR px.length pr] ∧ RdP w w.heap.size PR px ∧ (∀ p ∈ px, wfP p) ∧ px.length ≤ pr := by
  obtain ⟨cs, e, hl, L⟩ := open_agg 1 Try.underlying33 (by kernel_rfl) hv h
  obtain ⟨_, _, u0, e0, t0⟩ := L 0 3 (by kernel_rfl)
  obtain ⟨x0, rfl, _⟩ := leaf_int Try.underlying3 t0
  obtain ⟨_, _, u1, e1, t1⟩ := L 1 3 (by kernel_rfl)
  obtain ⟨x1, rfl, _⟩ := leaf_int Try.underlying3 t1
  obtain ⟨_, _, u2, e2, t2⟩ := L 2 24 (by kernel_rfl)
  obtain ⟨PA, pc, pal, f2, hlc, _, hwf, hp⟩ := open_slice_of encP wfP 4 (by omega) Try.underlying24 (by kernel_rfl) px_ofW (fun _ => rfl) t2
  rw [show (leaves Try.prog (1 + 1) 33).length = 3 by kernel_rfl] at hl
  obtain ⟨c0, c1, c2, rfl⟩ := list3W hl
  simp at e0 e1 e2
  subst e0 e1 e2 f2
  exact ⟨x0, x1, PA, pc, pal, e, hp, hwf, hlc⟩
end Go.Proofs.Ytphhoihhmphbdaa

namespace Go.Proofs.Ytphhoihhmphbdaa
open Go.RowKit

def fitP (f : Fm) (x y : Int) (px : List Px) : Prop := formOk f = true ∧ x = f.w ∧ y = f.h ∧ (px.length : Int) = f.w * f.h
def kindP (kind : Int) : Prop := -1 ≤ kind ∧ kind ≤ 4
theorem packM_none2 {f : Fm} {px : List Px} {k : Int} (h : packM f px k = none) (k2 : Int) : packM f px k2 = none := by
  unfold packM at h ⊢
  split at h
  · cases h
  · rename_i hn
    rw [if_neg hn]
theorem packM_some2 {f : Fm} {px : List Px} {k : Int} {b : List Int} (h : packM f px k = some b) (k2 : Int) : ∃ b2, packM f px k2 = some b2 := by
  cases h2 : packM f px k2 with
  | none => rw [packM_none2 h2 k] at h; cases h
  | some b2 => exact ⟨b2, rfl⟩
theorem pack_bad (f : Fm) (PA KA PR : Option Addr) (pc kc pr : Nat) (x y kind : Int) (px : List Px) (W : World) (hp : RdP W W.heap.size PA f.pal) (hk : RdI W W.heap.size KA f.key) (hpm : f.pal.length ≤ 1000000) (hkm : f.key.length ≤ 1000000)
    (hr : RdP W W.heap.size PR px) (hwf : ∀ p ∈ px, wfP p) (hm : px.length ≤ 1000) (hno : ¬ fitP f x y px ∨ ¬ kindP kind ∨ packM f px kind = none) :
    Calls Try.prog 18 #[.agg #[.int .i64 f.w, .int .i64 f.h, .int .i64 f.d, .int .i64 f.c, .int .i64 f.l, .slice PA f.pal.length pc, .slice KA f.key.length kc], .agg #[.int .i64 x, .int .i64 y, .slice PR px.length pr], .int .i64 kind] W (PakErr W) := by
  cases hf : formOk f with
  | false => exact pack_form f PA KA PR pc kc pr px.length x y kind W hf hp hk hpm hkm
  | true =>
    by_cases hs : x = f.w ∧ y = f.h ∧ (px.length : Int) = f.w * f.h ∧ -1 ≤ kind ∧ kind ≤ 4
    · obtain ⟨rfl, rfl, hl, k1, k2⟩ := hs
      have hn : packM f px kind = none := by
        rcases hno with h | h | h
        · exact absurd ⟨hf, rfl, rfl, hl⟩ h
        · exact absurd ⟨k1, k2⟩ h
        · exact h
      refine (pack_go f PA KA PR pc kc pr px kind W hf hp hk hpm hkm hr hl hwf hm k1 k2).mono fun e w' h => ?_
      unfold PakEnd at h
      rw [hn] at h
      exact h
    · exact pack_size f PA KA PR pc kc pr px.length x y kind W hf hp hk hpm hkm hs
def PakOk (b : List Int) (W : World) (e : Ending) (w' : World) : Prop :=
  Below W.heap.size W w' ∧ ∃ A c, e = .returned (.tuple #[.slice A b.length c, .nilIface]) ∧ w'.ownsRow W.heap.size 5 1 (.slice A b.length c) b.length (bytesV b)
theorem pack_good (f : Fm) (PA KA PR : Option Addr) (pc kc pr : Nat) (x y kind : Int) (px : List Px) (b : List Int) (W : World) (hp : RdP W W.heap.size PA f.pal) (hk : RdI W W.heap.size KA f.key) (hpm : f.pal.length ≤ 1000000) (hkm : f.key.length ≤ 1000000)
    (hr : RdP W W.heap.size PR px) (hwf : ∀ p ∈ px, wfP p) (hm : px.length ≤ 1000) (hfit : fitP f x y px) (hkd : kindP kind) (hb : packM f px kind = some b) :
    Calls Try.prog 18 #[.agg #[.int .i64 f.w, .int .i64 f.h, .int .i64 f.d, .int .i64 f.c, .int .i64 f.l, .slice PA f.pal.length pc, .slice KA f.key.length kc], .agg #[.int .i64 x, .int .i64 y, .slice PR px.length pr], .int .i64 kind] W (PakOk b W) := by
  obtain ⟨hf, rfl, rfl, hl⟩ := hfit
  refine (pack_go f PA KA PR pc kc pr px kind W hf hp hk hpm hkm hr hl hwf hm hkd.1 hkd.2).mono fun e w' h => ?_
  unfold PakEnd at h
  rw [hb] at h
  exact h
theorem pack_bits {f : Fm} {px : List Px} {kind : Int} {b : List Int} (hf : formOk f = true) (hl : (px.length : Int) = f.w * f.h) (hm : px.length ≤ 500) (hkd : kindP kind) (hb : packM f px kind = some b) :
    unpR f b = some px ∧ (b.length : Int) = dataM f.w f.h f.d f.c f.l ∧ b.length ≤ 100000 ∧ ∀ x ∈ b, isB x := by
  refine ⟨unp_pack hf hkd.1 hkd.2 hl hb, pack_len hf hb, ?_, packM_B hkd.1 hkd.2 hb⟩
  have h1 := pack_len hf hb
  rw [offI_all f (formOk_parts hf).1] at h1
  have h9 := offI_le f (formOk_parts hf).1 hl.symm (passN f) (Nat.le_refl _)
  have h7 := passN_le f
  have : passN f * (9 * px.length) ≤ 7 * (9 * px.length) := Nat.mul_le_mul_right _ h7
  omega
end Go.Proofs.Ytphhoihhmphbdaa
