/-
  raster's book: a map from pixels to their numbers, of the call's own; (raster.book).of walked.
  raster.Pack: the boxes between two passes, and what a pass may turn; append in a round.
  raster.Pack walked: a good form, a raster of its size, a kind.
  raster.Pack's refusals: a form that is not good, a raster of another size, no such kind.
-/
import Derived.Test.YtphhoihhmphbdaaNums
import Derived.Test.YtphhoihhmphbdaaRdrH
import Derived.Test.YtphhoihhmphbdaaSlc
import Derived.Test.YtphhoihhmphbdaaPakM
import Derived.Test.YtphhoihhmphbdaaUnpS
import Derived.Test.YtphhoihhmphbdaaSpdA
import Derived.Test.YtphhoihhmphbdaaLaceI
import Derived.Test.YtphhoihhmphbdaaRgr
import Derived.Test.YtphhoihhmphbdaaRepB
import Derived.Test.YtphhoihhmphbdaaWhb
import Derived.WideKeyEntry
import Derived.DeepKeys4
import Derived.RegionTactic
import Derived.RegionCalls
import Derived.OwnWalkIn
import Derived.BigRegion
import Derived.LoopIn
import Derived.Sort.CutIn
namespace Go.Proofs.Ytphhoihhmphbdaa
open Go.RowKit Go.MapKept Go.WideElems Go.ChangeMaps
open Go.WideMaps (KeyLaw)
attribute [local go_sem] Oper.semAt_some

theorem widepx_B : (match Try.prog.underlying 62 with | some (.array _ _) | some (.struct _) => true | _ => false) = true := by kernel_rfl
theorem rowpx_B : (62 : TypeId) < Try.prog.types.size := of_decide_eq_true (by kernel_rfl)
theorem lawpx_B : KeyLaw Try.prog 62 := deep_law_laid laidOut (m := 3) (by omega) rowpx_B (by kernel_rfl) (by kernel_rfl)
/-- a pixel of ints -/
def wfP (p : Px) : Prop := (Lit.int .i64 p.1).wf = true ∧ (Lit.int .i64 p.2.1).wf = true ∧ (Lit.int .i64 p.2.2.1).wf = true ∧ (Lit.int .i64 p.2.2.2).wf = true
theorem keypx_B {p : Px} (h : wfP p) : ∃ kl, keyOf Try.prog 62 (vP p) = some kl := by
  obtain ⟨a0, a1, a2, a3⟩ := p
  obtain ⟨w0, w1, w2, w3⟩ := h
  dsimp only at w0 w1 w2 w3
  show ∃ kl, keyOf Try.prog 62 (.agg #[.int .i64 a0, .int .i64 a1, .int .i64 a2, .int .i64 a3]) = some kl
  have hs : ∃ m, Try.prog.types.size = m + 1 := ⟨Try.prog.types.size - 1, by have : 0 < Try.prog.types.size := of_decide_eq_true (by kernel_rfl); omega⟩
  obtain ⟨m, hm⟩ := hs
  have hkt : Try.prog.keyType 62 = true := by kernel_rfl
  have hc : Try.prog.cellsOf 62 = 4 := by kernel_rfl
  have hc1 : Try.prog.cellsOf 3 = 1 := by kernel_rfl
  unfold keyOf
  simp only [Try.underlying62]
  rw [if_pos (by simp [hkt, Value.formed, Try.underlying62, hc]), hm]
  unfold Program.keyLits
  simp only [Try.underlying62, Value.cells]
  rw [if_pos (by rw [hc]; exact ⟨rfl, by kernel_rfl⟩)]
  simp [Program.keyLits, Try.underlying3, hc1, w0, w1, w2, w3]
theorem vP_injB {p q : Px} (h : vP p = vP q) : p = q := by
  obtain ⟨p0, p1, p2, p3⟩ := p
  obtain ⟨q0, q1, q2, q3⟩ := q
  unfold vP at h
  simp at h
  obtain ⟨rfl, rfl, rfl, rfl⟩ := h
  rfl
/-- the entries: a pixel, the slice of its numbers, its numbers -/
def mapB (u : List (Px × (Value × List Int))) : Array MapEntry := (u.mapIdx (fun i x => (⟨vP x.1, x.2.1, i⟩ : MapEntry))).toArray
theorem mapB_at (u : List (Px × (Value × List Int))) (j : Nat) : (mapB u).toList[j]? = (u[j]?).map (fun x => (⟨vP x.1, x.2.1, j⟩ : MapEntry)) := by
  simp [mapB, List.getElem?_mapIdx]
theorem mapB_keys {u : List (Px × (Value × List Int))} (hk : ∀ x ∈ u, wfP x.1) : ∀ e ∈ (mapB u).toList, ∃ l, keyOf Try.prog 62 e.key = some l := by
  intro e he
  obtain ⟨j, hj⟩ := List.getElem?_of_mem he
  rw [mapB_at] at hj
  cases hx : u[j]? with
  | none => rw [hx] at hj; cases hj
  | some x =>
    rw [hx] at hj
    injection hj with hj
    subst hj
    exact keypx_B (hk x (List.mem_of_getElem? hx))
theorem bk_find {u : List (Px × (Value × List Int))} (hk : ∀ x ∈ u, wfP x.1) {p : Px} (hp : wfP p) (w : World) :
    ((Instr.findKey 62 (vP p) (mapB u).toList).run Try.prog w = .ok none w ∧ ∀ x ∈ u, x.1 ≠ p) ∨
    (∃ j x, (Instr.findKey 62 (vP p) (mapB u).toList).run Try.prog w = .ok (some (j, x.2.1)) w ∧ u[j]? = some x ∧ x.1 = p) := by
  obtain ⟨kl, hkl⟩ := keypx_B hp
  rcases lawpx_B.find w hkl _ (mapB_keys hk) with ⟨h1, h2⟩ | ⟨j, e, h1, h2, h3⟩
  · refine .inl ⟨h1, fun x hx he => ?_⟩
    obtain ⟨j, hj⟩ := List.getElem?_of_mem hx
    have := mapB_at u j
    rw [hj] at this
    exact h2 _ (List.mem_of_getElem? this) (by rw [← he])
  · rw [mapB_at] at h2
    cases hx : u[j]? with
    | none => rw [hx] at h2; cases h2
    | some x =>
      rw [hx] at h2
      injection h2 with h2
      subst h2
      exact .inr ⟨j, x, h1, hx, vP_injB h3⟩
theorem bk_look {w : World} {g : Nat} {u : List (Px × (Value × List Int))} (h : w.heap[g]? = some (.map (mapB u) u.length)) (hk : ∀ x ∈ u, wfP x.1) {p : Px} (hp : wfP p) :
    (∃ x ∈ u, x.1 = p ∧ (Instr.lookup 94 (.map (some g)) (vP p) true).run Try.prog w = .ok (.tuple #[x.2.1, .bool true]) w) ∨
    ((Instr.lookup 94 (.map (some g)) (vP p) true).run Try.prog w = .ok (.tuple #[.slice none 0 0, .bool false]) w ∧ (∀ x ∈ u, x.1 ≠ p) ∧
      ∀ (l : Value × List Int), (Instr.mapUpdate 94 (.map (some g)) (vP p) l.1).run Try.prog w = .ok () (setBlock w g (.map (mapB (u ++ [(p, l)])) (u.length + 1)))) := by
  obtain ⟨kl, hkl⟩ := keypx_B hp
  rcases bk_find hk hp w with ⟨h1, h0⟩ | ⟨j, x, h1, h2, h3⟩
  · refine .inr ⟨?_, h0, fun l => ?_⟩
    · simp [Instr.lookup, run_underlying Try.underlying94, MapKept.run_getObj_map h, lawpx_B.check w _ hkl, h1, Result.andThen]
    · have he : mapB (u ++ [(p, l)]) = (mapB u).push ⟨vP p, l.1, u.length⟩ := by simp [mapB, List.mapIdx_append]
      rw [he]
      simp [Instr.mapUpdate, run_underlying Try.underlying94, MapKept.run_getObj_map h, lawpx_B.check w _ hkl, h1, MapKept.run_setObj_map _ h, Result.andThen, setBlock]
  · refine .inl ⟨x, List.mem_of_getElem? h2, h3, ?_⟩
    simp [Instr.lookup, run_underlying Try.underlying94, MapKept.run_getObj_map h, lawpx_B.check w _ hkl, h1, Result.andThen]
/-- two rows of two types lie in two blocks -/
theorem own_own_neT {w : World} {b1 b2 t1 t2 s1 s2 n1 n2 : Nat} {v1 v2 : Value} {x1 x2 : List Value} (h1 : w.ownsRow b1 t1 s1 v1 n1 x1) (h2 : w.ownsRow b2 t2 s2 v2 n2 x2) (ht : t1 ≠ t2) : v1.ownBlock = none ∨ v1.ownBlock ≠ v2.ownBlock := by
  rcases h1.2 with ⟨e, _⟩ | ⟨g, cap, cur, e, _, hg, _⟩
  · rw [e]; exact .inl rfl
  · refine .inr (fun h => ?_)
    rcases h2.2 with ⟨e2, _⟩ | ⟨k, cap2, cur2, e2, _, hk, _⟩
    · rw [e, e2] at h; cases h
    · rw [e, e2] at h
      have h : some g = some k := h
      injection h with h
      subst h
      rw [hg] at hk
      injection hk with hk
      injection hk with _ hk
      exact ht hk
structure Bk (w : World) (g : Nat) (f : Fm) (X : Option Nat) (u : List (Px × (Value × List Int))) : Prop where
  map : w.heap[g]? = some (.map (mapB u) u.length)
  keys : ∀ x ∈ u, wfP x.1
  vals : ∀ x ∈ u, numsOf f x.1 = some x.2.2 ∧ w.ownsRow 0 3 1 x.2.1 x.2.2.length (intsV x.2.2) ∧ ∀ b, X = some b → x.2.1.ownBlock ≠ some b
section
variable {w w' : World} {g : Nat} {f : Fm} {X : Option Nat} {u : List (Px × (Value × List Int))}
theorem Bk.lt (h : Bk w g f X u) : g < w.heap.size := (Array.getElem?_eq_some_iff.1 h.map).1
theorem Bk.turn {row : Option Nat} (h : Bk w g f X u) (hg : w.grownBy w' row) (hm : some g ≠ row) (hv : ∀ x ∈ u, x.2.1.ownBlock = none ∨ x.2.1.ownBlock ≠ row) : Bk w' g f X u :=
  ⟨(hg.block g h.lt hm).trans h.map, h.keys, fun x hx => ⟨(h.vals x hx).1, (h.vals x hx).2.1.kept hg (hv x hx), (h.vals x hx).2.2⟩⟩
theorem Bk.below' (h : Bk w g f X u) (hb : Below w.heap.size w w') : Bk w' g f X u :=
  ⟨(hb.block g h.lt).trans h.map, h.keys, fun x hx => ⟨(h.vals x hx).1, own_below (h.vals x hx).2.1 hb (Nat.le_refl _), (h.vals x hx).2.2⟩⟩
theorem Bk.ne_row (h : Bk w g f X u) {base t size n : Nat} {v : Value} {xs : List Value} (ho : w.ownsRow base t size v n xs) : some g ≠ v.ownBlock := by
  intro e
  rcases ho.2 with ⟨h1, _⟩ | ⟨k, cap, cur, h1, _, hk, _⟩
  · rw [h1] at e; cases e
  · rw [h1] at e
    have e : some g = some k := e
    injection e with e
    subst e
    have := h.map
    rw [hk] at this
    injection this with this
    cases this
theorem Bk.ne_blk (h : Bk w g f X u) {k : Nat} {t : TypeId} {cs : Array Value} (hb : Blk w k t cs) : g ≠ k := by
  intro e
  subst e
  have := h.map
  have hb' : w.heap[g]? = some (.cells cs t (0, 0)) := hb
  rw [hb'] at this
  injection this with this
  cases this
/-- a row of another type turned -/
theorem Bk.rowT (h : Bk w g f X u) {base t size n : Nat} {v : Value} {xs : List Value} (ho : w.ownsRow base t size v n xs) (ht : t ≠ 3) (hg : w.grownBy w' v.ownBlock) : Bk w' g f X u :=
  h.turn hg (h.ne_row ho) (fun x hx => own_own_neT (h.vals x hx).2.1 ho (fun e => ht e.symm))
/-- the row apart turned -/
theorem Bk.rowX (h : Bk w g f X u) {base size n : Nat} {v : Value} {xs : List Value} (ho : w.ownsRow base 3 size v n xs) (hX : v.ownBlock = X) (hg : w.grownBy w' v.ownBlock) : Bk w' g f X u :=
  h.turn hg (h.ne_row ho) (fun x hx => by
    cases e : x.2.1.ownBlock with
    | none => exact .inl rfl
    | some b => exact .inr (fun h2 => (h.vals x hx).2.2 b (by rw [← hX, ← h2]) e))
/-- another row apart, made later, or none -/
theorem Bk.setX (h : Bk w g f X u) {X' : Option Nat} (hX : X' = X ∨ ∀ b, X' = some b → w.heap.size ≤ b) : Bk w g f X' u := by
  rcases hX with rfl | hX
  · exact h
  · exact ⟨h.map, h.keys, fun x hx => ⟨(h.vals x hx).1, (h.vals x hx).2.1, fun b hb he => by
      have h1 := (own_lt2 (h.vals x hx).2.1 he).1
      have h2 := hX b hb
      omega⟩⟩
/-- a cell stored in a block of another type -/
theorem Bk.cellT (h : Bk w g f X u) {k : Nat} {t : TypeId} {cs : Array Value} (hb : Blk w k t cs) (ht : t ≠ 3) (i : Nat) (v : Value) : Bk (w.setCell ⟨k, i, none⟩ v) g f X u :=
  h.turn (gr_set1 (World.grownBy.refl w (some k)) i v) (fun e => h.ne_blk hb (by injection e)) (fun x hx => .inr (fun e => own_blk_ne (h.vals x hx).2.1 hb (fun h2 => ht h2.symm) e.symm))
theorem Bk.drew (h : Bk w g f X u) : Bk w.drew g f X u := ⟨h.map, h.keys, fun x hx => ⟨(h.vals x hx).1, (h.vals x hx).2.1, (h.vals x hx).2.2⟩⟩
end
def OfEnd (f : Fm) (r : Option (List Int)) (g : Nat) (X : Option Nat) (W : World) (e : Ending) (w' : World) : Prop :=
  W.grownBy w' (some g) ∧ (∃ u, Bk w' g f X u) ∧ match r with
  | none => e = .returned (.tuple #[.slice none 0 0, .bool false])
  | some l => ∃ A c, e = .returned (.tuple #[.slice A l.length c, .bool true]) ∧ w'.ownsRow 0 3 1 (.slice A l.length c) l.length (intsV l) ∧ ∀ b, X = some b → (Value.slice A l.length c).ownBlock ≠ some b
theorem gr_of_below {w w' : World} (row : Option Nat) (hb : Below w.heap.size w w') : w.grownBy w' row := ⟨hb.os, hb.tape, hb.output, hb.size, fun k hk _ => hb.block k hk⟩
set_option maxRecDepth 100000 in
set_option maxHeartbeats 4000000 in
theorem of_any (f : Fm) (PA KA : Option Addr) (pc kc : Nat) (a0 a1 a2 a3 : Int) (g : Nat) (X : Option Nat) (u : List (Px × (Value × List Int))) (W : World) (h : Bk W g f X u) (hX : ∀ b, X = some b → b < W.heap.size) (wf : wfP (a0, a1, a2, a3)) (hf : formOk f = true)
    (hp : RdP W W.heap.size PA f.pal) (hk : RdI W W.heap.size KA f.key) (hpm : f.pal.length ≤ 1000000) (hkm : f.key.length ≤ 1000000) :
    Calls Try.prog 53 #[.map (some g), .agg #[.int .i64 f.w, .int .i64 f.h, .int .i64 f.d, .int .i64 f.c, .int .i64 f.l, .slice PA f.pal.length pc, .slice KA f.key.length kc], .agg #[.int .i64 a0, .int .i64 a1, .int .i64 a2, .int .i64 a3]] W (OfEnd f (numsOf f (a0, a1, a2, a3)) g X W) := by
  obtain ⟨w0, hw0⟩ : ∃ w0, w0 = (W.alloc (.cells #[.int .i64 f.w, .int .i64 f.h, .int .i64 f.d, .int .i64 f.c, .int .i64 f.l, .slice PA f.pal.length pc, .slice KA f.key.length kc] 38)).alloc (.cells #[.int .i64 a0, .int .i64 a1, .int .i64 a2, .int .i64 a3] 62) := ⟨_, rfl⟩
  have b1 : Blk w0 W.heap.size 38 #[.int .i64 f.w, .int .i64 f.h, .int .i64 f.d, .int .i64 f.c, .int .i64 f.l, .slice PA f.pal.length pc, .slice KA f.key.length kc] := by rw [hw0]; exact (Blk.new W _ _).alloc _
  have b2 : Blk w0 (W.heap.size + 1) 62 #[.int .i64 a0, .int .i64 a1, .int .i64 a2, .int .i64 a3] := by
    rw [hw0]
    have h := Blk.new (W.alloc (.cells #[.int .i64 f.w, .int .i64 f.h, .int .i64 f.d, .int .i64 f.c, .int .i64 f.l, .slice PA f.pal.length pc, .slice KA f.key.length kc] 38)) 62 #[.int .i64 a0, .int .i64 a1, .int .i64 a2, .int .i64 a3]
    rwa [World.size_alloc] at h
  have bb : Below W.heap.size W w0 := by rw [hw0]; exact ((Below.refl _ _).alloc (Nat.le_refl _) _).alloc (by simp) _
  have K0 := hid (h.below' bb)
  have B1 := hid b1
  have B2 := hid b2
  have BB := hid bb
  have HX := hid hX
  have Hwf := hid wf
  have NU := hid (fun (w : World) (hw : Below W.heap.size W w) => nums_any f PA KA pc kc a0 a1 a2 a3 w hf ((RdP.below hp hw (Nat.le_refl _)).more hw.size) ((Rd.below hk hw (Nat.le_refl _)).more hw.size) hpm hkm)
  unfold NumEnd at NU
  have q0 := b1.cell 0
  have q1 := b1.cell 1
  have q2 := b1.cell 2
  have q3 := b1.cell 3
  have q4 := b1.cell 4
  have q5 := b1.cell 5
  have q6 := b1.cell 6
  simp only [List.getElem?_toArray, List.getElem?_cons_zero, List.getElem?_cons_succ] at q0 q1 q2 q3 q4 q5 q6
  have p0 := b2.cell 0
  have p1 := b2.cell 1
  have p2 := b2.cell 2
  have p3 := b2.cell 3
  simp only [List.getElem?_toArray, List.getElem?_cons_zero, List.getElem?_cons_succ] at p0 p1 p2 p3
  have l1 := b1.lt
  have l2 := b2.lt
  have hlook := bk_look K0.out.map K0.out.keys wf
  clear b1 b2 bb h hX wf hf hp hk
  rcases hlook with ⟨x, hx, hxp, hl⟩ | ⟨hl, hno, hup⟩
  · have hl : (Instr.lookup 94 (.map (some g)) (.agg #[.int .i64 a0, .int .i64 a1, .int .i64 a2, .int .i64 a3]) true).run Try.prog w0 = .ok (.tuple #[x.2.1, .bool true]) w0 := hl
    obtain ⟨v1, v2, v3⟩ := K0.out.vals x hx
    rw [hxp] at v1
    rw [v1]
    have V2 := hid v2
    have V3 := hid v3
    obtain ⟨A, c, hv, _⟩ := own_form v2
    obtain ⟨l, hll⟩ : ∃ l, l = x.2.2 := ⟨_, rfl⟩
    rw [← hll] at V2 hv ⊢
    rw [hv] at hl V2 V3
    obtain ⟨n, hn⟩ : ∃ n, n = l.length := ⟨_, rfl⟩
    rw [← hn] at hl V2 V3
    have Hn := hid hn
    clear hx hxp v1 v2 v3 hv hll hn NU
    go_enter Try.func53, Try.ntmps53
    go_upto_region 1 with (fail)
    rw [← hw0]
    clear hw0
    go_wp2
    go_ret2
    refine ⟨gr_of_below _ BB.out, ⟨u, K0.out⟩, A, c, by rw [← Hn.out]; rfl, by rw [← Hn.out]; exact V2.out, by rw [← Hn.out]; exact V3.out⟩
  · have hl : (Instr.lookup 94 (.map (some g)) (.agg #[.int .i64 a0, .int .i64 a1, .int .i64 a2, .int .i64 a3]) true).run Try.prog w0 = .ok (.tuple #[.slice none 0 0, .bool false]) w0 := hl
    have Hno := hid hno
    clear hup hno
    cases hnu : numsOf f (a0, a1, a2, a3) with
    | none =>
      have NN := hid (NU.out w0 BB.out)
      rw [hnu] at NN
      clear NU hnu
      go_enter Try.func53, Try.ntmps53
      go_upto_region 1 with (fail)
      rw [← hw0]
      clear hw0
      go_wp2_with fail
      refine NN.out.mono ?_
      rintro e w3 ⟨rfl, hb3⟩
      have HB3 := hid hb3
      clear hb3 hl
      go_wp2
      go_ret2
      exact ⟨gr_of_below _ (BB.out.trans (HB3.out.mono BB.out.size)), ⟨u, K0.out.below' HB3.out⟩, rfl⟩
    | some l =>
      have NN := hid (NU.out w0 BB.out)
      rw [hnu] at NN
      have Hnu := hid hnu
      clear NU hnu
      go_enter Try.func53, Try.ntmps53
      go_upto_region 1 with (fail)
      rw [← hw0]
      clear hw0
      go_wp2_with fail
      refine NN.out.mono ?_
      rintro e w3 ⟨⟨A, c, rfl, ho3⟩, hb3⟩
      have K3 := hid (K0.out.below' hb3)
      have hup : (Instr.mapUpdate 94 (.map (some g)) (.agg #[.int .i64 a0, .int .i64 a1, .int .i64 a2, .int .i64 a3]) (.slice A l.length c)).run Try.prog w3 = .ok () (setBlock w3 g (.map (mapB (u ++ [((a0, a1, a2, a3), (Value.slice A l.length c, l))])) (u.length + 1))) := by
        rcases bk_look K3.out.map K3.out.keys Hwf.out with ⟨x, hx, hxp, _⟩ | ⟨_, _, hup⟩
        · exact absurd hxp (Hno.out x hx)
        · exact hup (.slice A l.length c, l)
      obtain ⟨w4, hw4⟩ : ∃ w, w = setBlock w3 g (.map (mapB (u ++ [((a0, a1, a2, a3), (Value.slice A l.length c, l))])) (u.length + 1)) := ⟨_, rfl⟩
      have hgr : w3.grownBy w4 (some g) := by
        rw [hw4]
        exact ⟨rfl, rfl, rfl, by simp [setBlock], fun k hk hne => by
          have : g ≠ k := fun e => hne (by rw [e])
          simp [setBlock, this]⟩
      have hfw : w0.heap.size ≤ w3.heap.size := hb3.size
      have hsW : W.heap.size ≤ w0.heap.size := BB.out.size
      have hK4 : Bk w4 g f X (u ++ [((a0, a1, a2, a3), (Value.slice A l.length c, l))]) := by
        have hnew : (Value.slice A l.length c).ownBlock = none ∨ (Value.slice A l.length c).ownBlock ≠ some g := by
          cases e : (Value.slice A l.length c).ownBlock with
          | none => exact .inl rfl
          | some b =>
            refine .inr (fun h => ?_)
            injection h with h
            have h1 := (own_lt2 ho3 e).2
            have h2 := K0.out.lt
            omega
        refine ⟨?_, ?_, ?_⟩
        · rw [hw4, List.length_append]
          have hg3 := K3.out.lt
          simp [setBlock, hg3]
        · intro x hx
          rcases List.mem_append.1 hx with hx | hx
          · exact K3.out.keys x hx
          · rw [List.mem_singleton.1 hx]; exact Hwf.out
        · intro x hx
          rcases List.mem_append.1 hx with hx | hx
          · obtain ⟨v1, v2, v3⟩ := K3.out.vals x hx
            refine ⟨v1, v2.kept hgr ?_, v3⟩
            cases e : x.2.1.ownBlock with
            | none => exact .inl rfl
            | some b =>
              refine .inr (fun h => ?_)
              injection h with h
              have := K3.out.ne_row v2
              rw [e, h] at this
              exact this rfl
          · rw [List.mem_singleton.1 hx]
            exact ⟨Hnu.out, own_base (ho3.kept hgr hnew) (Nat.zero_le _), fun b hb he => by
              have h1 := (own_lt2 ho3 he).2
              have h2 := HX.out b hb
              omega⟩
      have hO4 : w4.ownsRow 0 3 1 (.slice A l.length c) l.length (intsV l) := (hK4.vals _ (List.mem_append_right _ (List.mem_singleton.2 rfl))).2.1
      have hN4 := (hK4.vals _ (List.mem_append_right _ (List.mem_singleton.2 rfl))).2.2
      have K4 := hid hK4
      have O4 := hid hO4
      have N4 := hid hN4
      have G4 := hid (show W.grownBy w4 (some g) from (gr_of_below (some g) (BB.out.trans (hb3.mono BB.out.size))).trans hgr)
      have c0 := (B2.out.below hb3 l2).cell 0
      have c1 := (B2.out.below hb3 l2).cell 1
      have c2 := (B2.out.below hb3 l2).cell 2
      have c3 := (B2.out.below hb3 l2).cell 3
      simp only [List.getElem?_toArray, List.getElem?_cons_zero, List.getElem?_cons_succ] at c0 c1 c2 c3
      have l3 : W.heap.size + 1 < w3.heap.size := by omega
      rw [← hw4] at hup
      obtain ⟨n, hn⟩ : ∃ n, n = l.length := ⟨_, rfl⟩
      rw [← hn] at hup O4 N4 ⊢
      have Hn := hid hn
      clear hK4 hO4 hN4 hgr hw4 ho3 hb3 hl K3 hn hfw
      go_wp2
      go_ret2
      exact ⟨G4.out, ⟨_, K4.out⟩, A, c, by rw [Hn.out]; rfl, by rw [← Hn.out]; exact O4.out, by rw [← Hn.out]; exact N4.out⟩
end Go.Proofs.Ytphhoihhmphbdaa

namespace Go.Proofs.Ytphhoihhmphbdaa
open Go.RowKit Go.Shelf

theorem wpListIn_app {F : Fence} {nn : Nat} {P : Program} (w : World) {ops : Array Oper} {rest : List Oper} {o : Oper} {a : Act} {Q : Exit → Act → World → Prop} (hgd : o.guard = none) (s x : Operand) (t : TypeId)
    (ho : o.op = .call { callee := .builtin .append, args := #[s, x], argTypes := #[t, t] })
    (base : Nat) (e : TypeId) (i : TypeInfo) (z : Value) (size bytes : Nat) (ht : P.underlying t = some (.slice e)) (hi : P.info? e = some i) (hz : i.zero = some z)
    (hsize : i.size = size) (hby : i.bytes = bytes) (hzs : z.cells.size = size) (hsz : 0 < size)
    (A : Option Addr) (n c : Nat) (xs : List Value) (hs : a.eval s = .slice A n c) (hown : w.ownsRow base e size (.slice A n c) n xs)
    (B : Nat) (X : Option Addr) (m d : Nat) (news : List Value) (hx : a.eval x = .slice X m d) (hr : Rd w B size X m news) (hnil : X = none → m = 0) (h1 : ∀ u ∈ news, u.oneCell' = true)
    (h63 : n + m ≤ maxLen) (hbytes : (n + m) * bytes ≤ 140737488355328) (hbase : base ≤ w.heap.size)
    (h : ∀ A' c' w', Apped w base e size A n c xs m news A' c' w' → wpListIn F nn P ops Q rest (a.put o.dst (.slice A' (n + m) c')) w') : wpListIn F nn P ops Q (o :: rest) a w := by
  refine wpListIn_plain hgd fun K hK => ?_
  obtain ⟨v', w', hrun, h2, h3, h4⟩ := run_append_any (P := P) w base t o.type e i z size bytes ht hi hz hsize hby hzs hsz _ n xs hown B X m d news hr hnil h1 h63 hbytes hbase
  obtain ⟨A', c', rfl, _⟩ := own_form h2
  have hb : Below base w w' := (Below.refl base w).grown h3 hbase (fun k hk => (hown.lt k hk).1)
  unfold Oper.wpIn
  refine ⟨?_, ?_⟩
  · simp [Oper.about, ho, resolve, Target.leads, Sem.run_pure]
  · rw [Oper.semAt_plain F _ _ (by rw [ho]; intro c hc'; cases hc')]
    simp [execOp, ho, resolve, invoke, builtin, hs, hx, hrun, Result.andThen]
    exact hK _ _ (h A' c' w' ⟨h2, h3, hb, h4⟩)
set_option maxRecDepth 100000 in
/-- l[:h] of ints -/
theorem slcI_h {w2 : World} {B n c : Nat} {A : Option Addr} (l : List Int) (h : Nat) (hh : h ≤ n) (hc : n ≤ c) (hA : A = none → c = 0) (hr : Rd w2 B 1 A n (intsV l)) :
    ∃ A3, (∀ w : World, (Instr.slice 25 (.slice A n c) none (some (.int .i64 (h : Int))) none).run Try.prog w = .ok (.slice A3 h c) w) ∧ Rd w2 B 1 A3 h (intsV (l.take h)) := by
  obtain ⟨A3, h1, h2, h3⟩ := slc_gen 0 h c (Nat.zero_le _) hh (by omega) hA hr
  rw [Nat.sub_zero] at h2
  rw [Nat.sub_zero, Nat.sub_zero] at h1
  rw [intsV_part, List.drop_zero] at h2
  refine ⟨A3, fun w => ?_, h2⟩
  rw [← h1, run_slice_h (P := Try.prog) (w := w) 25 A n c Try.underlying25 .i64 (h : Int) (by omega) (by omega)]
  rfl
structure PkS (W : World) (g3 g4 g5 g6 g7 g8 g9 g11 gm g12 Bo : Nat) (f : Fm) (px : List Px) (PR PA KA : Option Addr) (pr pc kc : Nat) (pl : List Int) (kind : Int) (K : Nat) (Q : List Int) (w : World) : Prop where
  ord : W.heap.size = g3 ∧ g3 < g4 ∧ g4 < g5 ∧ g5 < g6 ∧ g6 < g7 ∧ g7 < g8 ∧ g8 < g9 ∧ g9 < g11 ∧ g11 < gm ∧ gm < g12 ∧ g12 < Bo ∧ Bo ≤ w.heap.size
  bf : Blk w g3 38 #[.int .i64 f.w, .int .i64 f.h, .int .i64 f.d, .int .i64 f.c, .int .i64 f.l, .slice PA f.pal.length pc, .slice KA f.key.length kc]
  b4 : Blk w g4 33 #[.int .i64 f.w, .int .i64 f.h, .slice PR px.length pr]
  b5 : Blk w g5 3 #[.int .i64 kind]
  b6 : Blk w g6 28 #[.slice none 0 0]
  b7 : Blk w g7 35 #[.nilIface]
  bh : Blk w g8 23 #[.int .i64 f.w, .int .i64 f.h, .int .i64 f.d, .int .i64 f.c, .int .i64 f.l]
  b9 : ∃ A c, Blk w g9 25 #[.slice A (pl.length - K) c] ∧ Rd w g9 1 A (pl.length - K) (intsV (pl.drop K)) ∧ pl.length - K ≤ c ∧ (A = none → c = 0)
  b11 : ∃ A c, Blk w g11 28 #[.slice A Q.length c] ∧ w.ownsRow Bo 5 1 (.slice A Q.length c) Q.length (bytesV Q)
  b12 : Blk w g12 94 #[.map (some gm)]
  bk : ∃ u, Bk w gm f none u
  below : Below W.heap.size W w
/-- what a pass may turn: three blocks, and, from Bo on, cells -/
structure PkC (gm g9 g11 Bo : Nat) (w w' : World) : Prop where
  size : w.heap.size ≤ w'.heap.size
  low : ∀ k, k < Bo → k ∉ [gm, g9, g11] → w'.heap[k]? = w.heap[k]?
  oth : ∀ k o, Bo ≤ k → w.heap[k]? = some o → o.isCells = false → w'.heap[k]? = some o
section
variable {W w w' : World} {g3 g4 g5 g6 g7 g8 g9 g11 gm g12 Bo : Nat} {f : Fm} {px : List Px} {PR PA KA : Option Addr} {pr pc kc : Nat} {pl : List Int} {kind : Int} {K : Nat} {Q : List Int}
theorem PkC.trans {w2 : World} (h : PkC gm g9 g11 Bo w w') (k : PkC gm g9 g11 Bo w' w2) : PkC gm g9 g11 Bo w w2 :=
  ⟨Nat.le_trans h.size k.size, fun i hi hn => (k.low i hi hn).trans (h.low i hi hn), fun i o hi ho hc => k.oth i o hi (h.oth i o hi ho hc) hc⟩
theorem PkC.of_chg (h : Chg [gm, g9] w w') (hb : Bo ≤ w.heap.size) (h1 : gm < Bo) (h2 : g9 < Bo) : PkC gm g9 g11 Bo w w' :=
  ⟨h.size, fun k hk hn => h.same k (by omega) (fun hm => hn (by simp only [List.mem_cons, List.not_mem_nil, or_false] at hm ⊢; rcases hm with h | h <;> simp [h])), fun k o hk ho _ => (h.same k (Array.getElem?_eq_some_iff.1 ho).1 (fun hm => by simp only [List.mem_cons, List.not_mem_nil, or_false] at hm; omega)).trans ho⟩
theorem PkC.keeps (h : PkC gm g9 g11 Bo w w') : KeepsFrom Bo w w' := ⟨h.size, h.oth⟩
theorem PkC.kp3 (h : PkC gm g9 g11 Bo w w') {b : Nat} (h1 : b + 2 < Bo) (h2 : g9 < b) (h3 : g11 < b) (h4 : gm < b) : Kp3 b w w' := fun k hk1 hk2 => h.low k (by omega) (fun hm => by simp only [List.mem_cons, List.not_mem_nil, or_false] at hm; omega)
theorem PkS.below' (h : PkS W g3 g4 g5 g6 g7 g8 g9 g11 gm g12 Bo f px PR PA KA pr pc kc pl kind K Q w) (hb : Below w.heap.size w w') : PkS W g3 g4 g5 g6 g7 g8 g9 g11 gm g12 Bo f px PR PA KA pr pc kc pl kind K Q w' := by
  obtain ⟨ord, bf, b4, b5, b6, b7, bh, ⟨A9, c9, b9, r9, m9, z9⟩, ⟨A11, c11, b11, o11⟩, b12, ⟨u, bk⟩, bl⟩ := h
  have hs := hb.size
  exact ⟨by omega, bf.below hb bf.lt, b4.below hb b4.lt, b5.below hb b5.lt, b6.below hb b6.lt, b7.below hb b7.lt, bh.below hb bh.lt, ⟨A9, c9, b9.below hb b9.lt, r9.below hb (by omega), m9, z9⟩, ⟨A11, c11, b11.below hb b11.lt, own_below o11 hb (Nat.le_refl _)⟩, b12.below hb b12.lt, ⟨u, bk.below' hb⟩, bl.trans (hb.mono bl.size)⟩
theorem PkS.other (h : PkS W g3 g4 g5 g6 g7 g8 g9 g11 gm g12 Bo f px PR PA KA pr pc kc pl kind K Q w) {row : Option Nat} (hg : w.grownBy w' row) (hr : ∀ r, row = some r → Bo ≤ r ∧ ∃ o : Obj, w.heap[r]? = some o ∧ o.isCells = false) : PkS W g3 g4 g5 g6 g7 g8 g9 g11 gm g12 Bo f px PR PA KA pr pc kc pl kind K Q w' := by
  obtain ⟨ord, bf, b4, b5, b6, b7, bh, ⟨A9, c9, b9, r9, m9, z9⟩, ⟨A11, c11, b11, o11⟩, b12, ⟨u, bk⟩, bl⟩ := h
  have hs := hg.size
  have hr2 : ∀ r, row = some r → ∃ o : Obj, w.heap[r]? = some o ∧ o.isCells = false := fun r e => (hr r e).2
  have nr : ∀ {base t size n : Nat} {v : Value} {xs : List Value}, w.ownsRow base t size v n xs → v.ownBlock = none ∨ v.ownBlock ≠ row := fun {base t size n v xs} ho => by
    cases e : v.ownBlock with
    | none => exact .inl rfl
    | some b =>
      refine .inr (fun e2 => ?_)
      obtain ⟨o, h1, h2⟩ := hr2 b e2.symm
      rcases ho.2 with ⟨h3, _⟩ | ⟨k, cap, cur, h3, _, hk, _⟩
      · rw [h3] at e; cases e
      · rw [h3] at e
        have e : some k = some b := e
        injection e with e
        subst e
        rw [hk] at h1
        injection h1 with h1
        rw [← h1] at h2
        cases h2
  refine ⟨by omega, bf.oth hg hr2, b4.oth hg hr2, b5.oth hg hr2, b6.oth hg hr2, b7.oth hg hr2, bh.oth hg hr2, ⟨A9, c9, b9.oth hg hr2, ?_, m9, z9⟩, ⟨A11, c11, b11.oth hg hr2, o11.kept hg (nr o11)⟩, b12.oth hg hr2, ⟨u, bk.turn hg (fun e => by have := (hr gm e.symm).1; omega) (fun x hx => nr (bk.vals x hx).2.1)⟩, below_oth bl hg bl.size (fun r e => by have := (hr r e).1; omega)⟩
  exact r9.keep fun b o hb => World.cell?_of_block (w := w) (hg.block b (by omega) (fun e => by have := (hr b e.symm).1; omega))
/-- behind the rows of a pass -/
theorem PkS.chg (h : PkS W g3 g4 g5 g6 g7 g8 g9 g11 gm g12 Bo f px PR PA KA pr pc kc pl kind K Q w) (c : Chg [gm, g9] w w') {K' : Nat} (hb9 : ∃ A c, Blk w' g9 25 #[.slice A (pl.length - K') c] ∧ Rd w' g9 1 A (pl.length - K') (intsV (pl.drop K')) ∧ pl.length - K' ≤ c ∧ (A = none → c = 0))
    (hbk : ∃ u, Bk w' gm f none u) (hbl : Below W.heap.size W w') : PkS W g3 g4 g5 g6 g7 g8 g9 g11 gm g12 Bo f px PR PA KA pr pc kc pl kind K' Q w' := by
  obtain ⟨ord, bf, b4, b5, b6, b7, bh, _, ⟨A11, c11, b11, o11⟩, b12, _, bl⟩ := h
  have hs := c.size
  have nm : ∀ {k : Nat}, k ≠ gm → k ≠ g9 → k ∉ [gm, g9] := fun h1 h2 hm => by simp only [List.mem_cons, List.not_mem_nil, or_false] at hm; rcases hm with h | h; exact h1 h; exact h2 h
  exact ⟨by omega, c.blk bf (nm (by omega) (by omega)), c.blk b4 (nm (by omega) (by omega)), c.blk b5 (nm (by omega) (by omega)), c.blk b6 (nm (by omega) (by omega)), c.blk b7 (nm (by omega) (by omega)), c.blk bh (nm (by omega) (by omega)), hb9,
    ⟨A11, c11, c.blk b11 (nm (by omega) (by omega)), c.own o11 (fun g hg => by simp only [List.mem_cons, List.not_mem_nil, or_false] at hg; omega)⟩, c.blk b12 (nm (by omega) (by omega)), hbk, hbl⟩
/-- a pass's bytes put behind the others -/
theorem PkS.app (h : PkS W g3 g4 g5 g6 g7 g8 g9 g11 gm g12 Bo f px PR PA KA pr pc kc pl kind K Q w) {A A' : Option Addr} {c c' n : Nat} {news : List Int} {w2 : World} (ho : w.ownsRow Bo 5 1 (.slice A Q.length c) Q.length (bytesV Q)) (ha : Apped w Bo 5 1 A Q.length c (bytesV Q) n (bytesV news) A' c' w2) (hn : n = news.length) :
    PkS W g3 g4 g5 g6 g7 g8 g9 g11 gm g12 Bo f px PR PA KA pr pc kc pl kind K (Q ++ news) (w2.setCell ⟨g11, 0, none⟩ (.slice A' (Q.length + n) c')) ∧ PkC gm g9 g11 Bo w (w2.setCell ⟨g11, 0, none⟩ (.slice A' (Q.length + n) c')) := by
  obtain ⟨ord, bf, b4, b5, b6, b7, bh, ⟨A9, c9, b9, r9, m9, z9⟩, ⟨A11, c11, b11, o11⟩, b12, ⟨u, bk⟩, bl⟩ := h
  obtain ⟨a1, a2, a3, a4⟩ := ha
  have hs := a2.size
  have ne : ∀ {k : Nat} {t : TypeId} {cs : Array Value}, Blk w k t cs → 5 ≠ t → Blk w2 k t cs := fun hb ht => hb.grown a2 (own_blk_ne ho hb ht)
  have hro : ∀ b, (Value.slice A Q.length c).ownBlock = some b → Bo ≤ b := fun b e => (own_lt2 ho e).2
  have n11 : Blk w2 g11 28 #[.slice A11 Q.length c11] := ne b11 (by decide)
  subst hn
  refine ⟨⟨by simp; omega, (ne bf (by decide)).far (by show g3 ≠ g11; omega) _, (ne b4 (by decide)).far (by show g4 ≠ g11; omega) _, (ne b5 (by decide)).far (by show g5 ≠ g11; omega) _, (ne b6 (by decide)).far (by show g6 ≠ g11; omega) _, (ne b7 (by decide)).far (by show g7 ≠ g11; omega) _, (ne bh (by decide)).far (by show g8 ≠ g11; omega) _, ⟨A9, c9, (ne b9 (by decide)).far (by show g9 ≠ g11; omega) _, ?_, m9, z9⟩, ⟨A', c', ?_, ?_⟩,
    (ne b12 (by decide)).far (by show g12 ≠ g11; omega) _, ⟨u, (bk.rowT ho (by decide) a2).cellT n11 (by decide) 0 _⟩, ?_⟩, ?_⟩
  · refine (r9.keep fun b o hb => ?_).setCell (by show g9 ≤ g11; omega) _
    exact World.cell?_of_block (w := w) (a2.block b (by omega) (fun e => by have := hro b e.symm; omega))
  · rw [List.length_append]; exact n11.set_ 0 _
  · rw [List.length_append, ← bytesV_append]
    exact ownsRow_setCell_other a1 (fun e => own_blk_ne a1 n11 (by decide) e.symm) _
  · exact (bl.trans (a3.mono (by omega))).setCell (by show W.heap.size ≤ g11; omega) _
  · refine ⟨by simpa using hs, fun k hk hn => ?_, fun k o hk ho2 hc => ?_⟩
    · rw [Below.heap_setCell w2 _ _ k (fun e => hn (by rw [e]; simp))]
      exact a3.block k hk
    · rw [Below.heap_setCell w2 _ _ k (by show k ≠ g11; omega)]
      refine (a2.block k (Array.getElem?_eq_some_iff.1 ho2).1 (fun e => ?_)).trans ho2
      rcases ho.2 with ⟨h3, _⟩ | ⟨j, cap, cur, h3, _, hk2, _⟩
      · rw [h3] at e; cases e
      · rw [h3] at e
        have e : some k = some j := e
        injection e with e
        subst e
        rw [hk2] at ho2
        injection ho2 with ho2
        rw [← ho2] at hc
        cases hc
/-- where a pixel has no numbers -/
structure PkX (W : World) (g6 g7 : Nat) (f : Fm) (px : List Px) (kind : Int) (w : World) : Prop where
  b6 : Blk w g6 28 #[.slice none 0 0]
  b7 : Blk w g7 35 #[.iface 42 (.int .i64 6)]
  below : Below W.heap.size W w
  no : packM f px kind = none
theorem PkX.other (h : PkX W g6 g7 f px kind w) {row : Option Nat} (hg : w.grownBy w' row) (hr : ∀ r, row = some r → W.heap.size ≤ r ∧ ∃ o : Obj, w.heap[r]? = some o ∧ o.isCells = false) : PkX W g6 g7 f px kind w' :=
  ⟨h.b6.oth hg (fun r e => (hr r e).2), h.b7.oth hg (fun r e => (hr r e).2), below_oth h.below hg h.below.size (fun r e => (hr r e).1), h.no⟩
end
end Go.Proofs.Ytphhoihhmphbdaa

namespace Go.Proofs.Ytphhoihhmphbdaa
open Go.RowKit Go.Shelf
attribute [local go_sem] Oper.semAt_some

def PakEnd (f : Fm) (px : List Px) (kind : Int) (W : World) (e : Ending) (w' : World) : Prop :=
  Below W.heap.size W w' ∧ match packM f px kind with
  | none => e = .returned (.tuple #[.slice none 0 0, .iface 42 (.int .i64 6)])
  | some b => ∃ A c, e = .returned (.tuple #[.slice A b.length c, .nilIface]) ∧ w'.ownsRow W.heap.size 5 1 (.slice A b.length c) b.length (bytesV b)
theorem Chg.rd2 {G : List Nat} {w w' : World} {B size n : Nat} {A : Option Addr} {xs : List Value} (h : Chg G w w') (r : Rd w B size A n xs) (hB : B ≤ w.heap.size) (hG : ∀ g ∈ G, B ≤ g) : Rd w' B size A n xs :=
  r.keep fun b o hb => World.cell?_of_block (w := w) (h.same b (by omega) (fun hm => by have := hG b hm; omega))
theorem Chg.sub {G G' : List Nat} {w w' : World} (h : Chg G w w') (hs : ∀ g ∈ G, g ∈ G') : Chg G' w w' := ⟨h.size, fun k hk hn => h.same k hk (fun hm => hn (hs k hm))⟩
theorem Chg.of_gr {g : Nat} {w w' : World} (h : w.grownBy w' (some g)) : Chg [g] w w' := ⟨h.size, fun k hk hn => h.block k hk (fun e => hn (by injection e with e; rw [e]; simp))⟩
def OfM (r : Option (List Int)) (X : Option Nat) (x : (Value × Bool) × World) : Prop := match r with
  | none => x.1 = (.slice none 0 0, false)
  | some l => ∃ A c, x.1 = (.slice A l.length c, true) ∧ x.2.ownsRow 0 3 1 (.slice A l.length c) l.length (intsV l) ∧ ∀ b, X = some b → (Value.slice A l.length c).ownBlock ≠ some b
theorem intsV_cellsP {l : List Int} : ∀ u ∈ intsV l, u.oneCell' = true := by intro u hu; obtain ⟨x, _, rfl⟩ := List.mem_map.1 hu; rfl
theorem intsV_appP (l m : List Int) : intsV l ++ intsV m = intsV (l ++ m) := by unfold intsV; rw [List.map_append]
theorem Chg.low {G : List Nat} {w w1 w2 : World} (h : Chg G w w1) (hb : Below w.heap.size w1 w2) : Chg G w w2 := ⟨Nat.le_trans h.size hb.size, fun k hk hn => (hb.block k hk).trans (h.same k hk hn)⟩
theorem own_capP {w : World} {base t sz n c : Nat} {A : Option Addr} {xs : List Value} (h : w.ownsRow base t sz (.slice A n c) n xs) : n ≤ c := by
  rcases h.2 with ⟨h1, h2⟩ | ⟨g, cap, cur, h1, _, _, h3, _⟩
  · rw [h2]; exact Nat.zero_le _
  · injection h1 with h1 h4 h5
    rw [h5]; exact h3
theorem Bk.app {w w' : World} {g base n : Nat} {f : Fm} {X X' : Option Nat} {u : List (Px × (Value × List Int))} {v : Value} {xs : List Value} (h : Bk w g f X u) (ho : w.ownsRow base 3 1 v n xs) (hX : v.ownBlock = X) (hg : w.grownBy w' v.ownBlock) (hX' : X' = X ∨ X' = some w.heap.size) : Bk w' g f X' u := by
  have h1 := h.rowX ho hX hg
  refine ⟨h1.map, h1.keys, fun x hx => ⟨(h1.vals x hx).1, (h1.vals x hx).2.1, fun b hb he => ?_⟩⟩
  rcases hX' with e | e
  · exact (h.vals x hx).2.2 b (by rw [← e]; exact hb) he
  · have h2 := (own_lt2 (h.vals x hx).2.1 he).1
    rw [e] at hb
    injection hb with hb
    omega
theorem fourP (u : World) (A : Option Addr) (n c : Nat) : ∃ w, w = ((((u.alloc (.cells #[.slice A n c] 25)).alloc (.cells #[.slice none 0 0] 28)).alloc (.map #[] 0)).alloc (.cells #[.map (some (u.heap.size + 1 + 1))] 94)) ∧
    Blk w u.heap.size 25 #[.slice A n c] ∧ Blk w (u.heap.size + 1) 28 #[.slice none 0 0] ∧ w.heap[u.heap.size + 1 + 1]? = some (.map #[] 0) ∧ Blk w (u.heap.size + 1 + 1 + 1) 94 #[.map (some (u.heap.size + 1 + 1))] ∧ Below u.heap.size u w ∧ w.heap.size = u.heap.size + 4 := by
  have k1 := Blk.new (u.alloc (.cells #[.slice A n c] 25)) 28 #[.slice none 0 0]
  have k2 := heap_alloc_new ((u.alloc (.cells #[.slice A n c] 25)).alloc (.cells #[.slice none 0 0] 28)) (.map #[] 0)
  have k3 := Blk.new (((u.alloc (.cells #[.slice A n c] 25)).alloc (.cells #[.slice none 0 0] 28)).alloc (.map #[] 0)) 94 #[.map (some (u.heap.size + 1 + 1))]
  simp only [World.size_alloc] at k1 k2 k3
  refine ⟨_, rfl, (((Blk.new u _ _).alloc _).alloc _).alloc _, (k1.alloc _).alloc _, ?_, k3, ((((Below.refl u.heap.size u).alloc (Nat.le_refl _) _).alloc (by simp) _).alloc (by simp; omega) _).alloc (by simp; omega) _, by simp⟩
  rw [Below.heap_alloc _ _ _ (by simp)]
  exact k2
set_option maxRecDepth 100000 in
set_option maxHeartbeats 16000000 in
theorem pack_go (f : Fm) (PA KA PR : Option Addr) (pc kc pr : Nat) (px : List Px) (kind : Int) (W : World) (hf : formOk f = true) (hp : RdP W W.heap.size PA f.pal) (hk : RdI W W.heap.size KA f.key) (hpm : f.pal.length ≤ 1000000) (hkm : f.key.length ≤ 1000000)
    (hr : RdP W W.heap.size PR px) (hl : (px.length : Int) = f.w * f.h) (hwf : ∀ p ∈ px, wfP p) (hm : px.length ≤ 1000) (kd1 : -1 ≤ kind) (kd2 : kind ≤ 4) :
    Calls Try.prog 18 #[.agg #[.int .i64 f.w, .int .i64 f.h, .int .i64 f.d, .int .i64 f.c, .int .i64 f.l, .slice PA f.pal.length pc, .slice KA f.key.length kc], .agg #[.int .i64 f.w, .int .i64 f.h, .slice PR px.length pr], .int .i64 kind] W (PakEnd f px kind W) := by
  have hh : headErr f.w f.h f.d f.c f.l = 0 := (formOk_parts hf).1
  have Hf := hid hf
  have Hh := hid hh
  have Hp := hid hp
  have Hk := hid hk
  have Hr := hid hr
  have Hwf := hid hwf
  obtain ⟨N, hN⟩ : ∃ N, N = px.length := ⟨_, rfl⟩
  have HN := hid hN
  have Hl := hid hl
  have hmul : f.w * f.h = (N : Int) := by rw [hN]; exact hl.symm
  rw [← hN] at hm ⊢
  clear hf hh hp hk hr hwf hN hl
  refine (callsIn_wide (n := 9)).1 ?_
  refine callsIn_of_wp_marks Try.func18 rfl trivial ?_ rfl
  refine wpIn_wide.2 ?_
  simp only [Try.ntmps18, List.size_toArray, List.length_cons, List.length_nil, Nat.reduceAdd, Nat.reduceSub, Array.replicate_succ, Array.replicate_zero, List.push_toArray, List.append_toArray, List.nil_append, List.cons_append]
  have hb := headErr_bnd Hh.out
  obtain ⟨w1, w2, h1, h2, hwh, l1, l2⟩ := hb
  have hnat : f.w.toNat * f.h.toNat ≤ 262144 := by
    have e : ((f.w.toNat * f.h.toNat : Nat) : Int) = f.w * f.h := by rw [Int.natCast_mul, Int.toNat_of_nonneg (by omega), Int.toNat_of_nonneg (by omega)]
    omega
  have FCk := hid (show ∀ w : World, RdP w w.heap.size PA f.pal → RdI w w.heap.size KA f.key → Calls Try.prog 28 #[.agg #[.int .i64 f.w, .int .i64 f.h, .int .i64 f.d, .int .i64 f.c, .int .i64 f.l, .slice PA f.pal.length pc, .slice KA f.key.length kc]] w (fun e w' => e = .returned .nilIface ∧ Below w.heap.size w w') from fun w h1 h2 => (fcheck_main f PA KA pc kc w Hh.out h1 h2 hpm hkm).mono fun e w' h => by obtain ⟨he, hb⟩ := h; rw [if_pos Hf.out] at he; exact ⟨he, hb⟩)
  have SP := hid (fun (w : World) => (spread_any f.l f.w.toNat f.h.toNat (by omega) (by omega) (by omega) (by omega) (by omega) hnat w))
  rw [Int.toNat_of_nonneg (by omega), Int.toNat_of_nonneg (by omega)] at SP
  clear hwh hnat
  obtain ⟨v0, hv0, B3, B4, B5, B6, B7, B8, BB, BS⟩ := six W #[.int .i64 f.w, .int .i64 f.h, .int .i64 f.d, .int .i64 f.c, .int .i64 f.l, .slice PA f.pal.length pc, .slice KA f.key.length kc] #[.int .i64 f.w, .int .i64 f.h, .slice PR N pr] #[.int .i64 kind] #[.slice none 0 0] #[.nilIface] #[.int .i64 f.w, .int .i64 f.h, .int .i64 f.d, .int .i64 f.c, .int .i64 f.l]
    38 33 3 28 35 23
  go_upto_region 2 with (fail)
  rw [← hv0]
  clear hv0
  obtain ⟨g3, hg3⟩ : ∃ g, g = W.heap.size := ⟨_, rfl⟩
  have Hg3 := hid hg3
  rw [← hg3] at B3 B4 B5 B6 B7 B8 ⊢
  obtain ⟨g4, hg4⟩ : ∃ g, g = g3 + 1 := ⟨_, rfl⟩
  have Hg4 := hid hg4
  rw [← hg4] at B4 B5 B6 B7 B8 ⊢
  obtain ⟨g5, hg5⟩ : ∃ g, g = g4 + 1 := ⟨_, rfl⟩
  have Hg5 := hid hg5
  rw [← hg5] at B5 B6 B7 B8 ⊢
  obtain ⟨g6, hg6⟩ : ∃ g, g = g5 + 1 := ⟨_, rfl⟩
  have Hg6 := hid hg6
  rw [← hg6] at B6 B7 B8 ⊢
  obtain ⟨g7, hg7⟩ : ∃ g, g = g6 + 1 := ⟨_, rfl⟩
  have Hg7 := hid hg7
  rw [← hg7] at B7 B8 ⊢
  obtain ⟨g8, hg8⟩ : ∃ g, g = g7 + 1 := ⟨_, rfl⟩
  have Hg8 := hid hg8
  rw [← hg8] at B8 ⊢
  clear hg3 hg4 hg5 hg6 hg7 hg8
  have hs0 : W.heap.size ≤ v0.heap.size := BB.size
  have q0 := B3.cell 0
  have q1 := B3.cell 1
  have q2 := B3.cell 2
  have q3 := B3.cell 3
  have q4 := B3.cell 4
  have q5 := B3.cell 5
  have q6 := B3.cell 6
  simp only [List.getElem?_toArray, List.getElem?_cons_zero, List.getElem?_cons_succ] at q0 q1 q2 q3 q4 q5 q6
  have l3 := B3.lt
  have K3 := hid B3
  have K4 := hid B4
  have K5 := hid B5
  have K6 := hid B6
  have K7 := hid B7
  have K8 := hid B8
  have KB := hid BB
  have KS := hid BS
  clear B3 B4 B5 B6 B7 B8 BB BS
  go_wp2_with fail
  refine (FCk.out _ (RdP.below Hp.out KB.out (Nat.le_refl _) |>.more hs0) (Rd.below Hk.out KB.out (Nat.le_refl _) |>.more hs0)).mono ?_
  rintro e u1 ⟨rfl, hb1⟩
  have P3 := hid (K3.out.below hb1 K3.out.lt)
  have P4 := hid (K4.out.below hb1 K4.out.lt)
  have P5 := hid (K5.out.below hb1 K5.out.lt)
  have P6 := hid (K6.out.below hb1 K6.out.lt)
  have P7 := hid (K7.out.below hb1 K7.out.lt)
  have P8 := hid (K8.out.below hb1 K8.out.lt)
  have PB := hid (KB.out.trans (hb1.mono KB.out.size))
  have PS := hid (show W.heap.size + 6 ≤ u1.heap.size by rw [← KS.out]; exact hb1.size)
  clear hb1 K3 K4 K5 K6 K7 K8 KB KS q0 q1 q2 q3 q4 q5 q6 l3 hs0
  have q0 := P8.out.cell 0
  have q1 := P8.out.cell 1
  have q2 := P8.out.cell 2
  have q3 := P8.out.cell 3
  have q4 := P8.out.cell 4
  simp only [List.getElem?_toArray, List.getElem?_cons_zero, List.getElem?_cons_succ] at q0 q1 q2 q3 q4
  have r0 := P4.out.cell 0
  have r1 := P4.out.cell 1
  have r2 := P4.out.cell 2
  simp only [List.getElem?_toArray, List.getElem?_cons_zero, List.getElem?_cons_succ] at r0 r1 r2
  have k0 := (P5.out.cell 0).trans rfl
  have l4 := P4.out.lt
  have l5 := P5.out.lt
  have l8 := P8.out.lt
  go_wp2_with fail
  refine (SP.out u1).mono ?_
  rintro e u3 ⟨A8, c8, n8, rfl, hn8, ho8, hb3⟩
  have Hn8 := hid hn8
  have R3 := hid (P3.out.below hb3 P3.out.lt)
  have R4 := hid (P4.out.below hb3 P4.out.lt)
  have R5 := hid (P5.out.below hb3 P5.out.lt)
  have R6 := hid (P6.out.below hb3 P6.out.lt)
  have R7 := hid (P7.out.below hb3 P7.out.lt)
  have R8 := hid (P8.out.below hb3 P8.out.lt)
  have RB := hid (PB.out.trans (hb3.mono PB.out.size))
  have RS := hid (show W.heap.size + 6 ≤ u3.heap.size from Nat.le_trans PS.out hb3.size)
  have RO := hid ho8
  clear P3 P4 P5 P6 P7 P8 PB PS q0 q1 q2 q3 q4 r0 r1 r2 k0 l4 l5 l8 hn8 ho8 hb3 SP FCk
  have hmm := @run_makeMap Try.prog
  obtain ⟨v4, hv4, D9, D11, Dm, D12, DB, DS⟩ := fourP u3 A8 n8 c8
  go_upto_region 9 with (fail)
  rw [← hv4]
  clear hv4
  obtain ⟨g9, hg9⟩ : ∃ g, g = u3.heap.size := ⟨_, rfl⟩
  have Hg9 := hid hg9
  rw [← hg9] at D9 D11 Dm D12 ⊢
  obtain ⟨g11, hg11⟩ : ∃ g, g = g9 + 1 := ⟨_, rfl⟩
  have Hg11 := hid hg11
  rw [← hg11] at D11 Dm D12 ⊢
  obtain ⟨gm, hgm⟩ : ∃ g, g = g11 + 1 := ⟨_, rfl⟩
  have Hgm := hid hgm
  rw [← hgm] at Dm D12 ⊢
  obtain ⟨g12, hg12⟩ : ∃ g, g = gm + 1 := ⟨_, rfl⟩
  have Hg12 := hid hg12
  rw [← hg12] at D12 ⊢
  clear hg9 hg11 hgm hg12
  obtain ⟨pl, hpl⟩ : ∃ pl, pl = spreadM f.l f.w.toNat f.h.toNat := ⟨_, rfl⟩
  have Hpl := hid hpl
  obtain ⟨i0, hi0, hz0, hz1, hz2⟩ := info_parts int_info
  have Hi0 := hid hi0
  have Hz0 := hid hz0
  have Hz1 := hid hz1
  have Hz2 := hid hz2
  clear hi0 hz0 hz1 hz2
  obtain ⟨j0, hj0, hw0, hw1, hw2⟩ := info_parts u8_info
  have Hj0 := hid hj0
  have Hw0 := hid hw0
  have Hw1 := hid hw1
  have Hw2 := hid hw2
  clear hj0 hw0 hw1 hw2
  rw [← hpl] at RO Hn8
  obtain rfl : n8 = pl.length := Hn8.out
  have hs4 : v4.heap.size = g12 + 1 := by rw [DS, ← Hg9.out]; have := Hg11.out; have := Hgm.out; have := Hg12.out; omega
  have EB := hid (RB.out.trans (DB.mono RB.out.size))
  have ER9 := hid (show Rd v4 g9 1 A8 pl.length (intsV pl) from by rw [Hg9.out]; exact (own_rd RO.out).below DB (Nat.le_refl _))
  have E3 := hid (R3.out.below DB R3.out.lt)
  have E4 := hid (R4.out.below DB R4.out.lt)
  have E5 := hid (R5.out.below DB R5.out.lt)
  have E6 := hid (R6.out.below DB R6.out.lt)
  have E7 := hid (R7.out.below DB R7.out.lt)
  have E8 := hid (R8.out.below DB R8.out.lt)
  have E9 := hid D9
  have E11 := hid D11
  have Em := hid Dm
  have E12 := hid D12
  have hcap : pl.length ≤ c8 := by
    rcases RO.out.2 with ⟨h1, h2⟩ | ⟨g, cap, cur, h1, _, _, h3, _⟩
    · rw [h2]; exact Nat.zero_le _
    · injection h1 with h1 h4 h5
      rw [h5]; exact h3
  have hz8 := own_czS RO.out
  clear hpl Hn8 D9 D11 Dm D12 DB DS R3 R4 R5 R6 R7 R8 RB hmm
  have q0 := E8.out.cell 0
  have q1 := E8.out.cell 1
  have q2 := E8.out.cell 2
  have q3 := E8.out.cell 3
  have q4 := E8.out.cell 4
  simp only [List.getElem?_toArray, List.getElem?_cons_zero, List.getElem?_cons_succ] at q0 q1 q2 q3 q4
  have l8 := E8.out.lt
  go_wp2_with fail
  refine (passesF_any f.w f.h f.l v4).mono ?_
  rintro e x0 ⟨rfl, hbx, hb3, hsz⟩
  have UX := hid (show PkS W g3 g4 g5 g6 g7 g8 g9 g11 gm g12 x0.heap.size f px PR PA KA pr pc kc pl kind 0 [] x0 from by
    refine ⟨?_, E3.out.below hb3 E3.out.lt, by rw [← HN.out]; exact E4.out.below hb3 E4.out.lt, E5.out.below hb3 E5.out.lt, E6.out.below hb3 E6.out.lt, E7.out.below hb3 E7.out.lt, E8.out.below hb3 E8.out.lt, ⟨A8, c8, E9.out.below hb3 E9.out.lt, ER9.out.below hb3 (by have := Hg11.out; have := Hgm.out; have := Hg12.out; omega), hcap, hz8⟩, ⟨none, 0, E11.out.below hb3 E11.out.lt, World.ownsRow_nil _ _ _ _⟩, E12.out.below hb3 E12.out.lt, ⟨[], ?_, fun x hx => (by cases hx), fun x hx => (by cases hx)⟩, EB.out.trans (hb3.mono EB.out.size)⟩
    · have := Hg3.out; have := Hg4.out; have := Hg5.out; have := Hg6.out; have := Hg7.out; have := Hg8.out; have := Hg9.out; have := Hg11.out; have := Hgm.out; have := Hg12.out; have := RS.out; have := hb3.size
      omega
    · exact (hb3.block gm (by have := Hg12.out; omega)).trans Em.out)
  obtain ⟨g13, hg13⟩ : ∃ g, g = v4.heap.size := ⟨_, rfl⟩
  rw [← hg13] at hbx hsz ⊢
  have h12 : g12 < g13 := by omega
  have Hbx := hid hbx
  clear hbx hb3 E3 E4 E5 E6 E7 E8 E9 E11 Em E12 EB ER9 RO RS q0 q1 q2 q3 q4 l8 hg13 hs4 hcap hz8
  obtain ⟨Bo, hBo⟩ : ∃ b, b = x0.heap.size := ⟨_, rfl⟩
  rw [← hBo] at UX
  go_wp2_with fail
  refine' wpIn_wide.1 (range_ix (n := 9) (F := Fence.wide) rfl (by omega) (gf := 79) (lb := #[.pointer (some ⟨g13, 0, none⟩), .pointer (some ⟨g13 + 1, 0, none⟩), .pointer (some ⟨g13 + 2, 0, none⟩)]) rfl trivial (enters_of Try.func79 (by kernel_rfl) rfl)
    (passes_ix 8 (by omega) g13 f.w f.h f.l w1 w2 h1 h2 l1 l2 x0 Hbx.out) kp3_t (kp3_b (b := g13) (w := x0) (by omega)) (Below.refl _ _) (fun _ => rfl)
    (fun k w => numdP f px pl (pixI f k) ∧ PkS W g3 g4 g5 g6 g7 g8 g9 g11 gm g12 Bo f px PR PA KA pr pc kc pl kind (pixI f k) (outP f px pl kind k) w)
    (fun w => PkX W g6 g7 f px kind w)
    ?hI ?hJx ?h0
    (BoxAx (fun k Bx w => Bo ≤ Bx ∧ Blk w Bx 72 #[.int .i64 (colsI f k : Nat), .int .i64 (rowsI f k : Nat)]) _) ?hAx ?assign ?body ?done ?stop)
  case hI =>
    rintro k w w' row ⟨e1, e2⟩ hg hr
    exact ⟨e1, e2.other hg (fun r e => ⟨by rw [hBo]; exact (hr r e).1, (hr r e).2⟩)⟩
  case hJx =>
    intro _ w w' row h hg hr
    exact h.other hg (fun r e => ⟨by have := (hr r e).1; have := UX.out.ord; omega, (hr r e).2⟩)
  case h0 => exact ⟨numdP_zero _ _ _, UX.out⟩
  case hAx =>
    refine boxAx_own ?_
    rintro k Bx _ w w' row ⟨e1, e2⟩ hg hr
    exact ⟨e1, e2.oth hg (fun r e => (hr r e).2)⟩
  case assign =>
    rintro lp k w K hk ⟨e1, e2⟩ hK
    have hk2 : k < passN f := hk
    have he : encPi f.w f.h f.l k = #[.int .i64 ((passI f.w f.h f.l k).1 : Nat), .agg #[.int .i64 (colsI f k : Nat), .int .i64 (rowsI f k : Nat)]] := by
      have h := (pass_pos f Hh.out hk2).1
      show #[Value.int .i64 ((passI f.w f.h f.l k).1 : Nat), .agg #[.int .i64 (passI f.w f.h f.l k).2.1, .int .i64 (passI f.w f.h f.l k).2.2]] = _
      rw [h]
    rw [he]
    clear he
    have E2 := hid e2
    clear e2
    obtain ⟨Bx, hBx⟩ : ∃ B, B = w.heap.size := ⟨_, rfl⟩
    gi_wp2
    rw [← hBx]
    refine hK _ _ ((KeepsOthers.alloc _ _).from _) (kp3_below ((Below.refl _ w).alloc (Nat.le_refl _) _) (by have := E2.out.ord; omega)) ⟨e1, E2.out.below' ((Below.refl _ w).alloc (Nat.le_refl _) _)⟩ ⟨Bx, ⟨by rw [hBx]; have := E2.out.ord; omega, by rw [hBx]; exact Blk.new w _ _⟩, ?eqa⟩
    case eqa => exact Eq.refl _
  case body =>
    rintro lp k a' w hlB ⟨r0, hr0⟩ hk ⟨hnd, hS⟩ ⟨Bx, ⟨hBx, bX⟩, ha⟩
    dsimp only at ha
    subst ha
    have hk2 : k < passN f := hk
    obtain ⟨_, pc1, pc2, pr1, pr2⟩ := pass_pos f Hh.out hk2
    obtain ⟨rl1, rl2, rle, rlb, rlm⟩ := row_pos f Hh.out hk2
    obtain ⟨sz1, sz2⟩ := size_le f Hh.out hmul hk2
    have rwle := row_le f Hh.out hk2
    have hmn : 1 ≤ manyI f ∧ manyI f ≤ 4 := ⟨(chan_in (headErr_deep Hh.out).2.2).1, (chan_in (headErr_deep Hh.out).2.2).2.1⟩
    have hpix : pixI f k + rowsI f k * colsI f k ≤ pl.length := by
      have h1 := pixI_mono f (passN f) (show k + 1 ≤ passN f by omega)
      rw [pixI_all f Hh.out, ← Hpl.out, pixI] at h1
      exact h1
    obtain ⟨co, hco⟩ : ∃ c, c = colsI f k := ⟨_, rfl⟩
    obtain ⟨ro, hro⟩ : ∃ c, c = rowsI f k := ⟨_, rfl⟩
    obtain ⟨rl, hrl⟩ : ∃ c, c = rowI f k := ⟨_, rfl⟩
    obtain ⟨s, hs⟩ : ∃ c, c = pixI f k := ⟨_, rfl⟩
    rw [← hco, ← hro] at bX hpix sz1 ⊢
    rw [← hco] at pc1 pc2 rlm rwle
    rw [← hro] at pr1 pr2
    rw [← hrl] at rl1 rl2 rwle
    rw [← hs] at hS hnd hpix
    have Hco := hid hco
    have Hro := hid hro
    have Hrl := hid hrl
    have Hs := hid hs
    have HS := hid hS
    have ND0 := hid hnd
    have BX := hid bX
    obtain ⟨A9, c9, k9, r9, m9, z9⟩ := hS.b9
    obtain ⟨n9, hn9⟩ : ∃ n, n = pl.length - s := ⟨_, rfl⟩
    rw [← hn9] at k9 r9 m9
    have HK9 := hid k9
    have HR9 := hid r9
    have HZ9 := hid z9
    have HBK := hid hS.bk
    have HBL := hid hS.below
    have x1 := (bX.cell 1).trans rfl
    have lx := bX.lt
    have hro1 : ro ≤ 1000 := Nat.le_trans (Nat.le_mul_of_pos_right _ pc1) (by omega)
    have hco1 : co ≤ 1000 := Nat.le_trans (Nat.le_mul_of_pos_left _ pr1) (by omega)
    have hroc : ro * co ≤ 1000 := by omega
    clear hk hnd hS bX hr0 hco hro hrl hs k9 r9 z9 rlb rle
    gi_upto_region 13 with (fail)
    gi_loopw [15, 89] (fun v15 v89 wr => ∃ (y : Nat) (A1 A9 : Option Addr) (c1 c9 n1 n9 : Nat), y ≤ ro ∧ v89 = .int .i64 (y : Int) ∧ v15 = .slice A1 n1 c1 ∧ Hid (n1 = y * rl) ∧ Hid (n9 = pl.length - (s + y * co)) ∧ Hid (wr.ownsRow w.heap.size 5 1 (.slice A1 n1 c1) n1 (bytesV (rowsP f px pl k y))) ∧ Hid (Chg [gm, g9] w wr) ∧ Hid (Blk wr g9 25 #[.slice A9 n9 c9]) ∧ Hid (Rd wr g9 1 A9 n9 (intsV (pl.drop (s + y * co)))) ∧ n9 ≤ c9 ∧ Hid (A9 = none → c9 = 0) ∧ Hid (∃ u, Bk wr gm f none u) ∧ Hid (Below W.heap.size W wr) ∧ Hid (numdP f px pl (s + y * co))) (fun _ i _ => ro - (intOf i).toNat)
    case atStart => exact ⟨0, none, A9, 0, c9, 0, n9, by omega, rfl, rfl, hid (by simp), hid (by rw [hn9]; simp), hid (World.ownsRow_nil _ _ _ _), hid (Chg.refl _ _), HK9, hid (by rw [Nat.zero_mul, Nat.add_zero]; exact HR9.out), m9, HZ9, HBK, HBL, hid (by rw [Nat.zero_mul, Nat.add_zero]; exact ND0.out)⟩
    case round =>
      clear x1 lx hn9 m9 HK9 HR9 HZ9 HBK HBL n9 c9 A9
      obtain ⟨y, A1, A9, c1, c9, n1, n9, hy, rfl, rfl, Hn1, Hn9, O1, C1, K9, R9, m9, Z9, BK, BL, ND⟩ := hrel
      have hord := HS.out.ord
      have ng : ∀ {g : Nat}, g ≠ gm → g ≠ g9 → g ∉ [gm, g9] := fun h1 h2 hm => by simp only [List.mem_cons, List.not_mem_nil, or_false] at hm; rcases hm with h | h; exact h1 h; exact h2 h
      have MX := hid (C1.out.blk BX.out (ng (by omega) (by omega)))
      generalize wr = wY at *
      by_cases hly : y < ro
      · have dy : decide (y < ro) = true := decide_eq_true hly
        have hin : y * co + co ≤ ro * co := chunk_in rfl hly
        have hcn : co ≤ n9 := by have := Hn9.out; omega
        obtain ⟨A10, hs10, r10⟩ := slcI_h (pl.drop (s + y * co)) co hcn m9 Z9.out R9.out
        have k9c := (K9.out.cell 0).trans rfl
        have l9 := K9.out.lt
        have x0' := (MX.out.cell 0).trans rfl
        have lx := MX.out.lt
        have R10 := hid r10
        obtain ⟨t, ht⟩ : ∃ t, t = s + y * co := ⟨_, rfl⟩
        have Ht := hid ht
        have htl : t + co ≤ pl.length := by omega
        clear r10
        gi_upto_region 16 with (fail)
        gi_loopw [16, 96] (fun v16 v96 wr => ∃ (x : Nat) (A2 : Option Addr) (c2 n2 : Nat), x ≤ co ∧ v96 = .int .i64 (x : Int) ∧ v16 = .slice A2 n2 c2 ∧ Hid (n2 = x * manyI f) ∧ Hid (wr.ownsRow wY.heap.size 3 1 (.slice A2 n2 c2) n2 (intsV (nlP f px pl t x))) ∧ Hid (Chg [gm] wY wr) ∧ Hid (∃ u, Bk wr gm f (Value.slice A2 n2 c2).ownBlock u) ∧ Hid (Below W.heap.size W wr) ∧ Hid (numdP f px pl (t + x))) (fun _ i _ => co - (intOf i).toNat)
        case atStart => exact ⟨0, none, 0, 0, by omega, rfl, rfl, hid (by simp), hid (World.ownsRow_nil _ _ _ _), hid (Chg.refl _ _), BK, BL, hid (by rw [ht]; exact ND.out)⟩
        case round =>
          obtain ⟨xn, A2, c2, n2, hx, rfl, rfl, Hn2, O2, C2, BK2, BL2, ND2⟩ := hrel
          clear hs10 k9c l9 x0' lx
          have CA := hid (C1.out.trans (C2.out.sub (G' := [gm, g9]) (fun g hg => by rw [List.mem_singleton.1 hg]; simp)))
          by_cases hlx : xn < co
          · have dx : decide (xn < co) = true := decide_eq_true hlx
            obtain ⟨j, hj⟩ : ∃ j, j = t + xn := ⟨_, rfl⟩
            have Hj := hid hj
            have hjl : j < pl.length := by omega
            obtain ⟨vn, hvn, hvN⟩ : ∃ vn : Nat, pl[j] = (vn : Int) ∧ vn < N := by
              have hm2 : pl[j] ∈ spreadM f.l f.w.toNat f.h.toNat := by rw [← Hpl.out]; exact List.getElem_mem hjl
              obtain ⟨q1, q2⟩ := spread_in hm2
              refine ⟨(pl[j]).toNat, by omega, ?_⟩
              have h3 : ((f.w.toNat * f.h.toNat : Nat) : Int) = f.w * f.h := by rw [Int.natCast_mul, Int.toNat_of_nonneg (by omega), Int.toNat_of_nonneg (by omega)]
              omega
            have hvp : vn < px.length := by rw [← HN.out]; exact hvN
            obtain ⟨b10, o10, hA10, hb10, hcl⟩ := (C2.out.rd2 R10.out (Nat.le_of_lt K9.out.lt) (fun g hg => by rw [List.mem_singleton.1 hg]; omega)).at_ (k := xn) hlx (by omega)
            have hcl0 := hcl xn (.int .i64 (vn : Int)) (by
              unfold intsV
              rw [List.getElem?_map, List.getElem?_take_of_lt hlx, List.getElem?_drop, ← Ht.out, ← Hj.out, List.getElem?_eq_getElem hjl, hvn]
              rfl)
            obtain ⟨bp, op, hPR, hbp, y0, y1, y2, y3⟩ := px_at (RdP.below Hr.out BL2.out (Nat.le_refl _)) hvp
            have hwfp := Hwf.out _ (List.getElem_mem hvp)
            have hgth : gth px pl j = px[vn] := by
              unfold gth
              rw [List.getD_eq_getElem?_getD, List.getD_eq_getElem?_getD, List.getElem?_eq_getElem hjl, Option.getD_some, hvn, Int.toNat_natCast, List.getElem?_eq_getElem hvp]
              rfl
            obtain ⟨p, hpx⟩ : ∃ p, p = px[vn] := ⟨_, rfl⟩
            rw [← hpx] at y0 y1 y2 y3 hwfp hgth
            obtain ⟨p0, p1, p2, p3⟩ := p
            dsimp only at y0 y1 y2 y3
            have HG := hid (show nmP f px pl j = numsOf f (p0, p1, p2, p3) from by unfold nmP; rw [hgth])
            have hbpl : bp < wr.heap.size := Nat.lt_of_lt_of_le hbp BL2.out.size
            have hb10l : b10 < wr.heap.size := Nat.lt_of_lt_of_le (Nat.lt_of_lt_of_le hb10 (Nat.le_of_lt K9.out.lt)) C2.out.size
            have F3 := hid (CA.out.blk HS.out.bf (ng (by omega) (by omega)))
            have F4 := hid (CA.out.blk HS.out.b4 (ng (by omega) (by omega)))
            have F6 := hid (CA.out.blk HS.out.b6 (ng (by omega) (by omega)))
            have F7 := hid (CA.out.blk HS.out.b7 (ng (by omega) (by omega)))
            have F12 := hid (CA.out.blk HS.out.b12 (ng (by omega) (by omega)))
            rw [← HN.out] at F4
            obtain ⟨X, hX⟩ : ∃ X, X = (Value.slice A2 n2 c2).ownBlock := ⟨_, rfl⟩
            have HX := hid hX
            obtain ⟨u2, hk2'⟩ := BK2.out
            rw [← hX] at hk2'
            have OF := hid (of_any f PA KA pc kc p0 p1 p2 p3 gm X u2 wr.drew hk2'.drew (fun b hb => (own_lt2 O2.out (by rw [← hX]; exact hb)).1) hwfp Hf.out ((RdP.below Hp.out BL2.out (Nat.le_refl _)).more BL2.out.size) ((Rd.below Hk.out BL2.out (Nat.le_refl _)).more BL2.out.size) hpm hkm)
            unfold OfEnd at OF
            subst hA10 hPR
            clear hcl hvn hvp hgth hpx hwfp hk2' hX hj hb10 hbp BK2
            gi_upto_region 18 with (fail)
            show Code.wpIn (Fence.wide.inRound lp) _ _ _ _ _ _
            refine free_round (S := (Value × Bool) × World) (fun i => i == 7)
              (fun x i => [.map (some gm), .agg #[.int .i64 f.w, .int .i64 f.h, .int .i64 f.d, .int .i64 f.c, .int .i64 f.l, .slice PA f.pal.length pc, .slice KA f.key.length kc], .pointer (some ⟨g4, 2, none⟩), .slice (some ⟨bp, op, none⟩) N pr, .int .i64 (vn : Nat), .pointer (some ⟨bp, op + vn * 4, none⟩), .agg #[.int .i64 p0, .int .i64 p1, .int .i64 p2, .int .i64 p3], .tuple #[x.1.1, .bool x.1.2], .tuple #[x.1.1, .bool x.1.2], x.1.1, .bool x.1.2, x.1.1, .bool x.1.2].getD i undef)
              (fun x => x.2) (fun k x => match k with | 0 => x = ((undef, false), wr.drew) | 1 => wr.drew.grownBy x.2 (some gm) ∧ (∃ u, Bk x.2 gm f X u) ∧ OfM (numsOf f (p0, p1, p2, p3)) X x | _ => False)
              (fun i => if i ≤ 7 then 0 else 1) (fun i => if i = 0 ∨ i = 1 ∨ i = 6 then 0 else 1) (fun _ => false) (fun _ => false) ?af3 ?ab3 1 (((undef, false), wr.drew)) (by decide +kernel) (by decide +kernel) (by decide +kernel) (by decide +kernel) (by decide +kernel) (by decide +kernel) (by decide +kernel) rfl rfl ?haf3 ?hab3 ?hy3 ?hQ3
            case haf3 =>
              intro x
              simp only [actOf, dstAt, List.length_cons, List.length_nil, Nat.reduceAdd, List.getElem?_cons_zero, List.getElem?_cons_succ, Option.bind_some, if_true, List.getD_cons_zero, List.getD_cons_succ, Act.put, List.setIfInBounds_toArray, List.set_cons_zero, List.set_cons_succ]
              rfl
            case hab3 =>
              intro x
              simp only [actOf, dstAt, List.length_cons, List.length_nil, Nat.reduceAdd, List.getElem?_cons_zero, List.getElem?_cons_succ, Option.bind_some, Bool.not_false, if_true, List.getD_cons_zero, List.getD_cons_succ, Act.put, List.setIfInBounds_toArray, List.set_cons_zero, List.set_cons_succ]
              rfl
            case hy3 =>
              intro k4 xw hR
              have c0 := (F12.out.cell 0).trans rfl
              have d0 := F3.out.cell 0
              have d1 := F3.out.cell 1
              have d2 := F3.out.cell 2
              have d3 := F3.out.cell 3
              have d4 := F3.out.cell 4
              have d5 := F3.out.cell 5
              have d6 := F3.out.cell 6
              simp only [List.getElem?_toArray, List.getElem?_cons_zero, List.getElem?_cons_succ] at d0 d1 d2 d3 d4 d5 d6
              have n4m : some g4 ≠ some gm := fun e => by injection e with e; omega
              have r2 : xw.2.cell? ⟨g4, 2, none⟩ = some (.slice (some ⟨bp, op, none⟩) N pr) := by
                match k4, hR with
                | 0, h => rw [show xw = ((undef, false), wr.drew) from h]; exact (F4.out.drew.cell 2).trans rfl
                | 1, h => exact ((F4.out.drew.grown h.1 n4m).cell 2).trans rfl
              simp only [AllY]
              refine ⟨?_, ?_, ?_, ?_, ?_, ?_, ?_, ?_, ?_, ?_, ?_, ?_, ?_, trivial⟩
              case refine_8 =>
                intro hk
                obtain rfl : k4 = 0 := hk
                obtain rfl : xw = ((undef, false), wr.drew) := hR
                refine .inr (.inr ⟨53, #[.map (some gm), .agg #[.int .i64 f.w, .int .i64 f.h, .int .i64 f.d, .int .i64 f.c, .int .i64 f.l, .slice PA f.pal.length pc, .slice KA f.key.length kc], .agg #[.int .i64 p0, .int .i64 p1, .int .i64 p2, .int .i64 p3]], wr.drew, by simp [go_sem, Act.eval], ?_⟩)
                refine (OF.out).mono ?_
                rintro e w5 ⟨hg5, hk5, hm5⟩
                cases hnu : numsOf f (p0, p1, p2, p3) with
                | none =>
                  rw [hnu] at hm5
                  exact ⟨.tuple #[.slice none 0 0, .bool false], hm5, ((.slice none 0 0, false), w5), ⟨hg5, hk5, rfl⟩, rfl, rfl, fun i hi hd hn => by
                    have hd : (if i ≤ 7 then 0 else 1) ≤ 0 := hd
                    dsimp only
                    refine agree_upto 7 ?_ i (by
                      rcases Nat.lt_or_ge i 7 with h | h
                      · exact h
                      · have : i ≠ 7 := hn
                        rw [if_neg (by omega)] at hd; omega)
                    rfl⟩
                | some l =>
                  rw [hnu] at hm5
                  obtain ⟨A, c, he, ho, hne⟩ := hm5
                  exact ⟨.tuple #[.slice A l.length c, .bool true], he, ((.slice A l.length c, true), w5), ⟨hg5, hk5, ⟨A, c, rfl, ho, hne⟩⟩, rfl, rfl, fun i hi hd hn => by
                    have hd : (if i ≤ 7 then 0 else 1) ≤ 0 := hd
                    dsimp only
                    refine agree_upto 7 ?_ i (by
                      rcases Nat.lt_or_ge i 7 with h | h
                      · exact h
                      · have : i ≠ 7 := hn
                        rw [if_neg (by omega)] at hd; omega)
                    rfl⟩
              case refine_1 =>
                intro _ hk
                have hk : k4 ≤ 0 := hk
                obtain rfl : k4 = 0 := by omega
                obtain rfl : xw = ((undef, false), wr.drew) := hR
                exact .inl (by simp [execOp, go_sem, Act.eval, c0])
              case refine_2 =>
                intro _ hk
                have hk : k4 ≤ 0 := hk
                obtain rfl : k4 = 0 := by omega
                obtain rfl : xw = ((undef, false), wr.drew) := hR
                exact .inl (by simp [execOp, go_sem, Act.eval, d0, d1, d2, d3, d4, d5, d6])
              case refine_7 =>
                intro _ hk
                have hk : k4 ≤ 0 := hk
                obtain rfl : k4 = 0 := by omega
                obtain rfl : xw = ((undef, false), wr.drew) := hR
                exact .inl (by simp [execOp, go_sem, Act.eval, y0, y1, y2, y3])
              all_goals exact fun _ _ => .inl (by simp [execOp, go_sem, Act.eval, r2, hvN])
            case hQ3 =>
              rintro ⟨⟨v1, okv⟩, w5⟩ ⟨hg5, ⟨u5, hk5⟩, hm5⟩
              show Exit.then _ _ .normal _ w5
              have hgr : wr.grownBy w5 (some gm) := ⟨hg5.os, hg5.tape, hg5.output, hg5.size, hg5.block⟩
              have C5 := hid (Chg.of_gr hgr)
              have CB := hid (CA.out.trans (C5.out.sub (G' := [gm, g9]) (fun g hg => by rw [List.mem_singleton.1 hg]; simp)))
              have BL5 := hid (BL2.out.grown hgr BL2.out.size (fun r e => by injection e with e; omega))
              cases hnu : numsOf f (p0, p1, p2, p3) with
              | none =>
                rw [hnu] at hm5
                obtain ⟨rfl, rfl⟩ := Prod.mk.inj hm5
                have HNo := hid (packM_none (kind := kind) (px := px) (by rw [← Hpl.out]; exact hjl) (by rw [← Hpl.out, HG.out, hnu]))
                have G6 := hid (CB.out.blk HS.out.b6 (ng (by omega) (by omega)))
                have G7 := hid (CB.out.blk HS.out.b7 (ng (by omega) (by omega)))
                have fz6 := fun o => G6.out.frozen o
                have fz7 := fun o => G7.out.frozen o
                have l6 := G6.out.lt
                have l7 := G7.out.lt
                have d6 := (G6.out.cell 0).trans rfl
                have d7 := (G7.out.cell 0).trans rfl
                have n67 : g6 ≠ g7 := by omega
                have n76 : g7 ≠ g6 := by omega
                clear hm5 hnu hg5 hk5 y0 y1 y2 y3 hcl0 OF
                gi_wp2
                refine ⟨?_, ?_⟩
                · have hk := PkC.of_chg (g11 := g11) (Bo := Bo) CB.out (by omega) (by omega) (by omega)
                  exact ⟨by simpa using hk.size, fun i o hi ho hc => by
                    rw [Below.heap_setCell _ _ _ _ (by show i ≠ g7; rw [← hBo] at hi; omega), Below.heap_setCell _ _ _ _ (by show i ≠ g6; rw [← hBo] at hi; omega)]
                    exact hk.oth i o (by rw [hBo]; exact hi) ho hc⟩
                · exact ⟨(G6.out.set_ 0 _).far (by show g6 ≠ g7; omega) _, (G7.out.far (by show g7 ≠ g6; omega) _).set_ 0 _, (BL5.out.setCell (by show W.heap.size ≤ g6; omega) _).setCell (by show W.heap.size ≤ g7; omega) _, HNo.out⟩
              | some l =>
                rw [hnu] at hm5
                obtain ⟨A, c, hx1, ho5, hne5⟩ := hm5
                obtain ⟨rfl, rfl⟩ := Prod.mk.inj hx1
                have hll := nums_len Hf.out hnu
                have HNm := hid (show nmP f px pl j = some l from by rw [HG.out, hnu])
                have O5 := hid (O2.out.kept hgr (by
                  cases e : (Value.slice A2 n2 c2).ownBlock with
                  | none => exact .inl rfl
                  | some b => exact .inr (fun h => by
                      injection h with h
                      obtain ⟨u9, k9u⟩ := BK.out
                      have h1 := (own_lt2 O2.out e).2
                      have h2 := k9u.lt
                      omega)))
                have S5 := hid ho5
                have K5 := hid hk5
                have hn2 : n2 ≤ 4000 := by
                  rw [Hn2.out]
                  exact Nat.mul_le_mul (Nat.le_trans hx hco1) hmn.2
                obtain ⟨m, hm⟩ : ∃ m, m = l.length := ⟨_, rfl⟩
                rw [← hm] at S5 hll ⊢
                have Hm := hid hm
                have hmy : m ≤ 4 := by omega
                have Hll := hid hll
                have hww : wY.heap.size ≤ w5.heap.size := Nat.le_trans C2.out.size C5.out.size
                clear hx1 ho5 hne5 hk5 hnu hm hg5 y0 y1 y2 y3 hcl0 OF hll
                gi_wp2_with (gi_at_builtin; go_loud (refine wpListIn_app _ rfl _ _ _ rfl wY.heap.size 3 i0 (.int .i64 0) 1 8 Try.underlying25 Hi0.out Hz0.out Hz1.out Hz2.out rfl (by omega) A2 n2 c2 (intsV (nlP f px pl t xn)) rfl O5.out w5.heap.size A m c (intsV l) rfl (own_rd S5.out) (own_nilK S5.out) intsV_cellsP (by simp only [maxLen]; omega) (by omega) hww ?_; intro A7 c7 w7 ha7; have Ha7 := hid ha7; clear ha7))
                obtain ⟨o7, g7', b7, r7⟩ := Ha7.out
                have O7 := hid (show w7.ownsRow wY.heap.size 3 1 (.slice A7 (n2 + m) c7) (n2 + m) (intsV (nlP f px pl t (xn + 1))) from by
                  have e : nlP f px pl t (xn + 1) = nlP f px pl t xn ++ l := by rw [nlP, ← Hj.out, HNm.out, Option.getD_some]
                  rw [e, ← intsV_appP]
                  exact o7)
                have K7 := hid (K5.out.app O5.out HX.out.symm g7' (by rw [HX.out]; exact r7))
                have C7 := hid ((C2.out.trans C5.out).low b7)
                have hlow : W.heap.size ≤ wY.heap.size := BL.out.size
                have BL7 := hid (BL5.out.trans (b7.mono hlow))
                have ND7 := hid (numdP_succ ND2.out (by rw [← Hj.out]; exact HNm.out))
                have Hn7 := hid (show n2 + m = (xn + 1) * manyI f from by rw [Hn2.out, Nat.succ_mul, Hll.out])
                clear o7 g7' b7 r7 Ha7
                gi_wp2
                go_roundw
                case rel => exact ⟨xn + 1, A7, c7, n2 + m, by omega, by go_num, rfl, Hn7, O7, C7, ⟨u5, K7.out⟩, BL7, ND7⟩
                case measure => simp [intOf]; omega
          · have dx : decide (xn < co) = false := decide_eq_false hlx
            have hxe : xn = co := by omega
            have F8 := hid (CA.out.blk HS.out.bh (ng (by omega) (by omega)))
            have F9 := hid (C2.out.blk K9.out (fun hm => by rw [List.mem_singleton.1 hm] at hord; omega))
            have FX := hid (C2.out.blk MX.out (fun hm => by rw [List.mem_singleton] at hm; omega))
            have O2' := hid (show wr.ownsRow wY.heap.size 3 1 (.slice A2 n2 c2) n2 (intsV (nlP f px pl t co)) from by rw [← hxe]; exact O2.out)
            have ND2' := hid (show numdP f px pl (t + co) from by rw [← hxe]; exact ND2.out)
            have Hn2' := hid (show n2 = co * manyI f from by rw [← hxe]; exact Hn2.out)
            obtain ⟨A11, hs11, r11, z11⟩ := slcI_l (pl.drop t) (w2 := wr) (co : Int) co (n9 - co) rfl (by rw [List.length_drop, ht, Hn9.out]) (by omega) m9 Z9.out (C2.out.rd2 (by rw [ht]; exact R9.out) (Nat.le_of_lt K9.out.lt) (fun g hg => by rw [List.mem_singleton.1 hg]; omega))
            rw [List.drop_drop] at r11
            obtain ⟨wS, hwS⟩ : ∃ v, v = wr.setCell ⟨g9, 0, none⟩ (.slice A11 (n9 - co) (c9 - co)) := ⟨_, rfl⟩
            have hSs : wS.heap.size = wr.heap.size := by rw [hwS]; simp
            have G9 := hid (show Blk wS g9 25 #[.slice A11 (n9 - co) (c9 - co)] from by rw [hwS]; exact F9.out.set_ 0 _)
            have GR := hid (show Rd wS g9 1 A11 (n9 - co) (intsV (pl.drop (t + co))) from by rw [hwS]; exact r11.setCell (Nat.le_refl _) _)
            have GO := hid (show wS.ownsRow wY.heap.size 3 1 (.slice A2 n2 c2) n2 (intsV (nlP f px pl t co)) from by rw [hwS]; exact ownsRow_setCell_other O2'.out (fun e => own_blk_ne O2'.out F9.out (by decide) e.symm) _)
            obtain ⟨u2, hku⟩ := BK2.out
            have GK := hid (show Bk wS gm f none u2 from by rw [hwS]; exact (hku.cellT F9.out (by decide) 0 _).setX (.inr (fun b h => by cases h)))
            have GL := hid (show Below W.heap.size W wS from by rw [hwS]; exact BL2.out.setCell (by show W.heap.size ≤ g9; omega) _)
            have GC := hid (show Chg [gm, g9] w wS from by rw [hwS]; exact CA.out.set (by simp) 0 _)
            have GY := hid (show Chg [gm, g9] wY wS from by rw [hwS]; exact (C2.out.sub (G' := [gm, g9]) (fun g hg => by rw [List.mem_singleton.1 hg]; simp)).set (by simp) 0 _)
            have G1 := hid (show wS.ownsRow w.heap.size 5 1 (.slice A1 n1 c1) n1 (bytesV (rowsP f px pl k y)) from GY.out.own O1.out (fun g hg => by simp only [List.mem_cons, List.not_mem_nil, or_false] at hg; omega))
            have G8 := hid (show Blk wS g8 23 #[.int .i64 f.w, .int .i64 f.h, .int .i64 f.d, .int .i64 f.c, .int .i64 f.l] from by rw [hwS]; exact F8.out.far (by show g8 ≠ g9; omega) _)
            obtain ⟨L, hL⟩ : ∃ L, L = nlP f px pl t co := ⟨_, rfl⟩
            have hLn : L.length = n2 := by rw [hL, nlP_len Hf.out ND2'.out t co (Nat.le_refl _), Hn2'.out]
            have hdp : deepOk f.d := (headErr_deep Hh.out).1
            have hdb := deep_bd hdp
            have hn2 : n2 ≤ 4000 := by
              rw [Hn2'.out]
              exact Nat.mul_le_mul hco1 hmn.2
            obtain ⟨RW, hRW⟩ : ∃ l, l = rowP f px pl k y := ⟨_, rfl⟩
            have hRWe : packB L f.d.toNat = RW := by rw [hRW, hL, Ht.out, Hs.out, Hco.out]; rfl
            have hRWl : RW.length = rl := by rw [hRW, Hrl.out]; exact rowP_len Hf.out hk2 ND2'.out (by rw [Ht.out, Hs.out, Hco.out]; exact Nat.le_refl _)
            rw [← hL] at GO
            have SPK := hid (spack_any A2 c2 L f.d.toNat wS (by rw [Int.toNat_of_nonneg (by omega)]; exact hdp) (own_rdi (by rw [hLn]; exact GO.out)) (by rw [hL]; exact nlP_range Hf.out t co) (by rw [hLn]; omega))
            unfold SpkEnd at SPK
            rw [hRWe, hRWl, hLn, Int.toNat_of_nonneg (by omega)] at SPK
            have k9c := (F9.out.cell 0).trans rfl
            have l9 := F9.out.lt
            have f9 := fun o => F9.out.frozen o
            have x0' := (FX.out.cell 0).trans rfl
            have lx := FX.out.lt
            have d2' := (G8.out.cell 2).trans rfl
            have l8 := G8.out.lt
            have HwS := hid hwS
            have HRW := hid hRW
            have Hr1 := hid (show rowsP f px pl k (y + 1) = rowsP f px pl k y ++ RW from by rw [hRW]; rfl)
            have hn1 : n1 ≤ 10000000 := by
              rw [Hn1.out]
              exact Nat.mul_le_mul (show y ≤ 1000 by omega) (show rl ≤ 10000 by omega)
            clear hxe hwS hL hLn hRW hRWe hdp r11 hku O2 ND2 Hn2
            gi_upto_region 24 with (fail)
            rw [← HwS.out]
            gi_wp2_with (first
              | (refine ⟨trivial, ?_⟩; gi_at_call 54; refine (CallsIn.inRound lp (callsIn_wide.2 SPK.out)).mono ?_; rintro e w6 ⟨A5, c5, rfl, ho5, hb5⟩; have O6 := hid (own_below G1.out hb5 (Nat.le_refl _)); have S6 := hid ho5; have B6 := hid hb5; have hw6 : w.heap.size ≤ w6.heap.size := Nat.le_trans GC.out.size hb5.size; clear ho5 hb5)
              | (gi_at_builtin; go_loud (refine wpListIn_app _ rfl _ _ _ rfl w.heap.size 5 j0 (.int .u8 0) 1 1 Try.underlying28 Hj0.out Hw0.out Hw1.out Hw2.out rfl (by omega) A1 n1 c1 (bytesV (rowsP f px pl k y)) rfl O6.out w6.heap.size A5 rl c5 (bytesV RW) rfl (own_rd S6.out) (own_nilK S6.out) bytesV_cells (by simp only [maxLen]; omega) (by omega) hw6 ?_; intro A7 c7 w7 ha7; have Ha7 := hid ha7; clear ha7)))
            obtain ⟨o7, g7', b7, r7⟩ := Ha7.out
            have O7 := hid (show w7.ownsRow w.heap.size 5 1 (.slice A7 (n1 + rl) c7) (n1 + rl) (bytesV (rowsP f px pl k (y + 1))) from by
              rw [Hr1.out, ← bytesV_append]
              exact o7)
            have C7 := hid ((GC.out.below B6.out).low b7)
            have hBw := hord.2.2.2.2.2.2.2.2.2.2
            have K7 := hid ((G9.out.below B6.out G9.out.lt).below b7 (by omega))
            have R7' := hid ((GR.out.below B6.out (Nat.le_of_lt G9.out.lt)).below b7 (show g9 ≤ w.heap.size by omega))
            have BK7 := hid (show ∃ u, Bk w7 gm f none u from ⟨u2, (GK.out.below' B6.out).rowT O6.out (by decide) g7'⟩)
            have BL7 := hid ((GL.out.trans (B6.out.mono GL.out.size)).trans (b7.mono (show W.heap.size ≤ w.heap.size from HS.out.below.size)))
            have et : t + co = s + (y + 1) * co := by rw [Ht.out, Nat.succ_mul]; omega
            have Hn7 := hid (show n1 + rl = (y + 1) * rl from by rw [Hn1.out, Nat.succ_mul])
            have Hn8 := hid (show n9 - co = pl.length - (s + (y + 1) * co) from by rw [← et, Hn9.out, Ht.out]; omega)
            rw [et] at R7' ND2'
            have Z11 := hid z11
            have m11 : n9 - co ≤ c9 - co := by omega
            clear o7 g7' b7 r7 Ha7 et k9c l9 f9 x0' lx d2' l8 hs11 z11
            gi_wp2
            go_roundw
            case rel => exact ⟨y + 1, A7, A11, c7, c9 - co, n1 + rl, n9 - co, by omega, by go_num, rfl, Hn7, Hn8, O7, C7, K7, R7', m11, Z11, BK7, BL7, ND2'⟩
            case measure => simp [intOf]; omega
      · have dy : decide (y < ro) = false := decide_eq_false hly
        have hye : y = ro := by omega
        obtain ⟨RS, hRS⟩ : ∃ l, l = rowsP f px pl k ro := ⟨_, rfl⟩
        have hn1e : n1 = ro * rl := by rw [Hn1.out, hye]
        have hRSl : RS.length = n1 := by
          rw [hRS, hn1e, Hrl.out]
          exact rowsP_len Hf.out hk2 ND.out ro (by rw [hye, Hs.out, Hco.out]; exact Nat.le_refl _)
        have O1' := hid (show wY.ownsRow w.heap.size 5 1 (.slice A1 n1 c1) n1 (bytesV RS) from by rw [hRS, ← hye]; exact O1.out)
        have ND' := hid (show numdP f px pl (s + ro * co) from by rw [← hye]; exact ND.out)
        have hRSB : ∀ x ∈ RS, isB x := by rw [hRS]; exact rowsP_B f px pl k ro
        have hdp : deepOk f.d := (headErr_deep Hh.out).1
        obtain ⟨wb, hwb⟩ : ∃ v, v = whM f.d f.c := ⟨_, rfl⟩
        have wb1 : 1 ≤ wb ∧ wb ≤ 8 := by rw [hwb]; exact whM_bd f.d f.c hdp
        have WH := hid (fun w => whole_any f PA KA pc kc hdp w)
        rw [← hwb] at WH
        have hn1m : n1 ≤ 10000000 := by
          rw [hn1e]
          exact Nat.mul_le_mul (show ro ≤ 1000 by omega) (show rl ≤ 10000 by omega)
        have hn1k : n1 ≤ 1000000 := by
          have h1 : ro * rl ≤ ro * (8 * co) := Nat.mul_le_mul_left _ rwle
          rw [Nat.mul_left_comm] at h1
          omega
        obtain ⟨SG, hSG⟩ : ∃ l, l = rollM RS rl wb (List.replicate ro kind) ro := ⟨_, rfl⟩
        obtain ⟨nt, hnt⟩ : ∃ n, n = ro * (1 + rl) := ⟨_, rfl⟩
        have hntn : nt = n1 + ro := by rw [hnt, hn1e, Nat.mul_add, Nat.mul_one, Nat.add_comm]
        have hSGl : SG.length = nt := by rw [hSG, rollM_len, hnt]
        have hSGe : outP f px pl kind (k + 1) = outP f px pl kind k ++ SG := by rw [outP, segP, hSG, hRS, hwb, Hro.out, Hrl.out]
        have RO29 := hid (fun (gr : Nat) (v : World) (hv : Below wY.heap.size wY v) (hb : Blk v gr 3 (intsV (List.replicate ro kind)).toArray) => roll_any wb A1 (some ⟨gr, 0, none⟩) c1 ro n1 ro rl RS (List.replicate ro kind) v wb1.1 wb1.2 rl1 hRSl.symm (by simp) hn1e (own_capP O1'.out) (own_czS O1'.out)
          (by rw [hRSl]; exact ((own_rd O1'.out).below hv (Nat.le_refl _)).more hv.size) (by unfold RdI; rw [intsV_eq, List.length_replicate]; exact rd_blk1 hb (by simp [intsV])) hRSB (fun x hx => by rw [List.eq_of_mem_replicate hx]; unfold badK; rw [decide_eq_false (by omega), decide_eq_false (by omega)]; rfl) hn1k)
        unfold RolEnd at RO29
        simp only [List.length_replicate] at RO29
        rw [← hSG, ← hnt] at RO29
        have tq : (n1 : Int).tdiv (ro : Int) = (rl : Int) := by rw [hn1e, Nat.mul_comm, Int.natCast_mul]; exact Int.mul_tdiv_cancel _ (by omega)
        have F3 := hid (C1.out.blk HS.out.bf (ng (by omega) (by omega)))
        have F5 := hid (C1.out.blk HS.out.b5 (ng (by omega) (by omega)))
        have HtqM := hid tq
        have Hhntn := hid hntn
        have HSGl := hid hSGl
        have HSGe := hid hSGe
        clear hRS hSG hnt hye hn1e hRSl hRSB hwb hdp hSGl hSGe hntn O1 ND
        gi_upto_region 29 with (fail)
        show Code.wpIn (Fence.wide.inRound lp) _ _ _ _ _ _
        refine set_round (S := ((Nat × Nat) × (Option Addr × Nat)) × World) [7, 9, 12, 13]
          (fun x i => [.slice A1 n1 c1, .slice A1 n1 c1, .int .i64 (n1 : Nat), .pointer (some ⟨Bx, 1, none⟩), .int .i64 (ro : Nat), .int .i64 (rl : Nat), .agg #[.int .i64 f.w, .int .i64 f.h, .int .i64 f.d, .int .i64 f.c, .int .i64 f.l, .slice PA f.pal.length pc, .slice KA f.key.length kc], .int .i64 wb, .int .i64 kind, .slice (some ⟨x.1.1.1, 0, none⟩) 1 1, .pointer (some ⟨Bx, 1, none⟩), .int .i64 (ro : Nat), .slice (some ⟨x.1.1.2, 0, none⟩) ro ro, .tuple #[.slice x.1.2.1 nt x.1.2.2, .nilIface], .tuple #[.slice x.1.2.1 nt x.1.2.2, .nilIface], .slice x.1.2.1 nt x.1.2.2, .nilIface, .slice x.1.2.1 nt x.1.2.2, .nilIface].getD i undef)
          (fun x => x.2) (fun l x => Below wY.heap.size wY x.2 ∧ (l.getD 1 false = true → wY.heap.size ≤ x.1.1.1 ∧ Blk x.2 x.1.1.1 3 #[.int .i64 kind]) ∧ (l.getD 2 false = true → wY.heap.size ≤ x.1.1.2 ∧ Blk x.2 x.1.1.2 3 (intsV (List.replicate ro kind)).toArray) ∧ (l.getD 3 false = true → x.2.ownsRow wY.heap.size 5 1 (.slice x.1.2.1 nt x.1.2.2) nt (bytesV SG)))
          (fun i => if i = 12 then [9] else if i = 13 then [12] else if 14 ≤ i then [13] else []) ?af4 ((((0, 0), (none, 0)), wY.drew)) (by decide +kernel) (by decide +kernel) (by decide +kernel) (by decide +kernel) (by decide +kernel) rfl ?hR04 ?haf4 ?hy4 ?hQ4
        case haf4 =>
          intro x
          simp only [actOf, dstAt, List.length_cons, List.length_nil, Nat.reduceAdd, List.getElem?_cons_zero, List.getElem?_cons_succ, Option.bind_some, if_true, List.getD_cons_zero, List.getD_cons_succ, Act.put, List.setIfInBounds_toArray, List.set_cons_zero, List.set_cons_succ]
          rfl
        case hR04 => exact ⟨(Below.refl _ _).drew, fun h => absurd h (by decide), fun h => absurd h (by decide), fun h => absurd h (by decide)⟩
        case hy4 =>
          intro st x hR
          obtain ⟨hb, r9, r12, r13⟩ := hR
          have r9 : st 9 = true → wY.heap.size ≤ x.1.1.1 ∧ Blk x.2 x.1.1.1 3 #[.int .i64 kind] := r9
          have r12 : st 12 = true → wY.heap.size ≤ x.1.1.2 ∧ Blk x.2 x.1.1.2 3 (intsV (List.replicate ro kind)).toArray := r12
          have r13 : st 13 = true → x.2.ownsRow wY.heap.size 5 1 (.slice x.1.2.1 nt x.1.2.2) nt (bytesV SG) := r13
          have hsz := hb.size
          have d0 := (F3.out.below hb F3.out.lt).cell 0
          have d1 := (F3.out.below hb F3.out.lt).cell 1
          have d2 := (F3.out.below hb F3.out.lt).cell 2
          have d3 := (F3.out.below hb F3.out.lt).cell 3
          have d4 := (F3.out.below hb F3.out.lt).cell 4
          have d5 := (F3.out.below hb F3.out.lt).cell 5
          have d6 := (F3.out.below hb F3.out.lt).cell 6
          simp only [List.getElem?_toArray, List.getElem?_cons_zero, List.getElem?_cons_succ] at d0 d1 d2 d3 d4 d5 d6
          have k0 := ((F5.out.below hb F5.out.lt).cell 0).trans rfl
          have x1 := ((MX.out.below hb MX.out.lt).cell 1).trans rfl
          simp only [AllY]
          refine ⟨?_, ?_, ?_, ?_, ?_, ?_, ?_, ?_, ?_, ?_, ?_, ?_, ?_, ?_, ?_, ?_, ?_, ?_, ?_, trivial⟩
          case refine_6 => exact fun _ _ => .inl (by simp [execOp, go_sem, Act.eval, HtqM.out]; rw [if_neg (by omega), show IntKind.i64.wrap (rl : Int) = (rl : Int) from IntWalk.i64_in _ (by omega)])
          case refine_8 =>
            intro h7 hd
            refine .inr (.inr ⟨35, #[.agg #[.int .i64 f.w, .int .i64 f.h, .int .i64 f.d, .int .i64 f.c, .int .i64 f.l, .slice PA f.pal.length pc, .slice KA f.key.length kc]], x.2, by simp [go_sem, Act.eval], ?_⟩)
            refine (WH.out x.2).mono ?_
            rintro e w5 ⟨rfl, hb5⟩
            refine ⟨_, rfl, (x.1, w5), ⟨hb.trans (hb5.mono hsz), fun h => ?_, fun h => ?_, fun h => ?_⟩, rfl, rfl, fun j hj hc hne => rfl⟩
            · have h : (st 9 || 9 == 7) = true := h
              simp at h
              exact ⟨(r9 h).1, (r9 h).2.below hb5 (r9 h).2.lt⟩
            · have h : (st 12 || 12 == 7) = true := h
              simp at h
              exact ⟨(r12 h).1, (r12 h).2.below hb5 (r12 h).2.lt⟩
            · have h : (st 13 || 13 == 7) = true := h
              simp at h
              exact own_below (r13 h) hb5 (Nat.le_refl _)
          case refine_10 =>
            intro h9 hd
            refine .inl ⟨.slice (some ⟨x.2.heap.size, 0, none⟩) 1 1, x.2.alloc (.cells #[.int .i64 kind] 3), by simp [execOp, go_sem, Act.eval], (((x.2.heap.size, x.1.1.2), x.1.2), x.2.alloc (.cells #[.int .i64 kind] 3)), ⟨hb.alloc hsz _, fun _ => ⟨hsz, Blk.new _ _ _⟩, fun h => ?_, fun h => ?_⟩, rfl, rfl, fun j hj hc hne => ?_⟩
            · have h : (st 12 || 12 == 9) = true := h
              simp at h
              exact ⟨(r12 h).1, (r12 h).2.alloc _⟩
            · have h : (st 13 || 13 == 9) = true := h
              simp at h
              exact (r13 h).alloc _
            · have hj : j < 19 := hj
              rcases (show j = 0 ∨ j = 1 ∨ j = 2 ∨ j = 3 ∨ j = 4 ∨ j = 5 ∨ j = 6 ∨ j = 7 ∨ j = 8 ∨ j = 9 ∨ j = 10 ∨ j = 11 ∨ j = 12 ∨ j = 13 ∨ j = 14 ∨ j = 15 ∨ j = 16 ∨ j = 17 ∨ j = 18 by omega) with rfl | rfl | rfl | rfl | rfl | rfl | rfl | rfl | rfl | rfl | rfl | rfl | rfl | rfl | rfl | rfl | rfl | rfl | rfl <;> first | rfl | exact absurd rfl hne | exact absurd hc (by decide)
          case refine_13 =>
            intro h12 hd
            obtain ⟨s9, k9⟩ := r9 (hd 9 (by decide))
            refine .inr (.inr ⟨56, #[.slice (some ⟨x.1.1.1, 0, none⟩) 1 1, .int .i64 (ro : Nat)], x.2, by simp [go_sem, Act.eval], ?_⟩)
            refine (repeat_any x.1.1.1 1 kind ro x.2 pr1 hro1 (rdi_one' k9)).mono ?_
            rintro e w5 ⟨g5r, rfl, hg5, hbk5, hb5⟩
            refine ⟨_, rfl, (((x.1.1.1, g5r), x.1.2), w5), ⟨hb.trans (hb5.mono hsz), fun h => ⟨s9, k9.below hb5 k9.lt⟩, fun h => ⟨Nat.le_trans hsz hg5, hbk5⟩, fun h => ?_⟩, rfl, rfl, fun j hj hc hne => ?_⟩
            · have h : (st 13 || 13 == 12) = true := h
              simp at h
              exact own_below (r13 h) hb5 (Nat.le_refl _)
            · have hj : j < 19 := hj
              rcases (show j = 0 ∨ j = 1 ∨ j = 2 ∨ j = 3 ∨ j = 4 ∨ j = 5 ∨ j = 6 ∨ j = 7 ∨ j = 8 ∨ j = 9 ∨ j = 10 ∨ j = 11 ∨ j = 12 ∨ j = 13 ∨ j = 14 ∨ j = 15 ∨ j = 16 ∨ j = 17 ∨ j = 18 by omega) with rfl | rfl | rfl | rfl | rfl | rfl | rfl | rfl | rfl | rfl | rfl | rfl | rfl | rfl | rfl | rfl | rfl | rfl | rfl <;> first | rfl | exact absurd rfl hne | exact absurd hc (by decide)
          case refine_14 =>
            intro h13 hd
            obtain ⟨s12, k12⟩ := r12 (hd 12 (by decide))
            refine .inr (.inr ⟨55, #[.slice A1 n1 c1, .int .i64 (rl : Nat), .int .i64 wb, .slice (some ⟨x.1.1.2, 0, none⟩) ro ro], x.2, by simp [go_sem, Act.eval], ?_⟩)
            refine (RO29.out x.1.1.2 x.2 hb k12).mono ?_
            rintro e w5 ⟨A5, c5, rfl, ho5, hb5⟩
            refine ⟨_, rfl, ((x.1.1, (A5, c5)), w5), ⟨hb.trans (hb5.mono hsz), fun h => ?_, fun h => ⟨s12, k12.below hb5 k12.lt⟩, fun h => own_base ho5 hsz⟩, rfl, rfl, fun j hj hc hne => ?_⟩
            · have h : (st 9 || 9 == 13) = true := h
              simp at h
              exact ⟨(r9 h).1, (r9 h).2.below hb5 (r9 h).2.lt⟩
            · have hj : j < 19 := hj
              rcases (show j = 0 ∨ j = 1 ∨ j = 2 ∨ j = 3 ∨ j = 4 ∨ j = 5 ∨ j = 6 ∨ j = 7 ∨ j = 8 ∨ j = 9 ∨ j = 10 ∨ j = 11 ∨ j = 12 ∨ j = 13 ∨ j = 14 ∨ j = 15 ∨ j = 16 ∨ j = 17 ∨ j = 18 by omega) with rfl | rfl | rfl | rfl | rfl | rfl | rfl | rfl | rfl | rfl | rfl | rfl | rfl | rfl | rfl | rfl | rfl | rfl | rfl <;> first | rfl | exact absurd rfl hne | exact absurd hc (by decide)
          all_goals exact fun _ _ => .inl (by simp [execOp, go_sem, Act.eval, d0, d1, d2, d3, d4, d5, d6, k0, x1])
        case hQ4 =>
          rintro ⟨⟨_, ⟨A5, c5⟩⟩, w5⟩ ⟨hb5, _, _, r13⟩
          have o5 : w5.ownsRow wY.heap.size 5 1 (.slice A5 nt c5) nt (bytesV SG) := r13 rfl
          have hb5 : Below wY.heap.size wY w5 := hb5
          show Exit.then _ _ .normal _ w5
          have C5 := hid ((C1.out.trans (Chg.of_below (G := [gm, g9]) hb5)))
          have O5 := hid o5
          obtain ⟨u2, hku⟩ := BK.out
          have PS5 := hid (show PkS W g3 g4 g5 g6 g7 g8 g9 g11 gm g12 Bo f px PR PA KA pr pc kc pl kind (s + ro * co) (outP f px pl kind k) w5 from
            HS.out.chg C5.out ⟨A9, c9, by have h := K9.out.below hb5 K9.out.lt; rw [Hn9.out, show y = ro by omega] at h; exact h, by have h := R9.out.below hb5 (Nat.le_of_lt K9.out.lt); rw [Hn9.out, show y = ro by omega] at h; exact h, by have := Hn9.out; rw [show y = ro by omega] at this; omega, Z9.out⟩ ⟨u2, hku.below' hb5⟩ (BL.out.trans (hb5.mono BL.out.size)))
          have hPC := PkC.of_chg (g11 := g11) (Bo := Bo) C5.out (by omega) (by omega) (by omega)
          have PC5 := hid hPC
          obtain ⟨A11, c11, b11, o11⟩ := PS5.out.b11
          have O11 := hid o11
          obtain ⟨Ql, hQl⟩ : ∃ n, n = (outP f px pl kind k).length := ⟨_, rfl⟩
          have hQlm : Ql ≤ 100000 := by
            rw [hQl, outP_len]
            have h1 := offI_le f Hh.out hmul k (Nat.le_of_lt hk2)
            have h2 := passN_le f
            have h3 : k * (9 * N) ≤ 7 * 9000 := Nat.mul_le_mul (by omega) (by omega)
            omega
          rw [← hQl] at b11 O11
          have c0 := (b11.cell 0).trans rfl
          have l11 := b11.lt
          have f11 := fun o => b11.frozen o
          have hBw5 : Bo ≤ w5.heap.size := PS5.out.ord.2.2.2.2.2.2.2.2.2.2.2
          have B11 := hid b11
          have HQl := hid hQl
          have hntm : nt ≤ 11000000 := by have := Hhntn.out; omega
          have Hpx1 := hid (show pixI f (k + 1) = s + ro * co from by rw [pixI, Hs.out, Hro.out, Hco.out])
          clear hb5 o5 r13 hPC o11 hQl hku b11 RO29 WH MX
          gi_wp2_with (gi_at_builtin; go_loud (refine wpListIn_app _ rfl _ _ _ rfl Bo 5 j0 (.int .u8 0) 1 1 Try.underlying28 Hj0.out Hw0.out Hw1.out Hw2.out rfl (by omega) A11 Ql c11 (bytesV (outP f px pl kind k)) rfl O11.out w5.heap.size A5 nt c5 (bytesV SG) rfl (own_rd O5.out) (own_nilK O5.out) bytesV_cells (by simp only [maxLen]; omega) (by omega) hBw5 ?_; intro A7 c7 w7 ha7; have Ha7 := hid ha7; have n11 := B11.out.grown ha7.2.1 (own_blk_ne O11.out B11.out (by decide)); have e0 := (n11.cell 0).trans rfl; have e1 := n11.lt; have e2 := fun o => n11.frozen o; clear ha7))
          have hA := Ha7.out
          have hO := O11.out
          rw [HQl.out] at hA hO
          obtain ⟨fin1, fin2⟩ := PS5.out.app hO hA HSGl.out.symm
          rw [← HQl.out, ← HSGe.out] at fin1
          rw [← HQl.out] at fin2
          have fin3 := PC5.out.trans fin2
          exact ⟨(by rw [show g13 + 3 = Bo by omega]; exact fin3.keeps), fin3.kp3 (b := g13) (by omega) (by omega) (by omega) (by omega), by rw [Hpx1.out]; exact ND'.out, (by rw [Hpx1.out]; have h := fin1; rw [show Bo = g13 + 3 by omega] at h; exact h)⟩
  case done =>
    rintro D w hD ⟨hnd, hS⟩ hK
    have hnd : numdP f px pl (pixI f (passN f)) := hnd
    have hS : PkS W g3 g4 g5 g6 g7 g8 g9 g11 gm g12 Bo f px PR PA KA pr pc kc pl kind (pixI f (passN f)) (outP f px pl kind (passN f)) w := hS
    have hsome : packM f px kind = some (outP f px pl kind (passN f)) := by
      unfold packM
      rw [← Hpl.out, if_pos (by rw [pixI_all f Hh.out, ← Hpl.out] at hnd; exact hnd)]
    obtain ⟨A11, c11, b11, o11⟩ := hS.b11
    obtain ⟨QQ, hQQ⟩ : ∃ l, l = outP f px pl kind (passN f) := ⟨_, rfl⟩
    rw [← hQQ] at b11 o11 hsome
    have E2 := hid hS
    have HD := hid hK
    have c0 := (b11.cell 0).trans rfl
    have l11 := b11.lt
    have d6 := (hS.b6.cell 0).trans rfl
    have d7 := (hS.b7.cell 0).trans rfl
    have fz6 := fun o => hS.b6.frozen o
    have fz7 := fun o => hS.b7.frozen o
    have l6 := hS.b6.lt
    have l7 := hS.b7.lt
    have hord := hS.ord
    have n67 : g6 ≠ g7 := by omega
    have n76 : g7 ≠ g6 := by omega
    have O11 := hid o11
    have Hsome := hid hsome
    clear hnd hS hK o11 b11 hsome hQQ
    go_wp2_with fail
    refine ⟨by simp, .inl ⟨_, _, rfl, run_takeDeferred ?hd1, ?_⟩⟩
    case hd1 => exact (Below.heap_setCell _ _ _ D (by show D ≠ g7; omega)).trans ((Below.heap_setCell _ _ _ D (by show D ≠ g6; omega)).trans HD.out)
    generalize hwf : World.putObj _ D _ = wf
    have hn6 : g6 ≠ D := by omega
    have hn7 : g7 ≠ D := by omega
    have hOD : (Value.slice A11 QQ.length c11).ownBlock = none ∨ (Value.slice A11 QQ.length c11).ownBlock ≠ some D := by
      cases e : (Value.slice A11 QQ.length c11).ownBlock with
      | none => exact .inl rfl
      | some b =>
        refine .inr (fun h => ?_)
        injection h with h
        rcases O11.out.2 with ⟨h3, _⟩ | ⟨j, cap, cur, h3, _, hk2, _⟩
        · rw [h3] at e; cases e
        · rw [h3] at e
          have e : some j = some b := e
          injection e with e
          rw [e, h] at hk2
          rw [HD.out] at hk2
          injection hk2 with hk2
          cases hk2
    have f6 : Blk wf g6 28 #[.slice A11 QQ.length c11] := by
      rw [← hwf]
      exact ((E2.out.b6.set_ 0 _).far (by show g6 ≠ g7; omega) _).grown (grownBy_putObj' _ D _) (by simp; exact hn6)
    have f7 : Blk wf g7 35 #[.nilIface] := by
      rw [← hwf]
      exact ((E2.out.b7.far (by show g7 ≠ g6; omega) _).set_ 0 _).grown (grownBy_putObj' _ D _) (by simp; exact hn7)
    have fo : wf.ownsRow W.heap.size 5 1 (.slice A11 QQ.length c11) QQ.length (bytesV QQ) := by
      rw [← hwf]
      have h1 := ownsRow_setCell_other (a := ⟨g6, 0, none⟩) O11.out (fun e => own_blk_ne O11.out E2.out.b6 (by decide) e.symm) (.slice A11 QQ.length c11)
      have h2 := ownsRow_setCell_other (a := ⟨g7, 0, none⟩) h1 (fun e => own_blk_ne O11.out E2.out.b7 (by decide) e.symm) .nilIface
      exact own_base (h2.kept (grownBy_putObj' _ D _) hOD) (by omega)
    have fb : Below W.heap.size W wf := by
      rw [← hwf]
      have hb4 := (E2.out.below.setCell (p := ⟨g6, 0, none⟩) (by show W.heap.size ≤ g6; omega) (.slice A11 QQ.length c11)).setCell (p := ⟨g7, 0, none⟩) (by show W.heap.size ≤ g7; omega) .nilIface
      exact below_oth hb4 (grownBy_putObj' _ D _) hb4.size (fun r e => by cases e; omega)
    have z0 := (f6.cell 0).trans rfl
    have z1 := (f7.cell 0).trans rfl
    refine ⟨.tuple #[.slice A11 QQ.length c11, .nilIface], ?_, fb, ?_⟩
    · simp [results, Try.results18, go_sem, z0, z1]
    · rw [Hsome.out]
      exact ⟨A11, c11, rfl, fo⟩
  case stop =>
    rintro D w hD h hK
    have E1 := hid h
    have HD := hid hK
    clear h hK
    have hord := UX.out.ord
    gi_wp2
    refine ⟨by simp, .inl ⟨_, _, rfl, run_takeDeferred HD.out, ?_⟩⟩
    have f6 := E1.out.b6.grown (grownBy_putObj' w D (.deferred none)) (by simp; omega)
    have f7 := E1.out.b7.grown (grownBy_putObj' w D (.deferred none)) (by simp; omega)
    have fb := below_oth E1.out.below (grownBy_putObj' w D (.deferred none)) E1.out.below.size (fun r e => by cases e; omega)
    have hno := E1.out.no
    generalize hwf : World.putObj _ D _ = wf at *
    have z0 := (f6.cell 0).trans rfl
    have z1 := (f7.cell 0).trans rfl
    refine ⟨.tuple #[.slice none 0 0, .iface 42 (.int .i64 6)], ?_, fb, ?_⟩
    · simp [results, Try.results18, go_sem, z0, z1]
    · rw [hno]
end Go.Proofs.Ytphhoihhmphbdaa

namespace Go.Proofs.Ytphhoihhmphbdaa
open Go.RowKit Go.Shelf
attribute [local go_sem] Oper.semAt_some

def PakErr (W : World) (e : Ending) (w' : World) : Prop := Below W.heap.size W w' ∧ e = .returned (.tuple #[.slice none 0 0, .iface 42 (.int .i64 6)])
set_option maxRecDepth 100000 in
set_option maxHeartbeats 8000000 in
theorem pack_form (f : Fm) (PA KA PR : Option Addr) (pc kc pr n : Nat) (x y kind : Int) (W : World) (hf : formOk f = false) (hp : RdP W W.heap.size PA f.pal) (hk : RdI W W.heap.size KA f.key) (hpm : f.pal.length ≤ 1000000) (hkm : f.key.length ≤ 1000000) :
    Calls Try.prog 18 #[.agg #[.int .i64 f.w, .int .i64 f.h, .int .i64 f.d, .int .i64 f.c, .int .i64 f.l, .slice PA f.pal.length pc, .slice KA f.key.length kc], .agg #[.int .i64 x, .int .i64 y, .slice PR n pr], .int .i64 kind] W (PakErr W) := by
  have Hp := hid hp
  have Hk := hid hk
  have FCk := hid (show ∀ w : World, RdP w w.heap.size PA f.pal → RdI w w.heap.size KA f.key → Calls Try.prog 28 #[.agg #[.int .i64 f.w, .int .i64 f.h, .int .i64 f.d, .int .i64 f.c, .int .i64 f.l, .slice PA f.pal.length pc, .slice KA f.key.length kc]] w (fun e w' => e = .returned (.iface 42 (.int .i64 6)) ∧ Below w.heap.size w w') from fun w h1 h2 => (fcheck_any f PA KA pc kc w h1 h2 hpm hkm).mono fun e w' h => by obtain ⟨he, hb⟩ := h; rw [if_neg (by rw [hf]; decide)] at he; exact ⟨he, hb⟩)
  clear hp hk hf
  refine (callsIn_wide (n := 9)).1 ?_
  refine callsIn_of_wp_marks Try.func18 rfl trivial ?_ rfl
  refine wpIn_wide.2 ?_
  simp only [Try.ntmps18, List.size_toArray, List.length_cons, List.length_nil, Nat.reduceAdd, Nat.reduceSub, Array.replicate_succ, Array.replicate_zero, List.push_toArray, List.append_toArray, List.nil_append, List.cons_append]
  obtain ⟨v0, hv0, B3, B4, B5, B6, B7, B8, BB, BS⟩ := six W #[.int .i64 f.w, .int .i64 f.h, .int .i64 f.d, .int .i64 f.c, .int .i64 f.l, .slice PA f.pal.length pc, .slice KA f.key.length kc] #[.int .i64 x, .int .i64 y, .slice PR n pr] #[.int .i64 kind] #[.slice none 0 0] #[.nilIface] #[.int .i64 f.w, .int .i64 f.h, .int .i64 f.d, .int .i64 f.c, .int .i64 f.l]
    38 33 3 28 35 23
  go_upto_region 2 with (fail)
  rw [← hv0]
  clear hv0
  obtain ⟨g3, hg3⟩ : ∃ g, g = W.heap.size := ⟨_, rfl⟩
  have Hg3 := hid hg3
  rw [← hg3] at B3 B4 B5 B6 B7 B8 ⊢
  obtain ⟨g4, hg4⟩ : ∃ g, g = g3 + 1 := ⟨_, rfl⟩
  have Hg4 := hid hg4
  rw [← hg4] at B4 B5 B6 B7 B8 ⊢
  obtain ⟨g5, hg5⟩ : ∃ g, g = g4 + 1 := ⟨_, rfl⟩
  have Hg5 := hid hg5
  rw [← hg5] at B5 B6 B7 B8 ⊢
  obtain ⟨g6, hg6⟩ : ∃ g, g = g5 + 1 := ⟨_, rfl⟩
  have Hg6 := hid hg6
  rw [← hg6] at B6 B7 B8 ⊢
  obtain ⟨g7, hg7⟩ : ∃ g, g = g6 + 1 := ⟨_, rfl⟩
  have Hg7 := hid hg7
  rw [← hg7] at B7 B8 ⊢
  obtain ⟨g8, hg8⟩ : ∃ g, g = g7 + 1 := ⟨_, rfl⟩
  have Hg8 := hid hg8
  rw [← hg8] at B8 ⊢
  clear hg3 hg4 hg5 hg6 hg7 hg8
  have hs0 : W.heap.size ≤ v0.heap.size := BB.size
  have q0 := B3.cell 0
  have q1 := B3.cell 1
  have q2 := B3.cell 2
  have q3 := B3.cell 3
  have q4 := B3.cell 4
  have q5 := B3.cell 5
  have q6 := B3.cell 6
  simp only [List.getElem?_toArray, List.getElem?_cons_zero, List.getElem?_cons_succ] at q0 q1 q2 q3 q4 q5 q6
  have l3 := B3.lt
  have K3 := hid B3
  have K4 := hid B4
  have K5 := hid B5
  have K6 := hid B6
  have K7 := hid B7
  have K8 := hid B8
  have KB := hid BB
  clear B3 B4 B5 B6 B7 B8 BB BS
  have n67 : g6 ≠ g7 := by have := Hg7.out; omega
  have n76 : g7 ≠ g6 := by have := Hg7.out; omega
  have hW6 : W.heap.size ≤ g6 := by have := Hg3.out; have := Hg4.out; have := Hg5.out; have := Hg6.out; omega
  have hW7 : W.heap.size ≤ g7 := by have := Hg7.out; omega
  go_wp2_with fail
  refine (FCk.out _ (RdP.below Hp.out KB.out (Nat.le_refl _) |>.more hs0) (Rd.below Hk.out KB.out (Nat.le_refl _) |>.more hs0)).mono ?_
  rintro e u1 ⟨rfl, hb1⟩
  have P4 := hid (K4.out.below hb1 K4.out.lt)
  have P5 := hid (K5.out.below hb1 K5.out.lt)
  have P6 := hid (K6.out.below hb1 K6.out.lt)
  have P7 := hid (K7.out.below hb1 K7.out.lt)
  have P8 := hid (K8.out.below hb1 K8.out.lt)
  have PB := hid (KB.out.trans (hb1.mono KB.out.size))
  clear hb1 K3 K4 K5 K6 K7 K8 KB q0 q1 q2 q3 q4 q5 q6 l3 hs0 FCk
  have q0 := P8.out.cell 0
  have q1 := P8.out.cell 1
  have q2 := P8.out.cell 2
  have q3 := P8.out.cell 3
  have q4 := P8.out.cell 4
  simp only [List.getElem?_toArray, List.getElem?_cons_zero, List.getElem?_cons_succ] at q0 q1 q2 q3 q4
  have r0 := P4.out.cell 0
  have r1 := P4.out.cell 1
  have r2 := P4.out.cell 2
  simp only [List.getElem?_toArray, List.getElem?_cons_zero, List.getElem?_cons_succ] at r0 r1 r2
  have k0 := (P5.out.cell 0).trans rfl
  have e6 := (P6.out.cell 0).trans rfl
  have e7 := (P7.out.cell 0).trans rfl
  have fz6 := fun o => P6.out.frozen o
  have fz7 := fun o => P7.out.frozen o
  have l4 := P4.out.lt
  have l5 := P5.out.lt
  have l6 := P6.out.lt
  have l7 := P7.out.lt
  have l8 := P8.out.lt
  go_wp2_with fail
  have f6 := (P6.out.set_ 0 (.slice none 0 0)).far (p := ⟨g7, 0, none⟩) n67 (.iface 42 (.int .i64 6))
  have f7 := (P7.out.far (p := ⟨g6, 0, none⟩) n76 (.slice none 0 0)).set_ 0 (.iface 42 (.int .i64 6))
  have fb := (PB.out.setCell (p := ⟨g6, 0, none⟩) hW6 (.slice none 0 0)).setCell (p := ⟨g7, 0, none⟩) hW7 (.iface 42 (.int .i64 6))
  have z6 := (f6.cell 0).trans rfl
  have z7 := (f7.cell 0).trans rfl
  refine ⟨.tuple #[.slice none 0 0, .iface 42 (.int .i64 6)], ?_, fb, rfl⟩
  simp [results, Try.results18, go_sem, z6, z7]
set_option maxRecDepth 100000 in
set_option maxHeartbeats 8000000 in
theorem pack_size (f : Fm) (PA KA PR : Option Addr) (pc kc pr n : Nat) (x y kind : Int) (W : World) (hf : formOk f = true) (hp : RdP W W.heap.size PA f.pal) (hk : RdI W W.heap.size KA f.key) (hpm : f.pal.length ≤ 1000000) (hkm : f.key.length ≤ 1000000)
    (hno : ¬ (x = f.w ∧ y = f.h ∧ (n : Int) = f.w * f.h ∧ -1 ≤ kind ∧ kind ≤ 4)) :
    Calls Try.prog 18 #[.agg #[.int .i64 f.w, .int .i64 f.h, .int .i64 f.d, .int .i64 f.c, .int .i64 f.l, .slice PA f.pal.length pc, .slice KA f.key.length kc], .agg #[.int .i64 x, .int .i64 y, .slice PR n pr], .int .i64 kind] W (PakErr W) := by
  have Hp := hid hp
  have Hk := hid hk
  have FCk := hid (show ∀ w : World, RdP w w.heap.size PA f.pal → RdI w w.heap.size KA f.key → Calls Try.prog 28 #[.agg #[.int .i64 f.w, .int .i64 f.h, .int .i64 f.d, .int .i64 f.c, .int .i64 f.l, .slice PA f.pal.length pc, .slice KA f.key.length kc]] w (fun e w' => e = .returned .nilIface ∧ Below w.heap.size w w') from fun w h1 h2 => (fcheck_any f PA KA pc kc w h1 h2 hpm hkm).mono fun e w' h => by obtain ⟨he, hb⟩ := h; rw [if_pos hf] at he; exact ⟨he, hb⟩)
  obtain ⟨w1, w2, h1, h2, hwh, l1, l2⟩ := headErr_bnd (formOk_parts hf).1
  have h0 : 0 ≤ f.w * f.h := Int.mul_nonneg (by omega) (by omega)
  have ew : IntKind.i64.wrap (f.w * f.h) = f.w * f.h := IntWalk.i64_in _ (by omega)
  have ew2 : wrap64 (f.w * f.h) = f.w * f.h := by unfold wrap64; omega
  have Hno := hid hno
  clear w1 w2 h1 h2 hwh l1 l2 h0 hno
  clear hp hk hf
  refine (callsIn_wide (n := 9)).1 ?_
  refine callsIn_of_wp_marks Try.func18 rfl trivial ?_ rfl
  refine wpIn_wide.2 ?_
  simp only [Try.ntmps18, List.size_toArray, List.length_cons, List.length_nil, Nat.reduceAdd, Nat.reduceSub, Array.replicate_succ, Array.replicate_zero, List.push_toArray, List.append_toArray, List.nil_append, List.cons_append]
  obtain ⟨v0, hv0, B3, B4, B5, B6, B7, B8, BB, BS⟩ := six W #[.int .i64 f.w, .int .i64 f.h, .int .i64 f.d, .int .i64 f.c, .int .i64 f.l, .slice PA f.pal.length pc, .slice KA f.key.length kc] #[.int .i64 x, .int .i64 y, .slice PR n pr] #[.int .i64 kind] #[.slice none 0 0] #[.nilIface] #[.int .i64 f.w, .int .i64 f.h, .int .i64 f.d, .int .i64 f.c, .int .i64 f.l]
    38 33 3 28 35 23
  go_upto_region 2 with (fail)
  rw [← hv0]
  clear hv0
  obtain ⟨g3, hg3⟩ : ∃ g, g = W.heap.size := ⟨_, rfl⟩
  have Hg3 := hid hg3
  rw [← hg3] at B3 B4 B5 B6 B7 B8 ⊢
  obtain ⟨g4, hg4⟩ : ∃ g, g = g3 + 1 := ⟨_, rfl⟩
  have Hg4 := hid hg4
  rw [← hg4] at B4 B5 B6 B7 B8 ⊢
  obtain ⟨g5, hg5⟩ : ∃ g, g = g4 + 1 := ⟨_, rfl⟩
  have Hg5 := hid hg5
  rw [← hg5] at B5 B6 B7 B8 ⊢
  obtain ⟨g6, hg6⟩ : ∃ g, g = g5 + 1 := ⟨_, rfl⟩
  have Hg6 := hid hg6
  rw [← hg6] at B6 B7 B8 ⊢
  obtain ⟨g7, hg7⟩ : ∃ g, g = g6 + 1 := ⟨_, rfl⟩
  have Hg7 := hid hg7
  rw [← hg7] at B7 B8 ⊢
  obtain ⟨g8, hg8⟩ : ∃ g, g = g7 + 1 := ⟨_, rfl⟩
  have Hg8 := hid hg8
  rw [← hg8] at B8 ⊢
  clear hg3 hg4 hg5 hg6 hg7 hg8
  have hs0 : W.heap.size ≤ v0.heap.size := BB.size
  have q0 := B3.cell 0
  have q1 := B3.cell 1
  have q2 := B3.cell 2
  have q3 := B3.cell 3
  have q4 := B3.cell 4
  have q5 := B3.cell 5
  have q6 := B3.cell 6
  simp only [List.getElem?_toArray, List.getElem?_cons_zero, List.getElem?_cons_succ] at q0 q1 q2 q3 q4 q5 q6
  have l3 := B3.lt
  have K3 := hid B3
  have K4 := hid B4
  have K5 := hid B5
  have K6 := hid B6
  have K7 := hid B7
  have K8 := hid B8
  have KB := hid BB
  clear B3 B4 B5 B6 B7 B8 BB BS
  have n67 : g6 ≠ g7 := by have := Hg7.out; omega
  have n76 : g7 ≠ g6 := by have := Hg7.out; omega
  have hW6 : W.heap.size ≤ g6 := by have := Hg3.out; have := Hg4.out; have := Hg5.out; have := Hg6.out; omega
  have hW7 : W.heap.size ≤ g7 := by have := Hg7.out; omega
  go_wp2_with fail
  refine (FCk.out _ (RdP.below Hp.out KB.out (Nat.le_refl _) |>.more hs0) (Rd.below Hk.out KB.out (Nat.le_refl _) |>.more hs0)).mono ?_
  rintro e u1 ⟨rfl, hb1⟩
  have P4 := hid (K4.out.below hb1 K4.out.lt)
  have P5 := hid (K5.out.below hb1 K5.out.lt)
  have P6 := hid (K6.out.below hb1 K6.out.lt)
  have P7 := hid (K7.out.below hb1 K7.out.lt)
  have P8 := hid (K8.out.below hb1 K8.out.lt)
  have PB := hid (KB.out.trans (hb1.mono KB.out.size))
  clear hb1 K3 K4 K5 K6 K7 K8 KB q0 q1 q2 q3 q4 q5 q6 l3 hs0 FCk
  have q0 := P8.out.cell 0
  have q1 := P8.out.cell 1
  have q2 := P8.out.cell 2
  have q3 := P8.out.cell 3
  have q4 := P8.out.cell 4
  simp only [List.getElem?_toArray, List.getElem?_cons_zero, List.getElem?_cons_succ] at q0 q1 q2 q3 q4
  have r0 := P4.out.cell 0
  have r1 := P4.out.cell 1
  have r2 := P4.out.cell 2
  simp only [List.getElem?_toArray, List.getElem?_cons_zero, List.getElem?_cons_succ] at r0 r1 r2
  have k0 := (P5.out.cell 0).trans rfl
  have e6 := (P6.out.cell 0).trans rfl
  have e7 := (P7.out.cell 0).trans rfl
  have fz6 := fun o => P6.out.frozen o
  have fz7 := fun o => P7.out.frozen o
  have l4 := P4.out.lt
  have l5 := P5.out.lt
  have l6 := P6.out.lt
  have l7 := P7.out.lt
  have l8 := P8.out.lt
  by_cases c0 : x = f.w
  rotate_left
  · have e1 : (x == f.w) = false := beq_eq_false_iff_ne.2 c0
    go_wp2_with fail
    have f6 := (P6.out.set_ 0 (.slice none 0 0)).far (p := ⟨g7, 0, none⟩) n67 (.iface 42 (.int .i64 6))
    have f7 := (P7.out.far (p := ⟨g6, 0, none⟩) n76 (.slice none 0 0)).set_ 0 (.iface 42 (.int .i64 6))
    have fb := (PB.out.setCell (p := ⟨g6, 0, none⟩) hW6 (.slice none 0 0)).setCell (p := ⟨g7, 0, none⟩) hW7 (.iface 42 (.int .i64 6))
    have z6 := (f6.cell 0).trans rfl
    have z7 := (f7.cell 0).trans rfl
    refine ⟨.tuple #[.slice none 0 0, .iface 42 (.int .i64 6)], ?_, fb, rfl⟩
    simp [results, Try.results18, go_sem, z6, z7]
  have e1 : (x == f.w) = true := beq_iff_eq.2 c0
  have C0 := hid c0
  by_cases c1 : y = f.h
  rotate_left
  · have e2 : (y == f.h) = false := beq_eq_false_iff_ne.2 c1
    go_wp2_with fail
    have f6 := (P6.out.set_ 0 (.slice none 0 0)).far (p := ⟨g7, 0, none⟩) n67 (.iface 42 (.int .i64 6))
    have f7 := (P7.out.far (p := ⟨g6, 0, none⟩) n76 (.slice none 0 0)).set_ 0 (.iface 42 (.int .i64 6))
    have fb := (PB.out.setCell (p := ⟨g6, 0, none⟩) hW6 (.slice none 0 0)).setCell (p := ⟨g7, 0, none⟩) hW7 (.iface 42 (.int .i64 6))
    have z6 := (f6.cell 0).trans rfl
    have z7 := (f7.cell 0).trans rfl
    refine ⟨.tuple #[.slice none 0 0, .iface 42 (.int .i64 6)], ?_, fb, rfl⟩
    simp [results, Try.results18, go_sem, z6, z7]
  have e2 : (y == f.h) = true := beq_iff_eq.2 c1
  have C1 := hid c1
  by_cases c2 : (n : Int) = f.w * f.h
  rotate_left
  · have e3 : ((n : Int) == f.w * f.h) = false := beq_eq_false_iff_ne.2 c2
    go_wp2_with fail
    have f6 := (P6.out.set_ 0 (.slice none 0 0)).far (p := ⟨g7, 0, none⟩) n67 (.iface 42 (.int .i64 6))
    have f7 := (P7.out.far (p := ⟨g6, 0, none⟩) n76 (.slice none 0 0)).set_ 0 (.iface 42 (.int .i64 6))
    have fb := (PB.out.setCell (p := ⟨g6, 0, none⟩) hW6 (.slice none 0 0)).setCell (p := ⟨g7, 0, none⟩) hW7 (.iface 42 (.int .i64 6))
    have z6 := (f6.cell 0).trans rfl
    have z7 := (f7.cell 0).trans rfl
    refine ⟨.tuple #[.slice none 0 0, .iface 42 (.int .i64 6)], ?_, fb, rfl⟩
    simp [results, Try.results18, go_sem, z6, z7]
  have e3 : ((n : Int) == f.w * f.h) = true := beq_iff_eq.2 c2
  have C2 := hid c2
  by_cases c3 : -1 ≤ kind
  rotate_left
  · have e4 : decide (kind < -1) = true := decide_eq_true (by omega)
    go_wp2_with fail
    have f6 := (P6.out.set_ 0 (.slice none 0 0)).far (p := ⟨g7, 0, none⟩) n67 (.iface 42 (.int .i64 6))
    have f7 := (P7.out.far (p := ⟨g6, 0, none⟩) n76 (.slice none 0 0)).set_ 0 (.iface 42 (.int .i64 6))
    have fb := (PB.out.setCell (p := ⟨g6, 0, none⟩) hW6 (.slice none 0 0)).setCell (p := ⟨g7, 0, none⟩) hW7 (.iface 42 (.int .i64 6))
    have z6 := (f6.cell 0).trans rfl
    have z7 := (f7.cell 0).trans rfl
    refine ⟨.tuple #[.slice none 0 0, .iface 42 (.int .i64 6)], ?_, fb, rfl⟩
    simp [results, Try.results18, go_sem, z6, z7]
  have e4 : decide (kind < -1) = false := decide_eq_false (by omega)
  have C3 := hid c3
  by_cases c4 : kind ≤ 4
  rotate_left
  · have e5 : decide (4 < kind) = true := decide_eq_true (by omega)
    go_wp2_with fail
    have f6 := (P6.out.set_ 0 (.slice none 0 0)).far (p := ⟨g7, 0, none⟩) n67 (.iface 42 (.int .i64 6))
    have f7 := (P7.out.far (p := ⟨g6, 0, none⟩) n76 (.slice none 0 0)).set_ 0 (.iface 42 (.int .i64 6))
    have fb := (PB.out.setCell (p := ⟨g6, 0, none⟩) hW6 (.slice none 0 0)).setCell (p := ⟨g7, 0, none⟩) hW7 (.iface 42 (.int .i64 6))
    have z6 := (f6.cell 0).trans rfl
    have z7 := (f7.cell 0).trans rfl
    refine ⟨.tuple #[.slice none 0 0, .iface 42 (.int .i64 6)], ?_, fb, rfl⟩
    simp [results, Try.results18, go_sem, z6, z7]
  have e5 : decide (4 < kind) = false := decide_eq_false (by omega)
  have C4 := hid c4
  exact absurd ⟨C0.out, C1.out, C2.out, C3.out, C4.out⟩ Hno.out
end Go.Proofs.Ytphhoihhmphbdaa
