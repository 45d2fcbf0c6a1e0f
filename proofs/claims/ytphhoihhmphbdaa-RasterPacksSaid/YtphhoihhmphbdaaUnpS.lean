/-
  raster.Unpack: the boxes between two steps, and what a part of it may turn.
-/
import Derived.Test.YtphhoihhmphbdaaUnpM
import Derived.Test.YtphhoihhmphbdaaChkC
import Derived.Test.YtphhoihhmphbdaaSamA
import Derived.Test.YtphhoihhmphbdaaSlc
namespace Go.Proofs.Ytphhoihhmphbdaa
open Go.RowKit Go.Shelf

theorem Blk.oth {w w' : World} {g : Nat} {t : TypeId} {cs : Array Value} {row : Option Nat} (h : Blk w g t cs) (hg : w.grownBy w' row) (hr : ∀ r, row = some r → ∃ o : Obj, w.heap[r]? = some o ∧ o.isCells = false) : Blk w' g t cs :=
  h.grown hg (fun e => by
    obtain ⟨o, ho, hc⟩ := hr g e.symm
    have hs' : w.heap[g]? = some (.cells cs t (0, 0)) := h
    rw [hs'] at ho
    injection ho with ho
    subst ho
    cases hc)
theorem below_oth {W0 w w' : World} {B : Nat} {row : Option Nat} (h : Below B W0 w) (hg : w.grownBy w' row) (hB : B ≤ w.heap.size) (hr : ∀ r, row = some r → B ≤ r) : Below B W0 w' := h.trans ((Below.refl B w).grown hg hB (fun k hk => hr k hk))
/-- only these blocks were turned, of those that were there -/
structure Chg (G : List Nat) (w w' : World) : Prop where
  size : w.heap.size ≤ w'.heap.size
  same : ∀ k, k < w.heap.size → k ∉ G → w'.heap[k]? = w.heap[k]?
section
variable {G : List Nat} {w w' w0 : World}
theorem Chg.refl (G : List Nat) (w : World) : Chg G w w := ⟨Nat.le_refl _, fun _ _ _ => rfl⟩
theorem Chg.trans {w2 : World} (h : Chg G w w') (k : Chg G w' w2) : Chg G w w2 := ⟨Nat.le_trans h.size k.size, fun i hi hg => (k.same i (Nat.lt_of_lt_of_le hi h.size) hg).trans (h.same i hi hg)⟩
theorem Chg.of_below (hb : Below w.heap.size w w') : Chg G w w' := ⟨hb.size, fun k hk _ => hb.block k hk⟩
theorem Chg.below (h : Chg G w0 w) (hb : Below w.heap.size w w') : Chg G w0 w' := h.trans (.of_below hb)
theorem Chg.set {g : Nat} (h : Chg G w0 w) (hg : g ∈ G) (i : Nat) (u : Value) : Chg G w0 (w.setCell ⟨g, i, none⟩ u) :=
  ⟨by simpa using h.size, fun k hk hn => (Below.heap_setCell w ⟨g, i, none⟩ u k (fun e => hn (by rw [e]; exact hg))).trans (h.same k hk hn)⟩
theorem Chg.other {row : Option Nat} (h : Chg G w0 w) (hg : w.grownBy w' row) (hr : ∀ r, row = some r → w0.heap.size ≤ r) : Chg G w0 w' :=
  ⟨Nat.le_trans h.size hg.size, fun k hk hn => (hg.block k (Nat.lt_of_lt_of_le hk h.size) (fun e => by have := hr k e.symm; omega)).trans (h.same k hk hn)⟩
theorem Chg.blk {g : Nat} {t : TypeId} {cs : Array Value} (h : Chg G w w') (hb : Blk w g t cs) (hg : g ∉ G) : Blk w' g t cs := (h.same g hb.lt hg).trans hb
theorem Chg.own {base e size n : Nat} {v : Value} {xs : List Value} (h : Chg G w w') (ho : w.ownsRow base e size v n xs) (hG : ∀ g ∈ G, g < base) : w'.ownsRow base e size v n xs := by
  refine ⟨ho.1, ?_⟩
  rcases ho.2 with hn | ⟨g, cap, cur, rfl, hg, hgg, rest⟩
  · exact .inl hn
  · refine .inr ⟨g, cap, cur, rfl, hg, ?_, rest⟩
    rw [h.same g (Array.getElem?_eq_some_iff.1 hgg).1 (fun hm => by have := hG g hm; omega)]
    exact hgg
theorem Chg.keeps (h : Chg G w w') (hG : ∀ g ∈ G, ∀ o, w.heap[g]? = some o → o.isCells = true) : KeepsOthers w w' :=
  ⟨h.size, fun k o hk ho => (h.same k (Array.getElem?_eq_some_iff.1 hk).1 (fun hm => by rw [hG k hm o hk] at ho; cases ho)).trans hk⟩
theorem Chg.kp3 {b : Nat} (h : Chg G w w') (hb : b + 2 < w.heap.size) (hG : ∀ g ∈ G, g < b) : Kp3 b w w' := fun k h1 h2 => h.same k (by omega) (fun hm => by have := hG k hm; omega)
theorem Chg.kp2 {b : Nat} (h : Chg G w w') (hb : b + 1 < w.heap.size) (hG : ∀ g ∈ G, g < b) : Kp2 b w w' := fun k h1 h2 => h.same k (by omega) (fun hm => by have := hG k hm; omega)
end
theorem blk_cells {w : World} {g : Nat} {t : TypeId} {cs : Array Value} (h : Blk w g t cs) (o : Obj) (ho : w.heap[g]? = some o) : o.isCells = true := by
  have h1 : w.heap[g]? = some (.cells cs t (0, 0)) := h
  rw [h1] at ho
  injection ho with ho
  subst ho
  rfl
theorem Rd.setFar {w : World} {B size n : Nat} {A : Option Addr} {xs : List Value} (h : Rd w B size A n xs) {p : Addr} (hp : ∀ a, A = some a → a.block ≠ p.block) (u : Value) : Rd (w.setCell p u) B size A n xs :=
  ⟨h.1, fun hn => by
    obtain ⟨b, off, e, hb, hc⟩ := h.2 hn
    refine ⟨b, off, e, hb, fun j v hv => (World.cell?_setCell_other w p ⟨b, off + j, none⟩ u (fun e2 => hp _ e (by subst e2; rfl))).trans (hc j v hv)⟩⟩
set_option maxRecDepth 100000 in
/-- b[:h] of bytes -/
theorem slcB_h {w2 : World} {B n c : Nat} {A : Option Addr} (l : List Int) (h : Nat) (hh : h ≤ n) (hc : n ≤ c) (hA : A = none → c = 0) (hr : Rd w2 B 1 A n (bytesV l)) :
    ∃ A3, (∀ w : World, (Instr.slice 28 (.slice A n c) none (some (.int .i64 (h : Int))) none).run Try.prog w = .ok (.slice A3 h c) w) ∧ Rd w2 B 1 A3 h (bytesV (l.take h)) ∧ (A3 = none → c = 0) := by
  obtain ⟨A3, h1, h2, h3⟩ := slc_gen 0 h c (Nat.zero_le _) hh (by omega) hA hr
  rw [bytesV_part, List.drop_zero, Nat.sub_zero] at h2
  rw [Nat.sub_zero, Nat.sub_zero] at h1
  refine ⟨A3, fun w => ?_, h2, h3⟩
  rw [← h1, run_slice_h (P := Try.prog) (w := w) 28 A n c Try.underlying28 .i64 (h : Int) (by omega) (by omega)]
  rfl
set_option maxRecDepth 100000 in
/-- l[1:] of ints: the block is the same one -/
theorem slcI_one {w2 : World} {B n c : Nat} {A : Option Addr} (l : List Int) (hl : l.length = n) (hn : 1 ≤ n) (hc : n ≤ c) (hA : A = none → c = 0) (hr : Rd w2 B 1 A n (intsV l)) :
    ∃ A3, (∀ w : World, (Instr.slice 25 (.slice A n c) (some (.int .i64 1)) none none).run Try.prog w = .ok (.slice A3 (n - 1) (c - 1)) w) ∧ Rd w2 B 1 A3 (n - 1) (intsV (l.drop 1)) ∧ (A3 = none → c - 1 = 0) ∧ ∀ a, A3 = some a → ∃ a0, A = some a0 ∧ a.block = a0.block := by
  obtain ⟨A3, h1, h2, h3⟩ := slc_gen 1 n c hn (Nat.le_refl _) hc hA hr
  rw [intsV_part, List.take_of_length_le (by rw [List.length_drop]; omega)] at h2
  refine ⟨A3, fun w => ?_, h2, h3, fun a ha => ?_⟩
  · rw [← h1, run_slice_l (P := Try.prog) (w := w) 25 A n c Try.underlying25 .i64 1 (by omega) (by omega)]
    rfl
  · unfold sliced at h1
    split at h1
    · injection h1 with h1
      exact ⟨a, by rw [h1, ha], rfl⟩
    · injection h1 with h1
      rw [ha] at h1
      cases A with
      | none => cases h1
      | some a0 =>
        injection h1 with h1
        exact ⟨a0, rfl, by rw [← h1]; rfl⟩
theorem pxZ_flat : ∀ n, (pxZ n).flatMap encP = List.replicate (n * 4) (Value.int .i64 0)
  | 0 => rfl
  | n + 1 => by
    have h : pxZ (n + 1) = (0, 0, 0, 0) :: pxZ n := rfl
    rw [h, List.flatMap_cons, pxZ_flat n, Nat.succ_mul]
    rfl
theorem made4 (n : Nat) : madeCells (Value.agg #[.int .i64 0, .int .i64 0, .int .i64 0, .int .i64 0]).cells (n * 4) = ((pxZ n).flatMap encP).toArray := by
  rw [pxZ_flat]
  have h : (Value.agg #[.int .i64 0, .int .i64 0, .int .i64 0, .int .i64 0]).cells = #[.int .i64 0, .int .i64 0, .int .i64 0, .int .i64 0] := rfl
  rw [h]
  apply Array.ext'
  apply List.ext_getElem
  · simp [madeCells]
  · intro i h1 h2
    have hm : i % 4 < 4 := Nat.mod_lt _ (by decide)
    simp only [madeCells, List.getElem_replicate, Array.getElem_toList, Array.getElem_map, Array.getElem_range, List.size_toArray, List.length_cons, List.length_nil, Nat.reduceAdd]
    generalize i % 4 = j at hm
    rcases (show j = 0 ∨ j = 1 ∨ j = 2 ∨ j = 3 by omega) with rfl | rfl | rfl | rfl <;> rfl
theorem upx_info : (Try.prog.info? 62).map (fun i => (i.zero, i.size, i.bytes)) = some (some (.agg #[.int .i64 0, .int .i64 0, .int .i64 0, .int .i64 0]), 4, 32) := by kernel_rfl
/-- pixels made, all of them nothing -/
theorem room_px (n : Nat) (hn : n ≤ 1000000) : ∀ w : World, (Instr.makeSlice 24 (.int .i64 (n : Int)) (.int .i64 (n : Int))).run Try.prog w = .ok (.slice (some ⟨w.heap.size, 0, none⟩) n n) (w.alloc (.cells ((pxZ n).flatMap encP).toArray 62)) := by
  intro w
  obtain ⟨i0, hi0, hz0, hz1, hz2⟩ := info_parts upx_info
  have h := run_make (P := Try.prog) w 24 62 i0 (.agg #[.int .i64 0, .int .i64 0, .int .i64 0, .int .i64 0]) Try.underlying24 hi0 hz0 .i64 .i64 (n : Int) (n : Int) (by omega) (Int.le_refl _) (by rw [hz2]; omega) (by omega)
  rw [hz1, Int.toNat_natCast, made4] at h
  exact h
theorem six (W : World) (c0 c1 c2 c3 c4 c5 : Array Value) (t0 t1 t2 t3 t4 t5 : TypeId) : ∃ w, w = ((((((W.alloc (.cells c0 t0)).alloc (.cells c1 t1)).alloc (.cells c2 t2)).alloc (.cells c3 t3)).alloc (.cells c4 t4)).alloc (.cells c5 t5)) ∧
    Blk w W.heap.size t0 c0 ∧ Blk w (W.heap.size + 1) t1 c1 ∧ Blk w (W.heap.size + 1 + 1) t2 c2 ∧ Blk w (W.heap.size + 1 + 1 + 1) t3 c3 ∧ Blk w (W.heap.size + 1 + 1 + 1 + 1) t4 c4 ∧ Blk w (W.heap.size + 1 + 1 + 1 + 1 + 1) t5 c5 ∧ Below W.heap.size W w ∧ w.heap.size = W.heap.size + 6 := by
  have k1 := Blk.new (W.alloc (.cells c0 t0)) t1 c1
  have k2 := Blk.new ((W.alloc (.cells c0 t0)).alloc (.cells c1 t1)) t2 c2
  have k3 := Blk.new (((W.alloc (.cells c0 t0)).alloc (.cells c1 t1)).alloc (.cells c2 t2)) t3 c3
  have k4 := Blk.new ((((W.alloc (.cells c0 t0)).alloc (.cells c1 t1)).alloc (.cells c2 t2)).alloc (.cells c3 t3)) t4 c4
  have k5 := Blk.new (((((W.alloc (.cells c0 t0)).alloc (.cells c1 t1)).alloc (.cells c2 t2)).alloc (.cells c3 t3)).alloc (.cells c4 t4)) t5 c5
  simp only [World.size_alloc] at k1 k2 k3 k4 k5
  exact ⟨_, rfl, (((((Blk.new W t0 c0).alloc _).alloc _).alloc _).alloc _).alloc _, (((k1.alloc _).alloc _).alloc _).alloc _, ((k2.alloc _).alloc _).alloc _, (k3.alloc _).alloc _, k4.alloc _, k5,
    ((((((Below.refl W.heap.size W).alloc (Nat.le_refl _) _).alloc (by simp) _).alloc (by simp; omega) _).alloc (by simp; omega) _).alloc (by simp; omega) _).alloc (by simp; omega) _, by simp⟩
/-- the boxes -/
structure UbS (W : World) (g2 g3 g4 g5 g6 g7 g8 gp g10 g11 : Nat) (f : Fm) (b pl : List Int) (PA KA : Option Addr) (pc kc o K : Nat) (px : List Px) (w : World) : Prop where
  ord : W.heap.size = g2 ∧ g2 < g3 ∧ g3 < g4 ∧ g4 < g5 ∧ g5 < g6 ∧ g6 < g7 ∧ g7 < g8 ∧ g8 < gp ∧ g8 < g10 ∧ gp ≠ g10 ∧ gp < g11 ∧ g10 < g11 ∧ g11 < w.heap.size
  bf : Blk w g2 38 #[.int .i64 f.w, .int .i64 f.h, .int .i64 f.d, .int .i64 f.c, .int .i64 f.l, .slice PA f.pal.length pc, .slice KA f.key.length kc]
  b3 : ∃ A c, Blk w g3 28 #[.slice A (b.length - o) c] ∧ Rd w g2 1 A (b.length - o) (bytesV (b.drop o)) ∧ b.length - o ≤ c ∧ (A = none → c = 0)
  b4 : Blk w g4 33 #[.int .i64 0, .int .i64 0, .slice none 0 0]
  b5 : Blk w g5 35 #[.nilIface]
  b6 : Blk w g6 33 #[.int .i64 0, .int .i64 0, .slice none 0 0]
  bh : Blk w g7 23 #[.int .i64 f.w, .int .i64 f.h, .int .i64 f.d, .int .i64 f.c, .int .i64 f.l]
  b8 : ∃ A c, Blk w g8 25 #[.slice A (pl.length - K) c] ∧ Rd w g8 1 A (pl.length - K) (intsV (pl.drop K)) ∧ pl.length - K ≤ c ∧ (A = none → c = 0) ∧ ∀ a, A = some a → g7 < a.block
  b10 : Blk w g10 33 #[.int .i64 f.w, .int .i64 f.h, .slice (some ⟨gp, 0, none⟩) px.length px.length]
  bp : Blk w gp 62 (px.flatMap encP).toArray
  b11 : Blk w g11 3 #[.int .i64 (manyI f : Nat)]
  below : Below W.heap.size W w
section
variable {W w w' : World} {g2 g3 g4 g5 g6 g7 g8 gp g10 g11 : Nat} {f : Fm} {b pl : List Int} {PA KA : Option Addr} {pc kc o K : Nat} {px : List Px}
theorem UbS.mv (h : UbS W g2 g3 g4 g5 g6 g7 g8 gp g10 g11 f b pl PA KA pc kc o K px w) (hs : w.heap.size ≤ w'.heap.size) (hb : ∀ g t cs, Blk w g t cs → Blk w' g t cs) (hr : ∀ B size A n xs, B ≤ g8 → Rd w B size A n xs → Rd w' B size A n xs) (hw : Below W.heap.size W w') : UbS W g2 g3 g4 g5 g6 g7 g8 gp g10 g11 f b pl PA KA pc kc o K px w' := by
  obtain ⟨ord, bf, ⟨A3, c3, b3, r3, m3, z3⟩, b4, b5, b6, bh, ⟨A8, c8, b8, r8, m8, z8, f8⟩, b10, bp, b11, bl⟩ := h
  exact ⟨by omega, hb _ _ _ bf, ⟨A3, c3, hb _ _ _ b3, hr _ _ _ _ _ (by omega) r3, m3, z3⟩, hb _ _ _ b4, hb _ _ _ b5, hb _ _ _ b6, hb _ _ _ bh, ⟨A8, c8, hb _ _ _ b8, hr _ _ _ _ _ (by omega) r8, m8, z8, f8⟩, hb _ _ _ b10, hb _ _ _ bp, hb _ _ _ b11, hw⟩
theorem UbS.below' (h : UbS W g2 g3 g4 g5 g6 g7 g8 gp g10 g11 f b pl PA KA pc kc o K px w) (hb : Below w.heap.size w w') : UbS W g2 g3 g4 g5 g6 g7 g8 gp g10 g11 f b pl PA KA pc kc o K px w' :=
  h.mv hb.size (fun _ _ _ k => k.below hb k.lt) (fun _ _ _ _ _ hB k => k.below hb (by have := h.ord; omega)) (h.below.trans (hb.mono h.below.size))
theorem UbS.other (h : UbS W g2 g3 g4 g5 g6 g7 g8 gp g10 g11 f b pl PA KA pc kc o K px w) {row : Option Nat} (hg : w.grownBy w' row) (hr : ∀ r, row = some r → g11 < r ∧ ∃ o : Obj, w.heap[r]? = some o ∧ o.isCells = false) : UbS W g2 g3 g4 g5 g6 g7 g8 gp g10 g11 f b pl PA KA pc kc o K px w' :=
  h.mv hg.size (fun _ _ _ k => k.oth hg (fun r e => (hr r e).2)) (fun _ _ _ _ _ hB k => k.grown hg (by have := h.ord; omega) (fun r e => by have := (hr r e).1; have := h.ord; omega))
    (below_oth h.below hg h.below.size (fun r e => by have := (hr r e).1; have := h.ord; omega))
/-- a pixel put into its place -/
theorem UbS.put (h : UbS W g2 g3 g4 g5 g6 g7 g8 gp g10 g11 f b pl PA KA pc kc o K px w) (v : Nat) (q : Px) (hv : v < px.length) :
    UbS W g2 g3 g4 g5 g6 g7 g8 gp g10 g11 f b pl PA KA pc kc o K (px.set v q) ((((w.setCell ⟨gp, v * 4, none⟩ (.int .i64 q.1)).setCell ⟨gp, v * 4 + 1, none⟩ (.int .i64 q.2.1)).setCell ⟨gp, v * 4 + 2, none⟩ (.int .i64 q.2.2.1)).setCell ⟨gp, v * 4 + 3, none⟩ (.int .i64 q.2.2.2)) := by
  obtain ⟨ord, bf, ⟨A3, c3, b3, r3, m3, z3⟩, b4, b5, b6, bh, ⟨A8, c8, b8, r8, m8, z8, f8⟩, b10, bp, b11, bl⟩ := h
  have far : ∀ {g : Nat} {t : TypeId} {cs : Array Value}, g ≠ gp → Blk w g t cs → Blk ((((w.setCell ⟨gp, v * 4, none⟩ (.int .i64 q.1)).setCell ⟨gp, v * 4 + 1, none⟩ (.int .i64 q.2.1)).setCell ⟨gp, v * 4 + 2, none⟩ (.int .i64 q.2.2.1)).setCell ⟨gp, v * 4 + 3, none⟩ (.int .i64 q.2.2.2)) g t cs := fun hg k => (((k.far hg _).far hg _).far hg _).far hg _
  have rdf : ∀ {B size n : Nat} {A : Option Addr} {xs : List Value}, B ≤ gp → Rd w B size A n xs → Rd ((((w.setCell ⟨gp, v * 4, none⟩ (.int .i64 q.1)).setCell ⟨gp, v * 4 + 1, none⟩ (.int .i64 q.2.1)).setCell ⟨gp, v * 4 + 2, none⟩ (.int .i64 q.2.2.1)).setCell ⟨gp, v * 4 + 3, none⟩ (.int .i64 q.2.2.2)) B size A n xs := fun hB k => (((k.setCell hB _).setCell hB _).setCell hB _).setCell hB _
  refine ⟨by simpa using ord, far (by omega) bf, ⟨A3, c3, far (by omega) b3, rdf (by omega) r3, m3, z3⟩, far (by omega) b4, far (by omega) b5, far (by omega) b6, far (by omega) bh, ⟨A8, c8, far (by omega) b8, rdf (by omega) r8, m8, z8, f8⟩, ?_, ?_, far (by omega) b11, ?_⟩
  · rw [List.length_set]; exact far (by omega) b10
  · have k := (((bp.set_ (v * 4) (.int .i64 q.1)).set_ (v * 4 + 1) (.int .i64 q.2.1)).set_ (v * 4 + 2) (.int .i64 q.2.2.1)).set_ (v * 4 + 3) (.int .i64 q.2.2.2)
    simp only [List.setIfInBounds_toArray] at k
    rw [cells_set px v q hv] at k
    exact k
  · exact (((bl.setCell (by show W.heap.size ≤ gp; omega) _).setCell (by show W.heap.size ≤ gp; omega) _).setCell (by show W.heap.size ≤ gp; omega) _).setCell (by show W.heap.size ≤ gp; omega) _
/-- a place gone -/
theorem UbS.adv (h : UbS W g2 g3 g4 g5 g6 g7 g8 gp g10 g11 f b pl PA KA pc kc o K px w) {A : Option Addr} {c n : Nat} (hn : n = pl.length - (K + 1)) (hr : Rd w g8 1 A n (intsV (pl.drop (K + 1)))) (hc : n ≤ c) (hz : A = none → c = 0) (hf : ∀ a, A = some a → g7 < a.block) :
    UbS W g2 g3 g4 g5 g6 g7 g8 gp g10 g11 f b pl PA KA pc kc o (K + 1) px (w.setCell ⟨g8, 0, none⟩ (.slice A n c)) := by
  subst hn
  obtain ⟨ord, bf, ⟨A3, c3, b3, r3, m3, z3⟩, b4, b5, b6, bh, ⟨A8, c8, b8, r8, m8, z8, f8⟩, b10, bp, b11, bl⟩ := h
  exact ⟨by simpa using ord, bf.far (by show g2 ≠ g8; omega) _, ⟨A3, c3, b3.far (by show g3 ≠ g8; omega) _, r3.setCell (by show g2 ≤ g8; omega) _, m3, z3⟩, b4.far (by show g4 ≠ g8; omega) _, b5.far (by show g5 ≠ g8; omega) _, b6.far (by show g6 ≠ g8; omega) _, bh.far (by show g7 ≠ g8; omega) _,
    ⟨A, c, b8.set_ 0 _, hr.setCell (by show g8 ≤ g8; omega) _, hc, hz, hf⟩, b10.far (by show g10 ≠ g8; omega) _, bp.far (by show gp ≠ g8; omega) _, b11.far (by show g11 ≠ g8; omega) _, bl.setCell (by show W.heap.size ≤ g8; omega) _⟩
/-- a pass's bytes gone -/
theorem UbS.data (h : UbS W g2 g3 g4 g5 g6 g7 g8 gp g10 g11 f b pl PA KA pc kc o K px w) {A : Option Addr} {c n o' : Nat} (hn : n = b.length - o') (hr : Rd w g2 1 A n (bytesV (b.drop o'))) (hc : n ≤ c) (hz : A = none → c = 0) :
    UbS W g2 g3 g4 g5 g6 g7 g8 gp g10 g11 f b pl PA KA pc kc o' K px (w.setCell ⟨g3, 0, none⟩ (.slice A n c)) := by
  subst hn
  obtain ⟨ord, bf, ⟨A3, c3, b3, r3, m3, z3⟩, b4, b5, b6, bh, ⟨A8, c8, b8, r8, m8, z8, f8⟩, b10, bp, b11, bl⟩ := h
  have r8' : Rd (w.setCell ⟨g3, 0, none⟩ (.slice A (b.length - o') c)) g8 1 A8 (pl.length - K) (intsV (pl.drop K)) := r8.setFar (fun a e => by have := f8 a e; show a.block ≠ g3; omega) _
  exact ⟨by simpa using ord, bf.far (by show g2 ≠ g3; omega) _, ⟨A, c, b3.set_ 0 _, hr.setCell (by show g2 ≤ g3; omega) _, hc, hz⟩, b4.far (by show g4 ≠ g3; omega) _, b5.far (by show g5 ≠ g3; omega) _, b6.far (by show g6 ≠ g3; omega) _, bh.far (by show g7 ≠ g3; omega) _,
    ⟨A8, c8, b8.far (by show g8 ≠ g3; omega) _, r8', m8, z8, f8⟩, b10.far (by show g10 ≠ g3; omega) _, bp.far (by show gp ≠ g3; omega) _, b11.far (by show g11 ≠ g3; omega) _, bl.setCell (by show W.heap.size ≤ g3; omega) _⟩
theorem UbS.keeps (h : UbS W g2 g3 g4 g5 g6 g7 g8 gp g10 g11 f b pl PA KA pc kc o K px w) (c : Chg [g3, g4, g5, g8, gp] w w') : KeepsOthers w w' := c.keeps fun g hg => by
  obtain ⟨_, _, ⟨_, _, b3, _⟩, b4, b5, _, _, ⟨_, _, b8, _⟩, _, bp, _, _⟩ := h
  simp only [List.mem_cons, List.not_mem_nil, or_false] at hg
  rcases hg with rfl | rfl | rfl | rfl | rfl
  · exact blk_cells b3
  · exact blk_cells b4
  · exact blk_cells b5
  · exact blk_cells b8
  · exact blk_cells bp
theorem UbS.gs (h : UbS W g2 g3 g4 g5 g6 g7 g8 gp g10 g11 f b pl PA KA pc kc o K px w) : ∀ g ∈ [g3, g4, g5, g8, gp], g < g11 := fun g hg => by
  have := h.ord
  simp only [List.mem_cons, List.not_mem_nil, or_false] at hg
  omega
theorem passO_bad {k : Nat} (hk : ¬ kindsOk (rowI f k) (segB f b k) (rowsI f k)) : none ∈ allO f b (k + 1) := by
  rw [allO]
  refine List.mem_append_right _ ?_
  unfold passO
  rw [if_neg (fun h => hk ((kindsB_iff _ _ _).1 h))]
  exact List.mem_cons_self
theorem passO_good {k : Nat} (hk : kindsOk (rowI f k) (segB f b k) (rowsI f k)) : passO f b k = rowsO f b k (rowsI f k) := by
  unfold passO
  rw [if_pos ((kindsB_iff _ _ _).2 hk)]
/-- where there is no raster -/
structure UbF (W : World) (g4 g5 : Nat) (f : Fm) (b : List Int) (w : World) : Prop where
  b4 : Blk w g4 33 #[.int .i64 0, .int .i64 0, .slice none 0 0]
  b5 : Blk w g5 35 #[.iface 42 (.int .i64 2)]
  below : Below W.heap.size W w
  no : unpR f b = none
theorem UbF.other (h : UbF W g4 g5 f b w) {row : Option Nat} (hg : w.grownBy w' row) (hr : ∀ r, row = some r → W.heap.size ≤ r ∧ ∃ o : Obj, w.heap[r]? = some o ∧ o.isCells = false) : UbF W g4 g5 f b w' :=
  ⟨h.b4.oth hg (fun r e => (hr r e).2), h.b5.oth hg (fun r e => (hr r e).2), below_oth h.below hg h.below.size (fun r e => (hr r e).1), h.no⟩
theorem UbS.fail (h : UbS W g2 g3 g4 g5 g6 g7 g8 gp g10 g11 f b pl PA KA pc kc o K px w) (hno : unpR f b = none) :
    UbF W g4 g5 f b ((((w.setCell ⟨g4, 0, none⟩ (.int .i64 0)).setCell ⟨g4, 1, none⟩ (.int .i64 0)).setCell ⟨g4, 2, none⟩ (.slice none 0 0)).setCell ⟨g5, 0, none⟩ (.iface 42 (.int .i64 2))) := by
  have ord := h.ord
  refine ⟨?_, ?_, ?_, hno⟩
  · exact (((h.b4.set_ 0 (.int .i64 0)).set_ 1 (.int .i64 0)).set_ 2 (.slice none 0 0)).far (by show g4 ≠ g5; omega) _
  · exact (((h.b5.far (by show g5 ≠ g4; omega) _).far (by show g5 ≠ g4; omega) _).far (by show g5 ≠ g4; omega) _).set_ 0 _
  · exact (((h.below.setCell (by show W.heap.size ≤ g4; omega) _).setCell (by show W.heap.size ≤ g4; omega) _).setCell (by show W.heap.size ≤ g4; omega) _).setCell (by show W.heap.size ≤ g5; omega) _
end
theorem putAll_nil (pl : List Int) (base : List Px) : putAll pl [] base = base := by simp [putAll]
/-- behind the assign code of a round whose variable is boxed -/
def BoxAx (P : Nat → Nat → World → Prop) (a1 : Nat → Nat → Act) (k : Nat) (a' : Act) (w : World) : Prop := ∃ Bx, P k Bx w ∧ a' = a1 k Bx
theorem boxAx_own {P : Nat → Nat → World → Prop} {a1 : Nat → Nat → Act} {B : Nat} (h : ∀ k Bx, OwnFrom B (fun (_ : Unit) => P k Bx)) (k : Nat) (a' : Act) : OwnFrom B (fun (_ : Unit) => BoxAx P a1 k a') := fun _ w w' row hs hg hr => by
  obtain ⟨Bx, e1, e2⟩ := hs
  exact ⟨Bx, h k Bx () w w' row e1 hg hr, e2⟩
/-- behind the assign code of a round that only assigns -/
def PlAx (a1 : Nat → Act) (k : Nat) (a' : Act) (_ : World) : Prop := a' = a1 k
theorem plAx_own {a1 : Nat → Act} {B : Nat} (k : Nat) (a' : Act) : OwnFrom B (fun (_ : Unit) => PlAx a1 k a') := fun _ _ _ _ hs _ _ => hs
/-- a part of a slice of one-cell elements -/
theorem rd_part {w : World} {B n : Nat} {A : Option Addr} {xs : List Value} (h : Rd w B 1 A n xs) (i m : Nat) (hi : i + m ≤ n) : Rd w B 1 (A.map (·.add i)) m ((xs.drop i).take m) := by
  have hx : xs.length = n := by have := h.1; omega
  have hl : ((xs.drop i).take m).length = m := by rw [List.length_take, List.length_drop]; omega
  refine ⟨by rw [hl, Nat.mul_one], fun hp => ?_⟩
  rw [hl] at hp
  obtain ⟨b, off, e, hb, hc⟩ := h.2 (by omega)
  subst e
  refine ⟨b, off + i, by simp [Addr.add], hb, fun j u hu => ?_⟩
  have hj : j < m := by have := (List.getElem?_eq_some_iff.1 hu).1; omega
  rw [List.getElem?_take_of_lt hj, List.getElem?_drop] at hu
  have := hc (i + j) u hu
  rw [Nat.add_assoc]
  exact this
theorem bytesV_sub (l : List Int) (i m : Nat) : ((bytesV l).drop i).take m = bytesV ((l.drop i).take m) := by
  unfold bytesV
  rw [← List.map_drop, ← List.map_take]
theorem intsV_sub (l : List Int) (i m : Nat) : ((intsV l).drop i).take m = intsV ((l.drop i).take m) := by
  unfold intsV
  rw [← List.map_drop, ← List.map_take]
theorem chunks_n (r l : Nat) (hl : 1 ≤ l) : (r * l + l - 1) / l = r := by
  rw [show r * l + l - 1 = (l - 1) + l * r by rw [Nat.mul_comm]; omega, Nat.add_mul_div_left _ _ hl, Nat.div_eq_of_lt (by omega), Nat.zero_add]
theorem chunk_in {r l y n : Nat} (hn : n = r * l) (hy : y < r) : y * l + l ≤ n := by
  rw [hn, ← Nat.succ_mul]
  exact Nat.mul_le_mul_right _ hy
theorem rd_blk1 {w : World} {g n : Nat} {t : TypeId} {xs : List Value} (h : Blk w g t xs.toArray) (hl : xs.length = n) : Rd w w.heap.size 1 (some ⟨g, 0, none⟩) n xs :=
  ⟨by omega, fun _ => ⟨g, 0, rfl, h.lt, fun j u hu => by rw [Nat.zero_add, h.cell j, List.getElem?_toArray]; exact hu⟩⟩
theorem unpC_all (row : List Int) (d count : Nat) : unpC row d count count = (intsV (unpM row d count)).toArray := by
  unfold unpC
  rw [Nat.sub_self, List.replicate_zero, List.append_nil]
theorem allO_len (f : Fm) (b : List Int) : ∀ (k : Nat) (Q : List Px), allO f b k = Q.map some → Q.length = pixI f k
  | 0, Q, h => by
    rw [allO] at h
    have := congrArg List.length h
    simpa [pixI] using this.symm
  | k + 1, Q, h => by
    rw [allO] at h
    obtain ⟨Q1, Q2, e, h1, h2⟩ := List.append_eq_map_iff.1 h
    have ih := allO_len f b k Q1 h1.symm
    have hp : passO f b k = rowsO f b k (rowsI f k) := by
      unfold passO
      unfold passO at h2
      split at h2
      · next hk => rw [if_pos hk]
      · have : none ∈ Q2.map some := by rw [h2]; exact List.mem_cons_self
        simp at this
    rw [hp] at h2
    have h3 := congrArg List.length h2
    rw [List.length_map, rowsO_len] at h3
    rw [e, List.length_append, ih, h3, pixI]
theorem pass_none {f : Fm} {b : List Int} {k y x : Nat} (hy : y < rowsI f k) (hx : x < colsI f k) (hk : kindsOk (rowI f k) (segB f b k) (rowsI f k)) (h : pixB f b k y x = none) : none ∈ allO f b (k + 1) := by
  rw [allO]
  refine List.mem_append_right _ ?_
  rw [passO_good hk]
  unfold rowsO lineO
  exact List.mem_flatMap.2 ⟨y, List.mem_range.2 hy, List.mem_map.2 ⟨x, List.mem_range.2 hx, h⟩⟩
theorem encP_len : ∀ l : List Px, (l.flatMap encP).length = l.length * 4
  | [] => rfl
  | p :: l => by
    rw [List.flatMap_cons, List.length_append, encP_len l, List.length_cons, Nat.succ_mul, Nat.add_comm]
    rfl
theorem px_cell {w : World} {gp : Nat} {px : List Px} (h : Blk w gp 62 (px.flatMap encP).toArray) {v i : Nat} (hv : v < px.length) (hi : i < 4) : ∃ u, w.cell? ⟨gp, v * 4 + i, none⟩ = some u := by
  have hl : v * 4 + i < (px.flatMap encP).length := by rw [encP_len]; omega
  exact ⟨_, (h.cell (v * 4 + i)).trans (by rw [List.getElem?_toArray, List.getElem?_eq_getElem hl])⟩
end Go.Proofs.Ytphhoihhmphbdaa
