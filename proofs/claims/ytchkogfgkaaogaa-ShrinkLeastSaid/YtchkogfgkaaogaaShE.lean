/-
  shrink.least: the form of the least depth that holds pixels, made in three ways.
-/
import Derived.Test.YtchkogfgkaaogaaShD
namespace Go.Proofs.Ytchkogfgkaaogaa
open Go.RowKit

def tryM (mk : Fm → Fm) (x y c lc : Int) (l : List Px) : List Int → Option Fm
  | [] => none
  | d :: ds => if fitsB (mk (bare x y d c lc)) l = true then some (mk (bare x y d c lc)) else tryM mk x y c lc l ds
def leastM (mk : Fm → Fm) (x y c lc : Int) (l : List Px) : Option Fm := tryM mk x y c lc l (depthsM c)
theorem try_drop (mk : Fm → Fm) (x y c lc : Int) (l : List Px) (ds : List Int) (j : Nat) (hj : j < ds.length) :
    tryM mk x y c lc l (ds.drop j) = if fitsB (mk (bare x y ds[j] c lc)) l = true then some (mk (bare x y ds[j] c lc)) else tryM mk x y c lc l (ds.drop (j + 1)) := by
  rw [List.drop_eq_getElem_cons hj]; rfl
def LeastEnd (r : Option Fm) (B : Nat) (W : World) (e : Ending) (w' : World) : Prop :=
  (match r with
  | some f => ∃ PA KA pc kc, e = .returned (.tuple #[.agg #[.int .i64 f.w, .int .i64 f.h, .int .i64 f.d, .int .i64 f.c, .int .i64 f.l, .slice PA f.pal.length pc, .slice KA f.key.length kc], .bool true]) ∧ FmOwn w' W.heap.size f PA KA pc kc
  | none => e = .returned (.tuple #[.agg #[.int .i64 0, .int .i64 0, .int .i64 0, .int .i64 0, .int .i64 0, .slice none 0 0, .slice none 0 0], .bool false])) ∧ Below B W w'
theorem leastEnd_none {r : Option Fm} {B : Nat} {W w' : World} (h : r = none) (hb : Below B W w') : LeastEnd r B W (.returned (.tuple #[.agg #[.int .i64 0, .int .i64 0, .int .i64 0, .int .i64 0, .int .i64 0, .slice none 0 0, .slice none 0 0], .bool false])) w' := by subst h; exact ⟨rfl, hb⟩
theorem leastEnd_some {r : Option Fm} {f : Fm} {B : Nat} {W w' : World} {PA KA : Option Addr} {pc kc : Nat} {e : Ending} (h : r = some f) (he : e = .returned (.tuple #[.agg #[.int .i64 f.w, .int .i64 f.h, .int .i64 f.d, .int .i64 f.c, .int .i64 f.l, .slice PA f.pal.length pc, .slice KA f.key.length kc], .bool true])) (hf : FmOwn w' W.heap.size f PA KA pc kc) (hb : Below B W w') : LeastEnd r B W e w' := by subst h; exact ⟨⟨PA, KA, pc, kc, he, hf⟩, hb⟩

/-- the world while depths are tried -/
def LsW (w W : World) (row : Option Nat) (x y d c l : Int) : Prop :=
  Blk w W.heap.size 26 #[.int .i64 x, .int .i64 y, .int .i64 d, .int .i64 c, .int .i64 l] ∧ Blk w (W.heap.size + 1) 32 #[.int .i64 0, .int .i64 0, .int .i64 0, .int .i64 0, .int .i64 0, .slice none 0 0, .slice none 0 0] ∧
  (∀ j, (hj : j < (depthsM c).length) → w.cell? ⟨W.heap.size + 2, j, none⟩ = some (.int .i64 (depthsM c)[j])) ∧ W.grownBy w row ∧ W.heap.size + 2 < w.heap.size
section
variable {w w' W : World} {row : Option Nat} {x y d c l : Int}
theorem LsW.below (h : LsW w W row x y d c l) (hb : Below w.heap.size w w') : LsW w' W row x y d c l := by
  obtain ⟨h1, h2, h3, h4, h5⟩ := h
  exact ⟨h1.below hb h1.lt, h2.below hb h2.lt, fun j hj => (hb.cell (p := ⟨W.heap.size + 2, j, none⟩) h5).trans (h3 j hj), ⟨hb.os.trans h4.os, hb.tape.trans h4.tape, hb.output.trans h4.output, Nat.le_trans h4.size hb.size, fun k hk hr => (hb.block k (by have := h4.size; omega)).trans (h4.block k hk hr)⟩, Nat.lt_of_lt_of_le h5 hb.size⟩
theorem LsW.alloc (h : LsW w W row x y d c l) (o : Obj) : LsW (w.alloc o) W row x y d c l := h.below ((Below.refl _ _).alloc (Nat.le_refl _) o)
theorem LsW.deep (h : LsW w W row x y d c l) (d' : Int) : LsW (w.setCell ⟨W.heap.size, 2, none⟩ (.int .i64 d')) W row x y d' c l := by
  obtain ⟨h1, h2, h3, h4, h5⟩ := h
  refine ⟨h1.set_ 2 _, h2.far (by show W.heap.size + 1 ≠ W.heap.size; omega) _, fun j hj => ?_, grown_new h4 (Nat.le_refl _) _ _, by simpa using h5⟩
  rw [World.cell?_setCell_other w _ _ _ (fun e => by injection e with e; omega)]
  exact h3 j hj
theorem LsW.turned (h : LsW w W row x y d c l) {g : Nat} (hg : w.grownBy w' (some g)) (hr : row = some g) (hgl : g < W.heap.size) : LsW w' W row x y d c l := by
  obtain ⟨h1, h2, h3, h4, h5⟩ := h
  subst hr
  exact ⟨h1.grown hg (by simp; omega), h2.grown hg (by simp; omega), fun j hj => (World.cell?_of_block (hg.block (W.heap.size + 2) h5 (by simp; omega))).trans (h3 j hj), grown_trans h4 hg, Nat.lt_of_lt_of_le h5 hg.size⟩
theorem LsW.rdp (h : LsW w W row x y d c l) {B : Nat} {A : Option Addr} {p : List Px} (hp : RdP W B A p) (hB : B ≤ W.heap.size) (hr : ∀ g, row = some g → B ≤ g) : RdP w w.heap.size A p := Rd.more (Rd.grown hp h.2.2.2.1 hB hr) (Nat.le_trans hB h.2.2.2.1.size)
theorem LsW.low (h : LsW w W row x y d c l) {B : Nat} (hB : B ≤ W.heap.size) (hr : ∀ g, row = some g → B ≤ g) : Below B W w := ⟨h.2.2.2.1.os, h.2.2.2.1.tape, h.2.2.2.1.output, h.2.2.2.1.size, fun k hk => h.2.2.2.1.block k (by omega) (fun e => by have := hr k e.symm; omega)⟩
end
theorem lsw_start (x y d c l : Int) (W w1 : World) (row : Option Nat) (hb : Below (((W.alloc (.cells #[.int .i64 x, .int .i64 y, .int .i64 d, .int .i64 c, .int .i64 l] 26)).alloc (.cells #[.int .i64 0, .int .i64 0, .int .i64 0, .int .i64 0, .int .i64 0, .slice none 0 0, .slice none 0 0] 32))).heap.size (((W.alloc (.cells #[.int .i64 x, .int .i64 y, .int .i64 d, .int .i64 c, .int .i64 l] 26)).alloc (.cells #[.int .i64 0, .int .i64 0, .int .i64 0, .int .i64 0, .int .i64 0, .slice none 0 0, .slice none 0 0] 32))) w1)
    (hr : RdI w1 w1.heap.size (some ⟨W.heap.size + 2, 0, none⟩) (depthsM c)) : LsW w1 W row x y d c l := by
  have h1 := (Blk.new W 26 #[.int .i64 x, .int .i64 y, .int .i64 d, .int .i64 c, .int .i64 l]).alloc (.cells #[.int .i64 0, .int .i64 0, .int .i64 0, .int .i64 0, .int .i64 0, .slice none 0 0, .slice none 0 0] 32)
  have h2 := Blk.new (W.alloc (.cells #[.int .i64 x, .int .i64 y, .int .i64 d, .int .i64 c, .int .i64 l] 26)) 32 #[.int .i64 0, .int .i64 0, .int .i64 0, .int .i64 0, .int .i64 0, .slice none 0 0, .slice none 0 0]
  simp only [World.size_alloc] at h2
  have hdl : 0 < (depthsM c).length := by unfold depthsM; (repeat' split) <;> simp
  obtain ⟨b, off, hA, hbb, _⟩ := int_at hr hdl
  simp only [Option.some.injEq, Addr.mk.injEq] at hA
  obtain ⟨rfl, rfl, _⟩ := hA
  refine ⟨h1.below hb (by simp; omega), h2.below hb (by simp), fun j hj => ?_, ⟨hb.os, hb.tape, hb.output, by have := hb.size; simp at this; omega, fun k hk _ => ?_⟩, hbb⟩
  · obtain ⟨b, off, hA, _, hc⟩ := int_at hr hj
    simp only [Option.some.injEq, Addr.mk.injEq] at hA
    obtain ⟨rfl, rfl, _⟩ := hA
    rw [Nat.zero_add] at hc
    exact hc
  · have hx : Below W.heap.size W w1 := (((Below.refl W.heap.size W).alloc (Nat.le_refl _) _).alloc (by simp) _).trans (hb.mono (by simp; omega))
    exact hx.block k hk

/-- a form as it is -/
def idF (f : Fm) : Fm := f
theorem plain_mk (x y d c l : Int) (W : World) : Calls Try.prog 74 #[.agg #[.int .i64 x, .int .i64 y, .int .i64 d, .int .i64 c, .int .i64 l, .slice none 0 0, .slice none 0 0]] W fun e w' => MkEnd (idF (bare x y d c l)) W e w' ∧ Below W.heap.size W w' :=
  (plain_any (bare x y d c l) none none 0 0 W).mono fun _ _ h => ⟨⟨none, none, 0, 0, h.1, World.ownsRow_nil _ _ _ _, World.ownsRow_nil _ _ _ _⟩, h.2⟩

set_option maxRecDepth 100000 in
set_option maxHeartbeats 8000000 in
theorem least_plain (x y d c lc : Int) (A : Option Addr) (cc : Nat) (l : List Px) (B : Nat) (W : World) (hl : RdP W B A l) (hm : l.length ≤ 1000000) (hB : B ≤ W.heap.size) :
    Calls Try.prog 73 #[.agg #[.int .i64 x, .int .i64 y, .int .i64 d, .int .i64 c, .int .i64 lc], .slice A l.length cc, .func (.func 74) #[] #[]] W (LeastEnd (leastM idF x y c lc l) B W) := by
  have Hl := hid hl
  have Hrow := hid (show ∀ g', none = some g' → B ≤ g' by intro g' h; cases h)
  have hdl5 : (depthsM c).length ≤ 5 := by unfold depthsM; (repeat' split) <;> simp
  clear hl
  go_enter Try.func73, Try.ntmps73
  go_wp2_with fail
  refine (sdepths_any c _).mono ?_
  rintro e w1 ⟨dc, rfl, hr, hb⟩
  have Hw := hid (lsw_start x y d c lc W w1 none hb (by simpa using hr))
  have Hlm : Hid (leastM idF x y c lc l = tryM idF x y c lc l ((depthsM c).drop 0)) := rfl
  clear hr hb
  go_wp2_with fail
  go_loopw [15] (fun i wr => ∃ (j : Nat) (dd : Int), j ≤ (depthsM c).length ∧ i = .int .i64 j ∧ leastM idF x y c lc l = tryM idF x y c lc l ((depthsM c).drop j) ∧ LsW wr W (none) x y dd c lc) (fun i _ => (depthsM c).length - (intOf i).toNat)
  case atStart => exact ⟨0, d, by omega, rfl, Hlm.out, Hw.out⟩
  case round =>
    obtain ⟨j, dd, hj, rfl, hlm, hw⟩ := hrel
    have Hlj := hid hlm
    have Hwr := hid hw
    clear hlm hw Hw Hlm
    have hg := Hwr.out.1.lt
    have hg2 := Hwr.out.2.2.2.2
    have q0 := Hwr.out.1.cell 0
    have q1 := Hwr.out.1.cell 1
    have q2 := Hwr.out.1.cell 2
    have q3 := Hwr.out.1.cell 3
    have q4 := Hwr.out.1.cell 4
    simp only [List.getElem?_toArray, List.getElem?_cons_zero, List.getElem?_cons_succ] at q0 q1 q2 q3 q4
    have fq := fun i => Hwr.out.1.frozen i
    have fz := fun i => Hwr.out.2.1.frozen i
    have z0 := Hwr.out.2.1.cell 0
    have z1 := Hwr.out.2.1.cell 1
    have z2 := Hwr.out.2.1.cell 2
    have z3 := Hwr.out.2.1.cell 3
    have z4 := Hwr.out.2.1.cell 4
    have z5 := Hwr.out.2.1.cell 5
    have z6 := Hwr.out.2.1.cell 6
    simp only [List.getElem?_toArray, List.getElem?_cons_zero, List.getElem?_cons_succ] at z0 z1 z2 z3 z4 z5 z6
    by_cases hlt : j < (depthsM c).length
    · have d0 := Hwr.out.2.2.1 j hlt
      have Htd := hid (try_drop idF x y c lc l (depthsM c) j hlt)
      generalize (depthsM c)[j] = dj at *
      have Hw1 := hid (Hwr.out.deep dj)
      have hsz1 : W.heap.size + 2 < (wr.setCell ⟨W.heap.size, 2, none⟩ (.int .i64 dj)).heap.size := Hw1.out.2.2.2.2
      go_upto_region 5 with (fail)
      generalize wr.setCell ⟨W.heap.size, 2, none⟩ (.int .i64 dj) = wx at *
      clear q0 q1 q2 q3 q4 fq z0 z1 z2 z3 z4 z5 z6 fz d0
      have q0 := Hw1.out.1.cell 0
      have q1 := Hw1.out.1.cell 1
      have q2 := Hw1.out.1.cell 2
      have q3 := Hw1.out.1.cell 3
      have q4 := Hw1.out.1.cell 4
      simp only [List.getElem?_toArray, List.getElem?_cons_zero, List.getElem?_cons_succ] at q0 q1 q2 q3 q4
      go_wp2_with fail
      refine (plain_mk x y dj c lc wx).mono ?_
      rintro e w2 ⟨hmk, hb2⟩
      obtain ⟨PA, KA, pc, kc, rfl, ho⟩ := hmk
      have Hw2 := hid (Hw1.out.below hb2)
      have Ho2 := hid (ho.lower (base := W.heap.size) (by omega))
      obtain ⟨f, hfm⟩ : ∃ f, f = idF (bare x y dj c lc) := ⟨_, rfl⟩
      have Hfm := hid hfm
      rw [← hfm] at Ho2
      have Hpm := hid (show f.pal.length ≤ 1000000 by rw [hfm]; simp [idF, bare])
      have Hkm := hid (show f.key.length ≤ 1000000 by rw [hfm]; simp [idF, bare])
      rw [← hfm]
      clear hfm ho hb2
      have hg3 := Hw2.out.1.lt
      have hgz := Hw2.out.2.2.2.2
      have Hw3 := hid (Hw2.out.alloc (.cells #[.int .i64 f.w, .int .i64 f.h, .int .i64 f.d, .int .i64 f.c, .int .i64 f.l, .slice PA f.pal.length pc, .slice KA f.key.length kc] 32))
      have Ho3 := hid (Ho2.out.alloc (.cells #[.int .i64 f.w, .int .i64 f.h, .int .i64 f.d, .int .i64 f.c, .int .i64 f.l, .slice PA f.pal.length pc, .slice KA f.key.length kc] 32))
      have Hbx := hid (Blk.new w2 32 #[.int .i64 f.w, .int .i64 f.h, .int .i64 f.d, .int .i64 f.c, .int .i64 f.l, .slice PA f.pal.length pc, .slice KA f.key.length kc])
      clear q0 q1 q2 q3 q4
      go_wp2_with fail
      refine (fits_any f PA KA A pc kc cc l _ Ho3.out.rdp Ho3.out.rdi Hpm.out Hkm.out (Hw3.out.rdp Hl.out hB Hrow.out) hm).mono ?_
      rintro e w3 ⟨rfl, hb3⟩
      have Hw4 := hid (Hw3.out.below hb3)
      have Ho4 := hid (Ho3.out.below hb3 (Nat.le_refl _))
      have Hby := hid (Hbx.out.below hb3 (by simp))
      clear hb3
      cases hft : fitsB f l
      · have Hnx := hid (show leastM idF x y c lc l = tryM idF x y c lc l ((depthsM c).drop (j + 1)) by rw [Hlj.out, Htd.out, if_neg (by rw [← Hfm.out, hft]; simp)])
        clear hft
        go_wp2_with fail
        go_roundw
        case rel => exact ⟨j + 1, dj, by omega, by go_num, Hnx.out, Hw4.out⟩
        case measure => simp [intOf]; omega
      · have Hnx := hid (show leastM idF x y c lc l = some f by rw [Hlj.out, Htd.out, if_pos (by rw [← Hfm.out, hft]), ← Hfm.out])
        have hg4 := Hw4.out.1.lt
        have r0 := Hby.out.cell 0
        have r1 := Hby.out.cell 1
        have r2 := Hby.out.cell 2
        have r3 := Hby.out.cell 3
        have r4 := Hby.out.cell 4
        have r5 := Hby.out.cell 5
        have r6 := Hby.out.cell 6
        simp only [List.getElem?_toArray, List.getElem?_cons_zero, List.getElem?_cons_succ] at r0 r1 r2 r3 r4 r5 r6
        have z0 := Hw4.out.2.1.cell 0
        have z1 := Hw4.out.2.1.cell 1
        have z2 := Hw4.out.2.1.cell 2
        have z3 := Hw4.out.2.1.cell 3
        have z4 := Hw4.out.2.1.cell 4
        have z5 := Hw4.out.2.1.cell 5
        have z6 := Hw4.out.2.1.cell 6
        simp only [List.getElem?_toArray, List.getElem?_cons_zero, List.getElem?_cons_succ] at z0 z1 z2 z3 z4 z5 z6
        have fz := fun i => Hw4.out.2.1.frozen i
        have hyl := Hby.out.lt
        clear hft
        go_wp2_with fail
        refine bodyPost_ret (v := .tuple #[.agg #[.int .i64 f.w, .int .i64 f.h, .int .i64 f.d, .int .i64 f.c, .int .i64 f.l, .slice PA f.pal.length pc, .slice KA f.key.length kc], .bool true]) (by simp [results, Try.results73, go_sem, z0, z1, z2, z3, z4, z5, z6]) rfl ?_
        exact leastEnd_some Hnx.out rfl (Ho4.out.set7 Hw4.out.2.1 (by decide) (by decide) _ _ _ _ _ _ _) (below8 (Hw4.out.low hB Hrow.out) (by omega))
    · have Hnx := hid (show leastM idF x y c lc l = none by rw [Hlj.out, List.drop_eq_nil_of_le (by omega)]; rfl)
      go_wp2_with fail
      refine bodyPost_ret (v := .tuple #[.agg #[.int .i64 0, .int .i64 0, .int .i64 0, .int .i64 0, .int .i64 0, .slice none 0 0, .slice none 0 0], .bool false]) (by simp [results, Try.results73, go_sem, z0, z1, z2, z3, z4, z5, z6]) rfl ?_
      exact leastEnd_none Hnx.out (below8 (Hwr.out.low hB Hrow.out) (by omega))

set_option maxRecDepth 100000 in
set_option maxHeartbeats 8000000 in
theorem least_keyed (x y d c lc : Int) (a0 a1 a2 a3 : Int) (g : Nat) (A : Option Addr) (cc : Nat) (l : List Px) (B : Nat) (W : World) (hl : RdP W B A l) (hm : l.length ≤ 1000000) (hB : B ≤ W.heap.size) (hBg : B ≤ g) (hg0 : Blk W g 69 #[.int .i64 a0, .int .i64 a1, .int .i64 a2, .int .i64 a3]) :
    Calls Try.prog 73 #[.agg #[.int .i64 x, .int .i64 y, .int .i64 d, .int .i64 c, .int .i64 lc], .slice A l.length cc, .func (.func 117) #[] #[.pointer (some ⟨g, 0, none⟩)]] W (LeastEnd (leastM (mkKey (a0, a1, a2, a3)) x y c lc l) B W) := by
  have Hl := hid hl
  have Hrow := hid (show ∀ g', (some g) = some g' → B ≤ g' by intro g' h; injection h with h; omega)
  have Hk0 := hid hg0
  have hgl := hg0.lt
  clear hg0
  have hdl5 : (depthsM c).length ≤ 5 := by unfold depthsM; (repeat' split) <;> simp
  clear hl
  go_enter Try.func73, Try.ntmps73
  go_wp2_with fail
  refine (sdepths_any c _).mono ?_
  rintro e w1 ⟨dc, rfl, hr, hb⟩
  have Hw := hid (lsw_start x y d c lc W w1 (some g) hb (by simpa using hr))
  have Hkx := hid (show ∃ x3, Blk w1 g 69 #[.int .i64 a0, .int .i64 a1, .int .i64 a2, .int .i64 x3] from ⟨a3, ((Hk0.out.alloc _).alloc _).below hb (by have := Hk0.out.lt; simp; omega)⟩)
  have Hlm : Hid (leastM (mkKey (a0, a1, a2, a3)) x y c lc l = tryM (mkKey (a0, a1, a2, a3)) x y c lc l ((depthsM c).drop 0)) := rfl
  clear hr hb
  go_wp2_with fail
  go_loopw [15] (fun i wr => ∃ (j : Nat) (dd : Int), j ≤ (depthsM c).length ∧ i = .int .i64 j ∧ leastM (mkKey (a0, a1, a2, a3)) x y c lc l = tryM (mkKey (a0, a1, a2, a3)) x y c lc l ((depthsM c).drop j) ∧ LsW wr W ((some g)) x y dd c lc ∧ ∃ x3, Blk wr g 69 #[.int .i64 a0, .int .i64 a1, .int .i64 a2, .int .i64 x3]) (fun i _ => (depthsM c).length - (intOf i).toNat)
  case atStart => exact ⟨0, d, by omega, rfl, Hlm.out, Hw.out, Hkx.out⟩
  case round =>
    obtain ⟨j, dd, hj, rfl, hlm, hw, hkx⟩ := hrel
    have Hlj := hid hlm
    have Hwr := hid hw
    have Hkr := hid hkx
    clear hlm hw Hw Hlm hkx Hkx
    have hg := Hwr.out.1.lt
    have hg2 := Hwr.out.2.2.2.2
    have q0 := Hwr.out.1.cell 0
    have q1 := Hwr.out.1.cell 1
    have q2 := Hwr.out.1.cell 2
    have q3 := Hwr.out.1.cell 3
    have q4 := Hwr.out.1.cell 4
    simp only [List.getElem?_toArray, List.getElem?_cons_zero, List.getElem?_cons_succ] at q0 q1 q2 q3 q4
    have fq := fun i => Hwr.out.1.frozen i
    have fz := fun i => Hwr.out.2.1.frozen i
    have z0 := Hwr.out.2.1.cell 0
    have z1 := Hwr.out.2.1.cell 1
    have z2 := Hwr.out.2.1.cell 2
    have z3 := Hwr.out.2.1.cell 3
    have z4 := Hwr.out.2.1.cell 4
    have z5 := Hwr.out.2.1.cell 5
    have z6 := Hwr.out.2.1.cell 6
    simp only [List.getElem?_toArray, List.getElem?_cons_zero, List.getElem?_cons_succ] at z0 z1 z2 z3 z4 z5 z6
    by_cases hlt : j < (depthsM c).length
    · have d0 := Hwr.out.2.2.1 j hlt
      have Htd := hid (try_drop (mkKey (a0, a1, a2, a3)) x y c lc l (depthsM c) j hlt)
      generalize (depthsM c)[j] = dj at *
      have Hw1 := hid (Hwr.out.deep dj)
      have hsz1 : W.heap.size + 2 < (wr.setCell ⟨W.heap.size, 2, none⟩ (.int .i64 dj)).heap.size := Hw1.out.2.2.2.2
      obtain ⟨x3, hkb⟩ := Hkr.out
      have Hkw := hid (hkb.far (p := ⟨W.heap.size, 2, none⟩) (by show g ≠ W.heap.size; omega) (.int .i64 dj))
      clear hkb
      go_upto_region 5 with (fail)
      generalize wr.setCell ⟨W.heap.size, 2, none⟩ (.int .i64 dj) = wx at *
      clear q0 q1 q2 q3 q4 fq z0 z1 z2 z3 z4 z5 z6 fz d0
      have q0 := Hw1.out.1.cell 0
      have q1 := Hw1.out.1.cell 1
      have q2 := Hw1.out.1.cell 2
      have q3 := Hw1.out.1.cell 3
      have q4 := Hw1.out.1.cell 4
      simp only [List.getElem?_toArray, List.getElem?_cons_zero, List.getElem?_cons_succ] at q0 q1 q2 q3 q4
      go_wp2_with fail
      refine (keyf_any x y dj c lc a0 a1 a2 x3 g wx Hkw.out).mono ?_
      rintro e w2 ⟨hmk, hk2, hgr2⟩
      obtain ⟨PA, KA, pc, kc, rfl, ho⟩ := hmk
      have Hw2 := hid (Hw1.out.turned hgr2 rfl hgl)
      have Hk2 := hid hk2
      have hmkk : mkKey (a0, a1, a2, x3) (bare x y dj c lc) = mkKey (a0, a1, a2, a3) (bare x y dj c lc) := rfl
      rw [hmkk] at ho ⊢
      have Ho2 := hid (ho.lower (base := W.heap.size) (by omega))
      obtain ⟨f, hfm⟩ : ∃ f, f = mkKey (a0, a1, a2, a3) (bare x y dj c lc) := ⟨_, rfl⟩
      have Hfm := hid hfm
      rw [← hfm] at Ho2
      have Hpm := hid (show f.pal.length ≤ 1000000 by rw [hfm]; simp [mkKey, bare])
      have Hkm := hid (show f.key.length ≤ 1000000 by rw [hfm]; have := key_len (bare x y dj c lc) (a0, a1, a2, a3); simp only [mkKey]; omega)
      rw [← hfm]
      clear hfm ho hk2 hgr2 hmkk
      have hg3 := Hw2.out.1.lt
      have hgz := Hw2.out.2.2.2.2
      have Hw3 := hid (Hw2.out.alloc (.cells #[.int .i64 f.w, .int .i64 f.h, .int .i64 f.d, .int .i64 f.c, .int .i64 f.l, .slice PA f.pal.length pc, .slice KA f.key.length kc] 32))
      have Ho3 := hid (Ho2.out.alloc (.cells #[.int .i64 f.w, .int .i64 f.h, .int .i64 f.d, .int .i64 f.c, .int .i64 f.l, .slice PA f.pal.length pc, .slice KA f.key.length kc] 32))
      have Hbx := hid (Blk.new w2 32 #[.int .i64 f.w, .int .i64 f.h, .int .i64 f.d, .int .i64 f.c, .int .i64 f.l, .slice PA f.pal.length pc, .slice KA f.key.length kc])
      clear q0 q1 q2 q3 q4
      go_wp2_with fail
      refine (fits_any f PA KA A pc kc cc l _ Ho3.out.rdp Ho3.out.rdi Hpm.out Hkm.out (Hw3.out.rdp Hl.out hB Hrow.out) hm).mono ?_
      rintro e w3 ⟨rfl, hb3⟩
      have Hw4 := hid (Hw3.out.below hb3)
      have Ho4 := hid (Ho3.out.below hb3 (Nat.le_refl _))
      have Hby := hid (Hbx.out.below hb3 (by simp))
      have Hk4 := hid ((Hk2.out.alloc _).below hb3 (by have := Hk2.out.lt; simp; omega))
      clear hb3
      cases hft : fitsB f l
      · have Hnx := hid (show leastM (mkKey (a0, a1, a2, a3)) x y c lc l = tryM (mkKey (a0, a1, a2, a3)) x y c lc l ((depthsM c).drop (j + 1)) by rw [Hlj.out, Htd.out, if_neg (by rw [← Hfm.out, hft]; simp)])
        clear hft
        go_wp2_with fail
        go_roundw
        case rel => exact ⟨j + 1, dj, by omega, by go_num, Hnx.out, Hw4.out, 65535, Hk4.out⟩
        case measure => simp [intOf]; omega
      · have Hnx := hid (show leastM (mkKey (a0, a1, a2, a3)) x y c lc l = some f by rw [Hlj.out, Htd.out, if_pos (by rw [← Hfm.out, hft]), ← Hfm.out])
        have hg4 := Hw4.out.1.lt
        have r0 := Hby.out.cell 0
        have r1 := Hby.out.cell 1
        have r2 := Hby.out.cell 2
        have r3 := Hby.out.cell 3
        have r4 := Hby.out.cell 4
        have r5 := Hby.out.cell 5
        have r6 := Hby.out.cell 6
        simp only [List.getElem?_toArray, List.getElem?_cons_zero, List.getElem?_cons_succ] at r0 r1 r2 r3 r4 r5 r6
        have z0 := Hw4.out.2.1.cell 0
        have z1 := Hw4.out.2.1.cell 1
        have z2 := Hw4.out.2.1.cell 2
        have z3 := Hw4.out.2.1.cell 3
        have z4 := Hw4.out.2.1.cell 4
        have z5 := Hw4.out.2.1.cell 5
        have z6 := Hw4.out.2.1.cell 6
        simp only [List.getElem?_toArray, List.getElem?_cons_zero, List.getElem?_cons_succ] at z0 z1 z2 z3 z4 z5 z6
        have fz := fun i => Hw4.out.2.1.frozen i
        have hyl := Hby.out.lt
        clear hft
        go_wp2_with fail
        refine bodyPost_ret (v := .tuple #[.agg #[.int .i64 f.w, .int .i64 f.h, .int .i64 f.d, .int .i64 f.c, .int .i64 f.l, .slice PA f.pal.length pc, .slice KA f.key.length kc], .bool true]) (by simp [results, Try.results73, go_sem, z0, z1, z2, z3, z4, z5, z6]) rfl ?_
        exact leastEnd_some Hnx.out rfl (Ho4.out.set7 Hw4.out.2.1 (by decide) (by decide) _ _ _ _ _ _ _) (below8 (Hw4.out.low hB Hrow.out) (by omega))
    · have Hnx := hid (show leastM (mkKey (a0, a1, a2, a3)) x y c lc l = none by rw [Hlj.out, List.drop_eq_nil_of_le (by omega)]; rfl)
      go_wp2_with fail
      refine bodyPost_ret (v := .tuple #[.agg #[.int .i64 0, .int .i64 0, .int .i64 0, .int .i64 0, .int .i64 0, .slice none 0 0, .slice none 0 0], .bool false]) (by simp [results, Try.results73, go_sem, z0, z1, z2, z3, z4, z5, z6]) rfl ?_
      exact leastEnd_none Hnx.out (below8 (Hwr.out.low hB Hrow.out) (by omega))

set_option maxRecDepth 100000 in
set_option maxHeartbeats 8000000 in
theorem least_pal (x y d c lc : Int) (g : Nat) (QA : Option Addr) (pl : List Px) (qc : Nat) (A : Option Addr) (cc : Nat) (l : List Px) (B : Nat) (W : World) (hl : RdP W B A l) (hm : l.length ≤ 1000000) (hB : B ≤ W.heap.size) (hg0 : Blk W g 22 #[.slice QA (palM pl).length qc]) (hq : W.ownsRow 0 69 4 (.slice QA (palM pl).length qc) (palM pl).length ((palM pl).flatMap encP)) (hpl : (palM pl).length ≤ 1000000) :
    Calls Try.prog 73 #[.agg #[.int .i64 x, .int .i64 y, .int .i64 d, .int .i64 c, .int .i64 lc], .slice A l.length cc, .func (.func 79) #[] #[.pointer (some ⟨g, 0, none⟩)]] W (LeastEnd (leastM (mkPal pl) x y c lc l) B W) := by
  have Hl := hid hl
  have Hrow := hid (show ∀ g', none = some g' → B ≤ g' by intro g' h; cases h)
  have Hg0 := hid hg0
  have hgl := hg0.lt
  have Hq := hid hq
  have Hqn := hid (fun h => own_nil_n hq h)
  clear hg0 hq
  have hdl5 : (depthsM c).length ≤ 5 := by unfold depthsM; (repeat' split) <;> simp
  clear hl
  go_enter Try.func73, Try.ntmps73
  go_wp2_with fail
  refine (sdepths_any c _).mono ?_
  rintro e w1 ⟨dc, rfl, hr, hb⟩
  have Hw := hid (lsw_start x y d c lc W w1 none hb (by simpa using hr))
  have Hlm : Hid (leastM (mkPal pl) x y c lc l = tryM (mkPal pl) x y c lc l ((depthsM c).drop 0)) := rfl
  clear hr hb
  go_wp2_with fail
  go_loopw [15] (fun i wr => ∃ (j : Nat) (dd : Int), j ≤ (depthsM c).length ∧ i = .int .i64 j ∧ leastM (mkPal pl) x y c lc l = tryM (mkPal pl) x y c lc l ((depthsM c).drop j) ∧ LsW wr W (none) x y dd c lc) (fun i _ => (depthsM c).length - (intOf i).toNat)
  case atStart => exact ⟨0, d, by omega, rfl, Hlm.out, Hw.out⟩
  case round =>
    obtain ⟨j, dd, hj, rfl, hlm, hw⟩ := hrel
    have Hlj := hid hlm
    have Hwr := hid hw
    clear hlm hw Hw Hlm
    have hg := Hwr.out.1.lt
    have hg2 := Hwr.out.2.2.2.2
    have q0 := Hwr.out.1.cell 0
    have q1 := Hwr.out.1.cell 1
    have q2 := Hwr.out.1.cell 2
    have q3 := Hwr.out.1.cell 3
    have q4 := Hwr.out.1.cell 4
    simp only [List.getElem?_toArray, List.getElem?_cons_zero, List.getElem?_cons_succ] at q0 q1 q2 q3 q4
    have fq := fun i => Hwr.out.1.frozen i
    have fz := fun i => Hwr.out.2.1.frozen i
    have z0 := Hwr.out.2.1.cell 0
    have z1 := Hwr.out.2.1.cell 1
    have z2 := Hwr.out.2.1.cell 2
    have z3 := Hwr.out.2.1.cell 3
    have z4 := Hwr.out.2.1.cell 4
    have z5 := Hwr.out.2.1.cell 5
    have z6 := Hwr.out.2.1.cell 6
    simp only [List.getElem?_toArray, List.getElem?_cons_zero, List.getElem?_cons_succ] at z0 z1 z2 z3 z4 z5 z6
    by_cases hlt : j < (depthsM c).length
    · have d0 := Hwr.out.2.2.1 j hlt
      have Htd := hid (try_drop (mkPal pl) x y c lc l (depthsM c) j hlt)
      generalize (depthsM c)[j] = dj at *
      have Hw1 := hid (Hwr.out.deep dj)
      have hsz1 : W.heap.size + 2 < (wr.setCell ⟨W.heap.size, 2, none⟩ (.int .i64 dj)).heap.size := Hw1.out.2.2.2.2
      have Hgx := hid (show Blk (wr.setCell ⟨W.heap.size, 2, none⟩ (.int .i64 dj)) g 22 #[.slice QA (palM pl).length qc] from Blk.far (Hg0.out.grown Hwr.out.2.2.2.1 (by simp)) (p := ⟨W.heap.size, 2, none⟩) (by show g ≠ W.heap.size; omega) (.int .i64 dj))
      have Hqx := hid (ownsRow_setCell_other (a := ⟨W.heap.size, 2, none⟩) (Hq.out.kept Hwr.out.2.2.2.1 (by cases h : (Value.slice QA (palM pl).length qc).ownBlock with | none => exact .inl rfl | some k => exact .inr (by simp))) (fun e => by have := (Hq.out.lt W.heap.size e).2; omega) (.int .i64 dj))
      go_upto_region 5 with (fail)
      generalize wr.setCell ⟨W.heap.size, 2, none⟩ (.int .i64 dj) = wx at *
      clear q0 q1 q2 q3 q4 fq z0 z1 z2 z3 z4 z5 z6 fz d0
      have q0 := Hw1.out.1.cell 0
      have q1 := Hw1.out.1.cell 1
      have q2 := Hw1.out.1.cell 2
      have q3 := Hw1.out.1.cell 3
      have q4 := Hw1.out.1.cell 4
      simp only [List.getElem?_toArray, List.getElem?_cons_zero, List.getElem?_cons_succ] at q0 q1 q2 q3 q4
      go_wp2_with fail
      refine (palf_any x y dj c lc g QA pl qc wx Hgx.out (own_rdp Hqx.out) Hqn.out hpl).mono ?_
      rintro e w2 ⟨hmk, hb2⟩
      obtain ⟨PA, KA, pc, kc, rfl, ho⟩ := hmk
      have Hw2 := hid (Hw1.out.below hb2)
      have Ho2 := hid (ho.lower (base := W.heap.size) (by omega))
      obtain ⟨f, hfm⟩ : ∃ f, f = mkPal pl (bare x y dj c lc) := ⟨_, rfl⟩
      have Hfm := hid hfm
      rw [← hfm] at Ho2
      have Hpm := hid (show f.pal.length ≤ 1000000 by rw [hfm]; simp only [mkPal]; omega)
      have Hkm := hid (show f.key.length ≤ 1000000 by rw [hfm]; simp [mkPal, bare])
      rw [← hfm]
      clear hfm ho hb2
      have hg3 := Hw2.out.1.lt
      have hgz := Hw2.out.2.2.2.2
      have Hw3 := hid (Hw2.out.alloc (.cells #[.int .i64 f.w, .int .i64 f.h, .int .i64 f.d, .int .i64 f.c, .int .i64 f.l, .slice PA f.pal.length pc, .slice KA f.key.length kc] 32))
      have Ho3 := hid (Ho2.out.alloc (.cells #[.int .i64 f.w, .int .i64 f.h, .int .i64 f.d, .int .i64 f.c, .int .i64 f.l, .slice PA f.pal.length pc, .slice KA f.key.length kc] 32))
      have Hbx := hid (Blk.new w2 32 #[.int .i64 f.w, .int .i64 f.h, .int .i64 f.d, .int .i64 f.c, .int .i64 f.l, .slice PA f.pal.length pc, .slice KA f.key.length kc])
      clear q0 q1 q2 q3 q4
      go_wp2_with fail
      refine (fits_any f PA KA A pc kc cc l _ Ho3.out.rdp Ho3.out.rdi Hpm.out Hkm.out (Hw3.out.rdp Hl.out hB Hrow.out) hm).mono ?_
      rintro e w3 ⟨rfl, hb3⟩
      have Hw4 := hid (Hw3.out.below hb3)
      have Ho4 := hid (Ho3.out.below hb3 (Nat.le_refl _))
      have Hby := hid (Hbx.out.below hb3 (by simp))
      clear hb3
      cases hft : fitsB f l
      · have Hnx := hid (show leastM (mkPal pl) x y c lc l = tryM (mkPal pl) x y c lc l ((depthsM c).drop (j + 1)) by rw [Hlj.out, Htd.out, if_neg (by rw [← Hfm.out, hft]; simp)])
        clear hft
        go_wp2_with fail
        go_roundw
        case rel => exact ⟨j + 1, dj, by omega, by go_num, Hnx.out, Hw4.out⟩
        case measure => simp [intOf]; omega
      · have Hnx := hid (show leastM (mkPal pl) x y c lc l = some f by rw [Hlj.out, Htd.out, if_pos (by rw [← Hfm.out, hft]), ← Hfm.out])
        have hg4 := Hw4.out.1.lt
        have r0 := Hby.out.cell 0
        have r1 := Hby.out.cell 1
        have r2 := Hby.out.cell 2
        have r3 := Hby.out.cell 3
        have r4 := Hby.out.cell 4
        have r5 := Hby.out.cell 5
        have r6 := Hby.out.cell 6
        simp only [List.getElem?_toArray, List.getElem?_cons_zero, List.getElem?_cons_succ] at r0 r1 r2 r3 r4 r5 r6
        have z0 := Hw4.out.2.1.cell 0
        have z1 := Hw4.out.2.1.cell 1
        have z2 := Hw4.out.2.1.cell 2
        have z3 := Hw4.out.2.1.cell 3
        have z4 := Hw4.out.2.1.cell 4
        have z5 := Hw4.out.2.1.cell 5
        have z6 := Hw4.out.2.1.cell 6
        simp only [List.getElem?_toArray, List.getElem?_cons_zero, List.getElem?_cons_succ] at z0 z1 z2 z3 z4 z5 z6
        have fz := fun i => Hw4.out.2.1.frozen i
        have hyl := Hby.out.lt
        clear hft
        go_wp2_with fail
        refine bodyPost_ret (v := .tuple #[.agg #[.int .i64 f.w, .int .i64 f.h, .int .i64 f.d, .int .i64 f.c, .int .i64 f.l, .slice PA f.pal.length pc, .slice KA f.key.length kc], .bool true]) (by simp [results, Try.results73, go_sem, z0, z1, z2, z3, z4, z5, z6]) rfl ?_
        exact leastEnd_some Hnx.out rfl (Ho4.out.set7 Hw4.out.2.1 (by decide) (by decide) _ _ _ _ _ _ _) (below8 (Hw4.out.low hB Hrow.out) (by omega))
    · have Hnx := hid (show leastM (mkPal pl) x y c lc l = none by rw [Hlj.out, List.drop_eq_nil_of_le (by omega)]; rfl)
      go_wp2_with fail
      refine bodyPost_ret (v := .tuple #[.agg #[.int .i64 0, .int .i64 0, .int .i64 0, .int .i64 0, .int .i64 0, .slice none 0 0, .slice none 0 0], .bool false]) (by simp [results, Try.results73, go_sem, z0, z1, z2, z3, z4, z5, z6]) rfl ?_
      exact leastEnd_none Hnx.out (below8 (Hwr.out.low hB Hrow.out) (by omega))

end Go.Proofs.Ytchkogfgkaaogaa
