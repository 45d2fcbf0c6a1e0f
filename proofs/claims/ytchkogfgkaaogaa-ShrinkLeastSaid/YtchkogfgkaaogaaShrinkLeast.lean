/-
  ShrinkLeast: for every raster and form the law returns true. No condition.
-/
import Derived.Test.YtchkogfgkaaogaaL18B
import Derived.Test.YtchkogfgkaaogaaRefD
import Derived.Test.YtchkogfgkaaogaaShLeast
namespace Go.Proofs.Ytchkogfgkaaogaa.ShrinkLeast
open Go.ChangeShapes Go.WideShapes Go.ChangeAt Go.RowKit Go.Proofs.Ytchkogfgkaaogaa Go.Shelf

theorem bestM_mem (f0 : Fm) : ∀ (n : Nat) (fs : List Fm), fs.length = n → bestM f0 fs = f0 ∨ bestM f0 fs ∈ fs
  | 0, fs, h => by rw [List.eq_nil_of_length_eq_zero h]; exact .inl rfl
  | n + 1, fs, h => by
    rcases List.eq_nil_or_concat fs with rfl | ⟨pre, x, rfl⟩
    · simp at h
    · rw [List.concat_eq_append] at *
      rw [bestM_snoc]
      by_cases hs : sizeM x < sizeM (bestM f0 pre)
      · rw [if_pos hs]; exact .inr (by simp)
      · rw [if_neg hs]
        rcases bestM_mem f0 n pre (by simpa using h) with h1 | h1
        · exact .inl h1
        · exact .inr (List.mem_append_left _ h1)
theorem bestOf_mem {fs : List Fm} (h : fs ≠ []) : bestOf fs ∈ fs := by
  cases fs with
  | nil => exact absurd rfl h
  | cons f fs =>
    rcases bestM_mem f fs.length fs rfl with h1 | h1
    · show bestM f fs ∈ _
      rw [h1]; simp
    · exact List.mem_cons_of_mem _ h1
/-- the law's boxes: the raster, the form -/
def LL (w W : World) (x y : Int) (PR : Option Addr) (n pr : Nat) (f : Fm) (PA KA : Option Addr) (pc kc : Nat) : Prop :=
  Blk w W.heap.size 24 #[.int .i64 x, .int .i64 y, .slice PR n pr] ∧ Blk w (W.heap.size + 1) 29 #[.int .i64 f.w, .int .i64 f.h, .int .i64 f.d, .int .i64 f.c, .int .i64 f.l, .slice PA f.pal.length pc, .slice KA f.key.length kc] ∧ Below W.heap.size W w
section
variable {w w' W : World} {x y : Int} {PR PA KA : Option Addr} {n pr pc kc : Nat} {f : Fm}
theorem LL.below (h : LL w W x y PR n pr f PA KA pc kc) (hb : Below w.heap.size w w') : LL w' W x y PR n pr f PA KA pc kc := ⟨h.1.below hb h.1.lt, h.2.1.below hb h.2.1.lt, h.2.2.trans (hb.mono h.2.2.size)⟩
theorem LL.alloc (h : LL w W x y PR n pr f PA KA pc kc) (o : Obj) : LL (w.alloc o) W x y PR n pr f PA KA pc kc := h.below ((Below.refl _ _).alloc (Nat.le_refl _) o)
theorem LL.rdx {l : List Px} {A : Option Addr} (h : LL w W x y PR n pr f PA KA pc kc) (hp : RdP W W.heap.size A l) : RdP w w.heap.size A l := (Rd.below hp h.2.2 (Nat.le_refl _)).more h.2.2.size
theorem LL.rdi {l : List Int} {A : Option Addr} (h : LL w W x y PR n pr f PA KA pc kc) (hk : RdI W W.heap.size A l) : RdI w w.heap.size A l := (RdI.below hk h.2.2 (Nat.le_refl _)).more h.2.2.size
end
theorem ll_start (x y : Int) (PR : Option Addr) (n pr : Nat) (f : Fm) (PA KA : Option Addr) (pc kc : Nat) (W : World) : LL ((W.alloc (.cells #[.int .i64 x, .int .i64 y, .slice PR n pr] 24)).alloc (.cells #[.int .i64 f.w, .int .i64 f.h, .int .i64 f.d, .int .i64 f.c, .int .i64 f.l, .slice PA f.pal.length pc, .slice KA f.key.length kc] 29)) W x y PR n pr f PA KA pc kc := by
  have h := Blk.new (W.alloc (.cells #[.int .i64 x, .int .i64 y, .slice PR n pr] 24)) 29 #[.int .i64 f.w, .int .i64 f.h, .int .i64 f.d, .int .i64 f.c, .int .i64 f.l, .slice PA f.pal.length pc, .slice KA f.key.length kc]
  rw [World.size_alloc] at h
  exact ⟨(Blk.new W _ _).alloc _, h, ((Below.refl _ _).alloc (Nat.le_refl _) _).alloc (by simp) _⟩
/-- does the form hold the raster, as the law asks it? -/
def holdsL (f : Fm) (x y : Int) (px : List Px) : Bool := decide (f.w = x) && decide (f.h = y) && fitsB f px
theorem holdsL_eq (f : Fm) (x y : Int) (px : List Px) : holdsM f x y px = holdsL f x y px := by
  unfold holdsM holdsL
  rw [fits_unl]
  congr 1
  congr 1
  · exact decide_eq_decide.2 ⟨Eq.symm, Eq.symm⟩
  · exact decide_eq_decide.2 ⟨Eq.symm, Eq.symm⟩

set_option maxRecDepth 100000 in
set_option maxHeartbeats 8000000 in
theorem walk_easy (x y : Int) (PR : Option Addr) (pr : Nat) (px : List Px) (f : Fm) (PA KA : Option Addr) (pc kc : Nat) (W : World) (hx : RdP W W.heap.size PR px) (he : 500 < px.length ∨ 400 < f.pal.length ∨ 50 < f.key.length ∨ rasOk x y px = false) :
    Calls Try.prog 3 #[.agg #[.int .i64 x, .int .i64 y, .slice PR px.length pr], .agg #[.int .i64 f.w, .int .i64 f.h, .int .i64 f.d, .int .i64 f.c, .int .i64 f.l, .slice PA f.pal.length pc, .slice KA f.key.length kc]] W fun e w' => e = .returned (.bool true) ∧ Below W.heap.size W w' := by
  have Hx := hid hx
  have Hw := hid (ll_start x y PR px.length pr f PA KA pc kc W)
  have He := hid he
  clear hx he
  go_enter Try.func3, Try.ntmps3
  go_wp2_with fail
  refine (alive18_any _).mono ?_
  rintro e w1 ⟨rfl, hb⟩
  have L1 := hid (Hw.out.below hb)
  have q0 := L1.out.1.cell 0
  have q1 := L1.out.1.cell 1
  have q2 := L1.out.1.cell 2
  simp only [List.getElem?_toArray, List.getElem?_cons_zero, List.getElem?_cons_succ] at q0 q1 q2
  clear hb Hw
  go_wp2_with fail
  refine (large18_any x y PR px.length pr _).mono ?_
  rintro e w2 ⟨rfl, hb⟩
  have L2 := hid (L1.out.below hb)
  clear q0 q1 q2
  have q0 := L2.out.1.cell 0
  have q1 := L2.out.1.cell 1
  have q2 := L2.out.1.cell 2
  simp only [List.getElem?_toArray, List.getElem?_cons_zero, List.getElem?_cons_succ] at q0 q1 q2
  have r0 := L2.out.2.1.cell 0
  have r1 := L2.out.2.1.cell 1
  have r2 := L2.out.2.1.cell 2
  have r3 := L2.out.2.1.cell 3
  have r4 := L2.out.2.1.cell 4
  have r5 := L2.out.2.1.cell 5
  have r6 := L2.out.2.1.cell 6
  simp only [List.getElem?_toArray, List.getElem?_cons_zero, List.getElem?_cons_succ] at r0 r1 r2 r3 r4 r5 r6
  clear hb L1
  cases hl : largeR px.length
  case true =>
    clear hl
    go_wp2
    go_ret
    exact ⟨rfl, L2.out.2.2⟩
  have hm5 : px.length ≤ 500 := by unfold largeR at hl; simpa using hl
  clear hl
  by_cases h1 : 400 < f.pal.length
  · have d1 : decide ((400 : Int) < (f.pal.length : Int)) = true := decide_eq_true (by omega)
    clear h1
    go_wp2
    go_ret
    exact ⟨rfl, L2.out.2.2⟩
  have d1 : decide ((400 : Int) < (f.pal.length : Int)) = false := decide_eq_false (by omega)
  by_cases h2 : 50 < f.key.length
  · have d2 : decide ((50 : Int) < (f.key.length : Int)) = true := decide_eq_true (by omega)
    clear h1 h2
    go_wp2
    go_ret
    exact ⟨rfl, L2.out.2.2⟩
  have d2 : decide ((50 : Int) < (f.key.length : Int)) = false := decide_eq_false (by omega)
  have Hr := hid (show rasOk x y px = false by
    rcases He.out with h | h | h | h
    · omega
    · exact absurd h h1
    · exact absurd h h2
    · exact h)
  clear h1 h2
  go_wp2_with fail
  refine (rgood_any x y PR pr px _ (L2.out.rdx Hx.out) (by omega)).mono ?_
  rintro e w3 ⟨rfl, hb⟩
  have L3 := hid (L2.out.below hb)
  rw [Hr.out]
  clear hb
  go_wp2
  go_ret
  exact ⟨rfl, L3.out.2.2⟩

set_option maxRecDepth 100000 in
set_option maxHeartbeats 16000000 in
theorem walk_hard (x y : Int) (PR : Option Addr) (pr : Nat) (px : List Px) (f : Fm) (PA KA : Option Addr) (pc kc : Nat) (W : World) (hx : RdP W W.heap.size PR px) (hp : RdP W W.heap.size PA f.pal) (hk : RdI W W.heap.size KA f.key)
    (hm5 : px.length ≤ 500) (hp4 : f.pal.length ≤ 400) (hk5 : f.key.length ≤ 50) (hr : rasOk x y px = true) :
    Calls Try.prog 3 #[.agg #[.int .i64 x, .int .i64 y, .slice PR px.length pr], .agg #[.int .i64 f.w, .int .i64 f.h, .int .i64 f.d, .int .i64 f.c, .int .i64 f.l, .slice PA f.pal.length pc, .slice KA f.key.length kc]] W fun e w' => e = .returned (.bool true) ∧ Below W.heap.size W w' := by
  have Hx := hid hx
  have Hp := hid hp
  have Hk := hid hk
  have Hr := hid hr
  have Hw := hid (ll_start x y PR px.length pr f PA KA pc kc W)
  have Hlg := hid (show largeR px.length = false from decide_eq_false (by omega))
  have d1 : decide ((400 : Int) < (f.pal.length : Int)) = false := decide_eq_false (by omega)
  have d2 : decide ((50 : Int) < (f.key.length : Int)) = false := decide_eq_false (by omega)
  have hm : px.length ≤ 1000000 := by omega
  have hpm : f.pal.length ≤ 1000000 := by omega
  have hkm : f.key.length ≤ 1000000 := by omega
  clear hx hp hk hr
  go_enter Try.func3, Try.ntmps3
  go_wp2_with fail
  refine (alive18_any _).mono ?_
  rintro e w1 ⟨rfl, hb⟩
  have L1 := hid (Hw.out.below hb)
  have q0 := L1.out.1.cell 0
  have q1 := L1.out.1.cell 1
  have q2 := L1.out.1.cell 2
  simp only [List.getElem?_toArray, List.getElem?_cons_zero, List.getElem?_cons_succ] at q0 q1 q2
  clear hb Hw
  go_wp2_with fail
  refine (large18_any x y PR px.length pr _).mono ?_
  rintro e w2 ⟨rfl, hb⟩
  have L2 := hid (L1.out.below hb)
  rw [Hlg.out]
  clear q0 q1 q2
  have q0 := L2.out.1.cell 0
  have q1 := L2.out.1.cell 1
  have q2 := L2.out.1.cell 2
  simp only [List.getElem?_toArray, List.getElem?_cons_zero, List.getElem?_cons_succ] at q0 q1 q2
  have r0 := L2.out.2.1.cell 0
  have r1 := L2.out.2.1.cell 1
  have r2 := L2.out.2.1.cell 2
  have r3 := L2.out.2.1.cell 3
  have r4 := L2.out.2.1.cell 4
  have r5 := L2.out.2.1.cell 5
  have r6 := L2.out.2.1.cell 6
  simp only [List.getElem?_toArray, List.getElem?_cons_zero, List.getElem?_cons_succ] at r0 r1 r2 r3 r4 r5 r6
  clear hb L1
  go_wp2_with fail
  refine (rgood_any x y PR pr px _ (L2.out.rdx Hx.out) hm).mono ?_
  rintro e w3 ⟨rfl, hb⟩
  have L3 := hid ((L2.out.below hb).alloc (.cells #[.int .i64 f.w, .int .i64 f.h, .int .i64 f.d, .int .i64 f.c, .int .i64 f.l, .slice PA f.pal.length pc, .slice KA f.key.length kc] 32))
  have G3 := hid (Blk.new w3 32 #[.int .i64 f.w, .int .i64 f.h, .int .i64 f.d, .int .i64 f.c, .int .i64 f.l, .slice PA f.pal.length pc, .slice KA f.key.length kc])
  have L3b := hid (L2.out.below hb)
  rw [Hr.out]
  clear q0 q1 q2 r0 r1 r2 r3 r4 r5 r6
  have r0 := L3b.out.2.1.cell 0
  have r1 := L3b.out.2.1.cell 1
  have r2 := L3b.out.2.1.cell 2
  have r3 := L3b.out.2.1.cell 3
  have r4 := L3b.out.2.1.cell 4
  have r5 := L3b.out.2.1.cell 5
  have r6 := L3b.out.2.1.cell 6
  simp only [List.getElem?_toArray, List.getElem?_cons_zero, List.getElem?_cons_succ] at r0 r1 r2 r3 r4 r5 r6
  clear hb L2
  have g3 : W.heap.size + 1 < w3.heap.size := L3b.out.2.1.lt
  go_upto_region 6 with (fail)
  clear r0 r1 r2 r3 r4 r5 r6
  clear d1 d2 L3b
  generalize w3.alloc (.cells #[.int .i64 f.w, .int .i64 f.h, .int .i64 f.d, .int .i64 f.c, .int .i64 f.l, .slice PA f.pal.length pc, .slice KA f.key.length kc] 32) = w4 at *
  generalize w3.heap.size = g at *
  have q0 := L3.out.1.cell 0
  have q1 := L3.out.1.cell 1
  have q2 := L3.out.1.cell 2
  simp only [List.getElem?_toArray, List.getElem?_cons_zero, List.getElem?_cons_succ] at q0 q1 q2
  have r0 := L3.out.2.1.cell 0
  have r1 := L3.out.2.1.cell 1
  have r2 := L3.out.2.1.cell 2
  have r3 := L3.out.2.1.cell 3
  have r4 := L3.out.2.1.cell 4
  have r5 := L3.out.2.1.cell 5
  have r6 := L3.out.2.1.cell 6
  simp only [List.getElem?_toArray, List.getElem?_cons_zero, List.getElem?_cons_succ] at r0 r1 r2 r3 r4 r5 r6
  go_cut [6] from 37 to 56 (fun b wc => b = .bool (holdsL f x y px) ∧ LL wc W x y PR px.length pr f PA KA pc kc ∧ Blk wc g 32 #[.int .i64 f.w, .int .i64 f.h, .int .i64 f.d, .int .i64 f.c, .int .i64 f.l, .slice PA f.pal.length pc, .slice KA f.key.length kc])
  case first =>
    by_cases h1 : f.w = x
    · have e1 : (f.w == x) = true := beq_iff_eq.2 h1
      by_cases h2 : f.h = y
      · have e2 : (f.h == y) = true := beq_iff_eq.2 h2
        have Hh := hid (show holdsL f x y px = fitsB f px by unfold holdsL; rw [decide_eq_true h1, decide_eq_true h2]; rfl)
        clear h1 h2
        go_wp2_with fail
        refine (rholds_any f PA KA PR pc kc pr px _ (L3.out.rdx Hp.out) (L3.out.rdi Hk.out) hpm hkm (L3.out.rdx Hx.out) hm).mono ?_
        rintro e w5 ⟨rfl, hb⟩
        have L5 := hid (L3.out.below hb)
        have G5 := hid (G3.out.below hb G3.out.lt)
        clear hb
        go_wp2
        go_meet
        exact ⟨by rw [Hh.out], L5.out, G5.out⟩
      · have e2 : (f.h == y) = false := beq_eq_false_iff_ne.2 h2
        have Hh := hid (show holdsL f x y px = false by unfold holdsL; rw [decide_eq_false h2]; simp)
        clear h1 h2
        go_wp2
        go_meet
        exact ⟨by rw [Hh.out], L3.out, G3.out⟩
    · have e1 : (f.w == x) = false := beq_eq_false_iff_ne.2 h1
      have Hh := hid (show holdsL f x y px = false by unfold holdsL; rw [decide_eq_false h1]; simp)
      clear h1
      go_wp2
      go_meet
      exact ⟨by rw [Hh.out], L3.out, G3.out⟩
  case rest =>
  obtain ⟨rfl, hl5, hg5⟩ := hcut
  obtain ⟨w5, rfl⟩ : ∃ w5 : World, w5 = wc := ⟨_, rfl⟩
  have L5 := hid hl5
  have G5 := hid hg5
  clear q0 q1 q2 r0 r1 r2 r3 r4 r5 r6
  clear hl5 hg5 L3 G3
  have q0 := L5.out.1.cell 0
  have q1 := L5.out.1.cell 1
  have q2 := L5.out.1.cell 2
  simp only [List.getElem?_toArray, List.getElem?_cons_zero, List.getElem?_cons_succ] at q0 q1 q2
  have r0 := L5.out.2.1.cell 0
  have r1 := L5.out.2.1.cell 1
  have r2 := L5.out.2.1.cell 2
  have r3 := L5.out.2.1.cell 3
  have r4 := L5.out.2.1.cell 4
  have r5 := L5.out.2.1.cell 5
  have r6 := L5.out.2.1.cell 6
  simp only [List.getElem?_toArray, List.getElem?_cons_zero, List.getElem?_cons_succ] at r0 r1 r2 r3 r4 r5 r6
  have s0 := G5.out.cell 0
  have s1 := G5.out.cell 1
  have s2 := G5.out.cell 2
  have s3 := G5.out.cell 3
  have s4 := G5.out.cell 4
  have s5 := G5.out.cell 5
  have s6 := G5.out.cell 6
  simp only [List.getElem?_toArray, List.getElem?_cons_zero, List.getElem?_cons_succ] at s0 s1 s2 s3 s4 s5 s6
  go_wp2_with fail
  refine (holds_any f PA KA pc kc x y PR pr px _ Hr.out (L5.out.rdx Hp.out) (L5.out.rdi Hk.out) hpm hkm (L5.out.rdx Hx.out) hm).mono ?_
  rintro e w6 ⟨rfl, hb⟩
  have L6 := hid (L5.out.below hb)
  rw [holdsL_eq]
  clear q0 q1 q2 r0 r1 r2 r3 r4 r5 r6 s0 s1 s2 s3 s4 s5 s6
  clear hb L5 G5
  cases hh : holdsL f x y px
  · clear hh
    go_wp2
    go_ret
    exact ⟨rfl, L6.out.2.2⟩
  have hh2 := hh
  unfold holdsL at hh2
  simp only [Bool.and_eq_true, decide_eq_true_eq] at hh2
  obtain ⟨⟨hw, hy⟩, hfit⟩ := hh2
  have hok := fits_ok hfit
  obtain ⟨_, _, b3, b4, b5, b6, b7⟩ := headErr_bd (form_parts hok).1
  have hpx : 0 < px.length := by
    have h := Hr.out
    unfold rasOk at h
    simp only [Bool.and_eq_true, decide_eq_true_eq] at h
    obtain ⟨⟨h1, h2⟩, _⟩ := h
    obtain ⟨c1, _, c3, _⟩ := headErr_bd h1
    have : 0 < x * y := Int.mul_pos (by omega) (by omega)
    omega
  obtain ⟨gf, hgf, hgs⟩ := least_of hpx hw hy hfit
  have Hle := hid (show sizeM (bestOf (formsM x y f.l px)) ≤ rsize f by
    have h1 := bestOf_le hgf
    rw [← rsize_eq hok]
    omega)
  have Hff := hid (show fformsM x y f.l px = some (formsM x y f.l px) from if_pos ⟨Hr.out, b6, b7⟩)
  have Hbl := hid (form_lens (fits_ok (forms_fit x y f.l px _ (bestOf_mem (forms_ne Hr.out b6 b7)))))
  have Hok := hid hok
  clear hh hw hy hfit hok b3 b4 b5 b6 b7 hgf hgs hpx
  have q0 := L6.out.1.cell 0
  have q1 := L6.out.1.cell 1
  have q2 := L6.out.1.cell 2
  simp only [List.getElem?_toArray, List.getElem?_cons_zero, List.getElem?_cons_succ] at q0 q1 q2
  have r0 := L6.out.2.1.cell 0
  have r1 := L6.out.2.1.cell 1
  have r2 := L6.out.2.1.cell 2
  have r3 := L6.out.2.1.cell 3
  have r4 := L6.out.2.1.cell 4
  have r5 := L6.out.2.1.cell 5
  have r6 := L6.out.2.1.cell 6
  simp only [List.getElem?_toArray, List.getElem?_cons_zero, List.getElem?_cons_succ] at r0 r1 r2 r3 r4 r5 r6
  go_wp2_with fail
  refine (best_any x y f.l PR pr px _ (L6.out.rdx Hx.out) hm).mono ?_
  rintro e w7 hE
  obtain ⟨⟨z, rfl, hz, hzo⟩, hb⟩ := (show BestEnd (some (formsM x y f.l px)) w6 e w7 by rwa [Hff.out] at hE)
  obtain ⟨bf, BA, LA, bc, lc⟩ := z
  simp only at hz hzo
  rw [← hz] at Hle Hbl
  have L7 := hid ((L6.out.below hb).alloc (.cells #[.int .i64 bf.w, .int .i64 bf.h, .int .i64 bf.d, .int .i64 bf.c, .int .i64 bf.l, .slice BA bf.pal.length bc, .slice LA bf.key.length lc] 32))
  have Z7 := hid (Blk.new w7 32 #[.int .i64 bf.w, .int .i64 bf.h, .int .i64 bf.d, .int .i64 bf.c, .int .i64 bf.l, .slice BA bf.pal.length bc, .slice LA bf.key.length lc])
  have O7 := hid ((hzo.lower (Nat.zero_le _)).alloc (.cells #[.int .i64 bf.w, .int .i64 bf.h, .int .i64 bf.d, .int .i64 bf.c, .int .i64 bf.l, .slice BA bf.pal.length bc, .slice LA bf.key.length lc] 32))
  have gz : W.heap.size + 1 < w7.heap.size := (L6.out.below hb).2.1.lt
  clear q0 q1 q2 r0 r1 r2 r3 r4 r5 r6
  clear hb hE hz hzo L6
  go_upto_region 12 with (fail)
  generalize w7.alloc (.cells #[.int .i64 bf.w, .int .i64 bf.h, .int .i64 bf.d, .int .i64 bf.c, .int .i64 bf.l, .slice BA bf.pal.length bc, .slice LA bf.key.length lc] 32) = w8 at *
  generalize w7.heap.size = gb at *
  obtain ⟨bl1, bl2⟩ := Hbl.out
  have r0 := L7.out.2.1.cell 0
  have r1 := L7.out.2.1.cell 1
  have r2 := L7.out.2.1.cell 2
  have r3 := L7.out.2.1.cell 3
  have r4 := L7.out.2.1.cell 4
  have r5 := L7.out.2.1.cell 5
  have r6 := L7.out.2.1.cell 6
  simp only [List.getElem?_toArray, List.getElem?_cons_zero, List.getElem?_cons_succ] at r0 r1 r2 r3 r4 r5 r6
  have s0 := Z7.out.cell 0
  have s1 := Z7.out.cell 1
  have s2 := Z7.out.cell 2
  have s3 := Z7.out.cell 3
  have s4 := Z7.out.cell 4
  have s5 := Z7.out.cell 5
  have s6 := Z7.out.cell 6
  simp only [List.getElem?_toArray, List.getElem?_cons_zero, List.getElem?_cons_succ] at s0 s1 s2 s3 s4 s5 s6
  have hbr : ∀ d' os, Below w8.heap.size w8 (Sort.grow (redrawn w8 d') os) := fun d' os => below_regrown w8 d' os
  have cS1 : ∀ d' os, Calls Try.prog 13 #[.agg #[.int .i64 bf.w, .int .i64 bf.h, .int .i64 bf.d, .int .i64 bf.c, .int .i64 bf.l, .slice BA bf.pal.length bc, .slice LA bf.key.length lc]] (Sort.grow (redrawn w8 d') os) fun e w'' => e = .returned (.int .i64 (sizeM bf)) ∧ ∃ p : Regrown, w'' = Sort.grow (redrawn w8 p.d) p.os := fun d' os =>
    Calls.regrown_of (size_f bf BA LA bc lc _ (O7.out.below (hbr d' os) (Nat.le_refl _)).rdp (O7.out.below (hbr d' os) (Nat.le_refl _)).rdi (by omega) (by omega))
  have cS2 : ∀ d' os, Calls Try.prog 14 #[.agg #[.int .i64 f.w, .int .i64 f.h, .int .i64 f.d, .int .i64 f.c, .int .i64 f.l, .slice PA f.pal.length pc, .slice KA f.key.length kc]] (Sort.grow (redrawn w8 d') os) fun e w'' => e = .returned (.int .i64 (rsize f)) ∧ ∃ p : Regrown, w'' = Sort.grow (redrawn w8 p.d) p.os := fun d' os =>
    Calls.regrown_of (rsize18_any f PA KA pc kc _ Hok.out ((L7.out.below (hbr d' os)).rdx Hp.out) hpm hkm)
  have k0 := cell_regrown r0
  have k1 := cell_regrown r1
  have k2 := cell_regrown r2
  have k3 := cell_regrown r3
  have k4 := cell_regrown r4
  have k5 := cell_regrown r5
  have k6 := cell_regrown r6
  have m0 := cell_regrown s0
  have m1 := cell_regrown s1
  have m2 := cell_regrown s2
  have m3 := cell_regrown s3
  have m4 := cell_regrown s4
  have m5 := cell_regrown s5
  have m6 := cell_regrown s6
  have hd : decide (sizeM bf ≤ rsize f) = true := decide_eq_true Hle.out
  clear hbr
  clear r0 r1 r2 r3 r4 r5 r6 s0 s1 s2 s3 s4 s5 s6
  refine wp_region_quiet_below (by kernel_rfl) (by kernel_rfl) ?_
  repeat (go_big_quiet_step (first | with_reducible exact cS1 _ _ | with_reducible exact cS2 _ _))
  refine wpQuiet_nil ?_
  intro wv hwv
  obtain ⟨⟨dq, osq⟩, hwv⟩ := hwv
  have hbv : Below w8.heap.size w8 wv := by rw [hwv]; exact below_regrown w8 dq osq
  have Hbv := hid (L7.out.2.2.trans (hbv.mono L7.out.2.2.size))
  clear hwv hbv k0 k1 k2 k3 k4 k5 k6 m0 m1 m2 m3 m4 m5 m6 cS1 cS2
  go_wp2
  go_ret
  exact ⟨by first | done | rfl | simp [hd], Hbv.out⟩

theorem walk (x y : Int) (PR : Option Addr) (pr : Nat) (px : List Px) (f : Fm) (PA KA : Option Addr) (pc kc : Nat) (W : World) (hx : RdP W W.heap.size PR px) (hp : RdP W W.heap.size PA f.pal) (hk : RdI W W.heap.size KA f.key) :
    Calls Try.prog 3 #[.agg #[.int .i64 x, .int .i64 y, .slice PR px.length pr], .agg #[.int .i64 f.w, .int .i64 f.h, .int .i64 f.d, .int .i64 f.c, .int .i64 f.l, .slice PA f.pal.length pc, .slice KA f.key.length kc]] W fun e w' => e = .returned (.bool true) ∧ Below W.heap.size W w' := by
  by_cases h1 : px.length ≤ 500
  · by_cases h2 : f.pal.length ≤ 400
    · by_cases h3 : f.key.length ≤ 50
      · cases hr : rasOk x y px
        · exact walk_easy x y PR pr px f PA KA pc kc W hx (.inr (.inr (.inr hr)))
        · exact walk_hard x y PR pr px f PA KA pc kc W hx hp hk h1 h2 h3 hr
      · exact walk_easy x y PR pr px f PA KA pc kc W hx (.inr (.inr (.inl (by omega))))
    · exact walk_easy x y PR pr px f PA KA pc kc W hx (.inr (.inl (by omega)))
  · exact walk_easy x y PR pr px f PA KA pc kc W hx (.inl (by omega))

set_option maxRecDepth 100000 in
theorem lifted (os : Os) (started : os.Started) (H : Type) (enc : TypeId × Value → H) :
    ReturnsInHanded {} Try.checked os 3 .any (Rows.shrinkLeastSpec.pre6 enc Try.prog Try.f3 Rows.shrinkLeastRow.domain false) (Rows.shrinkLeastSpec.post enc Try.prog Try.f3 false true false false) :=
  law_lifted own laidOut started (by kernel_rfl) Try.func3 rfl rfl Try.underlying4
    (by rw [Try.params3]; intro t ht; simp at ht; rcases ht with rfl | rfl <;> exact ⟨by kernel_rfl, of_decide_eq_true (by kernel_rfl)⟩)
    (by
      intro ds h
      match ds, h with
      | [_, _], _ => exact ⟨rfl, rfl, rfl⟩)
    (ChangeSpec.witness6 (enc := enc) (C := Try.checked) false ⟨#[], #[.agg #[.int .i64 0, .int .i64 0, .slice none 0 0], .agg #[.int .i64 0, .int .i64 0, .int .i64 0, .int .i64 0, .int .i64 0, .slice none 0 0, .slice none 0 0]], []⟩ 8 (by kernel_rfl) (by kernel_rfl) (by kernel_rfl) (by kernel_rfl))
    (by
      intro W base args ds ps hval0 hA0
      have hval : ∀ (j : Nat) t v, Try.f3.params[j]? = some t → args[j]? = some v → Value.okWide Try.prog W .any base t v := hval0
      have hA : DataW.TrodAll enc Try.prog W 0 (fun _ => true) true Try.f3.params.toList args.toList ds ps := hA0
      clear hval0 hA0
      rw [Try.params3] at hA hval
      obtain ⟨v0, vs0, d0, ds0, p0, q0, hargs, rfl, rfl, h0, r0⟩ := trodAll_cons hA
      obtain ⟨v1, vs1, d1, ds1, p1, q1, rfl, rfl, rfl, h1, r1⟩ := trodAll_cons r0
      obtain ⟨rfl, rfl, rfl⟩ := trodAll_nil r1
      obtain rfl : args = #[v0, v1] := by cases args; simp_all
      obtain ⟨x0, y0, PR0, pr0, px0, rfl, hp0⟩ := open_ras (hval 0 24 v0 rfl rfl) h0
      obtain ⟨f1, PA1, KA1, pc1, kc1, rfl, hp1, hk1⟩ := open_form (hval 1 29 v1 rfl rfl) h1
      exact walk x0 y0 PR0 pr0 px0 f1 PA1 KA1 pc1 kc1 W hp0 hp1 hk1)

theorem over : Rows.shrinkLeastRow.holds Try.pinned (OpenSpec.ofChange Rows.shrinkLeastSpec) :=
  OpenClaim.holds_of_wide 3 Try.f3 rfl rfl rfl rfl rfl rfl rfl ⟨rfl, rfl, rfl, rfl, rfl⟩ rfl rfl rfl rfl rfl (by kernel_rfl) Try.func3 (by kernel_rfl)
    (of_decide_eq_true (by kernel_rfl)) (by unfold Func.isWrapper; first | (rw [if_pos (by decide +kernel)]; kernel_rfl) | (rw [if_neg (by decide +kernel)]; exact ⟨rfl, rfl⟩))
    (fun os started H enc _ => lifted os started H enc)

theorem proved : Rows.ShrinkLeastSaid := over
#print axioms proved
end Go.Proofs.Ytchkogfgkaaogaa.ShrinkLeast
