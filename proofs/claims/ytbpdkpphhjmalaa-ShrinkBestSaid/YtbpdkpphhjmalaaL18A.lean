/-
  burnishlaw18.two, large, copied; burnishref17.Same of the same rasters.
  Opening a raster that came in.
  burnishlaw18.same: of the same forms.
-/
import Derived.Test.YtbpdkpphhjmalaaRefA
import Derived.Test.YtbpdkpphhjmalaaShA
import Derived.Test.YtbpdkpphhjmalaaRlaw
import Derived.Test.YtbpdkpphhjmalaaShB
namespace Go.Proofs.Ytbpdkpphhjmalaa
open Go.RowKit

def twoPx : List Px := [(0, 0, 0, 65535), (65535, 65535, 65535, 65535)]
def TwoEnd (W : World) (e : Ending) (w' : World) : Prop := ∃ A, e = .returned (.agg #[.int .i64 2, .int .i64 1, .slice A 2 2]) ∧ RdP w' w'.heap.size A twoPx ∧ Below W.heap.size W w'
theorem two_any (W : World) : Calls Try.prog 101 #[] W (TwoEnd W) := by
  have Hx := hid (Blk.new (W.alloc (.cells #[.int .i64 2, .int .i64 1, .slice (some ⟨W.heap.size + 1, 0, none⟩) 2 2] 83)) 29 #[.int .i64 0, .int .i64 0, .int .i64 0, .int .i64 65535, .int .i64 65535, .int .i64 65535, .int .i64 65535, .int .i64 65535])
  rw [World.size_alloc] at Hx
  go_enter Try.func101, Try.ntmps101
  go_wp2
  refine bodyPost_ret (v := .agg #[.int .i64 2, .int .i64 1, .slice (some ⟨W.heap.size + 1, 0, none⟩) 2 2]) (by simp [results, Try.results101, go_sem]) rfl ⟨_, rfl, ?_, ?_⟩
  · exact own_rdp (own_blk_full (base := 0) (n := 2) (size := 4) Hx.out (Nat.zero_le _) (by simp [maxLen]) rfl)
  · exact ((Below.refl _ _).alloc (Nat.le_refl _) _).alloc (by simp) _
def largeR (n : Nat) : Bool := decide (500 < n)
theorem large18_any (x y : Int) (PA : Option Addr) (n pc : Nat) (W : World) : Calls Try.prog 49 #[.agg #[.int .i64 x, .int .i64 y, .slice PA n pc]] W fun e w' => e = .returned (.bool (largeR n)) ∧ Below W.heap.size W w' := by
  have Hw := hid (rcw_start x y PA n pc W)
  by_cases h : 500 < n
  · have d : decide ((500 : Int) < (n : Int)) = true := decide_eq_true (by omega)
    have Hl := hid (show largeR n = true from decide_eq_true h)
    clear h
    go_enter Try.func49, Try.ntmps49
    go_wp2
    go_ret
    exact ⟨by rw [Hl.out]; first | done | rfl, Hw.out.2⟩
  · have d : decide ((500 : Int) < (n : Int)) = false := decide_eq_false (by omega)
    have Hl := hid (show largeR n = false from decide_eq_false h)
    clear h
    go_enter Try.func49, Try.ntmps49
    go_wp2
    go_ret
    exact ⟨by rw [Hl.out]; first | done | rfl, Hw.out.2⟩

/-- a raster copied -/
def CpEnd (x y : Int) (l : List Px) (W : World) (e : Ending) (w' : World) : Prop := ∃ A c, e = .returned (.agg #[.int .i64 x, .int .i64 y, .slice A l.length c]) ∧ w'.ownsRow W.heap.size 29 4 (.slice A l.length c) l.length (l.flatMap encP) ∧ Below W.heap.size W w'
theorem px_cells (l : List Px) : ∀ u ∈ l.flatMap encP, u.oneCell' = true := by
  intro u hu
  obtain ⟨p, _, hp⟩ := List.mem_flatMap.1 hu
  unfold encP at hp
  simp only [List.mem_cons, List.not_mem_nil, or_false] at hp
  rcases hp with rfl | rfl | rfl | rfl <;> rfl
set_option maxRecDepth 100000 in
set_option maxHeartbeats 4000000 in
theorem copied_any (x y : Int) (PA : Option Addr) (pc : Nat) (l : List Px) (W : World) (hp : RdP W W.heap.size PA l) (hm : l.length ≤ 1000000) :
    Calls Try.prog 50 #[.agg #[.int .i64 x, .int .i64 y, .slice PA l.length pc]] W (CpEnd x y l W) := by
  have Hp := hid hp
  have Hpn := hid (fun h => rd_nil (size := 4) hp (by omega) h)
  obtain ⟨i0, hi0, hz0, hz1, hz2⟩ := info_parts px_info
  have Hi0 := hid hi0
  have Hz0 := hid hz0
  have Hz1 := hid hz1
  have Hz2 := hid hz2
  clear hi0 hz0 hz1 hz2
  clear hp
  have Hw := hid (((rcw_start x y PA l.length pc W).alloc (.cells #[.int .i64 0, .int .i64 0, .slice none 0 0] 83)).alloc (.cells #[] 29))
  have Hx := hid ((rcw_start x y PA l.length pc W).alloc (.cells #[.int .i64 0, .int .i64 0, .slice none 0 0] 83))
  have hb0 := (Blk.new (W.alloc (.cells #[.int .i64 x, .int .i64 y, .slice PA l.length pc] 83)) 83 #[.int .i64 0, .int .i64 0, .slice none 0 0]).alloc (.cells #[] 29)
  rw [World.size_alloc] at hb0
  have HB := hid hb0
  have he := empty_rowP ((W.alloc (.cells #[.int .i64 x, .int .i64 y, .slice PA l.length pc] 83)).alloc (.cells #[.int .i64 0, .int .i64 0, .slice none 0 0] 83)) 29 4
  simp only [World.size_alloc] at he
  have HE := hid (own_base (b := W.heap.size) he (by omega))
  clear hb0 he
  go_enter Try.func50, Try.ntmps50
  go_wp2_with (at_builtin; refine wpList_app _ rfl _ _ _ rfl W.heap.size 29 i0 (.agg #[.int .i64 0, .int .i64 0, .int .i64 0, .int .i64 0]) 4 32 Try.underlying24 Hi0.out Hz0.out Hz1.out Hz2.out rfl (by omega) _ 0 0 [] rfl HE.out W.heap.size PA l.length pc (l.flatMap encP) rfl (Rd.below Hp.out Hw.out.2 (Nat.le_refl _)) Hpn.out (px_cells l) (by simp only [maxLen]; omega) (by omega) (by simp; omega) ?_; intro A3 c3 w3 ha3; have hr3 := Hw.out.1.grown ha3.2.1 (own_blk_ne HE.out Hw.out.1 (by decide)); have hb3 := HB.out.grown ha3.2.1 (own_blk_ne HE.out HB.out (by decide)); have r0 := hr3.cell 0; have r1 := hr3.cell 1; have r2 := hr3.cell 2; have b0 := hb3.cell 0; have b1 := hb3.cell 1; have b2 := hb3.cell 2; simp only [List.getElem?_toArray, List.getElem?_cons_zero, List.getElem?_cons_succ] at r0 r1 r2 b0 b1 b2; have fr := fun i => hr3.frozen i; have fb := fun i => hb3.frozen i; have Hr3 := hid hr3; have Hb3 := hid hb3; have Ha3 := hid ha3; have gl := hb3.lt; clear hr3 hb3 ha3)
  have ne1 : (Value.slice A3 (0 + l.length) c3).ownBlock ≠ some W.heap.size := fun e => own_blk_ne Ha3.out.1 Hr3.out (by decide) e.symm
  have ne2 : (Value.slice A3 (0 + l.length) c3).ownBlock ≠ some (W.heap.size + 1) := fun e => own_blk_ne Ha3.out.1 Hb3.out (by decide) e.symm
  refine bodyPost_ret (v := .agg #[.int .i64 x, .int .i64 y, .slice A3 (0 + l.length) c3]) (by simp [results, Try.results50, go_sem, b0, b1, b2]) rfl ⟨A3, c3, by rw [Nat.zero_add], ?_, ?_⟩
  · have h1 := ownsRow_setCell_other (a := ⟨W.heap.size, 2, none⟩) Ha3.out.1 ne1 (.slice A3 (0 + l.length) c3)
    have h2 := ownsRow_setCell_other (a := ⟨W.heap.size + 1, 0, none⟩) h1 ne2 (.int .i64 x)
    have h3 := ownsRow_setCell_other (a := ⟨W.heap.size + 1, 1, none⟩) h2 ne2 (.int .i64 y)
    have h4 := ownsRow_setCell_other (a := ⟨W.heap.size + 1, 2, none⟩) h3 ne2 (.slice A3 (0 + l.length) c3)
    simp only [Nat.zero_add, List.nil_append] at h4 ⊢
    exact h4
  · exact ((((Hw.out.2.trans Ha3.out.2.2.1).setCell (Nat.le_refl _) _).setCell (by show W.heap.size ≤ W.heap.size + 1; omega) _).setCell (by show W.heap.size ≤ W.heap.size + 1; omega) _).setCell (by show W.heap.size ≤ W.heap.size + 1; omega) _

def S2W (w W : World) (x y : Int) (A B : Option Addr) (n m c d : Nat) : Prop := Blk w W.heap.size 83 #[.int .i64 x, .int .i64 y, .slice A n c] ∧ Blk w (W.heap.size + 1) 83 #[.int .i64 x, .int .i64 y, .slice B m d] ∧ Below W.heap.size W w
set_option maxRecDepth 100000 in
set_option maxHeartbeats 4000000 in
theorem rsame17_any (x y : Int) (A B : Option Addr) (c d : Nat) (l : List Px) (W : World) (ha : RdP W W.heap.size A l) (hb : RdP W W.heap.size B l) (hm : l.length ≤ 1000000) :
    Calls Try.prog 47 #[.agg #[.int .i64 x, .int .i64 y, .slice A l.length c], .agg #[.int .i64 x, .int .i64 y, .slice B l.length d]] W fun e w' => e = .returned (.bool true) ∧ Below W.heap.size W w' := by
  have Ha := hid ha
  have Hb := hid hb
  have h1 := Blk.new (W.alloc (.cells #[.int .i64 x, .int .i64 y, .slice A l.length c] 83)) 83 #[.int .i64 x, .int .i64 y, .slice B l.length d]
  rw [World.size_alloc] at h1
  have H0 : Hid (S2W ((W.alloc (.cells #[.int .i64 x, .int .i64 y, .slice A l.length c] 83)).alloc (.cells #[.int .i64 x, .int .i64 y, .slice B l.length d] 83)) W x y A B l.length l.length c d) := hid ⟨(Blk.new W _ _).alloc _, h1, ((Below.refl _ _).alloc (Nat.le_refl _) _).alloc (by simp) _⟩
  clear ha hb h1
  go_enter Try.func47, Try.ntmps47
  go_upto_region 4 with (fail)
  go_loopw [5] (fun i wr => ∃ j : Nat, j ≤ l.length ∧ i = .int .i64 j ∧ S2W wr W x y A B l.length l.length c d) (fun i _ => l.length - (intOf i).toNat)
  case atStart => exact ⟨0, by omega, rfl, H0.out⟩
  case round =>
    obtain ⟨j, hj, rfl, hs⟩ := hrel
    have HS := hid hs
    clear hs H0
    have q2 := HS.out.1.cell 2
    have r2 := HS.out.2.1.cell 2
    simp only [List.getElem?_toArray, List.getElem?_cons_zero, List.getElem?_cons_succ] at q2 r2
    by_cases hlt : j < l.length
    · obtain ⟨b, off, hA, hbb, x0, x1, x2, x3⟩ := px_at (Rd.below Ha.out HS.out.2.2 (Nat.le_refl _)) hlt
      subst hA
      obtain ⟨b', off', hB, hbb', y0, y1, y2, y3⟩ := px_at (Rd.below Hb.out HS.out.2.2 (Nat.le_refl _)) hlt
      subst hB
      generalize l[j] = p at *
      obtain ⟨p0, p1, p2, p3⟩ := p
      simp only at x0 x1 x2 x3 y0 y1 y2 y3
      go_wp2_with fail
      go_quiet (fail)
      go_wp2_with fail
      go_roundw
      case rel => exact ⟨j + 1, by omega, by go_num, HS.out.1, HS.out.2.1, below_drewN HS.out.2.2 _⟩
      case measure => simp [intOf]; omega
    · have e : j = l.length := by omega
      subst e
      go_wp2_with fail
      go_ret
      exact ⟨rfl, HS.out.2.2⟩

end Go.Proofs.Ytbpdkpphhjmalaa

namespace Go.Proofs.Ytbpdkpphhjmalaa
open Go.ChangeShapes Go.WideShapes Go.ChangeAt Go.RowKit Go.Deep

theorem list3 {α : Type} {l : List α} (h : l.length = 3) : ∃ a b c, l = [a, b, c] := by
  match l, h with
  | [a, b, c], _ => exact ⟨a, b, c, rfl⟩
set_option maxRecDepth 100000 in
/-- a raster that came in -/
theorem open_ras {H : Type} {enc : TypeId × Value → H} {w : World} {v : Value} {x : DataW H} {ps : List MemPlace} {r : Reach} {b0 : Nat}
    (hv : Value.okWide Try.prog w r b0 83 v) (h : DataW.Trod enc Try.prog w 0 (fun _ => true) true 83 v x ps) :
    ∃ (x y : Int) (PR : Option Addr) (pr : Nat) (px : List Px), v = .agg #[.int .i64 x, .int .i64 y, .slice PR px.length pr] ∧ RdP w w.heap.size PR px := by
  obtain ⟨cs, e, hl, L⟩ := open_agg 1 Try.underlying83 (by kernel_rfl) hv h
  obtain ⟨_, _, u0, e0, t0⟩ := L 0 3 (by kernel_rfl)
  obtain ⟨x0, rfl, _⟩ := leaf_int Try.underlying3 t0
  obtain ⟨_, _, u1, e1, t1⟩ := L 1 3 (by kernel_rfl)
  obtain ⟨x1, rfl, _⟩ := leaf_int Try.underlying3 t1
  obtain ⟨_, _, u2, e2, t2⟩ := L 2 24 (by kernel_rfl)
  obtain ⟨PA, pc, pal, f2, _, _, _, hp⟩ := open_slice_of encP (fun _ => True) 4 (by omega) Try.underlying24 (by kernel_rfl) px_of (fun _ => rfl) t2
  rw [show (leaves Try.prog (1 + 1) 83).length = 3 by kernel_rfl] at hl
  obtain ⟨c0, c1, c2, rfl⟩ := list3 hl
  simp at e0 e1 e2
  subst e0 e1 e2 f2
  exact ⟨x0, x1, PA, pc, pal, e, hp⟩

end Go.Proofs.Ytbpdkpphhjmalaa

namespace Go.Proofs.Ytbpdkpphhjmalaa
open Go.RowKit

def Sm18W (w W : World) (f : Fm) (PA KA QA LA : Option Addr) (pc kc qc lc : Nat) : Prop :=
  Blk w W.heap.size 32 #[.int .i64 f.w, .int .i64 f.h, .int .i64 f.d, .int .i64 f.c, .int .i64 f.l, .slice QA f.pal.length qc, .slice LA f.key.length lc] ∧ Blk w (W.heap.size + 1) 27 #[.int .i64 f.w, .int .i64 f.h, .int .i64 f.d, .int .i64 f.c, .int .i64 f.l, .slice PA f.pal.length pc, .slice KA f.key.length kc] ∧ Below W.heap.size W w
set_option maxRecDepth 100000 in
set_option maxHeartbeats 8000000 in
theorem same18_any (f : Fm) (PA KA QA LA : Option Addr) (pc kc qc lc : Nat) (W : World) (hp : RdP W W.heap.size PA f.pal) (hk : RdI W W.heap.size KA f.key) (hq : RdP W W.heap.size QA f.pal) (hl : RdI W W.heap.size LA f.key) (hpm : f.pal.length ≤ 1000000) (hkm : f.key.length ≤ 1000000) :
    Calls Try.prog 55 #[.agg #[.int .i64 f.w, .int .i64 f.h, .int .i64 f.d, .int .i64 f.c, .int .i64 f.l, .slice QA f.pal.length qc, .slice LA f.key.length lc], .agg #[.int .i64 f.w, .int .i64 f.h, .int .i64 f.d, .int .i64 f.c, .int .i64 f.l, .slice PA f.pal.length pc, .slice KA f.key.length kc]] W fun e w' => e = .returned (.bool true) ∧ Below W.heap.size W w' := by
  have b0 := (Blk.new W 32 #[.int .i64 f.w, .int .i64 f.h, .int .i64 f.d, .int .i64 f.c, .int .i64 f.l, .slice QA f.pal.length qc, .slice LA f.key.length lc]).alloc (.cells #[.int .i64 f.w, .int .i64 f.h, .int .i64 f.d, .int .i64 f.c, .int .i64 f.l, .slice PA f.pal.length pc, .slice KA f.key.length kc] 27)
  have b1 := Blk.new (W.alloc (.cells #[.int .i64 f.w, .int .i64 f.h, .int .i64 f.d, .int .i64 f.c, .int .i64 f.l, .slice QA f.pal.length qc, .slice LA f.key.length lc] 32)) 27 #[.int .i64 f.w, .int .i64 f.h, .int .i64 f.d, .int .i64 f.c, .int .i64 f.l, .slice PA f.pal.length pc, .slice KA f.key.length kc]
  simp only [World.size_alloc] at b1
  have Hb0 := hid (show Below W.heap.size W ((W.alloc (.cells #[.int .i64 f.w, .int .i64 f.h, .int .i64 f.d, .int .i64 f.c, .int .i64 f.l, .slice QA f.pal.length qc, .slice LA f.key.length lc] 32)).alloc (.cells #[.int .i64 f.w, .int .i64 f.h, .int .i64 f.d, .int .i64 f.c, .int .i64 f.l, .slice PA f.pal.length pc, .slice KA f.key.length kc] 27)) from ((Below.refl _ _).alloc (Nat.le_refl _) _).alloc (by simp) _)
  have HS0 : Hid (Sm18W ((W.alloc (.cells #[.int .i64 f.w, .int .i64 f.h, .int .i64 f.d, .int .i64 f.c, .int .i64 f.l, .slice QA f.pal.length qc, .slice LA f.key.length lc] 32)).alloc (.cells #[.int .i64 f.w, .int .i64 f.h, .int .i64 f.d, .int .i64 f.c, .int .i64 f.l, .slice PA f.pal.length pc, .slice KA f.key.length kc] 27)) W f PA KA QA LA pc kc qc lc) := ⟨b0, b1, Hb0.out⟩
  have Hp := hid hp
  have Hk := hid hk
  have Hq := hid hq
  have Hl := hid hl
  clear b0 b1 hp hk hq hl
  go_enter Try.func55, Try.ntmps55
  go_wp2_with fail
  refine (ints_refl LA KA lc kc f.key _ W.heap.size (Hl.out.below Hb0.out (Nat.le_refl _)) (Hk.out.below Hb0.out (Nat.le_refl _)) hkm).mono ?_
  rintro e w1 ⟨rfl, nd, hw1⟩
  have HS1 : Hid (Sm18W w1 W f PA KA QA LA pc kc qc lc) := by
    subst hw1
    exact ⟨HS0.out.1, HS0.out.2.1, below_drewN HS0.out.2.2 _⟩
  clear HS0 Hb0 hw1
  have q0 := HS1.out.1.cell 0
  have q1 := HS1.out.1.cell 1
  have q2 := HS1.out.1.cell 2
  have q3 := HS1.out.1.cell 3
  have q4 := HS1.out.1.cell 4
  have q5 := HS1.out.1.cell 5
  have q6 := HS1.out.1.cell 6
  simp only [List.getElem?_toArray, List.getElem?_cons_zero, List.getElem?_cons_succ] at q0 q1 q2 q3 q4 q5 q6
  go_wp2_with fail
  go_loopw [31] (fun i wr => ∃ (j : Nat), j ≤ f.pal.length ∧ i = .int .i64 j ∧ Sm18W wr W f PA KA QA LA pc kc qc lc) (fun i _ => f.pal.length - (intOf i).toNat)
  case atStart => exact ⟨0, by omega, rfl, HS1.out⟩
  case round =>
    obtain ⟨j, hj, rfl, hs⟩ := hrel
    have HS := hid hs
    clear hs HS1 q0 q1 q2 q3 q4 q5 q6
    by_cases hlt : j < f.pal.length
    · obtain ⟨b, off, rfl, hbb, x0, x1, x2, x3⟩ := px_at (Rd.below Hp.out HS.out.2.2 (Nat.le_refl _)) hlt
      obtain ⟨b', off', rfl, hbb', y0, y1, y2, y3⟩ := px_at (Rd.below Hq.out HS.out.2.2 (Nat.le_refl _)) hlt
      generalize f.pal[j] = x at *
      obtain ⟨xr, xg, xb, xa⟩ := x
      simp only at x0 x1 x2 x3 y0 y1 y2 y3
      have q5 := HS.out.1.cell 5
      have t5 := HS.out.2.1.cell 5
      simp only [List.getElem?_toArray, List.getElem?_cons_zero, List.getElem?_cons_succ] at q5 t5
      go_wp2_with fail
      go_quiet (fail)
      go_wp2_with fail
      go_roundw
      case rel => exact ⟨j + 1, by omega, by go_num, HS.out.1, HS.out.2.1, below_drewN HS.out.2.2 _⟩
      case measure => simp [intOf]; omega
    · have e : j = f.pal.length := by omega
      subst e
      go_wp2_with fail
      go_ret
      exact ⟨rfl, HS.out.2.2⟩

end Go.Proofs.Ytbpdkpphhjmalaa
