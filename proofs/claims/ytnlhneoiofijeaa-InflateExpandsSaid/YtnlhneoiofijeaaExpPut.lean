/-
  inflate.sound, and the sink's put.
-/
import Derived.Test.YtnlhneoiofijeaaExpRef
import Derived.BigRegion
import Derived.Deep.RegionLaw
import Derived.Deep.DeepCutAuto
import Derived.Deep.CutRange
namespace Go.Proofs.Ytnlhneoiofijeaa
open Go.RowKit

set_option maxHeartbeats 1000000 in
theorem progGood : GoodSaid 63 := by
  intro l d g hg0 W
  rcases tgood_cases hg0 with ⟨rfl, q⟩ | ⟨hl, q⟩
  case' inl =>
    rcases q with ⟨rfl, q1, q2⟩ | ⟨rfl, q1⟩ | ⟨rfl, q1, q2⟩
  case' inr =>
    have hl' : (l == 0) = false := by rw [beq_eq_false_iff_ne]; exact hl
    clear hl
    rcases q with ⟨rfl, q1, q2, q3, q4⟩ | ⟨rfl, q1⟩ | ⟨rfl, q1, q2⟩ | ⟨rfl, q1, q2, q3⟩ | ⟨rfl, q1, q2, q3, q4⟩
  all_goals
    clear hg0
    go_enter Try.func63, Try.ntmps63
    go_wp2
    go_ret
    exact ⟨ret_bool (by first | rfl | (simp; done) | (simp; omega)), (Below.refl _ _).alloc (Nat.le_refl _) _⟩

theorem tok_info : (Try.prog.info? 38).map (fun i => (i.zero, i.size, i.bytes)) = some (some (.agg #[.int .i64 0, .int .i64 0]), 2, 16) := by kernel_rfl

/-- what put leaves: a size and a token more -/
def PutEnd (g : Nat) (most s : Int) (toks : List (Int × Int)) (t : Int × Int) (base : Nat) (W : World) (e : Ending) (w' : World) : Prop :=
  e = .returned .nilIface ∧ ∃ A c, Blk w' g 115 #[.int .i64 most, .int .i64 (s + tn t), .slice A (toks.length + 1) c] ∧
    w'.ownsRow base 38 2 (.slice A (toks.length + 1) c) (toks.length + 1) ((toks ++ [t]).flatMap encTok) ∧ Below base W w'
def PutErr (k : Int) (W : World) (e : Ending) (w' : World) : Prop := e = .returned (.iface 47 (.int .i64 k)) ∧ Below W.heap.size W w'

theorem put_mid {g : Nat} {most s v : Int} {A : Option Addr} {c : Nat} {toks : List (Int × Int)} {tl td : Int} {base : Nat} {W w2 : World} {k : Nat} (hk : Blk W g 115 #[.int .i64 most, .int .i64 s, .slice A toks.length c]) (hg : base ≤ g) (hbase : base ≤ W.heap.size)
    (hown : W.ownsRow base 38 2 (.slice A toks.length c) toks.length (toks.flatMap encTok))
    (hw2 : ((W.alloc (.cells #[.int .i64 tl, .int .i64 td] 38)).drewN k).setCell ⟨g, 1, none⟩ (.int .i64 v) = w2) :
    Blk w2 g 115 #[.int .i64 most, .int .i64 v, .slice A toks.length c] ∧ Blk w2 W.heap.size 38 #[.int .i64 tl, .int .i64 td] ∧
      w2.ownsRow base 38 2 (.slice A toks.length c) toks.length (toks.flatMap encTok) ∧ Below base W w2 ∧ w2.heap.size = W.heap.size + 1 := by
  subst hw2
  have hlt := hk.lt
  exact ⟨((hk.alloc _).drewN _).set_ 1 _, ((Blk.new W 38 #[.int .i64 tl, .int .i64 td]).drewN _).far (by show W.heap.size ≠ g; omega) _,
    ownsRow_setCell_other (a := ⟨g, 1, none⟩) (own_drewN (hown.alloc _) _) (fun h => own_blk_ne hown hk (by decide) h.symm) _,
    (below_drewN ((Below.refl _ _).alloc hbase _) _).setCell hg _, by simp [World.setCell]⟩

set_option maxRecDepth 100000 in
set_option maxHeartbeats 4000000 in
theorem put_ok (g : Nat) (most s : Int) (A : Option Addr) (c : Nat) (toks : List (Int × Int)) (tl td : Int) (base : Nat) (W : World) (hk : Blk W g 115 #[.int .i64 most, .int .i64 s, .slice A toks.length c]) (hg : base ≤ g) (hbase : base ≤ W.heap.size)
    (hown : W.ownsRow base 38 2 (.slice A toks.length c) toks.length (toks.flatMap encTok)) (hlen : toks.length ≤ 2000) (hs0 : 0 ≤ s) (hs : s + tn (tl, td) ≤ most) (hm : most ≤ 4194304) (ht : tl = 0 ∨ (3 ≤ tl ∧ tl ≤ 258 ∧ td ≤ s)) :
    Calls Try.prog 64 #[.pointer (some ⟨g, 0, none⟩), .agg #[.int .i64 tl, .int .i64 td]] W (PutEnd g most s toks (tl, td) base W) := by
  obtain ⟨i0, hi0, hz0, hz1, hz2⟩ := info_parts tok_info
  have Hi0 := hid hi0
  have Hz0 := hid hz0
  have Hz1 := hid hz1
  have Hz2 := hid hz2
  have K0 := hid hk
  have Hown := hid hown
  have c0 := hk.cell 0
  have c1 := hk.cell 1
  have c2 := hk.cell 2
  have f1 := hk.frozen 1
  have f2 := hk.frozen 2
  have hlt := hk.lt
  simp only [List.getElem?_toArray, List.getElem?_cons_zero, List.getElem?_cons_succ] at c0 c1 c2
  clear hi0 hz0 hz1 hz2 hk hown
  obtain ⟨n, hn⟩ : ∃ n, tn (tl, td) = n := ⟨_, rfl⟩
  have Hn := hid hn
  rw [hn] at hs
  rcases ht with rfl | ⟨t1, t2, t3⟩
  case' inl =>
    obtain rfl : n = 1 := by rw [← hn]; rfl
  case' inr =>
    obtain rfl : n = tl := by rw [← hn]; unfold tn; rw [if_pos (by simp only; omega)]
    have hp : 0 < n := by omega
  all_goals
    clear hn
    go_enter Try.func64, Try.ntmps64
    go_wp2
    go_quiet (fail)
    go_wp2
    go_quiet (fail)
    go_wp2
    generalize hw2 : World.setCell (World.drewN _ _) _ _ = w2
    obtain ⟨k2, kb, hown2, hbw2, hsz2⟩ := put_mid K0.out hg hbase Hown.out hw2
    clear hw2 c0 c1 c2 f1 f2
    have c2 := k2.cell 2
    have d0 := kb.cell 0
    have d1 := kb.cell 1
    have f2 := k2.frozen 2
    simp only [List.getElem?_toArray, List.getElem?_cons_zero, List.getElem?_cons_succ] at c2 d0 d1
    have K2 := hid k2
    have Hown2 := hid hown2
    have Hbw2 := hid hbw2
    have Hsz2 := hid hsz2
    have hgl : g < w2.heap.size := by omega
    clear k2 kb hown2 hbw2 hsz2
    go_region_law (refine step_app _ (by rfl) _ _ _ (by rfl) base 38 i0 (.agg #[.int .i64 0, .int .i64 0]) 2 16 Try.underlying35 Hi0.out Hz0.out Hz1.out Hz2.out rfl (by omega) A toks.length c _ (by rfl) (Hown2.out.alloc _) _ _ 1 1 [.int .i64 _, .int .i64 td] (by rfl) (rd_one _ _ _ _ (Blk.new _ _ _)) (by simp) (by simp [Value.oneCell']) (by simp only [maxLen]; omega) (by omega) (by simp [Hsz2.out]; omega) ?_; rintro A3 c3 w3 ⟨hown3, hgr3, hb3, _⟩; have k3 := (Blk.drew (K2.out.alloc _)).grown hgr3 (own_blk_ne Hown2.out K2.out (by decide)); have q3 := k3.cell 2; have f3 := k3.frozen 2; simp only [List.getElem?_toArray, List.getElem?_cons_zero, List.getElem?_cons_succ] at q3; have K3 := hid k3; have Hown3 := hid hown3; have Hb3 := hid hb3; have Hgr3 := hid hgr3; clear k3 hown3 hb3 hgr3)
    all_goals
      go_wp2
      go_ret
      refine ⟨rfl, A3, c3, by rw [Hn.out]; exact K3.out.set_ 2 _, ?_, ?_⟩
      · have := ownsRow_setCell_other (a := ⟨g, 2, none⟩) Hown3.out (fun h => own_blk_ne Hown3.out K3.out (by decide) h.symm) (.slice A3 (toks.length + 1) c3)
        rw [List.flatMap_append]
        exact this
      · exact ((Hbw2.out.alloc (by have := Hsz2.out; omega) _).drew.trans Hb3.out).setCell (p := ⟨g, 2, none⟩) hg _

set_option maxRecDepth 100000 in
set_option maxHeartbeats 2000000 in
theorem put_far (g : Nat) (most s : Int) (v : Value) (tl td : Int) (W : World) (hk : Blk W g 115 #[.int .i64 most, .int .i64 s, v]) (t1 : 3 ≤ tl) (t2 : tl ≤ 258) (t3 : s < td) :
    Calls Try.prog 64 #[.pointer (some ⟨g, 0, none⟩), .agg #[.int .i64 tl, .int .i64 td]] W (PutErr 2 W) := by
  have c1 := hk.cell 1
  have hlt := hk.lt
  simp only [List.getElem?_toArray, List.getElem?_cons_zero, List.getElem?_cons_succ] at c1
  clear hk
  have hp : 0 < tl := by omega
  go_enter Try.func64, Try.ntmps64
  go_wp2
  go_quiet (fail)
  go_wp2
  go_ret
  exact ⟨rfl, below_drewN ((Below.refl _ _).alloc (Nat.le_refl _) _) _⟩

set_option maxRecDepth 100000 in
set_option maxHeartbeats 2000000 in
theorem put_big (g : Nat) (most s : Int) (v : Value) (tl td : Int) (W : World) (hk : Blk W g 115 #[.int .i64 most, .int .i64 s, v]) (_hs0 : 0 ≤ s) (_hm0 : 0 ≤ most) (_hm : most ≤ 4194304) (hsm : s ≤ most) (ht : tl = 0 ∨ (3 ≤ tl ∧ tl ≤ 258 ∧ td ≤ s)) (hs : most < s + tn (tl, td)) :
    Calls Try.prog 64 #[.pointer (some ⟨g, 0, none⟩), .agg #[.int .i64 tl, .int .i64 td]] W (PutErr 4 W) := by
  have c0 := hk.cell 0
  have c1 := hk.cell 1
  have hlt := hk.lt
  simp only [List.getElem?_toArray, List.getElem?_cons_zero, List.getElem?_cons_succ] at c0 c1
  clear hk
  obtain ⟨n, hn⟩ : ∃ n, tn (tl, td) = n := ⟨_, rfl⟩
  rw [hn] at hs
  rcases ht with rfl | ⟨t1, t2, t3⟩
  case' inl =>
    obtain rfl : n = 1 := by rw [← hn]; rfl
  case' inr =>
    obtain rfl : n = tl := by rw [← hn]; unfold tn; rw [if_pos (by simp only; omega)]
    have hp : 0 < n := by omega
  all_goals
    clear hn
    go_enter Try.func64, Try.ntmps64
    go_wp2
    go_quiet (fail)
    go_wp2
    go_quiet (fail)
    go_wp2
    go_ret
    exact ⟨rfl, below_drewN ((Below.refl _ _).alloc (Nat.le_refl _) _) _⟩

end Go.Proofs.Ytnlhneoiofijeaa
