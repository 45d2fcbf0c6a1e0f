/-
  burnishref17.Same of two rasters that are the same.
-/
import Derived.Test.YtphhoihhmphbdaaBase
import Derived.Test.YtphhoihhmphbdaaForm
import Derived.Deep.RegionHeld3
import Derived.BigRegion
namespace Go.Proofs.Ytphhoihhmphbdaa
open Go.RowKit

def S2W (w W : World) (x y : Int) (A B : Option Addr) (n m c d : Nat) : Prop := Blk w W.heap.size 33 #[.int .i64 x, .int .i64 y, .slice A n c] ∧ Blk w (W.heap.size + 1) 33 #[.int .i64 x, .int .i64 y, .slice B m d] ∧ Below W.heap.size W w
set_option maxRecDepth 100000 in
set_option maxHeartbeats 4000000 in
theorem rsame17_any (x y : Int) (A B : Option Addr) (c d : Nat) (l : List Px) (W : World) (ha : RdP W W.heap.size A l) (hb : RdP W W.heap.size B l) (hm : l.length ≤ 1000000) :
    Calls Try.prog 16 #[.agg #[.int .i64 x, .int .i64 y, .slice A l.length c], .agg #[.int .i64 x, .int .i64 y, .slice B l.length d]] W fun e w' => e = .returned (.bool true) ∧ Below W.heap.size W w' := by
  have Ha := hid ha
  have Hb := hid hb
  have h1 := Blk.new (W.alloc (.cells #[.int .i64 x, .int .i64 y, .slice A l.length c] 33)) 33 #[.int .i64 x, .int .i64 y, .slice B l.length d]
  rw [World.size_alloc] at h1
  have H0 : Hid (S2W ((W.alloc (.cells #[.int .i64 x, .int .i64 y, .slice A l.length c] 33)).alloc (.cells #[.int .i64 x, .int .i64 y, .slice B l.length d] 33)) W x y A B l.length l.length c d) := hid ⟨(Blk.new W _ _).alloc _, h1, ((Below.refl _ _).alloc (Nat.le_refl _) _).alloc (by simp) _⟩
  clear ha hb h1
  go_enter Try.func16, Try.ntmps16
  go_upto_region 4 with (fail)
  go_loopw [5] (fun i wr => ∃ j : Nat, j ≤ l.length ∧ i = .int .i64 j ∧ S2W wr W x y A B l.length l.length c d) (fun i _ => l.length - (intOf i).toNat)
  case atStart => exact ⟨0, by omega, rfl, H0.out⟩
  case round =>
    obtain ⟨j, hj, rfl, hs⟩ := hrel
    have HS := hid hs
    clear hs H0
    have q2 := HS.out.1.cell 2
    have r2 := HS.out.2.1.cell 2
    simp only [List.getElem?_toArray, List.getElem?_cons_zero, List.getElem?_cons_succ] at q2 r2
    by_cases hlt : j < l.length
    · obtain ⟨b, off, hA, hbb, x0, x1, x2, x3⟩ := px_at (Rd.below Ha.out HS.out.2.2 (Nat.le_refl _)) hlt
      subst hA
      obtain ⟨b', off', hB, hbb', y0, y1, y2, y3⟩ := px_at (Rd.below Hb.out HS.out.2.2 (Nat.le_refl _)) hlt
      subst hB
      generalize l[j] = p at *
      obtain ⟨p0, p1, p2, p3⟩ := p
      simp only at x0 x1 x2 x3 y0 y1 y2 y3
      go_wp2_with fail
      go_quiet (fail)
      go_wp2_with fail
      go_roundw
      case rel => exact ⟨j + 1, by omega, by go_num, HS.out.1, HS.out.2.1, below_drewN HS.out.2.2 _⟩
      case measure => simp [intOf]; omega
    · have e : j = l.length := by omega
      subst e
      go_wp2_with fail
      go_ret
      exact ⟨rfl, HS.out.2.2⟩

end Go.Proofs.Ytphhoihhmphbdaa
