/-
  burnishlaw17.same: of the same forms.
-/
import Derived.Test.YtphhoihhmphbdaaRlaw
namespace Go.Proofs.Ytphhoihhmphbdaa
open Go.RowKit

def SmW (w W : World) (f : Fm) (PA KA QA LA : Option Addr) (pc kc qc lc : Nat) : Prop :=
  Blk w W.heap.size 38 #[.int .i64 f.w, .int .i64 f.h, .int .i64 f.d, .int .i64 f.c, .int .i64 f.l, .slice QA f.pal.length qc, .slice LA f.key.length lc] ∧ Blk w (W.heap.size + 1) 27 #[.int .i64 f.w, .int .i64 f.h, .int .i64 f.d, .int .i64 f.c, .int .i64 f.l, .slice PA f.pal.length pc, .slice KA f.key.length kc] ∧ Below W.heap.size W w
set_option maxRecDepth 100000 in
set_option maxHeartbeats 8000000 in
theorem fsame_any (f : Fm) (PA KA QA LA : Option Addr) (pc kc qc lc : Nat) (W : World) (hp : RdP W W.heap.size PA f.pal) (hk : RdI W W.heap.size KA f.key) (hq : RdP W W.heap.size QA f.pal) (hl : RdI W W.heap.size LA f.key) (hpm : f.pal.length ≤ 1000000) (hkm : f.key.length ≤ 1000000) :
    Calls Try.prog 19 #[.agg #[.int .i64 f.w, .int .i64 f.h, .int .i64 f.d, .int .i64 f.c, .int .i64 f.l, .slice QA f.pal.length qc, .slice LA f.key.length lc], .agg #[.int .i64 f.w, .int .i64 f.h, .int .i64 f.d, .int .i64 f.c, .int .i64 f.l, .slice PA f.pal.length pc, .slice KA f.key.length kc]] W fun e w' => e = .returned (.bool true) ∧ Below W.heap.size W w' := by
  have b0 := (Blk.new W 38 #[.int .i64 f.w, .int .i64 f.h, .int .i64 f.d, .int .i64 f.c, .int .i64 f.l, .slice QA f.pal.length qc, .slice LA f.key.length lc]).alloc (.cells #[.int .i64 f.w, .int .i64 f.h, .int .i64 f.d, .int .i64 f.c, .int .i64 f.l, .slice PA f.pal.length pc, .slice KA f.key.length kc] 27)
  have b1 := Blk.new (W.alloc (.cells #[.int .i64 f.w, .int .i64 f.h, .int .i64 f.d, .int .i64 f.c, .int .i64 f.l, .slice QA f.pal.length qc, .slice LA f.key.length lc] 38)) 27 #[.int .i64 f.w, .int .i64 f.h, .int .i64 f.d, .int .i64 f.c, .int .i64 f.l, .slice PA f.pal.length pc, .slice KA f.key.length kc]
  simp only [World.size_alloc] at b1
  have Hb0 := hid (show Below W.heap.size W ((W.alloc (.cells #[.int .i64 f.w, .int .i64 f.h, .int .i64 f.d, .int .i64 f.c, .int .i64 f.l, .slice QA f.pal.length qc, .slice LA f.key.length lc] 38)).alloc (.cells #[.int .i64 f.w, .int .i64 f.h, .int .i64 f.d, .int .i64 f.c, .int .i64 f.l, .slice PA f.pal.length pc, .slice KA f.key.length kc] 27)) from ((Below.refl _ _).alloc (Nat.le_refl _) _).alloc (by simp) _)
  have HS0 : Hid (SmW ((W.alloc (.cells #[.int .i64 f.w, .int .i64 f.h, .int .i64 f.d, .int .i64 f.c, .int .i64 f.l, .slice QA f.pal.length qc, .slice LA f.key.length lc] 38)).alloc (.cells #[.int .i64 f.w, .int .i64 f.h, .int .i64 f.d, .int .i64 f.c, .int .i64 f.l, .slice PA f.pal.length pc, .slice KA f.key.length kc] 27)) W f PA KA QA LA pc kc qc lc) := ⟨b0, b1, Hb0.out⟩
  have Hp := hid hp
  have Hk := hid hk
  have Hq := hid hq
  have Hl := hid hl
  clear b0 b1 hp hk hq hl
  go_enter Try.func19, Try.ntmps19
  go_wp2_with fail
  refine (ints_refl LA KA lc kc f.key _ W.heap.size (Hl.out.below Hb0.out (Nat.le_refl _)) (Hk.out.below Hb0.out (Nat.le_refl _)) (by omega)).mono ?_
  rintro e w1 ⟨rfl, nd, hw1⟩
  have HS1 : Hid (SmW w1 W f PA KA QA LA pc kc qc lc) := by
    subst hw1
    exact ⟨HS0.out.1, HS0.out.2.1, below_drewN HS0.out.2.2 _⟩
  clear HS0 Hb0 hw1
  have q0 := HS1.out.1.cell 0
  have q1 := HS1.out.1.cell 1
  have q2 := HS1.out.1.cell 2
  have q3 := HS1.out.1.cell 3
  have q4 := HS1.out.1.cell 4
  have q5 := HS1.out.1.cell 5
  have q6 := HS1.out.1.cell 6
  simp only [List.getElem?_toArray, List.getElem?_cons_zero, List.getElem?_cons_succ] at q0 q1 q2 q3 q4 q5 q6
  go_wp2_with fail
  go_loopw [31] (fun i wr => ∃ (j : Nat), j ≤ f.pal.length ∧ i = .int .i64 j ∧ SmW wr W f PA KA QA LA pc kc qc lc) (fun i _ => f.pal.length - (intOf i).toNat)
  case atStart => exact ⟨0, by omega, rfl, HS1.out⟩
  case round =>
    obtain ⟨j, hj, rfl, hs⟩ := hrel
    have HS := hid hs
    clear hs HS1 q0 q1 q2 q3 q4 q5 q6
    by_cases hlt : j < f.pal.length
    · obtain ⟨b, off, rfl, hbb, x0, x1, x2, x3⟩ := px_at (Rd.below Hp.out HS.out.2.2 (Nat.le_refl _)) hlt
      obtain ⟨b', off', rfl, hbb', y0, y1, y2, y3⟩ := px_at (Rd.below Hq.out HS.out.2.2 (Nat.le_refl _)) hlt
      generalize f.pal[j] = x at *
      obtain ⟨xr, xg, xb, xa⟩ := x
      simp only at x0 x1 x2 x3 y0 y1 y2 y3
      have q5 := HS.out.1.cell 5
      have t5 := HS.out.2.1.cell 5
      simp only [List.getElem?_toArray, List.getElem?_cons_zero, List.getElem?_cons_succ] at q5 t5
      go_wp2_with fail
      go_quiet (fail)
      go_wp2_with fail
      go_roundw
      case rel => exact ⟨j + 1, by omega, by go_num, HS.out.1, HS.out.2.1, below_drewN HS.out.2.2 _⟩
      case measure => simp [intOf]; omega
    · have e : j = f.pal.length := by omega
      subst e
      go_wp2_with fail
      go_ret
      exact ⟨rfl, HS.out.2.2⟩

end Go.Proofs.Ytphhoihhmphbdaa
