/-
  raster.Form.wholeBytes: a pixel's bytes, 1 at least; burnishref17.pixelBytes.
-/
import Derived.Test.YtphhoihhmphbdaaPixel
import Derived.Test.YtphhoihhmphbdaaLaceA
import Derived.Deep.QuietTactic
import Derived.BigQuiet
namespace Go.Proofs.Ytphhoihhmphbdaa
open Go.RowKit

/-- a pixel's whole bytes -/
def whM (d c : Int) : Int := if chan c * d / 8 < 1 then 1 else chan c * d / 8
theorem whM_bd (d c : Int) (hd : deepOk d) : 1 ≤ whM d c ∧ whM d c ≤ 8 := by
  have h1 := chan_bd c
  have h2 := deep_bd hd
  have h3 : chan c * d ≤ 4 * 16 := Int.mul_le_mul h1.2 h2.2 (by omega) (by omega)
  unfold whM
  split <;> omega
set_option maxRecDepth 100000 in
set_option maxHeartbeats 4000000 in
theorem whole_any (f : Fm) (PA KA : Option Addr) (pc kc : Nat) (hd : deepOk f.d) (W : World) : Calls Try.prog 35 #[.agg #[.int .i64 f.w, .int .i64 f.h, .int .i64 f.d, .int .i64 f.c, .int .i64 f.l, .slice PA f.pal.length pc, .slice KA f.key.length kc]] W fun e w' => e = .returned (.int .i64 (whM f.d f.c)) ∧ Below W.heap.size W w' := by
  have K0 := hid (Blk.new W 38 #[.int .i64 f.w, .int .i64 f.h, .int .i64 f.d, .int .i64 f.c, .int .i64 f.l, .slice PA f.pal.length pc, .slice KA f.key.length kc])
  have B0 := hid ((Below.refl W.heap.size W).alloc (Nat.le_refl _) (.cells #[.int .i64 f.w, .int .i64 f.h, .int .i64 f.d, .int .i64 f.c, .int .i64 f.l, .slice PA f.pal.length pc, .slice KA f.key.length kc] 38))
  have hc := chan_bd f.c
  have hdb := deep_bd hd
  obtain ⟨k, hk⟩ : ∃ k, k = chan f.c * f.d := ⟨_, rfl⟩
  have hk1 : k ≤ 64 := by rw [hk]; exact Int.mul_le_mul hc.2 hdb.2 (by omega) (by omega)
  have hk0 : 0 ≤ k := by rw [hk]; exact Int.mul_nonneg hc.1 (by omega)
  have hke : chan f.c * f.d = k := hk.symm
  have HW := hid (show whM f.d f.c = if k / 8 < 1 then 1 else k / 8 from by unfold whM; rw [← hk])
  have ht : k.tdiv 8 = k / 8 := Int.tdiv_eq_ediv_of_nonneg hk0
  have CH := hid (fun w => channels_any f.c w)
  generalize chan f.c = ch at *
  obtain ⟨w0, hw0⟩ : ∃ w0, w0 = W.alloc (.cells #[.int .i64 f.w, .int .i64 f.h, .int .i64 f.d, .int .i64 f.c, .int .i64 f.l, .slice PA f.pal.length pc, .slice KA f.key.length kc] 38) := ⟨_, rfl⟩
  have hg0 : W.heap.size < w0.heap.size := by rw [hw0]; simp
  rw [← hw0] at K0 B0
  have q2 := K0.out.cell 2
  have q3 := K0.out.cell 3
  simp only [List.getElem?_toArray, List.getElem?_cons_zero, List.getElem?_cons_succ] at q2 q3
  have Hw0 := hid hw0
  clear hw0 hk hd hdb hc
  go_enter Try.func35, Try.ntmps35
  go_upto_region 1 with (fail)
  rw [← Hw0.out]
  go_quiet ((go_at_call 31; exact Calls.quiet_of_same ((CH.out _).mono fun _ _ ⟨h1, h2⟩ => ⟨h1, h2.symm⟩)))
  go_wp2
  all_goals
    go_ret
    refine ⟨ret_int ?_, below_drewN B0.out nq⟩
    rw [HW.out]
    split <;> omega
end Go.Proofs.Ytphhoihhmphbdaa
