/-
  burnishnum.KeptInts.
-/
import Derived.Test.YtlekobompjehdaaBase
namespace Go.Proofs.Ytlekobompjehdaa
open Go.RowKit

set_option maxRecDepth 100000 in
set_option maxHeartbeats 1000000 in
theorem keptInts_any (A : Option Addr) (c g : Nat) (l : List Int) (W : World) (K : Nat) (hg : Blk W g 3 (intsV l ++ [Value.int .i64 (-77)]).toArray) (hr : RdI W K A l) (hm : l.length ≤ 2000000) :
    Calls Try.prog 19 #[.slice (some ⟨g, 0, none⟩) l.length (l.length + 1), .slice A l.length c] W fun e w' => e = .returned (.bool true) ∧ ∃ n, w' = W.drewN n := by
  have hc : W.cell? ⟨g, l.length, none⟩ = some (.int .i64 (-77)) := by
    rw [hg.cell l.length]
    have : l.length = (intsV l).length := by simp [intsV]
    simp [this]
  have H := hid (ints_refl (some ⟨g, 0, none⟩) A (l.length + 1) c l W (max K (g + 1)) (RdI.of_cells (by omega) (fun j hj => by rw [hg.cell j]; simp [intsV, hj, List.getElem?_append_left])) (hr.more (by omega)) hm)
  clear hg hr
  go_enter Try.func19, Try.ntmps19
  go_wp2_with fail
  refine H.out.mono ?_
  rintro e w' ⟨rfl, n, rfl⟩
  go_wp2
  go_ret
  exact ⟨rfl, n, rfl⟩

end Go.Proofs.Ytlekobompjehdaa
