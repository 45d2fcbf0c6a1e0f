/-
  What the program's table says of bytes.
  sums.Put of four bytes, slices.Clone of bytes.
-/
import Derived.Test.YtoppjcmkhhkbmaaGreatSqueezePlainx1
namespace Go.Proofs.YtoppjcmkhhkbmaaGreat
theorem u8_info : (Tryz.prog.info? 5).map (fun i => (i.zero, i.size, i.bytes)) = some (some (.int .u8 0), 1, 1) := by kernel_rfl
end Go.Proofs.YtoppjcmkhhkbmaaGreat

namespace Go.Proofs.YtoppjcmkhhkbmaaGreat
open Go.RowKit
/-- what slices.Clone of bytes hands back -/
def ClonedB (l : List Int) (W : World) (e : Ending) (w' : World) : Prop :=
  ∃ A c, e = .returned (.slice A l.length c) ∧ w'.ownsRow W.heap.size 5 1 (.slice A l.length c) l.length (bytesV l) ∧ Below W.heap.size W w'
theorem empty_own (w : World) (t : TypeId) (size : Nat) : (w.alloc (.cells #[] t)).ownsRow w.heap.size t size (.slice (some ⟨w.heap.size, 0, none⟩) 0 0) 0 [] :=
  ⟨by simp, .inr ⟨w.heap.size, 0, #[], rfl, Nat.le_refl _, Blk.new w t #[], Nat.le_refl _, by simp [maxLen], by simp, by simp⟩⟩

set_option maxRecDepth 100000 in
set_option maxHeartbeats 1000000 in
theorem clone_any (A : Option Addr) (c : Nat) (l : List Int) (W : World) (hr : Rd W W.heap.size 1 A l.length (bytesV l)) (hc : A = none → c = 0) (hm : l.length ≤ 10000000) :
    Calls Tryz.prog 57 #[.slice A l.length c] W (ClonedB l W) := by
  cases A with
  | none =>
    obtain rfl := hc rfl
    have hl := rd_nil hr (by omega) rfl
    obtain rfl := List.eq_nil_of_length_eq_zero hl
    have hq := fun w => Lib.run_eql_slice_nil (P := Tryz.prog) w 22 5 none 0 0 0 0 Tryz.underlying22
    go_enter Tryz.func57, Tryz.ntmps57
    go_wp2
    go_ret
    exact ⟨none, 0, rfl, World.ownsRow_nil _ _ _ _, Below.refl _ _⟩
  | some ad =>
    obtain ⟨i0, hi0, hz0, hz1, hz2⟩ := info_parts u8_info
    have Hi0 := hid hi0
    have Hz0 := hid hz0
    have Hz1 := hid hz1
    have Hz2 := hid hz2
    have Hr := hid hr
    clear hi0 hz0 hz1 hz2 hr hc
    have hq := fun w => Lib.run_eql_slice_nil (P := Tryz.prog) w 22 5 ad l.length c 0 0 Tryz.underlying22
    go_enter Tryz.func57, Tryz.ntmps57
    go_wp2_with (at_builtin; refine wpList_app _ rfl _ _ _ rfl W.heap.size 5 i0 (.int .u8 0) 1 1 Tryz.underlying22 Hi0.out Hz0.out Hz1.out Hz2.out rfl (by omega) _ 0 0 [] rfl (empty_own W _ 1) W.heap.size _ l.length c (bytesV l) rfl (Hr.out.alloc (Nat.le_refl _) _) (by simp) bytesV_cells (by simp only [maxLen]; omega) (by omega) (by simp) ?_; rintro A3 c3 w3 ⟨hown3, hgr3, hb3, _⟩)
    go_ret
    refine ⟨A3, c3, by simp, by simpa using hown3, ((Below.refl _ _).alloc (Nat.le_refl _) _).trans hb3⟩

end Go.Proofs.YtoppjcmkhhkbmaaGreat
