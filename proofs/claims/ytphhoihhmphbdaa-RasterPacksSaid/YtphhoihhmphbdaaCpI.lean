/-
  burnishnum.Ints where both sides say the same; CopyInts.
-/
import Derived.Test.YtphhoihhmphbdaaBase
namespace Go.Proofs.Ytphhoihhmphbdaa
open Go.RowKit

theorem ints_refl (A B : Option Addr) (c d : Nat) (l : List Int) (W : World) (K : Nat) (h1 : RdI W K A l) (h2 : RdI W K B l) (hm : l.length ≤ 2000000) :
    Calls Try.prog 57 #[.slice A l.length c, .slice B l.length d] W fun e w' => e = .returned (.bool true) ∧ ∃ n, w' = W.drewN n := by
  have H1 := hid h1
  have H2 := hid h2
  clear h1 h2
  go_enter Try.func57, Try.ntmps57
  go_wp2
  go_loopw [13] (fun i wr => ∃ j n : Nat, j ≤ l.length ∧ i = .int .i64 j ∧ wr = W.drewN n) (fun i _ => l.length - (intOf i).toNat)
  case atStart => exact ⟨0, 0, by omega, rfl, rfl⟩
  case round =>
    obtain ⟨j, n, hj, rfl, rfl⟩ := hrel
    by_cases hlt : j < l.length
    · obtain ⟨b, off, rfl, hbb, q0⟩ := int_at H1.out hlt
      obtain ⟨b', off', rfl, hbb', p0⟩ := int_at H2.out hlt
      generalize l[j] = t at *
      go_wp2
      go_quiet (fail)
      go_wp2
      go_roundw
      case rel => exact ⟨j + 1, n + nq, by omega, by go_num, by simp⟩
      case measure => simp [intOf]; omega
    · go_wp2
      go_ret
      exact ⟨rfl, n, rfl⟩

/-- a copy of numbers, with its mark in its spare room -/
def Copied (l : List Int) (W : World) (e : Ending) (w' : World) : Prop :=
  e = .returned (.slice (some ⟨W.heap.size, 0, none⟩) l.length (l.length + 1)) ∧ Blk w' W.heap.size 3 (intsV l ++ [Value.int .i64 (-77)]).toArray ∧ Below W.heap.size W w'

set_option maxRecDepth 100000 in
set_option maxHeartbeats 1000000 in
theorem copyInts_any (A : Option Addr) (c : Nat) (l : List Int) (W : World) (hr : RdI W W.heap.size A l) (hnil : A = none → l.length = 0) (hm : l.length ≤ 2000000) :
    Calls Try.prog 40 #[.slice A l.length c] W (Copied l W) := by
  obtain ⟨i0, hi0, hz0, hz1, hz2⟩ := info_parts int_info
  have Hmk := hid (show ∀ w : World, (Instr.makeSlice 25 (.int .i64 0) (.int .i64 ((l.length : Int) + 1))).run Try.prog w = .ok (.slice (some ⟨w.heap.size, 0, none⟩) 0 (l.length + 1)) (w.alloc (.cells (List.replicate (l.length + 1) (Value.int .i64 0)).toArray 3)) from by
    intro w
    have h := run_make (P := Try.prog) w 25 3 i0 (.int .i64 0) Try.underlying25 hi0 hz0 .i64 .i64 0 ((l.length : Int) + 1) (Int.le_refl _) (by omega) (by rw [hz2]; omega) (by omega)
    rw [hz1, made_list _ _ rfl] at h
    exact h)
  have Hr := hid (show Rd W W.heap.size 1 A l.length (intsV l) by rw [← intsV_eq]; exact hr)
  have Hnil := hid hnil
  have Hi0 := hid hi0
  have Hz1 := hid hz1
  clear hi0 hz0 hz1 hz2 hr hnil
  go_enter Try.func40, Try.ntmps40
  have hmk := Hmk.out
  have H0 := hid (Blk.new W 3 (List.replicate (l.length + 1) (Value.int .i64 0)).toArray)
  go_wp2_with (first
    | (at_builtin; refine wpList_room _ rfl (.tmp 6) (.tmp 7) _ rfl 3 i0 Try.underlying25 Hi0.out Hz1.out W.heap.size 0 (l.length + 1) _ rfl H0.out (by simp) W.heap.size A l.length c (intsV l) rfl (Hr.out.alloc (Nat.le_refl _) _) Hnil.out (by intro u hu; obtain ⟨x, _, rfl⟩ := List.mem_map.1 hu; rfl) (by omega) ?_; intro w1 h1; have H1 := hid h1; clear h1)
    | (at_builtin; refine wpList_room _ rfl (.tmp 8) (.tmp 9) _ rfl 3 i0 Try.underlying25 Hi0.out Hz1.out W.heap.size l.length (l.length + 1) _ rfl (Blk.alloc H1.out.1 _) (by simp [intsV]) _ _ 1 1 [.int .i64 (-77)] rfl (rd_one _ _ _ _ (Blk.new _ _ _)) (by simp) (by simp [Value.oneCell']) (by omega) ?_; intro w2 h2; have H2 := hid h2; clear h2))
  go_ret
  obtain ⟨g1, g2⟩ := copied_blk (n := l.length) (k := 1) (intsV_length l) rfl H1.out rfl H2.out
  exact ⟨rfl, g1, g2⟩

end Go.Proofs.Ytphhoihhmphbdaa
