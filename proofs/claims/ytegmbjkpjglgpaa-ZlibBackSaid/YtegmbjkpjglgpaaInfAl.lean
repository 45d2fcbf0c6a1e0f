/-
  burnishlaw06.alive.
-/
import Derived.Test.YtegmbjkpjglgpaaInfInf
namespace Go.Proofs.Ytegmbjkpjglgpaa
open Go.RowKit

theorem alive_res : infM (bitsL [75, 4, 0]) 9 = .ok ⟨18, 1, [(0, 97)]⟩ := by kernel_rfl
theorem alive_lay : ([(0, 97)] : List (Int × Int)).foldl layTok [] = [97] := by rfl
set_option maxRecDepth 100000 in
theorem alive_first (W : World) : Calls Try.prog 20 #[.slice (some ⟨W.heap.size, 0, none⟩) 3 3, .int .i64 9] (W.alloc (.cells #[.int .u8 75, .int .u8 4, .int .u8 0] 5)) fun e w' => ∃ A c, e = .returned (.tuple #[.slice A 1 c, .int .i64 3, .nilIface]) ∧ Rd w' w'.heap.size 1 A 1 (bytesV [97]) ∧ Below W.heap.size W w' := by
  have hb : ∀ x ∈ ([75, 4, 0] : List Int), isB x := by intro x hx; simp at hx; unfold isB; omega
  have hrd : Rd (w := W.alloc (.cells #[.int .u8 75, .int .u8 4, .int .u8 0] 5)) (W.alloc (.cells #[.int .u8 75, .int .u8 4, .int .u8 0] 5)).heap.size 1 (some ⟨W.heap.size, 0, none⟩) 3 (bytesV [75, 4, 0]) :=
    own_rd (own_of_blk (base := 0) (n := 3) (Blk.new W 5 #[.int .u8 75, .int .u8 4, .int .u8 0]) (Nat.zero_le _) rfl (by decide))
  refine (inflate_any (some ⟨W.heap.size, 0, none⟩) 3 [75, 4, 0] 9 _ hrd (fun h => by cases h) hb (by decide)).mono ?_
  rintro e w1 ⟨hbw, hE⟩
  rw [alive_res] at hE
  obtain ⟨A1, c1, he, ho⟩ := hE
  have he : e = .returned (.tuple #[.slice A1 (([(0, 97)] : List (Int × Int)).foldl layTok []).length c1, .int .i64 3, .nilIface]) := he
  have ho : w1.ownsRow (W.alloc (.cells #[.int .u8 75, .int .u8 4, .int .u8 0] 5)).heap.size 5 1 (.slice A1 (([(0, 97)] : List (Int × Int)).foldl layTok []).length c1) (([(0, 97)] : List (Int × Int)).foldl layTok []).length (bytesV (([(0, 97)] : List (Int × Int)).foldl layTok [])) := ho
  rw [alive_lay] at he ho
  exact ⟨A1, c1, he, own_rd ho, (below_alloc1 W _).trans (hbw.mono (by simp))⟩
theorem alive6_any (W : World) : Calls Try.prog 18 #[] W fun e w' => e = .returned (.bool true) ∧ Below W.heap.size W w' := by
  go_enter Try.func18, Try.ntmps18
  go_wp2_with fail
  refine (alive_first W).mono ?_
  rintro e w1 ⟨A1, c1, rfl, ho, hb⟩
  have B1 := hid hb
  have k1 : (Go.convert 42 9 (.slice A1 1 c1)).run Try.prog w1 = .ok (.string ⟨#[97]⟩) w1 := conv_bytes (l := [97]) ho
  clear ho hb
  go_wp2_with fail
  go_ret
  exact ⟨rfl, B1.out⟩
end Go.Proofs.Ytegmbjkpjglgpaa
