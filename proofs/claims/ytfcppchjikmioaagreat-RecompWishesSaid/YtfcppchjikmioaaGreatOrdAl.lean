/-
  recomp.Sniff of ff d8; burnishlaw26.alive.
-/
import Derived.Test.YtfcppchjikmioaaGreatOrdD
import Derived.Test.YtfcppchjikmioaaGreatCnv
namespace Go.Proofs.YtfcppchjikmioaaGreat
open Go.RowKit Go.Lib

theorem own_of_blkW {w : World} {g : Nat} {xs : List Value} {n : Nat} (h : Blk w g 5 xs.toArray) (hl : xs.length = n) (hm : n ≤ maxLen) : w.ownsRow 0 5 1 (.slice (some ⟨g, 0, none⟩) n n) n xs :=
  ⟨by omega, .inr ⟨g, n, xs.toArray, rfl, Nat.zero_le _, h, Nat.le_refl _, hm, by simp; omega, by rw [List.toList_toArray, List.take_of_length_le (by omega)]⟩⟩
def exO : ByteArray := ⟨#[116, 117, 114, 110, 61, 102, 108, 105, 112, 44, 119, 61, 49, 54]⟩
theorem exO_ord : ordP exO = some ⟨1, false, true, 0, 0, 16, 65535, false, 0, 0, -1⟩ := by kernel_rfl
def ExOEnd (W : World) (e : Ending) (w' : World) : Prop := e = .returned (.tuple #[.agg #[.int .i64 1, .bool false, .bool true, .int .i64 0, .int .i64 0, .int .i64 16, .int .i64 65535, .bool false, .int .i64 0, .int .i64 0, .int .i64 (-1)], .nilIface]) ∧ Below W.heap.size W w'
theorem exO_any (W : World) : Calls Tryz.prog 20 #[.string ⟨#[116, 117, 114, 110, 61, 102, 108, 105, 112, 44, 119, 61, 49, 54]⟩] W (ExOEnd W) := by
  refine (order_any exO (by decide) W).mono ?_
  rintro e w' ⟨hb, hE⟩
  rw [exO_ord] at hE
  exact ⟨hE, hb⟩

set_option maxRecDepth 100000 in
set_option maxHeartbeats 2000000 in
theorem sniff_ffd8 (W : World) : Calls Tryz.prog 37 #[.slice (some ⟨W.heap.size, 0, none⟩) 2 2] (W.alloc (.cells #[.int .u8 255, .int .u8 216] 5)) fun e w' => e = .returned (.int .i64 1) ∧ Below W.heap.size W w' := by
  obtain ⟨w1, hw1⟩ : ∃ w1, w1 = W.alloc (.cells #[.int .u8 255, .int .u8 216] 5) := ⟨_, rfl⟩
  obtain ⟨w2, hw2⟩ : ∃ w2, w2 = w1.alloc (.cells #[.int .u8 255, .int .u8 216] 5) := ⟨_, rfl⟩
  have hz1 : w1.heap.size = W.heap.size + 1 := by rw [hw1]; simp
  have b1 : Blk w1 W.heap.size 5 #[.int .u8 255, .int .u8 216] := hw1 ▸ Blk.new W _ _
  have b2 : Blk w2 w1.heap.size 5 #[.int .u8 255, .int .u8 216] := hw2 ▸ Blk.new w1 _ _
  have hb2 : Below w1.heap.size w1 w2 := hw2 ▸ below_allocW w1 _
  have b3 := b1.below hb2 b1.lt
  have k1 : (Go.convert 75 9 (.slice (some ⟨W.heap.size, 0, none⟩) 2 2)).run Tryz.prog w2 = .ok (.string ⟨#[255, 216]⟩) w2 := conv_bytes (l := [255, 216]) (own_rd (own_of_blkW (xs := bytesV [255, 216]) b3 rfl (by decide)))
  have k2 : (Go.convert 75 9 (.slice (some ⟨w1.heap.size, 0, none⟩) 2 2)).run Tryz.prog w2 = .ok (.string ⟨#[255, 216]⟩) w2 := conv_bytes (l := [255, 216]) (own_rd (own_of_blkW (xs := bytesV [255, 216]) b2 rfl (by decide)))
  have hB := hid (show Below W.heap.size W w2 from by rw [hw2, hw1]; exact below_two W _ _)
  rw [← hw1]
  have h1 : W.heap.size < w1.heap.size := by omega
  rw [hw2] at k1 k2 hB
  clear b1 b2 hb2 b3 hz1 hw1 hw2
  go_enter Tryz.func37, Tryz.ntmps37
  go_wp2
  go_ret
  exact ⟨rfl, hB.out⟩
theorem od_eql (o : Od) (w : World) : (binOp .eql 50 (odV o) (odV o)).run Tryz.prog w = .ok (.bool true) w := by
  unfold odV
  go_simp
set_option maxRecDepth 100000 in
theorem alive26_any (W : World) : Calls Tryz.prog 17 #[] W fun e w' => e = .returned (.bool true) ∧ Below W.heap.size W w' := by
  have EX := hid (exO_any W)
  unfold ExOEnd at EX
  go_enter Tryz.func17, Tryz.ntmps17
  go_wp2_with fail
  refine (EX.out).mono ?_
  rintro e w1 ⟨rfl, hb1⟩
  have B1 := hid hb1
  have SN := hid (sniff_ffd8 (w1.alloc (.cells #[.int .i64 1, .bool false, .bool true, .int .i64 0, .int .i64 0, .int .i64 16, .int .i64 65535, .bool false, .int .i64 0, .int .i64 0, .int .i64 (-1)] 50)))
  have hsz : (w1.alloc (.cells #[.int .i64 1, .bool false, .bool true, .int .i64 0, .int .i64 0, .int .i64 16, .int .i64 65535, .bool false, .int .i64 0, .int .i64 0, .int .i64 (-1)] 50)).heap.size = w1.heap.size + 1 := by simp
  rw [hsz] at SN
  clear hb1 hsz
  go_wp2_with fail
  refine (SN.out).mono ?_
  rintro e w2 ⟨rfl, hb2⟩
  go_wp2_with fail
  go_ret
  exact ⟨rfl, (B1.out.alloc B1.out.size _).trans (hb2.mono (by have := B1.out.size; simp; omega))⟩
end Go.Proofs.YtfcppchjikmioaaGreat
