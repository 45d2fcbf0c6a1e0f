/-
  burnishlaw26.alive; RecompOrders' law.
-/
import Derived.Test.YtegmbjkpjglgpaaOrdE
import Derived.Test.YtegmbjkpjglgpaaBv
namespace Go.Proofs.Ytegmbjkpjglgpaa
open Go.RowKit Go.Lib

theorem own_of_blkW {w : World} {g : Nat} {xs : List Value} {n : Nat} (h : Blk w g 5 xs.toArray) (hl : xs.length = n) (hm : n ≤ maxLen) : w.ownsRow 0 5 1 (.slice (some ⟨g, 0, none⟩) n n) n xs :=
  ⟨by omega, .inr ⟨g, n, xs.toArray, rfl, Nat.zero_le _, h, Nat.le_refl _, hm, by simp; omega, by rw [List.toList_toArray, List.take_of_length_le (by omega)]⟩⟩
def exO : ByteArray := ⟨#[116, 117, 114, 110, 61, 102, 108, 105, 112, 44, 119, 61, 49, 54]⟩
theorem exO_ord : ordP exO = some ⟨1, false, true, 0, 0, 16, 65535, false, 0, 0, -1⟩ := by kernel_rfl
def ExOEnd (W : World) (e : Ending) (w' : World) : Prop := e = .returned (.tuple #[.agg #[.int .i64 1, .bool false, .bool true, .int .i64 0, .int .i64 0, .int .i64 16, .int .i64 65535, .bool false, .int .i64 0, .int .i64 0, .int .i64 (-1)], .nilIface]) ∧ Below W.heap.size W w'
theorem exO_any (W : World) : Calls Try.prog 15 #[.string ⟨#[116, 117, 114, 110, 61, 102, 108, 105, 112, 44, 119, 61, 49, 54]⟩] W (ExOEnd W) := by
  refine (order_any exO (by decide) W).mono ?_
  rintro e w' ⟨hb, hE⟩
  rw [exO_ord] at hE
  exact ⟨hE, hb⟩

set_option maxRecDepth 100000 in
set_option maxHeartbeats 2000000 in
theorem sniff_ffd8 (W : World) : Calls Try.prog 40 #[.slice (some ⟨W.heap.size, 0, none⟩) 2 2] (W.alloc (.cells #[.int .u8 255, .int .u8 216] 5)) fun e w' => e = .returned (.int .i64 1) ∧ Below W.heap.size W w' := by
  obtain ⟨w1, hw1⟩ : ∃ w1, w1 = W.alloc (.cells #[.int .u8 255, .int .u8 216] 5) := ⟨_, rfl⟩
  obtain ⟨w2, hw2⟩ : ∃ w2, w2 = w1.alloc (.cells #[.int .u8 255, .int .u8 216] 5) := ⟨_, rfl⟩
  have hz1 : w1.heap.size = W.heap.size + 1 := by rw [hw1]; simp
  have b1 : Blk w1 W.heap.size 5 #[.int .u8 255, .int .u8 216] := hw1 ▸ Blk.new W _ _
  have b2 : Blk w2 w1.heap.size 5 #[.int .u8 255, .int .u8 216] := hw2 ▸ Blk.new w1 _ _
  have hb2 : Below w1.heap.size w1 w2 := hw2 ▸ below_allocW w1 _
  have b3 := b1.below hb2 b1.lt
  have k1 : (Go.convert 42 9 (.slice (some ⟨W.heap.size, 0, none⟩) 2 2)).run Try.prog w2 = .ok (.string ⟨#[255, 216]⟩) w2 := conv_bytes (l := [255, 216]) (own_rd (own_of_blkW (xs := bytesV [255, 216]) b3 rfl (by decide)))
  have k2 : (Go.convert 42 9 (.slice (some ⟨w1.heap.size, 0, none⟩) 2 2)).run Try.prog w2 = .ok (.string ⟨#[255, 216]⟩) w2 := conv_bytes (l := [255, 216]) (own_rd (own_of_blkW (xs := bytesV [255, 216]) b2 rfl (by decide)))
  have hB := hid (show Below W.heap.size W w2 from by rw [hw2, hw1]; exact below_two W _ _)
  rw [← hw1]
  have h1 : W.heap.size < w1.heap.size := by omega
  rw [hw2] at k1 k2 hB
  clear b1 b2 hb2 b3 hz1 hw1 hw2
  go_enter Try.func40, Try.ntmps40
  go_wp2
  go_ret
  exact ⟨rfl, hB.out⟩
theorem od_eql (o : Od) (w : World) : (binOp .eql 32 (odV o) (odV o)).run Try.prog w = .ok (.bool true) w := by
  unfold odV
  go_simp
set_option maxRecDepth 100000 in
theorem alive26_any (W : World) : Calls Try.prog 14 #[] W fun e w' => e = .returned (.bool true) ∧ Below W.heap.size W w' := by
  have EX := hid (exO_any W)
  unfold ExOEnd at EX
  go_enter Try.func14, Try.ntmps14
  go_wp2_with fail
  refine (EX.out).mono ?_
  rintro e w1 ⟨rfl, hb1⟩
  have B1 := hid hb1
  have SN := hid (sniff_ffd8 (w1.alloc (.cells #[.int .i64 1, .bool false, .bool true, .int .i64 0, .int .i64 0, .int .i64 16, .int .i64 65535, .bool false, .int .i64 0, .int .i64 0, .int .i64 (-1)] 32)))
  have hsz : (w1.alloc (.cells #[.int .i64 1, .bool false, .bool true, .int .i64 0, .int .i64 0, .int .i64 16, .int .i64 65535, .bool false, .int .i64 0, .int .i64 0, .int .i64 (-1)] 32)).heap.size = w1.heap.size + 1 := by simp
  rw [hsz] at SN
  clear hb1 hsz
  go_wp2_with fail
  refine (SN.out).mono ?_
  rintro e w2 ⟨rfl, hb2⟩
  go_wp2_with fail
  go_ret
  exact ⟨rfl, (B1.out.alloc B1.out.size _).trans (hb2.mono (by have := B1.out.size; simp; omega))⟩
set_option maxRecDepth 100000 in
set_option maxHeartbeats 4000000 in
theorem orders_law (s : ByteArray) (W : World) : Calls Try.prog 4 #[.string s] W fun e w' => e = .returned (.bool true) ∧ Below W.heap.size W w' := by
  by_cases hf : 2000 < s.size
  · have d1 : decide (2000 < s.size) = true := decide_eq_true hf
    have d2 : decide ((2000 : Int) < (s.size : Int)) = true := decide_eq_true (by omega)
    clear hf
    go_enter Try.func4, Try.ntmps4
    go_wp2_with fail
    refine (alive26_any W).mono ?_
    rintro e w1 ⟨rfl, hb1⟩
    go_wp2_with fail
    go_ret
    exact ⟨rfl, hb1⟩
  · have d1 : decide (2000 < s.size) = false := decide_eq_false hf
    have d2 : decide ((2000 : Int) < (s.size : Int)) = false := decide_eq_false (by omega)
    have OA := hid (fun w => order_any s (by omega) w)
    have RA := hid (fun w => rorder_any s (by omega) w)
    clear hf
    go_enter Try.func4, Try.ntmps4
    go_wp2_with fail
    refine (alive26_any W).mono ?_
    rintro e w1 ⟨rfl, hb1⟩
    have B1 := hid hb1
    clear hb1
    go_wp2_with fail
    refine (OA.out w1).mono ?_
    rintro e w2 ⟨hb2, hE⟩
    have B2 := hid (B1.out.trans (hb2.mono B1.out.size))
    clear hb2
    cases ho : ordP s with
    | none =>
      rw [ho] at hE
      have hE : e = .returned (.tuple #[.agg #[.int .i64 0, .bool false, .bool false, .int .i64 0, .int .i64 0, .int .i64 0, .int .i64 0, .bool false, .int .i64 0, .int .i64 0, .int .i64 0], .iface 40 (.int .i64 1)]) := hE
      subst hE
      have HO := hid ho
      have RA2 := hid (RA.out (w2.alloc (.cells (odC odZ) 32)))
      clear ho
      go_wp2_with fail
      refine (RA2.out).mono ?_
      rintro e w3 ⟨hb3, hE3⟩
      rw [HO.out] at hE3
      have hE3 : e = .returned (.tuple #[.agg #[.int .i64 0, .bool false, .bool false, .int .i64 0, .int .i64 0, .int .i64 0, .int .i64 0, .bool false, .int .i64 0, .int .i64 0, .int .i64 0], .bool false]) := hE3
      subst hE3
      have K3 := hid ((Blk.new w2 32 (odC odZ)).below hb3 (by simp))
      have B3 := hid ((B2.out.alloc B2.out.size (.cells (odC odZ) 32)).trans (hb3.mono (by have := B2.out.size; simp; omega)))
      have hlt : w2.heap.size < w3.heap.size := K3.out.lt
      clear hb3
      have c0 : w3.cell? ⟨w2.heap.size, 0, none⟩ = some (.int .i64 0) := K3.out.cell 0
      have c1 : w3.cell? ⟨w2.heap.size, 1, none⟩ = some (.bool false) := K3.out.cell 1
      have c2 : w3.cell? ⟨w2.heap.size, 2, none⟩ = some (.bool false) := K3.out.cell 2
      have c3 : w3.cell? ⟨w2.heap.size, 3, none⟩ = some (.int .i64 0) := K3.out.cell 3
      have c4 : w3.cell? ⟨w2.heap.size, 4, none⟩ = some (.int .i64 0) := K3.out.cell 4
      have c5 : w3.cell? ⟨w2.heap.size, 5, none⟩ = some (.int .i64 0) := K3.out.cell 5
      have c6 : w3.cell? ⟨w2.heap.size, 6, none⟩ = some (.int .i64 0) := K3.out.cell 6
      have c7 : w3.cell? ⟨w2.heap.size, 7, none⟩ = some (.bool false) := K3.out.cell 7
      have c8 : w3.cell? ⟨w2.heap.size, 8, none⟩ = some (.int .i64 0) := K3.out.cell 8
      have c9 : w3.cell? ⟨w2.heap.size, 9, none⟩ = some (.int .i64 0) := K3.out.cell 9
      have c10 : w3.cell? ⟨w2.heap.size, 10, none⟩ = some (.int .i64 0) := K3.out.cell 10
      go_wp2_with fail
      refine (is_no 1 1 (by decide) _).mono ?_
      rintro e w4 ⟨rfl, rfl⟩
      go_wp2_with fail
      go_ret
      exact ⟨rfl, B3.out.alloc B3.out.size _⟩
    | some o =>
      rw [ho] at hE
      have hE : e = .returned (.tuple #[.agg #[.int .i64 o.t, .bool o.p, .bool o.cr, .int .i64 o.x, .int .i64 o.y, .int .i64 o.w, .int .i64 o.h, .bool o.ba, .int .i64 o.fo, .int .i64 o.re, .int .i64 o.la], .nilIface]) := hE
      subst hE
      have HO := hid ho
      have RA2 := hid (RA.out (w2.alloc (.cells (odC o) 32)))
      have EQ := fun w => od_eql o w
      unfold odV at EQ
      clear ho
      go_wp2_with fail
      refine (RA2.out).mono ?_
      rintro e w3 ⟨hb3, hE3⟩
      rw [HO.out] at hE3
      have hE3 : e = .returned (.tuple #[.agg #[.int .i64 o.t, .bool o.p, .bool o.cr, .int .i64 o.x, .int .i64 o.y, .int .i64 o.w, .int .i64 o.h, .bool o.ba, .int .i64 o.fo, .int .i64 o.re, .int .i64 o.la], .bool true]) := hE3
      subst hE3
      have K3 := hid ((Blk.new w2 32 (odC o)).below hb3 (by simp))
      have B3 := hid ((B2.out.alloc B2.out.size (.cells (odC o) 32)).trans (hb3.mono (by have := B2.out.size; simp; omega)))
      have hlt : w2.heap.size < w3.heap.size := K3.out.lt
      clear hb3
      have c0 : w3.cell? ⟨w2.heap.size, 0, none⟩ = some (.int .i64 o.t) := K3.out.cell 0
      have c1 : w3.cell? ⟨w2.heap.size, 1, none⟩ = some (.bool o.p) := K3.out.cell 1
      have c2 : w3.cell? ⟨w2.heap.size, 2, none⟩ = some (.bool o.cr) := K3.out.cell 2
      have c3 : w3.cell? ⟨w2.heap.size, 3, none⟩ = some (.int .i64 o.x) := K3.out.cell 3
      have c4 : w3.cell? ⟨w2.heap.size, 4, none⟩ = some (.int .i64 o.y) := K3.out.cell 4
      have c5 : w3.cell? ⟨w2.heap.size, 5, none⟩ = some (.int .i64 o.w) := K3.out.cell 5
      have c6 : w3.cell? ⟨w2.heap.size, 6, none⟩ = some (.int .i64 o.h) := K3.out.cell 6
      have c7 : w3.cell? ⟨w2.heap.size, 7, none⟩ = some (.bool o.ba) := K3.out.cell 7
      have c8 : w3.cell? ⟨w2.heap.size, 8, none⟩ = some (.int .i64 o.fo) := K3.out.cell 8
      have c9 : w3.cell? ⟨w2.heap.size, 9, none⟩ = some (.int .i64 o.re) := K3.out.cell 9
      have c10 : w3.cell? ⟨w2.heap.size, 10, none⟩ = some (.int .i64 o.la) := K3.out.cell 10
      go_wp2_with fail
      go_ret
      exact ⟨rfl, B3.out.alloc B3.out.size _⟩
end Go.Proofs.Ytegmbjkpjglgpaa
