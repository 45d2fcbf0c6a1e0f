/-
  lace.Spread: the places of all pixels, pass by pass.
-/
import Derived.Test.YtphhoihhmphbdaaSpdP
import Derived.Deep.RegionHeld3
import Derived.Deep.DeepCutAuto
import Derived.Deep.CutRange
import Derived.Deep.CutBlock
import Derived.Laws.Tables
import Derived.Laws.Cover4
namespace Go.Proofs.Ytphhoihhmphbdaa
open Go.RowKit

theorem intsV_apS (l m : List Int) : intsV (l ++ m) = intsV l ++ intsV m := by simp [intsV]
def gcell (l : Int) (k : Nat) : List Value := [.int .i64 ((gridU l k).1 : Nat), .int .i64 ((gridU l k).2.1 : Nat), .int .i64 ((gridU l k).2.2.1 : Nat), .int .i64 ((gridU l k).2.2.2 : Nat)]
/-- the grids in memory: the first one is of the lace -/
def gridsC (l : Int) : Array Value := (gcell l 0 ++ (List.range 6).flatMap fun k => gcell 1 (k + 1)).toArray
theorem grids_at (l : Int) (hl : l = 0 ∨ l = 1) (k : Nat) (hk : k < manyU l) : (gridsC l)[k * 4]? = some (.int .i64 ((gridU l k).1 : Nat)) ∧ (gridsC l)[k * 4 + 1]? = some (.int .i64 ((gridU l k).2.1 : Nat)) ∧ (gridsC l)[k * 4 + 2]? = some (.int .i64 ((gridU l k).2.2.1 : Nat)) ∧ (gridsC l)[k * 4 + 3]? = some (.int .i64 ((gridU l k).2.2.2 : Nat)) := by
  rcases hl with rfl | rfl
  · obtain rfl : k = 0 := by have : manyU 0 = 1 := rfl; omega
    exact ⟨rfl, rfl, rfl, rfl⟩
  · have : manyU 1 = 7 := rfl
    rcases (show k = 0 ∨ k = 1 ∨ k = 2 ∨ k = 3 ∨ k = 4 ∨ k = 5 ∨ k = 6 by omega) with rfl | rfl | rfl | rfl | rfl | rfl | rfl <;> exact ⟨rfl, rfl, rfl, rfl⟩
/-- an array of ints made with room for so many -/
theorem room_ints (n : Nat) (hn : n ≤ 1000000) : ∀ w : World, (Instr.makeSlice 25 (.int .i64 0) (.int .i64 (n : Int))).run Try.prog w = .ok (.slice (some ⟨w.heap.size, 0, none⟩) 0 n) (w.alloc (.cells (intsV (List.replicate n 0)).toArray 3)) := by
  intro w
  obtain ⟨i0, hi0, hz0, hz1, hz2⟩ := info_parts int_info
  have h := run_make (P := Try.prog) w 25 3 i0 (.int .i64 0) Try.underlying25 hi0 hz0 .i64 .i64 0 (n : Int) (Int.le_refl _) (by omega) (by rw [hz2]; omega) (by omega)
  rw [hz1, made_list _ _ rfl] at h
  rw [show intsV (List.replicate n 0) = List.replicate n (Value.int .i64 0) from by simp [intsV]]
  exact h
theorem room_owni (w : World) (n : Nat) (hn : n ≤ 1000000) : (w.alloc (.cells (intsV (List.replicate n 0)).toArray 3)).ownsRow w.heap.size 3 1 (.slice (some ⟨w.heap.size, 0, none⟩) 0 n) 0 (intsV []) :=
  ⟨by simp [intsV], .inr ⟨w.heap.size, n, _, rfl, Nat.le_refl _, Blk.new w 3 _, Nat.zero_le _, by simp only [maxLen]; omega, by simp [intsV], by simp [intsV]⟩⟩
theorem slice_arr7 (g M : Nat) (h : M ≤ 7) (w : World) : (Instr.sliceAt 120 (.pointer (some ⟨g, 0, none⟩)) none (some (.int .i64 (M : Int))) none).run Try.prog w = .ok (.slice (some ⟨g, 0, none⟩) M 7) w := by
  rcases (show M = 0 ∨ M = 1 ∨ M = 2 ∨ M = 3 ∨ M = 4 ∨ M = 5 ∨ M = 6 ∨ M = 7 by omega) with rfl | rfl | rfl | rfl | rfl | rfl | rfl | rfl <;> kernel_rfl
theorem gsp1 {w w0 : World} {g : Nat} (h : w0.grownBy w (some g)) (i : Nat) (u : Value) : w0.grownBy (w.setCell ⟨g, i, none⟩ u) (some g) :=
  ⟨h.os, h.tape, h.output, by simpa using h.size, fun k hk hr => (Below.heap_setCell w ⟨g, i, none⟩ u k (fun e => hr (by rw [e]))).trans (h.block k hk hr)⟩
def SpEnd (l : Int) (w h : Nat) (W : World) (e : Ending) (w' : World) : Prop :=
  ∃ A c n, e = .returned (.tuple #[.slice A n c, .nilIface]) ∧ n = (spreadM l w h).length ∧ w'.ownsRow W.heap.size 3 1 (.slice A n c) n (intsV (spreadM l w h)) ∧ Below W.heap.size W w'
set_option maxRecDepth 100000 in
set_option maxHeartbeats 8000000 in
theorem spread_any (l : Int) (w ht : Nat) (hl : l = 0 ∨ l = 1) (w1 : 1 ≤ w) (h1 : 1 ≤ ht) (w2 : w ≤ 65535) (h2 : ht ≤ 65535) (hwh : w * ht ≤ 262144) (W : World) :
    Calls Try.prog 30 #[.int .i64 (w : Int), .int .i64 (ht : Int), .int .i64 l] W (SpEnd l w ht W) := by
  obtain ⟨i0, hi0, hz0, hz1, hz2⟩ := info_parts int_info
  have Hi0 := hid hi0
  have Hz0 := hid hz0
  have Hz1 := hid hz1
  have Hz2 := hid hz2
  obtain ⟨N, hN⟩ : ∃ N, N = w * ht := ⟨_, rfl⟩
  have HN := hid hN
  have hmul : (w : Int) * (ht : Int) = (N : Int) := by rw [hN]; simp
  have hdiv : ¬ (262144 : Int) / (ht : Int) < (w : Int) := by
    have := Int.le_ediv_of_mul_le (a := (w : Int)) (b := 262144) (c := (ht : Int)) (by omega) (by rw [hmul]; omega)
    omega
  rw [← hN] at hwh
  have hmk := room_ints N (by omega)
  have RO := hid (room_owni W N (by omega))
  have B0 := hid ((Below.refl W.heap.size W).alloc (Nat.le_refl _) (.cells (intsV (List.replicate N 0)).toArray 3))
  clear hi0 hz0 hz1 hz2 hN
  go_enter Try.func30, Try.ntmps30
  go_upto_region 1 with (fail)
  go_cut [34] from 15 to 34 (fun v wq => v = .bool false ∧ W = wq)
  · have l0 : ¬ l < 0 := by omega
    have l1 : ¬ 1 < l := by omega
    go_wp2_with fail
    go_meet
    exact ⟨by rw [decide_eq_false (show ¬ (w : Int) < 1 by omega), decide_eq_false (show ¬ (ht : Int) < 1 by omega)]; rfl, rfl⟩
  obtain ⟨rfl, rfl⟩ := hcut
  clear hdiv
  go_upto_region 4 with (fail)
  obtain ⟨w0, hw0⟩ : ∃ w0, w0 = W.alloc (.cells (intsV (List.replicate N 0)).toArray 3) := ⟨_, rfl⟩
  rw [← hw0] at RO B0 ⊢
  clear hw0 hmk
  go_upto_region 4 with (fail)
  go_wp2_with fail
  refine (grids_any _).mono ?_
  rintro e w3 ⟨rfl, hb3⟩
  have hsz3 := hb3.size
  have B3 := hid (B0.out.trans (hb3.mono B0.out.size))
  have O3 := hid (own_below RO.out hb3 (Nat.le_refl _))
  clear hb3 RO B0
  have hg3 := Blk.new w3 120 #[.int .i64 0, .int .i64 0, .int .i64 0, .int .i64 0, .int .i64 0, .int .i64 0, .int .i64 0, .int .i64 0, .int .i64 0, .int .i64 0, .int .i64 0, .int .i64 0, .int .i64 0, .int .i64 0, .int .i64 0, .int .i64 0, .int .i64 0, .int .i64 0, .int .i64 0, .int .i64 0, .int .i64 0, .int .i64 0, .int .i64 0, .int .i64 0, .int .i64 0, .int .i64 0, .int .i64 0, .int .i64 0]
  go_upto_region 5 with (refine wpList_store_row rfl 120 (.tmp 9) (.tmp 40) rfl w3.heap.size #[.int .i64 0, .int .i64 8, .int .i64 0, .int .i64 8, .int .i64 4, .int .i64 8, .int .i64 0, .int .i64 8, .int .i64 0, .int .i64 4, .int .i64 4, .int .i64 8, .int .i64 2, .int .i64 4, .int .i64 0, .int .i64 4, .int .i64 0, .int .i64 2, .int .i64 2, .int .i64 4, .int .i64 1, .int .i64 2, .int .i64 0, .int .i64 2, .int .i64 0, .int .i64 1, .int .i64 1, .int .i64 2] rfl rfl 120 _ hg3 (by kernel_rfl) (by kernel_rfl) (by kernel_rfl) ?_)
  have K4 := hid (show Blk ((w3.alloc (.cells #[.int .i64 0, .int .i64 0, .int .i64 0, .int .i64 0, .int .i64 0, .int .i64 0, .int .i64 0, .int .i64 0, .int .i64 0, .int .i64 0, .int .i64 0, .int .i64 0, .int .i64 0, .int .i64 0, .int .i64 0, .int .i64 0, .int .i64 0, .int .i64 0, .int .i64 0, .int .i64 0, .int .i64 0, .int .i64 0, .int .i64 0, .int .i64 0, .int .i64 0, .int .i64 0, .int .i64 0, .int .i64 0] 120)).setRow w3.heap.size #[.int .i64 0, .int .i64 8, .int .i64 0, .int .i64 8, .int .i64 4, .int .i64 8, .int .i64 0, .int .i64 8, .int .i64 0, .int .i64 4, .int .i64 4, .int .i64 8, .int .i64 2, .int .i64 4, .int .i64 0, .int .i64 4, .int .i64 0, .int .i64 2, .int .i64 2, .int .i64 4, .int .i64 1, .int .i64 2, .int .i64 0, .int .i64 2, .int .i64 0, .int .i64 1, .int .i64 1, .int .i64 2]) w3.heap.size 120 (gridsC 1) from setRow_heap _ _ _ _ _ _ hg3)
  have B4 := hid (below_setRow (B3.out.alloc B3.out.size (.cells #[.int .i64 0, .int .i64 0, .int .i64 0, .int .i64 0, .int .i64 0, .int .i64 0, .int .i64 0, .int .i64 0, .int .i64 0, .int .i64 0, .int .i64 0, .int .i64 0, .int .i64 0, .int .i64 0, .int .i64 0, .int .i64 0, .int .i64 0, .int .i64 0, .int .i64 0, .int .i64 0, .int .i64 0, .int .i64 0, .int .i64 0, .int .i64 0, .int .i64 0, .int .i64 0, .int .i64 0, .int .i64 0] 120)) B3.out.size #[.int .i64 0, .int .i64 8, .int .i64 0, .int .i64 8, .int .i64 4, .int .i64 8, .int .i64 0, .int .i64 8, .int .i64 0, .int .i64 4, .int .i64 4, .int .i64 8, .int .i64 2, .int .i64 4, .int .i64 0, .int .i64 4, .int .i64 0, .int .i64 2, .int .i64 2, .int .i64 4, .int .i64 1, .int .i64 2, .int .i64 0, .int .i64 2, .int .i64 0, .int .i64 1, .int .i64 1, .int .i64 2])
  have O4 := hid (own_below O3.out (below_setRow ((Below.refl w3.heap.size w3).alloc (Nat.le_refl _) (.cells #[.int .i64 0, .int .i64 0, .int .i64 0, .int .i64 0, .int .i64 0, .int .i64 0, .int .i64 0, .int .i64 0, .int .i64 0, .int .i64 0, .int .i64 0, .int .i64 0, .int .i64 0, .int .i64 0, .int .i64 0, .int .i64 0, .int .i64 0, .int .i64 0, .int .i64 0, .int .i64 0, .int .i64 0, .int .i64 0, .int .i64 0, .int .i64 0, .int .i64 0, .int .i64 0, .int .i64 0, .int .i64 0] 120)) (Nat.le_refl _) #[.int .i64 0, .int .i64 8, .int .i64 0, .int .i64 8, .int .i64 4, .int .i64 8, .int .i64 0, .int .i64 8, .int .i64 0, .int .i64 4, .int .i64 4, .int .i64 8, .int .i64 2, .int .i64 4, .int .i64 0, .int .i64 4, .int .i64 0, .int .i64 2, .int .i64 2, .int .i64 4, .int .i64 1, .int .i64 2, .int .i64 0, .int .i64 2, .int .i64 0, .int .i64 1, .int .i64 1, .int .i64 2]) (Nat.le_refl _))
  obtain ⟨w4, hw4⟩ : ∃ w4, w4 = (w3.alloc (.cells #[.int .i64 0, .int .i64 0, .int .i64 0, .int .i64 0, .int .i64 0, .int .i64 0, .int .i64 0, .int .i64 0, .int .i64 0, .int .i64 0, .int .i64 0, .int .i64 0, .int .i64 0, .int .i64 0, .int .i64 0, .int .i64 0, .int .i64 0, .int .i64 0, .int .i64 0, .int .i64 0, .int .i64 0, .int .i64 0, .int .i64 0, .int .i64 0, .int .i64 0, .int .i64 0, .int .i64 0, .int .i64 0] 120)).setRow w3.heap.size #[.int .i64 0, .int .i64 8, .int .i64 0, .int .i64 8, .int .i64 4, .int .i64 8, .int .i64 0, .int .i64 8, .int .i64 0, .int .i64 4, .int .i64 4, .int .i64 8, .int .i64 2, .int .i64 4, .int .i64 0, .int .i64 4, .int .i64 0, .int .i64 2, .int .i64 2, .int .i64 4, .int .i64 1, .int .i64 2, .int .i64 0, .int .i64 2, .int .i64 0, .int .i64 1, .int .i64 1, .int .i64 2] := ⟨_, rfl⟩
  rw [← hw4] at K4 B4 O4 ⊢
  obtain ⟨g, hg⟩ : ∃ g, g = w3.heap.size := ⟨_, rfl⟩
  have hWg : W.heap.size ≤ g := by rw [hg]; exact B3.out.size
  rw [← hg] at K4 ⊢
  obtain ⟨A0, hA0, O5⟩ : ∃ A0, A0 = some (⟨W.heap.size, 0, none⟩ : Addr) ∧ Hid (w4.ownsRow W.heap.size 3 1 (.slice A0 0 N) 0 (intsV [])) := ⟨_, rfl, O4⟩
  rw [← hA0]
  clear hA0 O4 hw4 hg hg3 hsz3 B3 O3
  generalize (Value.agg #[.int .i64 0, .int .i64 8, .int .i64 0, .int .i64 8, .int .i64 4, .int .i64 8, .int .i64 0, .int .i64 8, .int .i64 0, .int .i64 4, .int .i64 4, .int .i64 8, .int .i64 2, .int .i64 4, .int .i64 0, .int .i64 4, .int .i64 0, .int .i64 2, .int .i64 2, .int .i64 4, .int .i64 1, .int .i64 2, .int .i64 0, .int .i64 2, .int .i64 0, .int .i64 1, .int .i64 1, .int .i64 2]) = ga
  go_upto_if 42 with (fail)
  go_cut [10] from 41 to 44 (fun v wq => v = .int .i64 (manyU l : Nat) ∧ Hid (Blk wq g 120 (gridsC l)) ∧ Hid (wq.ownsRow W.heap.size 3 1 (.slice A0 0 N) 0 (intsV [])) ∧ Hid (Below W.heap.size W wq))
  · by_cases hl0 : l = 0
    · have HL := hid hl0
      have e0 : (l == 0) = true := beq_iff_eq.2 hl0
      have q0 : w4.cell? ⟨g, 0, none⟩ = some (.int .i64 0) := (K4.out.cell 0).trans rfl
      have q1 : w4.cell? ⟨g, 1, none⟩ = some (.int .i64 8) := (K4.out.cell 1).trans rfl
      have q2 : w4.cell? ⟨g, 2, none⟩ = some (.int .i64 0) := (K4.out.cell 2).trans rfl
      have q3 : w4.cell? ⟨g, 3, none⟩ = some (.int .i64 8) := (K4.out.cell 3).trans rfl
      have fz := fun o => K4.out.frozen o
      have l1 := K4.out.lt
      clear hl0
      go_wp2_with fail
      go_meet
      have k5 := (((K4.out.set_ 0 (.int .i64 0)).set_ 1 (.int .i64 1)).set_ 2 (.int .i64 0)).set_ 3 (.int .i64 1)
      have b5 := (((B4.out.setCell (p := ⟨g, 0, none⟩) hWg (.int .i64 0)).setCell (p := ⟨g, 1, none⟩) hWg (.int .i64 1)).setCell (p := ⟨g, 2, none⟩) hWg (.int .i64 0)).setCell (p := ⟨g, 3, none⟩) hWg (.int .i64 1)
      have hgr := gsp1 (gsp1 (gsp1 (gsp1 (World.grownBy.refl w4 (some g)) 0 (.int .i64 0)) 1 (.int .i64 1)) 2 (.int .i64 0)) 3 (.int .i64 1)
      have o5 := O5.out.kept hgr (.inr (fun e => own_blk_ne O5.out K4.out (by decide) e.symm))
      obtain rfl := HL.out
      exact ⟨rfl, hid k5, hid o5, hid b5⟩
    · have HL := hid hl0
      have e0 : (l == 0) = false := beq_eq_false_iff_ne.2 hl0
      clear hl0
      go_wp2_with fail
      go_meet
      obtain rfl : l = 1 := by have := HL.out; omega
      exact ⟨rfl, K4, O5, B4⟩
  obtain ⟨rfl, K6, O6, B6⟩ := hcut
  clear K4 O5 B4
  obtain ⟨M, hM⟩ : ∃ M, M = manyU l := ⟨_, rfl⟩
  have hM7 : M ≤ 7 := by rw [hM]; unfold manyU; split <;> omega
  have HM := hid hM
  rw [← hM]
  clear hM
  have hbl : ∀ k, (spL l w ht k).length ≤ k * N := fun k => by rw [HN.out, Nat.mul_comm w ht]; exact sp_len l w ht k
  have HBL := hid hbl
  have HGA := hid (fun k hk => grids_at l hl k (by rw [← HM.out]; exact hk))
  clear hbl hl
  have hsl := fun w => slice_arr7 g M hM7 w
  go_upto_region 9 with (fail)
  go_loopw [8, 48] (fun v i wr => ∃ (k n c : Nat) (A : Option Addr), k ≤ M ∧ i = .int .i64 (k : Int) ∧ v = .slice A n c ∧ n ≤ 2000000 ∧ Hid (n = (spL l w ht k).length) ∧ Hid (wr.ownsRow W.heap.size 3 1 (.slice A n c) n (intsV (spL l w ht k))) ∧ Hid (Blk wr g 120 (gridsC l)) ∧ Hid (Below W.heap.size W wr)) (fun _ i _ => M - (intOf i).toNat)
  case atStart => exact ⟨0, 0, N, A0, by omega, rfl, rfl, by omega, hid rfl, O6, K6, B6⟩
  case round =>
    obtain ⟨k, n1, c1, A1, hk, rfl, rfl, hn1, HN1, O1, K1, B1⟩ := hrel
    by_cases hlt : k < M
    · have d2 : decide (k < M) = true := decide_eq_true hlt
      obtain ⟨g0, g1, g2, g3⟩ := HGA.out k hlt
      obtain ⟨ok1, ok2⟩ := grid_ok l k
      have HPL := hid (show spL l w ht (k + 1) = spL l w ht k ++ rowL (gridU l k).1 (gridU l k).2.1 (gridU l k).2.2.1 (gridU l k).2.2.2 w ht ht from rfl)
      have HRL := hid (fun y => row_len (gridU l k).1 (gridU l k).2.1 (gridU l k).2.2.1 (gridU l k).2.2.2 w ht y)
      generalize gridU l k = gg at *
      obtain ⟨x0, dx, y0, dy⟩ := gg
      dsimp only at g0 g1 g2 g3 ok1 ok2 HPL HRL
      have q0 := (K1.out.cell (k * 4)).trans g0
      have q1 := (K1.out.cell (k * 4 + 1)).trans g1
      have q2 := (K1.out.cell (k * 4 + 2)).trans g2
      have q3 := (K1.out.cell (k * 4 + 3)).trans g3
      have l1 := K1.out.lt
      have hdx : 1 ≤ dx ∧ dx ≤ 8 := by rcases ok1.2 with h | h | h | h <;> omega
      have hdy : 1 ≤ dy ∧ dy ≤ 8 := by rcases ok2.2 with h | h | h | h <;> omega
      have hx0 : x0 ≤ 7 := by have := ok1.1; omega
      have hy0 : y0 ≤ 7 := by have := ok2.1; omega
      have hdx1 := hdx.1
      have hdx2 := hdx.2
      have hdy1 := hdy.1
      have hdy2 := hdy.2
      have OK1 := hid ok1
      have OK2 := hid ok2
      clear g0 g1 g2 g3 ok1 ok2 hdx hdy
      go_upto_region 11 with (fail)
      have B2 := hid (B1.out.alloc B1.out.size (.cells #[.int .i64 (x0 : Int), .int .i64 (dx : Int), .int .i64 (y0 : Int), .int .i64 (dy : Int)] 119))
      have K2 := hid (K1.out.alloc (.cells #[.int .i64 (x0 : Int), .int .i64 (dx : Int), .int .i64 (y0 : Int), .int .i64 (dy : Int)] 119))
      have O2 := hid (own_below O1.out ((Below.refl wr.heap.size wr).alloc (Nat.le_refl _) (.cells #[.int .i64 (x0 : Int), .int .i64 (dx : Int), .int .i64 (y0 : Int), .int .i64 (dy : Int)] 119)) (Nat.le_refl _))
      have X2 := hid (Blk.new wr 119 #[.int .i64 (x0 : Int), .int .i64 (dx : Int), .int .i64 (y0 : Int), .int .i64 (dy : Int)])
      obtain ⟨gb, hgb⟩ : ∃ gb, gb = wr.heap.size := ⟨_, rfl⟩
      rw [← hgb] at X2 ⊢
      generalize wr.alloc (.cells #[.int .i64 (x0 : Int), .int .i64 (dx : Int), .int .i64 (y0 : Int), .int .i64 (dy : Int)] 119) = w7 at *
      clear q0 q1 q2 q3 l1 O1 K1 B1 hgb
      have q0 := X2.out.cell 0
      have q1 := X2.out.cell 1
      have q2 := X2.out.cell 2
      have q3 := X2.out.cell 3
      simp only [List.getElem?_toArray, List.getElem?_cons_zero, List.getElem?_cons_succ] at q0 q1 q2 q3
      have l1 := X2.out.lt
      go_upto_region 12 with (fail)
      clear q0 q1 q2 q3 l1
      have hms : y0 % dy = y0 := Nat.mod_eq_of_lt OK2.out.1
      have hrs := hid (show rowL x0 dx y0 dy w ht y0 = [] from row_start OK2.out)
      go_loopw [8, 13] (fun v yv wq => ∃ (y n c : Nat) (A : Option Addr), y ≤ ht + dy + 7 ∧ yv = .int .i64 (y : Int) ∧ v = .slice A n c ∧ n ≤ 2500000 ∧ Hid (y % dy = y0) ∧ Hid (n = (spL l w ht k ++ rowL x0 dx y0 dy w ht y).length) ∧ Hid (wq.ownsRow W.heap.size 3 1 (.slice A n c) n (intsV (spL l w ht k ++ rowL x0 dx y0 dy w ht y))) ∧ Hid (Blk wq g 120 (gridsC l)) ∧ Hid (Blk wq gb 119 #[.int .i64 (x0 : Int), .int .i64 (dx : Int), .int .i64 (y0 : Int), .int .i64 (dy : Int)]) ∧ Hid (Below W.heap.size W wq)) (fun _ yv _ => ht + dy + 7 - (intOf yv).toNat)
      case atStart => exact ⟨y0, n1, c1, A1, by omega, rfl, rfl, by omega, hid hms, hid (by rw [hrs.out, List.append_nil]; exact HN1.out), hid (by rw [hrs.out, List.append_nil]; exact O2.out), K2, X2, B2⟩
      case round =>
        obtain ⟨y, n2, c2, A2, hy, rfl, rfl, hn2, HY, HN2, O3, K3, X3, B3⟩ := hrel
        have hb2 : n2 ≤ 6 * N + N := by
          have h1 := HBL.out k
          have h2 := HRL.out y
          have h3 : k * N ≤ 6 * N := Nat.mul_le_mul_right _ (by omega)
          have h4 := HN2.out
          rw [List.length_append] at h4
          rw [Nat.mul_comm ht w, ← HN.out] at h2
          omega
        by_cases hyt : y < ht
        · have d3 : decide (y < ht) = true := decide_eq_true hyt
          have hP : y * w ≤ N := by rw [HN.out, Nat.mul_comm w ht]; exact Nat.mul_le_mul_right _ (by omega)
          obtain ⟨P, hPe⟩ : ∃ P, P = y * w := ⟨_, rfl⟩
          have hPm : (y : Int) * (w : Int) = (P : Int) := by rw [hPe]; simp
          rw [← hPe] at hP
          have HP := hid hPe
          clear hPe
          have q0 := X3.out.cell 0
          have q1 := X3.out.cell 1
          have q2 := X3.out.cell 2
          have q3 := X3.out.cell 3
          simp only [List.getElem?_toArray, List.getElem?_cons_zero, List.getElem?_cons_succ] at q0 q1 q2 q3
          have l1 := X3.out.lt
          go_upto_region 15 with (fail)
          clear q0 q1 q2 q3 l1
          have hmx : x0 % dx = x0 := Nat.mod_eq_of_lt OK1.out.1
          have hcs := hid (show colL x0 dx w y x0 = [] from col_start OK1.out)
          go_loopw [8, 14] (fun v xv wq => ∃ (x n c : Nat) (A : Option Addr), x ≤ w + dx + 7 ∧ xv = .int .i64 (x : Int) ∧ v = .slice A n c ∧ n ≤ n2 + 65535 ∧ Hid (x % dx = x0) ∧ Hid (n = (spL l w ht k ++ rowL x0 dx y0 dy w ht y ++ colL x0 dx w y x).length) ∧ Hid (wq.ownsRow W.heap.size 3 1 (.slice A n c) n (intsV (spL l w ht k ++ rowL x0 dx y0 dy w ht y ++ colL x0 dx w y x))) ∧ Hid (Blk wq g 120 (gridsC l)) ∧ Hid (Blk wq gb 119 #[.int .i64 (x0 : Int), .int .i64 (dx : Int), .int .i64 (y0 : Int), .int .i64 (dy : Int)]) ∧ Hid (Below W.heap.size W wq)) (fun _ xv _ => w + dx + 7 - (intOf xv).toNat)
          case atStart => exact ⟨x0, n2, c2, A2, by omega, rfl, rfl, by omega, hid hmx, hid (by rw [hcs.out, List.append_nil]; exact HN2.out), hid (by rw [hcs.out, List.append_nil]; exact O3.out), K3, X3, B3⟩
          case round =>
            obtain ⟨x, n3, c3, A3, hx, rfl, rfl, hn3, HX, HN3, O4, K4, X4, B4⟩ := hrel
            by_cases hxt : x < w
            · have d4 : decide (x < w) = true := decide_eq_true hxt
              have hsw := B4.out.size
              obtain ⟨V, hV⟩ : ∃ V, V = P + x := ⟨_, rfl⟩
              have eV : (P : Int) + (x : Int) = (V : Int) := by omega
              have HV := hid (show spL l w ht k ++ rowL x0 dx y0 dy w ht y ++ colL x0 dx w y (x + dx) = spL l w ht k ++ rowL x0 dx y0 dy w ht y ++ colL x0 dx w y x ++ [(V : Int)] from by
                rw [col_step OK1.out HX.out hxt, ← HP.out, hV, List.append_assoc, List.append_assoc, List.append_assoc])
              have hVb : V ≤ 400000 := by omega
              clear hV
              go_upto_region 16 with (at_builtin; go_loud (refine wpList_app _ rfl _ _ _ rfl W.heap.size 3 i0 (.int .i64 0) 1 8 Try.underlying25 Hi0.out Hz0.out Hz1.out Hz2.out rfl (by omega) A3 n3 c3 _ rfl (O4.out.alloc _) _ _ 1 1 [.int .i64 (V : Int)] rfl (rd_one _ _ _ _ (Blk.new _ _ _)) (by simp) (by simp [Value.oneCell']) (by simp only [maxLen]; omega) (by omega) (by simp; omega) ?_; intro A5 c5 w9 ha5; have Ha5 := hid ha5; clear ha5))
              obtain ⟨o5, g5, b5, _⟩ := Ha5.out
              have O5 := hid (show w9.ownsRow W.heap.size 3 1 (.slice A5 (n3 + 1) c5) (n3 + 1) (intsV (spL l w ht k ++ rowL x0 dx y0 dy w ht y ++ colL x0 dx w y (x + dx))) from by rw [HV.out, intsV_apS]; exact o5)
              have K5 := hid ((K4.out.alloc (.cells #[.int .i64 (V : Int)] 3)).grown g5 (own_blk_ne (O4.out.alloc (.cells #[.int .i64 (V : Int)] 3)) (K4.out.alloc _) (by decide)))
              have X5 := hid ((X4.out.alloc (.cells #[.int .i64 (V : Int)] 3)).grown g5 (own_blk_ne (O4.out.alloc (.cells #[.int .i64 (V : Int)] 3)) (X4.out.alloc _) (by decide)))
              have B5 := hid ((B4.out.alloc B4.out.size (.cells #[.int .i64 (V : Int)] 3)).trans b5)
              have HN5 := hid (show n3 + 1 = (spL l w ht k ++ rowL x0 dx y0 dy w ht y ++ colL x0 dx w y (x + dx)).length from by rw [HV.out, List.length_append, ← HN3.out]; rfl)
              have hn5 : n3 + 1 ≤ n2 + 65535 := by
                have h1 := HN5.out
                have h2 := col_len x0 dx w y (x + dx)
                rw [List.length_append, ← HN2.out] at h1
                omega
              clear o5 g5 b5 Ha5 O4 K4 X4 B4 hsw
              have q0 := X5.out.cell 0
              have q1 := X5.out.cell 1
              have q2 := X5.out.cell 2
              have q3 := X5.out.cell 3
              simp only [List.getElem?_toArray, List.getElem?_cons_zero, List.getElem?_cons_succ] at q0 q1 q2 q3
              have l1 := X5.out.lt
              go_wp2_with fail
              go_roundw
              case rel => exact ⟨x + dx, n3 + 1, c5, A5, by omega, by go_num, rfl, hn5, hid (by rw [Nat.add_mod_right]; exact HX.out), HN5, O5, K5, X5, B5⟩
              case measure => simp [intOf]; omega
            · have d4 : decide (x < w) = false := decide_eq_false hxt
              have HE := hid (show colL x0 dx w y x = colL x0 dx w y w from col_end (by omega))
              have HS := hid (show rowL x0 dx y0 dy w ht (y + dy) = rowL x0 dx y0 dy w ht y ++ colL x0 dx w y w from row_step OK2.out HY.out hyt)
              have q0 := X4.out.cell 0
              have q1 := X4.out.cell 1
              have q2 := X4.out.cell 2
              have q3 := X4.out.cell 3
              simp only [List.getElem?_toArray, List.getElem?_cons_zero, List.getElem?_cons_succ] at q0 q1 q2 q3
              have l1 := X4.out.lt
              go_wp2_with fail
              go_roundw
              case rel => exact ⟨y + dy, n3, c3, A3, by omega, by go_num, rfl, by omega, hid (by rw [Nat.add_mod_right]; exact HY.out), hid (by rw [HS.out, ← HE.out, ← List.append_assoc]; exact HN3.out), hid (by rw [HS.out, ← HE.out, ← List.append_assoc]; exact O4.out), K4, X4, B4⟩
              case measure => simp [intOf]; omega
        · have d3 : decide (y < ht) = false := decide_eq_false hyt
          have HE := hid (show rowL x0 dx y0 dy w ht y = rowL x0 dx y0 dy w ht ht from row_end (by omega))
          go_wp2_with fail
          go_roundw
          case rel => exact ⟨k + 1, n2, c2, A2, by omega, by go_num, rfl, by omega, hid (by rw [HPL.out, ← HE.out]; exact HN2.out), hid (by rw [HPL.out, ← HE.out]; exact O3.out), K3, B3⟩
          case measure => simp [intOf]; omega
    · obtain rfl : k = M := by omega
      go_wp2_with fail
      go_ret2
      refine ⟨A1, c1, n1, rfl, ?_, ?_, B1.out⟩
      · rw [HN1.out, HM.out]; rfl
      · have := O1.out; rw [HM.out] at this; exact this
end Go.Proofs.Ytphhoihhmphbdaa
