/-
  merge.best of one item, and of any; merge.Lengths.
-/
import Derived.Test.YtlekobompjehdaaMgF
import Derived.Test.YtlekobompjehdaaSound
namespace Go.Proofs.Ytlekobompjehdaa
open Go.RowKit Mg

set_option maxRecDepth 100000 in
set_option maxHeartbeats 4000000 in
theorem best_single (A : Option Addr) (c n K : Nat) (x : IR) (W : World) (h : RRow W W W.heap.size A [x]) (hB : BestIn ([x].map (·.it)) n K) :
    Calls Try.prog 48 #[.slice A 1 c, .int .i64 (n : Nat), .int .i64 ((K + 1 : Nat) : Int)] W (BestEnd (bestLs ([x].map (·.it)) K n) W) := by
  obtain ⟨i0, hi0, hz0, hz1, hz2⟩ := info_parts int_info
  have hn := hB.size
  have Hmk := hid (show ∀ w : World, (Instr.makeSlice 22 (.int .i64 (n : Int)) (.int .i64 (n : Int))).run Try.prog w = .ok (.slice (some ⟨w.heap.size, 0, none⟩) n n) (w.alloc (.cells (List.replicate n (Value.int .i64 0)).toArray 3)) from by
    intro w
    have h := run_make (P := Try.prog) w 22 3 i0 (.int .i64 0) Try.underlying22 hi0 hz0 .i64 .i64 (n : Int) (n : Int) (by omega) (by omega) (by rw [hz2]; omega) (by omega)
    rw [hz1, made_list _ _ rfl] at h
    exact h)
  clear hi0 hz0 hz1 hz2
  have H := hid h
  have HB := hid hB
  have hs1 : x.it.s.length = 1 := hB.gl.single _ (by simp)
  obtain ⟨s, hs⟩ := List.length_eq_one_iff.1 hs1
  have hsn := hB.sym s (by simp [sy, hs])
  clear h hB
  generalize hk1 : K + 1 = K1 at *
  have Hk1 := hid hk1
  clear hk1
  go_enter Try.func48, Try.ntmps48
  have hmk := Hmk.out
  go_upto_region 3 with (fail)
  have H1 := hid (H.out.below ((Below.refl _ _).alloc (Nat.le_refl _) (.cells (List.replicate n (Value.int .i64 0)).toArray 3)))
  have G1 := hid (show CW (W.alloc (.cells (Array.replicate n (Value.int .i64 0)) 3)) W W.heap.size n [] from ⟨by rw [← replicate_row]; exact Blk.new _ _ _, World.grownBy_alloc _ _ _⟩)
  rw [show (List.replicate n (Value.int .i64 0)).toArray = Array.replicate n (Value.int .i64 0) by simp] at H1
  have hr := H1.out.row
  have S1 := H1.out.sym x (by simp)
  have e1 : ints x.it.s = [(s : Int)] := by rw [hs]; rfl
  rw [e1] at S1
  obtain ⟨b, off, rfl, hb, hcl⟩ := hr.at_ (k := 0) (by simp) (by omega)
  obtain ⟨b2, off2, hA, hb2, y0⟩ := int_at S1 (j := 0) (by simp)
  simp only [Nat.add_zero, List.getElem_cons_zero] at y0
  have c1 := hcl 1 (.slice x.A x.it.s.length x.c) rfl
  rw [hs1, hA] at c1
  have cg : (W.alloc (.cells (Array.replicate n (Value.int .i64 0)) 3)).cell? ⟨W.heap.size, s, none⟩ = some (.int .i64 0) := by rw [G1.out.1.cell, intRow_at _ _ _ hsn]; simp
  have fz := G1.out.1.frozen s
  have hgw := G1.out.1.lt
  have P := hid (G1.out.put s)
  clear hr S1 hcl
  generalize W.alloc (.cells (Array.replicate n (Value.int .i64 0)) 3) = w1 at *
  have R := hid (show BestEnd (bestLs ([x].map (·.it)) K n) W (.returned (.slice (some ⟨W.heap.size, 0, none⟩) n n)) (w1.setCell ⟨W.heap.size, s, none⟩ (.int .i64 1)) from by
    have hl : (bestLs ([x].map (·.it)) K n).length = n := bestLs_len _ _ _
    have eM : bestLs ([x].map (·.it)) K n = (List.range n).map fun k => (([s] : List Nat).count k : Int) := by
      unfold bestLs bestAt
      simp only [List.map_cons, List.map_nil, List.length_cons, List.length_nil, sy, List.flatMap_cons, List.flatMap_nil, hs, List.append_nil]
      rfl
    have hC := P.out
    simp only [List.count_nil, List.nil_append] at hC
    refine ⟨some ⟨W.heap.size, 0, none⟩, n, by rw [hl], ?_, ?_⟩
    · have := own_counts hC hn eM
      rw [hl] at this ⊢
      exact this
    · exact (Below.refl _ _).grown hC.2 (by omega) (fun k hk => by injection hk with hk; omega))
  clear hs hs1
  go_wp2
  go_ret
  exact R.out
theorem best_any (A : Option Addr) (c n K : Nat) (X : List IR) (W : World) (h : RRow W W W.heap.size A X) (hc : X.length ≤ c) (hB : BestIn (X.map (·.it)) n K) :
    Calls Try.prog 48 #[.slice A X.length c, .int .i64 (n : Nat), .int .i64 ((K + 1 : Nat) : Int)] W (BestEnd (bestLs (X.map (·.it)) K n) W) := by
  by_cases h1 : X.length = 1
  · obtain ⟨x, rfl⟩ := List.length_eq_one_iff.1 h1
    exact best_single A c n K x W h hB
  · exact best_many A c n K X W h hc h1 hB
end Go.Proofs.Ytlekobompjehdaa
