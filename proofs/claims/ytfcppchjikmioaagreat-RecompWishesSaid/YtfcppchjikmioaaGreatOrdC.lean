/-
  recomp.set.
-/
import Derived.Test.YtfcppchjikmioaaGreatOrdB
namespace Go.Proofs.YtfcppchjikmioaaGreat
open Go.RowKit Go.Lib

theorem grown_drew {w w' : World} {r : Option Nat} (h : w.grownBy w' r) : w.grownBy w'.drew r := ⟨h.os, h.tape, h.output, h.size, h.block⟩

set_option maxRecDepth 100000 in
set_option maxHeartbeats 4000000 in
theorem set_0 (g : Nat) (o : Od) (nm : ByteArray) (v : WV) (W : World) (hg : Blk W g 50 (odC o)) (hk : nmK nm = 0) : Calls Tryz.prog 46 #[.pointer (some ⟨g, 0, none⟩), .agg #[.string nm, wvV v]] W (SetEnd (setK 0 o v) g W) := by
  have f0 : (nm.toList == [116, 117, 114, 110]) = true := (nmK_facts nm 0 (by decide)).trans (by rw [hk]; rfl)
  have f1 : (nm.toList == [112, 101, 114, 102, 101, 99, 116]) = false := (nmK_facts nm 1 (by decide)).trans (by rw [hk]; rfl)
  have f2 : (nm.toList == [98, 97, 114, 101]) = false := (nmK_facts nm 2 (by decide)).trans (by rw [hk]; rfl)
  have f3 : (nm.toList == [120]) = false := (nmK_facts nm 3 (by decide)).trans (by rw [hk]; rfl)
  have f4 : (nm.toList == [121]) = false := (nmK_facts nm 4 (by decide)).trans (by rw [hk]; rfl)
  have f5 : (nm.toList == [119]) = false := (nmK_facts nm 5 (by decide)).trans (by rw [hk]; rfl)
  have f6 : (nm.toList == [104]) = false := (nmK_facts nm 6 (by decide)).trans (by rw [hk]; rfl)
  have f7 : (nm.toList == [102, 111, 114, 109]) = false := (nmK_facts nm 7 (by decide)).trans (by rw [hk]; rfl)
  have f8 : (nm.toList == [114, 101, 115, 116, 97, 114, 116]) = false := (nmK_facts nm 8 (by decide)).trans (by rw [hk]; rfl)
  have f9 : (nm.toList == [108, 97, 99, 101]) = false := (nmK_facts nm 9 (by decide)).trans (by rw [hk]; rfl)
  have HG := hid hg
  have hgw := hg.lt
  clear hk
  obtain ⟨w1, hw1⟩ : ∃ w1, w1 = W.alloc (.cells #[.string nm, wvV v] 41) := ⟨_, rfl⟩
  have hb1 : Below W.heap.size W w1 := hw1 ▸ below_allocW W _
  have hz1 : w1.heap.size = W.heap.size + 1 := by rw [hw1]; simp
  have q0 : w1.cell? ⟨W.heap.size, 0, none⟩ = some (.string nm) := by rw [hw1]; simp
  have q1 : w1.cell? ⟨W.heap.size, 1, none⟩ = some (wvV v) := by rw [hw1]; simp
  have HG1 := hid (hg.below hb1 hgw)
  have B1 := hid hb1
  have hgw1 : g < w1.heap.size := by omega
  have hxw1 : W.heap.size < w1.heap.size := by omega
  clear hg hb1 hz1
  have c0 : w1.cell? ⟨g, 0, none⟩ = some (.int .i64 o.t) := HG1.out.cell 0
  have WO := hid (fun (w : World) (gg : Nat) (h : Blk w gg 9 (strV turnsW).toArray) => wordO_any v turnsW gg turnsW.length w h (by decide))
  have HN := hid (amg_ok turnsW v)
  have HS := hid (show setK 0 o v = if amgV turnsW v < 0 then none else some { o with t := amgV turnsW v } from rfl)
  generalize wvV v = vv at *
  generalize (isS v && decide (0 ≤ idxW turnsW (sxV v))) = it at *
  have hbd := idxW_bd turnsW (sxV v)
  generalize idxW turnsW (sxV v) = nu at *
  generalize amgV turnsW v = nv at *
  have hln : turnsW.length = 8 := rfl
  rw [hln] at WO hbd
  have twr : wrap64 (nu - 1) = nu - 1 := IntWalk.wrap64_in _ (by omega)
  have twr2 : IntKind.i64.wrap (nu - 1) = nu - 1 := IntWalk.i64_in _ (by omega)
  go_enter Tryz.func46, Tryz.ntmps46
  go_upto_region 1 with (fail)
  rw [← hw1]
  clear hw1
  have fz : ∀ i, w1.frozen? ⟨g, i, none⟩ = false := HG1.out.frozen
  go_upto_region 3 with (fail)
  have BN := hid (show Blk (w1.alloc (.cells (strV turnsW).toArray 9)).drew w1.heap.size 9 (strV turnsW).toArray from Blk.new w1 _ _)
  have GR := hid (grown_drew (grown_below1 (grown_set1 (grown_below1 (World.grownBy.refl W (some g)) B1.out) 0 (.int .i64 nu)) (below_allocW _ (.cells (strV turnsW).toArray 9))))
  have BK := hid ((HG1.out.set_ 0 (.int .i64 nu)).below (below_allocW _ (.cells (strV turnsW).toArray 9)) (by simp; exact hgw1))
  go_region_with (first
    | (go_at_call 40; refine (recomp_turns_any _).mono ?_; rintro e w2 ⟨rfl, rfl⟩)
    | (go_at_call 67; refine (WO.out _ _ BN.out).mono ?_; rintro e w3 ⟨rfl, rfl⟩))
  all_goals
    go_wp2
    go_ret
    by_cases h3 : nv < 0
    · have e : it = false := HN.out.1.trans (decide_eq_false (by omega))
      refine ⟨GR.out, ?_⟩
      rw [HS.out, if_pos h3, e]
      rfl
    · have e : it = true := HN.out.1.trans (decide_eq_true (by omega))
      refine ⟨GR.out, ?_⟩
      rw [HS.out, if_neg h3, e]
      refine ⟨rfl, ?_⟩
      have enu := HN.out.2 (by omega)
      rw [← enu]
      exact BK.out
set_option maxRecDepth 100000 in
set_option maxHeartbeats 4000000 in
theorem set_1 (g : Nat) (o : Od) (nm : ByteArray) (v : WV) (W : World) (hg : Blk W g 50 (odC o)) (hk : nmK nm = 1) : Calls Tryz.prog 46 #[.pointer (some ⟨g, 0, none⟩), .agg #[.string nm, wvV v]] W (SetEnd (setK 1 o v) g W) := by
  have f0 : (nm.toList == [116, 117, 114, 110]) = false := (nmK_facts nm 0 (by decide)).trans (by rw [hk]; rfl)
  have f1 : (nm.toList == [112, 101, 114, 102, 101, 99, 116]) = true := (nmK_facts nm 1 (by decide)).trans (by rw [hk]; rfl)
  have f2 : (nm.toList == [98, 97, 114, 101]) = false := (nmK_facts nm 2 (by decide)).trans (by rw [hk]; rfl)
  have f3 : (nm.toList == [120]) = false := (nmK_facts nm 3 (by decide)).trans (by rw [hk]; rfl)
  have f4 : (nm.toList == [121]) = false := (nmK_facts nm 4 (by decide)).trans (by rw [hk]; rfl)
  have f5 : (nm.toList == [119]) = false := (nmK_facts nm 5 (by decide)).trans (by rw [hk]; rfl)
  have f6 : (nm.toList == [104]) = false := (nmK_facts nm 6 (by decide)).trans (by rw [hk]; rfl)
  have f7 : (nm.toList == [102, 111, 114, 109]) = false := (nmK_facts nm 7 (by decide)).trans (by rw [hk]; rfl)
  have f8 : (nm.toList == [114, 101, 115, 116, 97, 114, 116]) = false := (nmK_facts nm 8 (by decide)).trans (by rw [hk]; rfl)
  have f9 : (nm.toList == [108, 97, 99, 101]) = false := (nmK_facts nm 9 (by decide)).trans (by rw [hk]; rfl)
  have HG := hid hg
  have hgw := hg.lt
  clear hk
  obtain ⟨w1, hw1⟩ : ∃ w1, w1 = W.alloc (.cells #[.string nm, wvV v] 41) := ⟨_, rfl⟩
  have hb1 : Below W.heap.size W w1 := hw1 ▸ below_allocW W _
  have hz1 : w1.heap.size = W.heap.size + 1 := by rw [hw1]; simp
  have q0 : w1.cell? ⟨W.heap.size, 0, none⟩ = some (.string nm) := by rw [hw1]; simp
  have q1 : w1.cell? ⟨W.heap.size, 1, none⟩ = some (wvV v) := by rw [hw1]; simp
  have HG1 := hid (hg.below hb1 hgw)
  have B1 := hid hb1
  have hgw1 : g < w1.heap.size := by omega
  have hxw1 : W.heap.size < w1.heap.size := by omega
  clear hg hb1 hz1
  have c1 : w1.cell? ⟨g, 1, none⟩ = some (.bool o.p) := HG1.out.cell 1
  have TR := hid (truthW_any v w1)
  have HT := hid (isT_kd v)
  have HS := hid (show setK 1 o v = if kdV v ≠ 3 then none else some { o with p := blV v } from rfl)
  generalize wvV v = vv at *
  generalize isT v = it at *
  generalize blV v = bb at *
  go_enter Tryz.func46, Tryz.ntmps46
  go_upto_region 1 with (fail)
  rw [← hw1]
  clear hw1
  have fz : ∀ i, w1.frozen? ⟨g, i, none⟩ = false := HG1.out.frozen
  go_wp2_with fail
  refine (TR.out).mono ?_
  rintro e w2 ⟨rfl, rfl⟩
  go_wp2
  go_ret
  by_cases h3 : kdV v = 3
  · have e : it = true := HT.out.trans (decide_eq_true h3)
    refine ⟨grown_set1 (grown_below1 (World.grownBy.refl _ _) B1.out) _ _, ?_⟩
    rw [HS.out, if_neg (fun h => h h3), e]
    exact ⟨rfl, HG1.out.set_ 1 _⟩
  · have e : it = false := HT.out.trans (decide_eq_false h3)
    refine ⟨grown_set1 (grown_below1 (World.grownBy.refl _ _) B1.out) _ _, ?_⟩
    rw [HS.out, if_pos h3, e]
    rfl
set_option maxRecDepth 100000 in
set_option maxHeartbeats 4000000 in
theorem set_2 (g : Nat) (o : Od) (nm : ByteArray) (v : WV) (W : World) (hg : Blk W g 50 (odC o)) (hk : nmK nm = 2) : Calls Tryz.prog 46 #[.pointer (some ⟨g, 0, none⟩), .agg #[.string nm, wvV v]] W (SetEnd (setK 2 o v) g W) := by
  have f0 : (nm.toList == [116, 117, 114, 110]) = false := (nmK_facts nm 0 (by decide)).trans (by rw [hk]; rfl)
  have f1 : (nm.toList == [112, 101, 114, 102, 101, 99, 116]) = false := (nmK_facts nm 1 (by decide)).trans (by rw [hk]; rfl)
  have f2 : (nm.toList == [98, 97, 114, 101]) = true := (nmK_facts nm 2 (by decide)).trans (by rw [hk]; rfl)
  have f3 : (nm.toList == [120]) = false := (nmK_facts nm 3 (by decide)).trans (by rw [hk]; rfl)
  have f4 : (nm.toList == [121]) = false := (nmK_facts nm 4 (by decide)).trans (by rw [hk]; rfl)
  have f5 : (nm.toList == [119]) = false := (nmK_facts nm 5 (by decide)).trans (by rw [hk]; rfl)
  have f6 : (nm.toList == [104]) = false := (nmK_facts nm 6 (by decide)).trans (by rw [hk]; rfl)
  have f7 : (nm.toList == [102, 111, 114, 109]) = false := (nmK_facts nm 7 (by decide)).trans (by rw [hk]; rfl)
  have f8 : (nm.toList == [114, 101, 115, 116, 97, 114, 116]) = false := (nmK_facts nm 8 (by decide)).trans (by rw [hk]; rfl)
  have f9 : (nm.toList == [108, 97, 99, 101]) = false := (nmK_facts nm 9 (by decide)).trans (by rw [hk]; rfl)
  have HG := hid hg
  have hgw := hg.lt
  clear hk
  obtain ⟨w1, hw1⟩ : ∃ w1, w1 = W.alloc (.cells #[.string nm, wvV v] 41) := ⟨_, rfl⟩
  have hb1 : Below W.heap.size W w1 := hw1 ▸ below_allocW W _
  have hz1 : w1.heap.size = W.heap.size + 1 := by rw [hw1]; simp
  have q0 : w1.cell? ⟨W.heap.size, 0, none⟩ = some (.string nm) := by rw [hw1]; simp
  have q1 : w1.cell? ⟨W.heap.size, 1, none⟩ = some (wvV v) := by rw [hw1]; simp
  have HG1 := hid (hg.below hb1 hgw)
  have B1 := hid hb1
  have hgw1 : g < w1.heap.size := by omega
  have hxw1 : W.heap.size < w1.heap.size := by omega
  clear hg hb1 hz1
  have c7 : w1.cell? ⟨g, 7, none⟩ = some (.bool o.ba) := HG1.out.cell 7
  have TR := hid (truthW_any v w1)
  have HT := hid (isT_kd v)
  have HS := hid (show setK 2 o v = if kdV v ≠ 3 then none else some { o with ba := blV v } from rfl)
  generalize wvV v = vv at *
  generalize isT v = it at *
  generalize blV v = bb at *
  go_enter Tryz.func46, Tryz.ntmps46
  go_upto_region 1 with (fail)
  rw [← hw1]
  clear hw1
  have fz : ∀ i, w1.frozen? ⟨g, i, none⟩ = false := HG1.out.frozen
  go_wp2_with fail
  refine (TR.out).mono ?_
  rintro e w2 ⟨rfl, rfl⟩
  go_wp2
  go_ret
  by_cases h3 : kdV v = 3
  · have e : it = true := HT.out.trans (decide_eq_true h3)
    refine ⟨grown_set1 (grown_below1 (World.grownBy.refl _ _) B1.out) _ _, ?_⟩
    rw [HS.out, if_neg (fun h => h h3), e]
    exact ⟨rfl, HG1.out.set_ 7 _⟩
  · have e : it = false := HT.out.trans (decide_eq_false h3)
    refine ⟨grown_set1 (grown_below1 (World.grownBy.refl _ _) B1.out) _ _, ?_⟩
    rw [HS.out, if_pos h3, e]
    rfl
set_option maxRecDepth 100000 in
set_option maxHeartbeats 4000000 in
theorem set_3 (g : Nat) (o : Od) (nm : ByteArray) (v : WV) (W : World) (hg : Blk W g 50 (odC o)) (hk : nmK nm = 3) : Calls Tryz.prog 46 #[.pointer (some ⟨g, 0, none⟩), .agg #[.string nm, wvV v]] W (SetEnd (setK 3 o v) g W) := by
  have f0 : (nm.toList == [116, 117, 114, 110]) = false := (nmK_facts nm 0 (by decide)).trans (by rw [hk]; rfl)
  have f1 : (nm.toList == [112, 101, 114, 102, 101, 99, 116]) = false := (nmK_facts nm 1 (by decide)).trans (by rw [hk]; rfl)
  have f2 : (nm.toList == [98, 97, 114, 101]) = false := (nmK_facts nm 2 (by decide)).trans (by rw [hk]; rfl)
  have f3 : (nm.toList == [120]) = true := (nmK_facts nm 3 (by decide)).trans (by rw [hk]; rfl)
  have f4 : (nm.toList == [121]) = false := (nmK_facts nm 4 (by decide)).trans (by rw [hk]; rfl)
  have f5 : (nm.toList == [119]) = false := (nmK_facts nm 5 (by decide)).trans (by rw [hk]; rfl)
  have f6 : (nm.toList == [104]) = false := (nmK_facts nm 6 (by decide)).trans (by rw [hk]; rfl)
  have f7 : (nm.toList == [102, 111, 114, 109]) = false := (nmK_facts nm 7 (by decide)).trans (by rw [hk]; rfl)
  have f8 : (nm.toList == [114, 101, 115, 116, 97, 114, 116]) = false := (nmK_facts nm 8 (by decide)).trans (by rw [hk]; rfl)
  have f9 : (nm.toList == [108, 97, 99, 101]) = false := (nmK_facts nm 9 (by decide)).trans (by rw [hk]; rfl)
  have HG := hid hg
  have hgw := hg.lt
  clear hk
  obtain ⟨w1, hw1⟩ : ∃ w1, w1 = W.alloc (.cells #[.string nm, wvV v] 41) := ⟨_, rfl⟩
  have hb1 : Below W.heap.size W w1 := hw1 ▸ below_allocW W _
  have hz1 : w1.heap.size = W.heap.size + 1 := by rw [hw1]; simp
  have q0 : w1.cell? ⟨W.heap.size, 0, none⟩ = some (.string nm) := by rw [hw1]; simp
  have q1 : w1.cell? ⟨W.heap.size, 1, none⟩ = some (wvV v) := by rw [hw1]; simp
  have HG1 := hid (hg.below hb1 hgw)
  have B1 := hid hb1
  have hgw1 : g < w1.heap.size := by omega
  have hxw1 : W.heap.size < w1.heap.size := by omega
  clear hg hb1 hz1
  have c2 : w1.cell? ⟨g, 2, none⟩ = some (.bool o.cr) := HG1.out.cell 2
  have c3 : w1.cell? ⟨g, 3, none⟩ = some (.int .i64 o.x) := HG1.out.cell 3
  have NR := hid (numberO_any v 0 w1)
  have HN := hid (num_ok v 0 (by decide))
  have HS := hid (show setK 3 o v = if numV v 0 < 0 then none else some { o with x := numV v 0, cr := true } from rfl)
  generalize wvV v = vv at *
  generalize numOk v 0 = it at *
  generalize nuV v = nu at *
  generalize numV v 0 = nv at *
  go_enter Tryz.func46, Tryz.ntmps46
  go_upto_region 1 with (fail)
  rw [← hw1]
  clear hw1
  have fz : ∀ i, w1.frozen? ⟨g, i, none⟩ = false := HG1.out.frozen
  go_wp2_with fail
  refine (NR.out).mono ?_
  rintro e w2 ⟨rfl, rfl⟩
  go_wp2
  go_ret
  by_cases h3 : nv < 0
  · have e : it = false := HN.out.1.trans (decide_eq_false (by omega))
    refine ⟨grown_set1 (grown_set1 (grown_below1 (World.grownBy.refl _ _) B1.out) _ _) _ _, ?_⟩
    rw [HS.out, if_pos h3, e]
    rfl
  · have e : it = true := HN.out.1.trans (decide_eq_true (by omega))
    refine ⟨grown_set1 (grown_set1 (grown_below1 (World.grownBy.refl _ _) B1.out) _ _) _ _, ?_⟩
    rw [HS.out, if_neg h3, e, HN.out.2 (by omega)]
    exact ⟨rfl, (HG1.out.set_ 3 _).set_ 2 _⟩
set_option maxRecDepth 100000 in
set_option maxHeartbeats 4000000 in
theorem set_4 (g : Nat) (o : Od) (nm : ByteArray) (v : WV) (W : World) (hg : Blk W g 50 (odC o)) (hk : nmK nm = 4) : Calls Tryz.prog 46 #[.pointer (some ⟨g, 0, none⟩), .agg #[.string nm, wvV v]] W (SetEnd (setK 4 o v) g W) := by
  have f0 : (nm.toList == [116, 117, 114, 110]) = false := (nmK_facts nm 0 (by decide)).trans (by rw [hk]; rfl)
  have f1 : (nm.toList == [112, 101, 114, 102, 101, 99, 116]) = false := (nmK_facts nm 1 (by decide)).trans (by rw [hk]; rfl)
  have f2 : (nm.toList == [98, 97, 114, 101]) = false := (nmK_facts nm 2 (by decide)).trans (by rw [hk]; rfl)
  have f3 : (nm.toList == [120]) = false := (nmK_facts nm 3 (by decide)).trans (by rw [hk]; rfl)
  have f4 : (nm.toList == [121]) = true := (nmK_facts nm 4 (by decide)).trans (by rw [hk]; rfl)
  have f5 : (nm.toList == [119]) = false := (nmK_facts nm 5 (by decide)).trans (by rw [hk]; rfl)
  have f6 : (nm.toList == [104]) = false := (nmK_facts nm 6 (by decide)).trans (by rw [hk]; rfl)
  have f7 : (nm.toList == [102, 111, 114, 109]) = false := (nmK_facts nm 7 (by decide)).trans (by rw [hk]; rfl)
  have f8 : (nm.toList == [114, 101, 115, 116, 97, 114, 116]) = false := (nmK_facts nm 8 (by decide)).trans (by rw [hk]; rfl)
  have f9 : (nm.toList == [108, 97, 99, 101]) = false := (nmK_facts nm 9 (by decide)).trans (by rw [hk]; rfl)
  have HG := hid hg
  have hgw := hg.lt
  clear hk
  obtain ⟨w1, hw1⟩ : ∃ w1, w1 = W.alloc (.cells #[.string nm, wvV v] 41) := ⟨_, rfl⟩
  have hb1 : Below W.heap.size W w1 := hw1 ▸ below_allocW W _
  have hz1 : w1.heap.size = W.heap.size + 1 := by rw [hw1]; simp
  have q0 : w1.cell? ⟨W.heap.size, 0, none⟩ = some (.string nm) := by rw [hw1]; simp
  have q1 : w1.cell? ⟨W.heap.size, 1, none⟩ = some (wvV v) := by rw [hw1]; simp
  have HG1 := hid (hg.below hb1 hgw)
  have B1 := hid hb1
  have hgw1 : g < w1.heap.size := by omega
  have hxw1 : W.heap.size < w1.heap.size := by omega
  clear hg hb1 hz1
  have c2 : w1.cell? ⟨g, 2, none⟩ = some (.bool o.cr) := HG1.out.cell 2
  have c4 : w1.cell? ⟨g, 4, none⟩ = some (.int .i64 o.y) := HG1.out.cell 4
  have NR := hid (numberO_any v 0 w1)
  have HN := hid (num_ok v 0 (by decide))
  have HS := hid (show setK 4 o v = if numV v 0 < 0 then none else some { o with y := numV v 0, cr := true } from rfl)
  generalize wvV v = vv at *
  generalize numOk v 0 = it at *
  generalize nuV v = nu at *
  generalize numV v 0 = nv at *
  go_enter Tryz.func46, Tryz.ntmps46
  go_upto_region 1 with (fail)
  rw [← hw1]
  clear hw1
  have fz : ∀ i, w1.frozen? ⟨g, i, none⟩ = false := HG1.out.frozen
  go_wp2_with fail
  refine (NR.out).mono ?_
  rintro e w2 ⟨rfl, rfl⟩
  go_wp2
  go_ret
  by_cases h3 : nv < 0
  · have e : it = false := HN.out.1.trans (decide_eq_false (by omega))
    refine ⟨grown_set1 (grown_set1 (grown_below1 (World.grownBy.refl _ _) B1.out) _ _) _ _, ?_⟩
    rw [HS.out, if_pos h3, e]
    rfl
  · have e : it = true := HN.out.1.trans (decide_eq_true (by omega))
    refine ⟨grown_set1 (grown_set1 (grown_below1 (World.grownBy.refl _ _) B1.out) _ _) _ _, ?_⟩
    rw [HS.out, if_neg h3, e, HN.out.2 (by omega)]
    exact ⟨rfl, (HG1.out.set_ 4 _).set_ 2 _⟩
set_option maxRecDepth 100000 in
set_option maxHeartbeats 4000000 in
theorem set_5 (g : Nat) (o : Od) (nm : ByteArray) (v : WV) (W : World) (hg : Blk W g 50 (odC o)) (hk : nmK nm = 5) : Calls Tryz.prog 46 #[.pointer (some ⟨g, 0, none⟩), .agg #[.string nm, wvV v]] W (SetEnd (setK 5 o v) g W) := by
  have f0 : (nm.toList == [116, 117, 114, 110]) = false := (nmK_facts nm 0 (by decide)).trans (by rw [hk]; rfl)
  have f1 : (nm.toList == [112, 101, 114, 102, 101, 99, 116]) = false := (nmK_facts nm 1 (by decide)).trans (by rw [hk]; rfl)
  have f2 : (nm.toList == [98, 97, 114, 101]) = false := (nmK_facts nm 2 (by decide)).trans (by rw [hk]; rfl)
  have f3 : (nm.toList == [120]) = false := (nmK_facts nm 3 (by decide)).trans (by rw [hk]; rfl)
  have f4 : (nm.toList == [121]) = false := (nmK_facts nm 4 (by decide)).trans (by rw [hk]; rfl)
  have f5 : (nm.toList == [119]) = true := (nmK_facts nm 5 (by decide)).trans (by rw [hk]; rfl)
  have f6 : (nm.toList == [104]) = false := (nmK_facts nm 6 (by decide)).trans (by rw [hk]; rfl)
  have f7 : (nm.toList == [102, 111, 114, 109]) = false := (nmK_facts nm 7 (by decide)).trans (by rw [hk]; rfl)
  have f8 : (nm.toList == [114, 101, 115, 116, 97, 114, 116]) = false := (nmK_facts nm 8 (by decide)).trans (by rw [hk]; rfl)
  have f9 : (nm.toList == [108, 97, 99, 101]) = false := (nmK_facts nm 9 (by decide)).trans (by rw [hk]; rfl)
  have HG := hid hg
  have hgw := hg.lt
  clear hk
  obtain ⟨w1, hw1⟩ : ∃ w1, w1 = W.alloc (.cells #[.string nm, wvV v] 41) := ⟨_, rfl⟩
  have hb1 : Below W.heap.size W w1 := hw1 ▸ below_allocW W _
  have hz1 : w1.heap.size = W.heap.size + 1 := by rw [hw1]; simp
  have q0 : w1.cell? ⟨W.heap.size, 0, none⟩ = some (.string nm) := by rw [hw1]; simp
  have q1 : w1.cell? ⟨W.heap.size, 1, none⟩ = some (wvV v) := by rw [hw1]; simp
  have HG1 := hid (hg.below hb1 hgw)
  have B1 := hid hb1
  have hgw1 : g < w1.heap.size := by omega
  have hxw1 : W.heap.size < w1.heap.size := by omega
  clear hg hb1 hz1
  have c2 : w1.cell? ⟨g, 2, none⟩ = some (.bool o.cr) := HG1.out.cell 2
  have c5 : w1.cell? ⟨g, 5, none⟩ = some (.int .i64 o.w) := HG1.out.cell 5
  have NR := hid (numberO_any v 1 w1)
  have HN := hid (num_ok v 1 (by decide))
  have HS := hid (show setK 5 o v = if numV v 1 < 0 then none else some { o with w := numV v 1, cr := true } from rfl)
  generalize wvV v = vv at *
  generalize numOk v 1 = it at *
  generalize nuV v = nu at *
  generalize numV v 1 = nv at *
  go_enter Tryz.func46, Tryz.ntmps46
  go_upto_region 1 with (fail)
  rw [← hw1]
  clear hw1
  have fz : ∀ i, w1.frozen? ⟨g, i, none⟩ = false := HG1.out.frozen
  go_wp2_with fail
  refine (NR.out).mono ?_
  rintro e w2 ⟨rfl, rfl⟩
  go_wp2
  go_ret
  by_cases h3 : nv < 0
  · have e : it = false := HN.out.1.trans (decide_eq_false (by omega))
    refine ⟨grown_set1 (grown_set1 (grown_below1 (World.grownBy.refl _ _) B1.out) _ _) _ _, ?_⟩
    rw [HS.out, if_pos h3, e]
    rfl
  · have e : it = true := HN.out.1.trans (decide_eq_true (by omega))
    refine ⟨grown_set1 (grown_set1 (grown_below1 (World.grownBy.refl _ _) B1.out) _ _) _ _, ?_⟩
    rw [HS.out, if_neg h3, e, HN.out.2 (by omega)]
    exact ⟨rfl, (HG1.out.set_ 5 _).set_ 2 _⟩
set_option maxRecDepth 100000 in
set_option maxHeartbeats 4000000 in
theorem set_6 (g : Nat) (o : Od) (nm : ByteArray) (v : WV) (W : World) (hg : Blk W g 50 (odC o)) (hk : nmK nm = 6) : Calls Tryz.prog 46 #[.pointer (some ⟨g, 0, none⟩), .agg #[.string nm, wvV v]] W (SetEnd (setK 6 o v) g W) := by
  have f0 : (nm.toList == [116, 117, 114, 110]) = false := (nmK_facts nm 0 (by decide)).trans (by rw [hk]; rfl)
  have f1 : (nm.toList == [112, 101, 114, 102, 101, 99, 116]) = false := (nmK_facts nm 1 (by decide)).trans (by rw [hk]; rfl)
  have f2 : (nm.toList == [98, 97, 114, 101]) = false := (nmK_facts nm 2 (by decide)).trans (by rw [hk]; rfl)
  have f3 : (nm.toList == [120]) = false := (nmK_facts nm 3 (by decide)).trans (by rw [hk]; rfl)
  have f4 : (nm.toList == [121]) = false := (nmK_facts nm 4 (by decide)).trans (by rw [hk]; rfl)
  have f5 : (nm.toList == [119]) = false := (nmK_facts nm 5 (by decide)).trans (by rw [hk]; rfl)
  have f6 : (nm.toList == [104]) = true := (nmK_facts nm 6 (by decide)).trans (by rw [hk]; rfl)
  have f7 : (nm.toList == [102, 111, 114, 109]) = false := (nmK_facts nm 7 (by decide)).trans (by rw [hk]; rfl)
  have f8 : (nm.toList == [114, 101, 115, 116, 97, 114, 116]) = false := (nmK_facts nm 8 (by decide)).trans (by rw [hk]; rfl)
  have f9 : (nm.toList == [108, 97, 99, 101]) = false := (nmK_facts nm 9 (by decide)).trans (by rw [hk]; rfl)
  have HG := hid hg
  have hgw := hg.lt
  clear hk
  obtain ⟨w1, hw1⟩ : ∃ w1, w1 = W.alloc (.cells #[.string nm, wvV v] 41) := ⟨_, rfl⟩
  have hb1 : Below W.heap.size W w1 := hw1 ▸ below_allocW W _
  have hz1 : w1.heap.size = W.heap.size + 1 := by rw [hw1]; simp
  have q0 : w1.cell? ⟨W.heap.size, 0, none⟩ = some (.string nm) := by rw [hw1]; simp
  have q1 : w1.cell? ⟨W.heap.size, 1, none⟩ = some (wvV v) := by rw [hw1]; simp
  have HG1 := hid (hg.below hb1 hgw)
  have B1 := hid hb1
  have hgw1 : g < w1.heap.size := by omega
  have hxw1 : W.heap.size < w1.heap.size := by omega
  clear hg hb1 hz1
  have c2 : w1.cell? ⟨g, 2, none⟩ = some (.bool o.cr) := HG1.out.cell 2
  have c6 : w1.cell? ⟨g, 6, none⟩ = some (.int .i64 o.h) := HG1.out.cell 6
  have NR := hid (numberO_any v 1 w1)
  have HN := hid (num_ok v 1 (by decide))
  have HS := hid (show setK 6 o v = if numV v 1 < 0 then none else some { o with h := numV v 1, cr := true } from rfl)
  generalize wvV v = vv at *
  generalize numOk v 1 = it at *
  generalize nuV v = nu at *
  generalize numV v 1 = nv at *
  go_enter Tryz.func46, Tryz.ntmps46
  go_upto_region 1 with (fail)
  rw [← hw1]
  clear hw1
  have fz : ∀ i, w1.frozen? ⟨g, i, none⟩ = false := HG1.out.frozen
  go_wp2_with fail
  refine (NR.out).mono ?_
  rintro e w2 ⟨rfl, rfl⟩
  go_wp2
  go_ret
  by_cases h3 : nv < 0
  · have e : it = false := HN.out.1.trans (decide_eq_false (by omega))
    refine ⟨grown_set1 (grown_set1 (grown_below1 (World.grownBy.refl _ _) B1.out) _ _) _ _, ?_⟩
    rw [HS.out, if_pos h3, e]
    rfl
  · have e : it = true := HN.out.1.trans (decide_eq_true (by omega))
    refine ⟨grown_set1 (grown_set1 (grown_below1 (World.grownBy.refl _ _) B1.out) _ _) _ _, ?_⟩
    rw [HS.out, if_neg h3, e, HN.out.2 (by omega)]
    exact ⟨rfl, (HG1.out.set_ 6 _).set_ 2 _⟩
set_option maxRecDepth 100000 in
set_option maxHeartbeats 4000000 in
theorem set_7 (g : Nat) (o : Od) (nm : ByteArray) (v : WV) (W : World) (hg : Blk W g 50 (odC o)) (hk : nmK nm = 7) : Calls Tryz.prog 46 #[.pointer (some ⟨g, 0, none⟩), .agg #[.string nm, wvV v]] W (SetEnd (setK 7 o v) g W) := by
  have f0 : (nm.toList == [116, 117, 114, 110]) = false := (nmK_facts nm 0 (by decide)).trans (by rw [hk]; rfl)
  have f1 : (nm.toList == [112, 101, 114, 102, 101, 99, 116]) = false := (nmK_facts nm 1 (by decide)).trans (by rw [hk]; rfl)
  have f2 : (nm.toList == [98, 97, 114, 101]) = false := (nmK_facts nm 2 (by decide)).trans (by rw [hk]; rfl)
  have f3 : (nm.toList == [120]) = false := (nmK_facts nm 3 (by decide)).trans (by rw [hk]; rfl)
  have f4 : (nm.toList == [121]) = false := (nmK_facts nm 4 (by decide)).trans (by rw [hk]; rfl)
  have f5 : (nm.toList == [119]) = false := (nmK_facts nm 5 (by decide)).trans (by rw [hk]; rfl)
  have f6 : (nm.toList == [104]) = false := (nmK_facts nm 6 (by decide)).trans (by rw [hk]; rfl)
  have f7 : (nm.toList == [102, 111, 114, 109]) = true := (nmK_facts nm 7 (by decide)).trans (by rw [hk]; rfl)
  have f8 : (nm.toList == [114, 101, 115, 116, 97, 114, 116]) = false := (nmK_facts nm 8 (by decide)).trans (by rw [hk]; rfl)
  have f9 : (nm.toList == [108, 97, 99, 101]) = false := (nmK_facts nm 9 (by decide)).trans (by rw [hk]; rfl)
  have HG := hid hg
  have hgw := hg.lt
  clear hk
  obtain ⟨w1, hw1⟩ : ∃ w1, w1 = W.alloc (.cells #[.string nm, wvV v] 41) := ⟨_, rfl⟩
  have hb1 : Below W.heap.size W w1 := hw1 ▸ below_allocW W _
  have hz1 : w1.heap.size = W.heap.size + 1 := by rw [hw1]; simp
  have q0 : w1.cell? ⟨W.heap.size, 0, none⟩ = some (.string nm) := by rw [hw1]; simp
  have q1 : w1.cell? ⟨W.heap.size, 1, none⟩ = some (wvV v) := by rw [hw1]; simp
  have HG1 := hid (hg.below hb1 hgw)
  have B1 := hid hb1
  have hgw1 : g < w1.heap.size := by omega
  have hxw1 : W.heap.size < w1.heap.size := by omega
  clear hg hb1 hz1
  have c8 : w1.cell? ⟨g, 8, none⟩ = some (.int .i64 o.fo) := HG1.out.cell 8
  have WO := hid (fun (w : World) (gg : Nat) (h : Blk w gg 9 (strV formsW).toArray) => wordO_any v formsW gg formsW.length w h (by decide))
  have HN := hid (amg_ok formsW v)
  have HS := hid (show setK 7 o v = if amgV formsW v < 0 then none else some { o with fo := amgV formsW v } from rfl)
  generalize wvV v = vv at *
  generalize (isS v && decide (0 ≤ idxW formsW (sxV v))) = it at *
  have hbd := idxW_bd formsW (sxV v)
  generalize idxW formsW (sxV v) = nu at *
  generalize amgV formsW v = nv at *
  have hln : formsW.length = 3 := rfl
  rw [hln] at WO hbd
  have twr : wrap64 (nu - 1) = nu - 1 := IntWalk.wrap64_in _ (by omega)
  have twr2 : IntKind.i64.wrap (nu - 1) = nu - 1 := IntWalk.i64_in _ (by omega)
  go_enter Tryz.func46, Tryz.ntmps46
  go_upto_region 1 with (fail)
  rw [← hw1]
  clear hw1
  have fz : ∀ i, w1.frozen? ⟨g, i, none⟩ = false := HG1.out.frozen
  go_upto_region 21 with (fail)
  have BN := hid (show Blk (w1.alloc (.cells (strV formsW).toArray 9)).drew w1.heap.size 9 (strV formsW).toArray from Blk.new w1 _ _)
  have GR := hid (grown_drew (grown_below1 (grown_set1 (grown_below1 (World.grownBy.refl W (some g)) B1.out) 8 (.int .i64 nu)) (below_allocW _ (.cells (strV formsW).toArray 9))))
  have BK := hid ((HG1.out.set_ 8 (.int .i64 nu)).below (below_allocW _ (.cells (strV formsW).toArray 9)) (by simp; exact hgw1))
  go_region_with (first
    | (go_at_call 41; refine (recomp_forms_any _).mono ?_; rintro e w2 ⟨rfl, rfl⟩)
    | (go_at_call 67; refine (WO.out _ _ BN.out).mono ?_; rintro e w3 ⟨rfl, rfl⟩))
  all_goals
    go_wp2
    go_ret
    by_cases h3 : nv < 0
    · have e : it = false := HN.out.1.trans (decide_eq_false (by omega))
      refine ⟨GR.out, ?_⟩
      rw [HS.out, if_pos h3, e]
      rfl
    · have e : it = true := HN.out.1.trans (decide_eq_true (by omega))
      refine ⟨GR.out, ?_⟩
      rw [HS.out, if_neg h3, e]
      refine ⟨rfl, ?_⟩
      have enu := HN.out.2 (by omega)
      rw [← enu]
      exact BK.out
set_option maxRecDepth 100000 in
set_option maxHeartbeats 4000000 in
theorem set_8 (g : Nat) (o : Od) (nm : ByteArray) (v : WV) (W : World) (hg : Blk W g 50 (odC o)) (hk : nmK nm = 8) : Calls Tryz.prog 46 #[.pointer (some ⟨g, 0, none⟩), .agg #[.string nm, wvV v]] W (SetEnd (setK 8 o v) g W) := by
  have f0 : (nm.toList == [116, 117, 114, 110]) = false := (nmK_facts nm 0 (by decide)).trans (by rw [hk]; rfl)
  have f1 : (nm.toList == [112, 101, 114, 102, 101, 99, 116]) = false := (nmK_facts nm 1 (by decide)).trans (by rw [hk]; rfl)
  have f2 : (nm.toList == [98, 97, 114, 101]) = false := (nmK_facts nm 2 (by decide)).trans (by rw [hk]; rfl)
  have f3 : (nm.toList == [120]) = false := (nmK_facts nm 3 (by decide)).trans (by rw [hk]; rfl)
  have f4 : (nm.toList == [121]) = false := (nmK_facts nm 4 (by decide)).trans (by rw [hk]; rfl)
  have f5 : (nm.toList == [119]) = false := (nmK_facts nm 5 (by decide)).trans (by rw [hk]; rfl)
  have f6 : (nm.toList == [104]) = false := (nmK_facts nm 6 (by decide)).trans (by rw [hk]; rfl)
  have f7 : (nm.toList == [102, 111, 114, 109]) = false := (nmK_facts nm 7 (by decide)).trans (by rw [hk]; rfl)
  have f8 : (nm.toList == [114, 101, 115, 116, 97, 114, 116]) = true := (nmK_facts nm 8 (by decide)).trans (by rw [hk]; rfl)
  have f9 : (nm.toList == [108, 97, 99, 101]) = false := (nmK_facts nm 9 (by decide)).trans (by rw [hk]; rfl)
  have HG := hid hg
  have hgw := hg.lt
  clear hk
  obtain ⟨w1, hw1⟩ : ∃ w1, w1 = W.alloc (.cells #[.string nm, wvV v] 41) := ⟨_, rfl⟩
  have hb1 : Below W.heap.size W w1 := hw1 ▸ below_allocW W _
  have hz1 : w1.heap.size = W.heap.size + 1 := by rw [hw1]; simp
  have q0 : w1.cell? ⟨W.heap.size, 0, none⟩ = some (.string nm) := by rw [hw1]; simp
  have q1 : w1.cell? ⟨W.heap.size, 1, none⟩ = some (wvV v) := by rw [hw1]; simp
  have HG1 := hid (hg.below hb1 hgw)
  have B1 := hid hb1
  have hgw1 : g < w1.heap.size := by omega
  have hxw1 : W.heap.size < w1.heap.size := by omega
  clear hg hb1 hz1
  have c9 : w1.cell? ⟨g, 9, none⟩ = some (.int .i64 o.re) := HG1.out.cell 9
  have NR := hid (numberO_any v 0 w1)
  have HN := hid (num_ok v 0 (by decide))
  have HS := hid (show setK 8 o v = if numV v 0 < 0 then none else some { o with re := numV v 0 } from rfl)
  generalize wvV v = vv at *
  generalize numOk v 0 = it at *
  generalize nuV v = nu at *
  generalize numV v 0 = nv at *
  go_enter Tryz.func46, Tryz.ntmps46
  go_upto_region 1 with (fail)
  rw [← hw1]
  clear hw1
  have fz : ∀ i, w1.frozen? ⟨g, i, none⟩ = false := HG1.out.frozen
  go_wp2_with fail
  refine (NR.out).mono ?_
  rintro e w2 ⟨rfl, rfl⟩
  go_wp2
  go_ret
  by_cases h3 : nv < 0
  · have e : it = false := HN.out.1.trans (decide_eq_false (by omega))
    refine ⟨grown_set1 (grown_below1 (World.grownBy.refl _ _) B1.out) _ _, ?_⟩
    rw [HS.out, if_pos h3, e]
    rfl
  · have e : it = true := HN.out.1.trans (decide_eq_true (by omega))
    refine ⟨grown_set1 (grown_below1 (World.grownBy.refl _ _) B1.out) _ _, ?_⟩
    rw [HS.out, if_neg h3, e, HN.out.2 (by omega)]
    exact ⟨rfl, HG1.out.set_ 9 _⟩
set_option maxRecDepth 100000 in
set_option maxHeartbeats 4000000 in
theorem set_9 (g : Nat) (o : Od) (nm : ByteArray) (v : WV) (W : World) (hg : Blk W g 50 (odC o)) (hk : nmK nm = 9) : Calls Tryz.prog 46 #[.pointer (some ⟨g, 0, none⟩), .agg #[.string nm, wvV v]] W (SetEnd (setK 9 o v) g W) := by
  have f0 : (nm.toList == [116, 117, 114, 110]) = false := (nmK_facts nm 0 (by decide)).trans (by rw [hk]; rfl)
  have f1 : (nm.toList == [112, 101, 114, 102, 101, 99, 116]) = false := (nmK_facts nm 1 (by decide)).trans (by rw [hk]; rfl)
  have f2 : (nm.toList == [98, 97, 114, 101]) = false := (nmK_facts nm 2 (by decide)).trans (by rw [hk]; rfl)
  have f3 : (nm.toList == [120]) = false := (nmK_facts nm 3 (by decide)).trans (by rw [hk]; rfl)
  have f4 : (nm.toList == [121]) = false := (nmK_facts nm 4 (by decide)).trans (by rw [hk]; rfl)
  have f5 : (nm.toList == [119]) = false := (nmK_facts nm 5 (by decide)).trans (by rw [hk]; rfl)
  have f6 : (nm.toList == [104]) = false := (nmK_facts nm 6 (by decide)).trans (by rw [hk]; rfl)
  have f7 : (nm.toList == [102, 111, 114, 109]) = false := (nmK_facts nm 7 (by decide)).trans (by rw [hk]; rfl)
  have f8 : (nm.toList == [114, 101, 115, 116, 97, 114, 116]) = false := (nmK_facts nm 8 (by decide)).trans (by rw [hk]; rfl)
  have f9 : (nm.toList == [108, 97, 99, 101]) = true := (nmK_facts nm 9 (by decide)).trans (by rw [hk]; rfl)
  have HG := hid hg
  have hgw := hg.lt
  clear hk
  obtain ⟨w1, hw1⟩ : ∃ w1, w1 = W.alloc (.cells #[.string nm, wvV v] 41) := ⟨_, rfl⟩
  have hb1 : Below W.heap.size W w1 := hw1 ▸ below_allocW W _
  have hz1 : w1.heap.size = W.heap.size + 1 := by rw [hw1]; simp
  have q0 : w1.cell? ⟨W.heap.size, 0, none⟩ = some (.string nm) := by rw [hw1]; simp
  have q1 : w1.cell? ⟨W.heap.size, 1, none⟩ = some (wvV v) := by rw [hw1]; simp
  have HG1 := hid (hg.below hb1 hgw)
  have B1 := hid hb1
  have hgw1 : g < w1.heap.size := by omega
  have hxw1 : W.heap.size < w1.heap.size := by omega
  clear hg hb1 hz1
  have c10 : w1.cell? ⟨g, 10, none⟩ = some (.int .i64 o.la) := HG1.out.cell 10
  have WO := hid (fun (w : World) (gg : Nat) (h : Blk w gg 9 (strV lacesW).toArray) => wordO_any v lacesW gg lacesW.length w h (by decide))
  have HN := hid (amg_ok lacesW v)
  have HS := hid (show setK 9 o v = if amgV lacesW v < 0 then none else some { o with la := amgV lacesW v - 1 } from rfl)
  generalize wvV v = vv at *
  generalize (isS v && decide (0 ≤ idxW lacesW (sxV v))) = it at *
  have hbd := idxW_bd lacesW (sxV v)
  generalize idxW lacesW (sxV v) = nu at *
  generalize amgV lacesW v = nv at *
  have hln : lacesW.length = 3 := rfl
  rw [hln] at WO hbd
  have twr : wrap64 (nu - 1) = nu - 1 := IntWalk.wrap64_in _ (by omega)
  have twr2 : IntKind.i64.wrap (nu - 1) = nu - 1 := IntWalk.i64_in _ (by omega)
  go_enter Tryz.func46, Tryz.ntmps46
  go_upto_region 1 with (fail)
  rw [← hw1]
  clear hw1
  have fz : ∀ i, w1.frozen? ⟨g, i, none⟩ = false := HG1.out.frozen
  go_upto_region 25 with (fail)
  have BN := hid (show Blk (w1.alloc (.cells (strV lacesW).toArray 9)).drew w1.heap.size 9 (strV lacesW).toArray from Blk.new w1 _ _)
  have GR := hid (grown_drew (grown_below1 (grown_set1 (grown_set1 (grown_below1 (World.grownBy.refl W (some g)) B1.out) 10 (.int .i64 nu)) 10 (.int .i64 (nu - 1))) (below_allocW _ (.cells (strV lacesW).toArray 9))))
  have BK := hid (((HG1.out.set_ 10 (.int .i64 nu)).set_ 10 (.int .i64 (nu - 1))).below (below_allocW _ (.cells (strV lacesW).toArray 9)) (by simp; exact hgw1))
  go_region_with (first
    | (go_at_call 42; refine (recomp_laces_any _).mono ?_; rintro e w2 ⟨rfl, rfl⟩)
    | (go_at_call 67; refine (WO.out _ _ BN.out).mono ?_; rintro e w3 ⟨rfl, rfl⟩))
  all_goals
    go_wp2
    go_ret
    by_cases h3 : nv < 0
    · have e : it = false := HN.out.1.trans (decide_eq_false (by omega))
      refine ⟨GR.out, ?_⟩
      rw [HS.out, if_pos h3, e]
      rfl
    · have e : it = true := HN.out.1.trans (decide_eq_true (by omega))
      refine ⟨GR.out, ?_⟩
      rw [HS.out, if_neg h3, e]
      refine ⟨rfl, ?_⟩
      have enu := HN.out.2 (by omega)
      rw [← enu]
      exact BK.out
set_option maxRecDepth 100000 in
set_option maxHeartbeats 4000000 in
theorem set_10 (g : Nat) (o : Od) (nm : ByteArray) (v : WV) (W : World) (hg : Blk W g 50 (odC o)) (hk : nmK nm = 10) : Calls Tryz.prog 46 #[.pointer (some ⟨g, 0, none⟩), .agg #[.string nm, wvV v]] W (SetEnd (setK 10 o v) g W) := by
  have f0 : (nm.toList == [116, 117, 114, 110]) = false := (nmK_facts nm 0 (by decide)).trans (by rw [hk]; rfl)
  have f1 : (nm.toList == [112, 101, 114, 102, 101, 99, 116]) = false := (nmK_facts nm 1 (by decide)).trans (by rw [hk]; rfl)
  have f2 : (nm.toList == [98, 97, 114, 101]) = false := (nmK_facts nm 2 (by decide)).trans (by rw [hk]; rfl)
  have f3 : (nm.toList == [120]) = false := (nmK_facts nm 3 (by decide)).trans (by rw [hk]; rfl)
  have f4 : (nm.toList == [121]) = false := (nmK_facts nm 4 (by decide)).trans (by rw [hk]; rfl)
  have f5 : (nm.toList == [119]) = false := (nmK_facts nm 5 (by decide)).trans (by rw [hk]; rfl)
  have f6 : (nm.toList == [104]) = false := (nmK_facts nm 6 (by decide)).trans (by rw [hk]; rfl)
  have f7 : (nm.toList == [102, 111, 114, 109]) = false := (nmK_facts nm 7 (by decide)).trans (by rw [hk]; rfl)
  have f8 : (nm.toList == [114, 101, 115, 116, 97, 114, 116]) = false := (nmK_facts nm 8 (by decide)).trans (by rw [hk]; rfl)
  have f9 : (nm.toList == [108, 97, 99, 101]) = false := (nmK_facts nm 9 (by decide)).trans (by rw [hk]; rfl)
  have HG := hid hg
  have hgw := hg.lt
  clear hk
  obtain ⟨w1, hw1⟩ : ∃ w1, w1 = W.alloc (.cells #[.string nm, wvV v] 41) := ⟨_, rfl⟩
  have hb1 : Below W.heap.size W w1 := hw1 ▸ below_allocW W _
  have hz1 : w1.heap.size = W.heap.size + 1 := by rw [hw1]; simp
  have q0 : w1.cell? ⟨W.heap.size, 0, none⟩ = some (.string nm) := by rw [hw1]; simp
  have q1 : w1.cell? ⟨W.heap.size, 1, none⟩ = some (wvV v) := by rw [hw1]; simp
  have HG1 := hid (hg.below hb1 hgw)
  have B1 := hid hb1
  have hgw1 : g < w1.heap.size := by omega
  have hxw1 : W.heap.size < w1.heap.size := by omega
  clear hg hb1 hz1
  have HS := hid (show setK 10 o v = none from rfl)
  go_enter Tryz.func46, Tryz.ntmps46
  go_upto_region 1 with (fail)
  rw [← hw1]
  clear hw1
  generalize wvV v = vv at *
  go_wp2
  go_ret
  refine ⟨grown_below1 (World.grownBy.refl _ _) B1.out, ?_⟩
  rw [HS.out]
  rfl
theorem set_any (g : Nat) (o : Od) (x : Wsh) (W : World) (hg : Blk W g 50 (odC o)) : Calls Tryz.prog 46 #[.pointer (some ⟨g, 0, none⟩), .agg #[.string x.1, wvV x.2]] W (SetEnd (setO o x) g W) := by
  obtain ⟨nm, v⟩ := x
  unfold setO
  dsimp only
  obtain ⟨k, hk⟩ : ∃ k, nmK nm = k := ⟨_, rfl⟩
  have hle := nmK_le nm
  rw [hk] at hle ⊢
  rcases (show k = 0 ∨ k = 1 ∨ k = 2 ∨ k = 3 ∨ k = 4 ∨ k = 5 ∨ k = 6 ∨ k = 7 ∨ k = 8 ∨ k = 9 ∨ k = 10 by omega) with rfl | rfl | rfl | rfl | rfl | rfl | rfl | rfl | rfl | rfl | rfl
  · exact set_0 g o nm v W hg hk
  · exact set_1 g o nm v W hg hk
  · exact set_2 g o nm v W hg hk
  · exact set_3 g o nm v W hg hk
  · exact set_4 g o nm v W hg hk
  · exact set_5 g o nm v W hg hk
  · exact set_6 g o nm v W hg hk
  · exact set_7 g o nm v W hg hk
  · exact set_8 g o nm v W hg hk
  · exact set_9 g o nm v W hg hk
  · exact set_10 g o nm v W hg hk
end Go.Proofs.YtfcppchjikmioaaGreat
