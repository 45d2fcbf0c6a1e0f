/-
  burnishref26.Order.
-/
import Derived.Test.YtegmbjkpjglgpaaOrdD
namespace Go.Proofs.Ytegmbjkpjglgpaa
open Go.RowKit Go.Lib

def ROEnd (s : ByteArray) (W : World) (e : Ending) (w' : World) : Prop := Below W.heap.size W w' ∧ match ordP s with
  | none => e = .returned (.tuple #[odV odZ, .bool false])
  | some o => e = .returned (.tuple #[odV o, .bool true])
theorem ro_none {s : ByteArray} {W w' : World} (h : ordP s = none) (hb : Below W.heap.size W w') : ROEnd s W (.returned (.tuple #[odV odZ, .bool false])) w' := by
  refine ⟨hb, ?_⟩
  rw [h]
theorem ro_some {s : ByteArray} {o : Od} {W w' : World} (h : ordP s = some o) (hb : Below W.heap.size W w') : ROEnd s W (.returned (.tuple #[odV o, .bool true])) w' := by
  refine ⟨hb, ?_⟩
  rw [h]
/-- an order without its crop -/
def noC (o : Od) : Od := { o with x := 0, y := 0, w := 0, h := 0 }
theorem rw_at {w : World} {B : Nat} {A : Option Addr} {L : List Wsh} (h : Rd w B 5 A L.length (L.flatMap encRw)) {j : Nat} (hj : j < L.length) : ∃ b off, A = some ⟨b, off, none⟩ ∧ b < B ∧ w.cell? ⟨b, off + j * 5, none⟩ = some (.string L[j].1) ∧ w.cell? ⟨b, off + j * 5 + 1, none⟩ = some (.int .i64 (kdV L[j].2)) ∧ w.cell? ⟨b, off + j * 5 + 2, none⟩ = some (.int .i64 (nuV L[j].2)) ∧ w.cell? ⟨b, off + j * 5 + 3, none⟩ = some (.string (sxV L[j].2)) ∧ w.cell? ⟨b, off + j * 5 + 4, none⟩ = some (.bool (blV L[j].2)) := by
  obtain ⟨b, off, hA, hb, hcl⟩ := h.at_ (k := j) hj (by omega)
  have f := fun i (hi : i < 5) => flat_at encRw 5 L (fun _ _ => rfl) j i L[j] (List.getElem?_eq_getElem hj) hi
  exact ⟨b, off, hA, hb, hcl (j * 5 + 0) _ ((f 0 (by omega)).trans rfl), hcl (j * 5 + 1) _ ((f 1 (by omega)).trans rfl), hcl (j * 5 + 2) _ ((f 2 (by omega)).trans rfl), hcl (j * 5 + 3) _ ((f 3 (by omega)).trans rfl), hcl (j * 5 + 4) _ ((f 4 (by omega)).trans rfl)⟩
/-- the two blocks of the function's own, below a block -/
structure Two (w : World) (r n : Nat) : Prop where
  r : Blk w r 32 (odC odZ)
  n : Blk w n 32 (odC odZ)
theorem Two.below {w w' : World} {r n B : Nat} (h : Two w r n) (hb : Below B w w') (hr : r < B) (hn : n < B) : Two w' r n := ⟨h.r.below hb hr, h.n.below hb hn⟩
set_option maxRecDepth 100000 in
set_option maxHeartbeats 32000000 in
theorem rorder_any (s : ByteArray) (hs : s.size ≤ 1000000) (W : World) : Calls Try.prog 16 #[.string s] W (ROEnd s W) := by
  obtain ⟨R, hR⟩ : ∃ R, R = W.heap.size := ⟨_, rfl⟩
  obtain ⟨N, hN⟩ : ∃ N, N = W.heap.size + 1 := ⟨_, rfl⟩
  obtain ⟨w1, hw1⟩ : ∃ w1, w1 = (W.alloc (.cells (odC odZ) 32)).alloc (.cells (odC odZ) 32) := ⟨_, rfl⟩
  have hb1 : Below W.heap.size W w1 := hw1 ▸ below_two W _ _
  have T1 := hid (show Two w1 R N from ⟨by rw [hw1, hR]; exact (Blk.new W _ _).below (below_allocW _ _) (by simp), by rw [hw1, hN]; have := Blk.new (W.alloc (.cells (odC odZ) 32)) 32 (odC odZ); simpa using this⟩)
  have PA := hid (parse_ref s hs w1)
  have HOP := hid (show ordP s = match refP s with
    | none => none
    | some L => match ordF L od0 with
      | none => none
      | some o => some (finO o) from rfl)
  have B1 := hid hb1
  have hz1 : w1.heap.size = W.heap.size + 2 := by rw [hw1]; simp
  clear hb1
  go_enter Try.func16, Try.ntmps16
  go_upto_region 2 with (fail)
  rw [show ((W.alloc (.cells #[.int .i64 0, .bool false, .bool false, .int .i64 0, .int .i64 0, .int .i64 0, .int .i64 0, .bool false, .int .i64 0, .int .i64 0, .int .i64 0] 32)).alloc (.cells #[.int .i64 0, .bool false, .bool false, .int .i64 0, .int .i64 0, .int .i64 0, .int .i64 0, .bool false, .int .i64 0, .int .i64 0, .int .i64 0] 32)) = w1 from hw1.symm]
  rw [← hN, ← hR]
  have HRr := hid hR
  have hRw : R < w1.heap.size := by omega
  have hNw : N < w1.heap.size := by omega
  have hRN : ¬ R = N := by omega
  have hNR : ¬ N = R := by omega
  have HB0 := hid (show W.heap.size ≤ R from by omega)
  have HB1 := hid (show W.heap.size ≤ w1.heap.size from by omega)
  clear hw1 hz1 hR hN
  go_wp2_with fail
  refine (PA.out).mono ?_
  rintro e w2 ⟨hb2, hE⟩
  have T2 := hid (T1.out.below hb2 hRw hNw)
  have B2 := hid (B1.out.trans (hb2.mono HB1.out))
  have hRw2 := T2.out.r.lt
  have hNw2 := T2.out.n.lt
  clear hb2
  cases hp : refP s with
  | none =>
    rw [hp] at hE
    obtain ⟨k, rfl⟩ := hE
    have HN := hid (show ordP s = none from by rw [HOP.out, hp])
    have d1 : decide (0 ≤ (k : Int)) = true := decide_eq_true (by omega)
    have TR := hid T2.out.r
    have TN := hid T2.out.n
    have r0 : w2.cell? ⟨R, 0, none⟩ = some (.int .i64 0) := TR.out.cell 0
    have r1 : w2.cell? ⟨R, 1, none⟩ = some (.bool false) := TR.out.cell 1
    have r2 : w2.cell? ⟨R, 2, none⟩ = some (.bool false) := TR.out.cell 2
    have r3 : w2.cell? ⟨R, 3, none⟩ = some (.int .i64 0) := TR.out.cell 3
    have r4 : w2.cell? ⟨R, 4, none⟩ = some (.int .i64 0) := TR.out.cell 4
    have r5 : w2.cell? ⟨R, 5, none⟩ = some (.int .i64 0) := TR.out.cell 5
    have r6 : w2.cell? ⟨R, 6, none⟩ = some (.int .i64 0) := TR.out.cell 6
    have r7 : w2.cell? ⟨R, 7, none⟩ = some (.bool false) := TR.out.cell 7
    have r8 : w2.cell? ⟨R, 8, none⟩ = some (.int .i64 0) := TR.out.cell 8
    have r9 : w2.cell? ⟨R, 9, none⟩ = some (.int .i64 0) := TR.out.cell 9
    have r10 : w2.cell? ⟨R, 10, none⟩ = some (.int .i64 0) := TR.out.cell 10
    have n0 : w2.cell? ⟨N, 0, none⟩ = some (.int .i64 0) := TN.out.cell 0
    have n1 : w2.cell? ⟨N, 1, none⟩ = some (.bool false) := TN.out.cell 1
    have n2 : w2.cell? ⟨N, 2, none⟩ = some (.bool false) := TN.out.cell 2
    have n3 : w2.cell? ⟨N, 3, none⟩ = some (.int .i64 0) := TN.out.cell 3
    have n4 : w2.cell? ⟨N, 4, none⟩ = some (.int .i64 0) := TN.out.cell 4
    have n5 : w2.cell? ⟨N, 5, none⟩ = some (.int .i64 0) := TN.out.cell 5
    have n6 : w2.cell? ⟨N, 6, none⟩ = some (.int .i64 0) := TN.out.cell 6
    have n7 : w2.cell? ⟨N, 7, none⟩ = some (.bool false) := TN.out.cell 7
    have n8 : w2.cell? ⟨N, 8, none⟩ = some (.int .i64 0) := TN.out.cell 8
    have n9 : w2.cell? ⟨N, 9, none⟩ = some (.int .i64 0) := TN.out.cell 9
    have n10 : w2.cell? ⟨N, 10, none⟩ = some (.int .i64 0) := TN.out.cell 10
    have fzr : ∀ i, w2.frozen? ⟨R, i, none⟩ = false := TR.out.frozen
    clear hp
    go_wp2_with fail
    refine bodyPost_ret (v := .tuple #[odV odZ, .bool false]) (by simp [results, Try.results16, go_sem, odV, odZ, r0, r1, r2, r3, r4, r5, r6, r7, r8, r9, r10]) rfl (ro_none HN.out ?_)
    repeat' (refine Below.setCell ?_ (show W.heap.size ≤ R from HB0.out) _)
    exact B2.out
  | some L =>
    rw [hp] at hE
    obtain ⟨A, c, rfl, ho, hLl⟩ := hE
    have HO2 := hid (HOP.out.trans (by rw [hp]))
    have RL := hid (own_rd ho)
    have hLm : L.length ≤ 1000001 := by omega
    clear hp ho HOP PA hLl
    obtain ⟨g, hg⟩ : ∃ g, g = w2.heap.size := ⟨_, rfl⟩
    obtain ⟨w3, hw3⟩ : ∃ w3, w3 = w2.alloc (.cells (odC (noC od0)) 32) := ⟨_, rfl⟩
    have B23 := hid (show Below g w2 w3 from hg ▸ hw3 ▸ below_allocW w2 _)
    have O3 := hid (show Blk w3 g 32 (odC (noC od0)) from hg ▸ hw3 ▸ Blk.new w2 _ _)
    have hRg : R < g := by omega
    have hNg : N < g := by omega
    have HGB := hid (show W.heap.size ≤ g from by have := HB0.out; omega)
    go_upto_region 6 with (fail)
    rw [show (w2.alloc (.cells #[.int .i64 0, .bool false, .bool false, .int .i64 0, .int .i64 0, .int .i64 0, .int .i64 0, .bool false, .int .i64 0, .int .i64 0, .int .i64 (-1)] 32)) = w3 from hw3.symm]
    rw [← hg]
    rw [← hg] at RL
    have n1 : ¬ g = R := by omega
    have n2 : ¬ g = N := by omega
    have n3 : ¬ R = g := by omega
    have n4 : ¬ N = g := by omega
    clear hw3 hg hRw hNw
    go_wp2_with fail
    go_loopw [8, 9, 10, 11, 12] (fun vx vy vw vh i wr => ∃ (j : Nat) (o : Od), j ≤ L.length ∧ i = .int .i64 (j : Int) ∧ vx = .int .i64 o.x ∧ vy = .int .i64 o.y ∧ vw = .int .i64 o.w ∧ vh = .int .i64 o.h ∧ Hid (Blk wr g 32 (odC (noC o))) ∧ Hid (Below g w2 wr) ∧ Hid (ordF (L.drop j) o = ordF L od0)) (fun _ _ _ _ i _ => L.length - (intOf i).toNat)
    case atStart => exact ⟨0, od0, by omega, rfl, rfl, rfl, rfl, rfl, O3, B23, hid rfl⟩
    case round =>
      obtain ⟨j, o, hj, rfl, rfl, rfl, rfl, rfl, O, BL, HF⟩ := hrel
      have hgo := O.out.lt
      have TT := hid (T2.out.below BL.out hRg hNg)
      have BB := hid (B2.out.trans (BL.out.mono HGB.out))
      by_cases hlt : j < L.length
      · have dd1 : decide (j < L.length) = true := decide_eq_true hlt
        have dd2 : decide ((j : Int) < (L.length : Int)) = true := decide_eq_true (by omega)
        obtain ⟨b, off, rfl, hb, l0, l1, l2, l3, l4⟩ := rw_at (RL.out.below BL.out (Nat.le_refl _)) hlt
        have HN := hid (ordF_at hlt HF.out)
        generalize L[j] = x at *
        obtain ⟨nm, v⟩ := x
        dsimp only at l0 l1 l2 l3 l4
        have hbr : b < wr.heap.size := by omega
        obtain ⟨vb, hvb⟩ : ∃ vb, vb = wr.heap.size := ⟨_, rfl⟩
        obtain ⟨w5, hw5⟩ : ∃ w5, w5 = wr.alloc (.cells #[.string nm, .int .i64 (kdV v), .int .i64 (nuV v), .string (sxV v), .bool (blV v)] 77) := ⟨_, rfl⟩
        have hb5 : Below wr.heap.size wr w5 := hw5 ▸ below_allocW wr _
        have V5 := hid (show Blk w5 vb 77 #[.string nm, .int .i64 (kdV v), .int .i64 (nuV v), .string (sxV v), .bool (blV v)] from hvb ▸ hw5 ▸ Blk.new wr _ _)
        have O5 := hid (O.out.below hb5 hgo)
        have BL5 := hid (BL.out.trans (hb5.mono (by omega)))
        have hz5 : vb < w5.heap.size := V5.out.lt
        have hgv : g < vb := by omega
        have hRr : R < w5.heap.size := by omega
        clear hb5
        go_upto_region 15 with (fail)
        rw [← hw5, ← hvb]
        clear hw5 hvb l0 l1 l2 l3 l4
        obtain ⟨k, hk⟩ : ∃ k, nmK nm = k := ⟨_, rfl⟩
        have hle := nmK_le nm
        rw [hk] at hle
        have HST := hid (show setO o (nm, v) = setK k o v from by unfold setO; dsimp only; rw [hk])
        have hRv : ¬ R = vb := by omega
        have hNv : ¬ N = vb := by omega
        have hgv2 : ¬ g = vb := by omega
        have hvR : ¬ vb = R := by omega
        have hvN : ¬ vb = N := by omega
        have hvg : ¬ vb = g := by omega
        have hvW := V5.out.lt
        rcases (show k = 0 ∨ k = 1 ∨ k = 2 ∨ k = 3 ∨ k = 4 ∨ k = 5 ∨ k = 6 ∨ k = 7 ∨ k = 8 ∨ k = 9 ∨ k = 10 by omega) with rfl | rfl | rfl | rfl | rfl | rfl | rfl | rfl | rfl | rfl | rfl
        · have f0 : (nm.toList == [116, 117, 114, 110]) = true := (nmK_facts nm 0 (by decide)).trans (by rw [hk]; rfl)
          have f1 : (nm.toList == [112, 101, 114, 102, 101, 99, 116]) = false := (nmK_facts nm 1 (by decide)).trans (by rw [hk]; rfl)
          have f2 : (nm.toList == [98, 97, 114, 101]) = false := (nmK_facts nm 2 (by decide)).trans (by rw [hk]; rfl)
          have f3 : (nm.toList == [120]) = false := (nmK_facts nm 3 (by decide)).trans (by rw [hk]; rfl)
          have f4 : (nm.toList == [121]) = false := (nmK_facts nm 4 (by decide)).trans (by rw [hk]; rfl)
          have f5 : (nm.toList == [119]) = false := (nmK_facts nm 5 (by decide)).trans (by rw [hk]; rfl)
          have f6 : (nm.toList == [104]) = false := (nmK_facts nm 6 (by decide)).trans (by rw [hk]; rfl)
          have f7 : (nm.toList == [102, 111, 114, 109]) = false := (nmK_facts nm 7 (by decide)).trans (by rw [hk]; rfl)
          have f8 : (nm.toList == [114, 101, 115, 116, 97, 114, 116]) = false := (nmK_facts nm 8 (by decide)).trans (by rw [hk]; rfl)
          have f9 : (nm.toList == [108, 97, 99, 101]) = false := (nmK_facts nm 9 (by decide)).trans (by rw [hk]; rfl)
          clear hk hle hb
          have HS := hid (show setK 0 o v = if amgV turnsW v < 0 then none else some { o with t := amgV turnsW v } from rfl)
          have AM := hid (fun (w : World) (gg : Nat) (h : Blk w gg 9 (strV turnsW).toArray) => among_any (nm, v) turnsW gg 8 w h (by decide))
          unfold rwV at AM
          dsimp only at AM
          have hln : turnsW.length = 8 := rfl
          rw [hln] at AM
          have hav : -1 ≤ amgV turnsW v ∧ amgV turnsW v < 100 := by unfold amgV; have := idxW_bd turnsW (sxV v); rw [hln] at this; split <;> omega
          generalize amgV turnsW v = nv at *
          have twr : wrap64 (nv - 1) = nv - 1 := IntWalk.wrap64_in _ (by omega)
          have twr2 : IntKind.i64.wrap (nv - 1) = nv - 1 := IntWalk.i64_in _ (by omega)
          have BN := hid (show Blk (w5.alloc (.cells (strV turnsW).toArray 9)).drew w5.heap.size 9 (strV turnsW).toArray from Blk.new w5 _ _)
          have BX := hid (show Below w5.heap.size w5 (w5.alloc (.cells (strV turnsW).toArray 9)).drew from (below_allocW w5 _).drew)
          have c0 : w5.cell? ⟨g, 0, none⟩ = some (.int .i64 o.t) := O5.out.cell 0
          have c1 : w5.cell? ⟨g, 1, none⟩ = some (.bool o.p) := O5.out.cell 1
          have c2 : w5.cell? ⟨g, 2, none⟩ = some (.bool o.cr) := O5.out.cell 2
          have c3 : w5.cell? ⟨g, 3, none⟩ = some (.int .i64 0) := O5.out.cell 3
          have c4 : w5.cell? ⟨g, 4, none⟩ = some (.int .i64 0) := O5.out.cell 4
          have c5 : w5.cell? ⟨g, 5, none⟩ = some (.int .i64 0) := O5.out.cell 5
          have c6 : w5.cell? ⟨g, 6, none⟩ = some (.int .i64 0) := O5.out.cell 6
          have c7 : w5.cell? ⟨g, 7, none⟩ = some (.bool o.ba) := O5.out.cell 7
          have c8 : w5.cell? ⟨g, 8, none⟩ = some (.int .i64 o.fo) := O5.out.cell 8
          have c9 : w5.cell? ⟨g, 9, none⟩ = some (.int .i64 o.re) := O5.out.cell 9
          have c10 : w5.cell? ⟨g, 10, none⟩ = some (.int .i64 o.la) := O5.out.cell 10
          have v0 : w5.cell? ⟨vb, 0, none⟩ = some (.string nm) := V5.out.cell 0
          have v1 : w5.cell? ⟨vb, 1, none⟩ = some (.int .i64 (kdV v)) := V5.out.cell 1
          have v2 : w5.cell? ⟨vb, 2, none⟩ = some (.int .i64 (nuV v)) := V5.out.cell 2
          have v3 : w5.cell? ⟨vb, 3, none⟩ = some (.string (sxV v)) := V5.out.cell 3
          have v4 : w5.cell? ⟨vb, 4, none⟩ = some (.bool (blV v)) := V5.out.cell 4
          have fzo : ∀ i, w5.frozen? ⟨g, i, none⟩ = false := O5.out.frozen
          go_upto_region 18 with (fail)
          go_region_with (first
            | (go_at_call 44; refine (ref_Turns_any _).mono ?_; rintro e w6 ⟨rfl, rfl⟩)
            | (go_at_call 43; refine (AM.out _ _ BN.out).mono ?_; rintro e w7 ⟨rfl, hb7⟩; have BY := hid (BX.out.trans (hb7.mono BX.out.size)); clear hb7))
          all_goals
            have V6 := hid (V5.out.below BY.out hvW)
            have O6 := hid (O5.out.below BY.out (by omega))
            have BL6 := hid (BL5.out.trans (BY.out.mono (by omega)))
            have T6 := hid (T2.out.below BL6.out hRg hNg)
            have BB6 := hid (B2.out.trans (BL6.out.mono HGB.out))
            have hvW6 := V6.out.lt
            have hgW6 := O6.out.lt
            clear AM BN BX c0 c1 c2 c3 c4 c5 c6 c7 c8 c9 c10 v0 v1 v2 v3 v4 fzo
            have c0 : w7.cell? ⟨g, 0, none⟩ = some (.int .i64 o.t) := O6.out.cell 0
            have c1 : w7.cell? ⟨g, 1, none⟩ = some (.bool o.p) := O6.out.cell 1
            have c2 : w7.cell? ⟨g, 2, none⟩ = some (.bool o.cr) := O6.out.cell 2
            have c3 : w7.cell? ⟨g, 3, none⟩ = some (.int .i64 0) := O6.out.cell 3
            have c4 : w7.cell? ⟨g, 4, none⟩ = some (.int .i64 0) := O6.out.cell 4
            have c5 : w7.cell? ⟨g, 5, none⟩ = some (.int .i64 0) := O6.out.cell 5
            have c6 : w7.cell? ⟨g, 6, none⟩ = some (.int .i64 0) := O6.out.cell 6
            have c7 : w7.cell? ⟨g, 7, none⟩ = some (.bool o.ba) := O6.out.cell 7
            have c8 : w7.cell? ⟨g, 8, none⟩ = some (.int .i64 o.fo) := O6.out.cell 8
            have c9 : w7.cell? ⟨g, 9, none⟩ = some (.int .i64 o.re) := O6.out.cell 9
            have c10 : w7.cell? ⟨g, 10, none⟩ = some (.int .i64 o.la) := O6.out.cell 10
            have v0 : w7.cell? ⟨vb, 0, none⟩ = some (.string nm) := V6.out.cell 0
            have v1 : w7.cell? ⟨vb, 1, none⟩ = some (.int .i64 (kdV v)) := V6.out.cell 1
            have v2 : w7.cell? ⟨vb, 2, none⟩ = some (.int .i64 (nuV v)) := V6.out.cell 2
            have v3 : w7.cell? ⟨vb, 3, none⟩ = some (.string (sxV v)) := V6.out.cell 3
            have v4 : w7.cell? ⟨vb, 4, none⟩ = some (.bool (blV v)) := V6.out.cell 4
            have fzo : ∀ i, w7.frozen? ⟨g, i, none⟩ = false := O6.out.frozen
            have TR := hid T6.out.r
            have TN := hid T6.out.n
            have r0 : w7.cell? ⟨R, 0, none⟩ = some (.int .i64 0) := TR.out.cell 0
            have r1 : w7.cell? ⟨R, 1, none⟩ = some (.bool false) := TR.out.cell 1
            have r2 : w7.cell? ⟨R, 2, none⟩ = some (.bool false) := TR.out.cell 2
            have r3 : w7.cell? ⟨R, 3, none⟩ = some (.int .i64 0) := TR.out.cell 3
            have r4 : w7.cell? ⟨R, 4, none⟩ = some (.int .i64 0) := TR.out.cell 4
            have r5 : w7.cell? ⟨R, 5, none⟩ = some (.int .i64 0) := TR.out.cell 5
            have r6 : w7.cell? ⟨R, 6, none⟩ = some (.int .i64 0) := TR.out.cell 6
            have r7 : w7.cell? ⟨R, 7, none⟩ = some (.bool false) := TR.out.cell 7
            have r8 : w7.cell? ⟨R, 8, none⟩ = some (.int .i64 0) := TR.out.cell 8
            have r9 : w7.cell? ⟨R, 9, none⟩ = some (.int .i64 0) := TR.out.cell 9
            have r10 : w7.cell? ⟨R, 10, none⟩ = some (.int .i64 0) := TR.out.cell 10
            have n0 : w7.cell? ⟨N, 0, none⟩ = some (.int .i64 0) := TN.out.cell 0
            have n1 : w7.cell? ⟨N, 1, none⟩ = some (.bool false) := TN.out.cell 1
            have n2 : w7.cell? ⟨N, 2, none⟩ = some (.bool false) := TN.out.cell 2
            have n3 : w7.cell? ⟨N, 3, none⟩ = some (.int .i64 0) := TN.out.cell 3
            have n4 : w7.cell? ⟨N, 4, none⟩ = some (.int .i64 0) := TN.out.cell 4
            have n5 : w7.cell? ⟨N, 5, none⟩ = some (.int .i64 0) := TN.out.cell 5
            have n6 : w7.cell? ⟨N, 6, none⟩ = some (.int .i64 0) := TN.out.cell 6
            have n7 : w7.cell? ⟨N, 7, none⟩ = some (.bool false) := TN.out.cell 7
            have n8 : w7.cell? ⟨N, 8, none⟩ = some (.int .i64 0) := TN.out.cell 8
            have n9 : w7.cell? ⟨N, 9, none⟩ = some (.int .i64 0) := TN.out.cell 9
            have n10 : w7.cell? ⟨N, 10, none⟩ = some (.int .i64 0) := TN.out.cell 10
            have fzr : ∀ i, w7.frozen? ⟨R, i, none⟩ = false := TR.out.frozen
            have hRw := TR.out.lt
            have hNw := TN.out.lt
            by_cases h3 : nv < 0
            · have d3 : decide (nv < 0) = true := decide_eq_true h3
              have HZ := hid (show ordP s = none from by rw [HO2.out, HN.out.1 (HST.out.trans (HS.out.trans (if_pos h3)))])
              clear h3
              go_wp2_with fail
              refine bodyPost_ret (v := .tuple #[odV odZ, .bool false]) (by simp [results, Try.results16, go_sem, odV, odZ, r0, r1, r2, r3, r4, r5, r6, r7, r8, r9, r10]) rfl (ro_none HZ.out ?_)
              repeat' (refine Below.setCell ?_ (show W.heap.size ≤ R from HB0.out) _)
              repeat' (refine Below.setCell ?_ (show W.heap.size ≤ g from HGB.out) _)
              exact BB6.out
            · have d3 : decide (nv < 0) = false := decide_eq_false h3
              have HP := hid (HN.out.2 _ (HST.out.trans (HS.out.trans (if_neg h3))))
              have O7 := hid (O6.out.set_ 0 (.int .i64 (nv)))
              have BL7 := hid (BL6.out.setCell (p := ⟨g, 0, none⟩) (Nat.le_refl g) (.int .i64 (nv)))
              clear h3
              go_wp2_with fail
              go_roundw
              case rel => exact ⟨j + 1, { o with t := nv }, by omega, by go_num, rfl, rfl, rfl, rfl, O7, BL7, HP⟩
              case measure => simp [intOf]; omega
        · have f0 : (nm.toList == [116, 117, 114, 110]) = false := (nmK_facts nm 0 (by decide)).trans (by rw [hk]; rfl)
          have f1 : (nm.toList == [112, 101, 114, 102, 101, 99, 116]) = true := (nmK_facts nm 1 (by decide)).trans (by rw [hk]; rfl)
          have f2 : (nm.toList == [98, 97, 114, 101]) = false := (nmK_facts nm 2 (by decide)).trans (by rw [hk]; rfl)
          have f3 : (nm.toList == [120]) = false := (nmK_facts nm 3 (by decide)).trans (by rw [hk]; rfl)
          have f4 : (nm.toList == [121]) = false := (nmK_facts nm 4 (by decide)).trans (by rw [hk]; rfl)
          have f5 : (nm.toList == [119]) = false := (nmK_facts nm 5 (by decide)).trans (by rw [hk]; rfl)
          have f6 : (nm.toList == [104]) = false := (nmK_facts nm 6 (by decide)).trans (by rw [hk]; rfl)
          have f7 : (nm.toList == [102, 111, 114, 109]) = false := (nmK_facts nm 7 (by decide)).trans (by rw [hk]; rfl)
          have f8 : (nm.toList == [114, 101, 115, 116, 97, 114, 116]) = false := (nmK_facts nm 8 (by decide)).trans (by rw [hk]; rfl)
          have f9 : (nm.toList == [108, 97, 99, 101]) = false := (nmK_facts nm 9 (by decide)).trans (by rw [hk]; rfl)
          clear hk hle hb
          have c0 : w5.cell? ⟨g, 0, none⟩ = some (.int .i64 o.t) := O5.out.cell 0
          have c1 : w5.cell? ⟨g, 1, none⟩ = some (.bool o.p) := O5.out.cell 1
          have c2 : w5.cell? ⟨g, 2, none⟩ = some (.bool o.cr) := O5.out.cell 2
          have c3 : w5.cell? ⟨g, 3, none⟩ = some (.int .i64 0) := O5.out.cell 3
          have c4 : w5.cell? ⟨g, 4, none⟩ = some (.int .i64 0) := O5.out.cell 4
          have c5 : w5.cell? ⟨g, 5, none⟩ = some (.int .i64 0) := O5.out.cell 5
          have c6 : w5.cell? ⟨g, 6, none⟩ = some (.int .i64 0) := O5.out.cell 6
          have c7 : w5.cell? ⟨g, 7, none⟩ = some (.bool o.ba) := O5.out.cell 7
          have c8 : w5.cell? ⟨g, 8, none⟩ = some (.int .i64 o.fo) := O5.out.cell 8
          have c9 : w5.cell? ⟨g, 9, none⟩ = some (.int .i64 o.re) := O5.out.cell 9
          have c10 : w5.cell? ⟨g, 10, none⟩ = some (.int .i64 o.la) := O5.out.cell 10
          have v0 : w5.cell? ⟨vb, 0, none⟩ = some (.string nm) := V5.out.cell 0
          have v1 : w5.cell? ⟨vb, 1, none⟩ = some (.int .i64 (kdV v)) := V5.out.cell 1
          have v2 : w5.cell? ⟨vb, 2, none⟩ = some (.int .i64 (nuV v)) := V5.out.cell 2
          have v3 : w5.cell? ⟨vb, 3, none⟩ = some (.string (sxV v)) := V5.out.cell 3
          have v4 : w5.cell? ⟨vb, 4, none⟩ = some (.bool (blV v)) := V5.out.cell 4
          have fzo : ∀ i, w5.frozen? ⟨g, i, none⟩ = false := O5.out.frozen
          have T5 := hid (T2.out.below BL5.out hRg hNg)
          have BB5 := hid (B2.out.trans (BL5.out.mono HGB.out))
          have TR := hid T5.out.r
          have TN := hid T5.out.n
          have r0 : w5.cell? ⟨R, 0, none⟩ = some (.int .i64 0) := TR.out.cell 0
          have r1 : w5.cell? ⟨R, 1, none⟩ = some (.bool false) := TR.out.cell 1
          have r2 : w5.cell? ⟨R, 2, none⟩ = some (.bool false) := TR.out.cell 2
          have r3 : w5.cell? ⟨R, 3, none⟩ = some (.int .i64 0) := TR.out.cell 3
          have r4 : w5.cell? ⟨R, 4, none⟩ = some (.int .i64 0) := TR.out.cell 4
          have r5 : w5.cell? ⟨R, 5, none⟩ = some (.int .i64 0) := TR.out.cell 5
          have r6 : w5.cell? ⟨R, 6, none⟩ = some (.int .i64 0) := TR.out.cell 6
          have r7 : w5.cell? ⟨R, 7, none⟩ = some (.bool false) := TR.out.cell 7
          have r8 : w5.cell? ⟨R, 8, none⟩ = some (.int .i64 0) := TR.out.cell 8
          have r9 : w5.cell? ⟨R, 9, none⟩ = some (.int .i64 0) := TR.out.cell 9
          have r10 : w5.cell? ⟨R, 10, none⟩ = some (.int .i64 0) := TR.out.cell 10
          have n0 : w5.cell? ⟨N, 0, none⟩ = some (.int .i64 0) := TN.out.cell 0
          have n1 : w5.cell? ⟨N, 1, none⟩ = some (.bool false) := TN.out.cell 1
          have n2 : w5.cell? ⟨N, 2, none⟩ = some (.bool false) := TN.out.cell 2
          have n3 : w5.cell? ⟨N, 3, none⟩ = some (.int .i64 0) := TN.out.cell 3
          have n4 : w5.cell? ⟨N, 4, none⟩ = some (.int .i64 0) := TN.out.cell 4
          have n5 : w5.cell? ⟨N, 5, none⟩ = some (.int .i64 0) := TN.out.cell 5
          have n6 : w5.cell? ⟨N, 6, none⟩ = some (.int .i64 0) := TN.out.cell 6
          have n7 : w5.cell? ⟨N, 7, none⟩ = some (.bool false) := TN.out.cell 7
          have n8 : w5.cell? ⟨N, 8, none⟩ = some (.int .i64 0) := TN.out.cell 8
          have n9 : w5.cell? ⟨N, 9, none⟩ = some (.int .i64 0) := TN.out.cell 9
          have n10 : w5.cell? ⟨N, 10, none⟩ = some (.int .i64 0) := TN.out.cell 10
          have fzr : ∀ i, w5.frozen? ⟨R, i, none⟩ = false := TR.out.frozen
          have hRw := TR.out.lt
          have hNw := TN.out.lt
          have HS := hid (show setK 1 o v = if kdV v ≠ 3 then none else some { o with p := blV v } from rfl)
          by_cases h3 : kdV v = 3
          · have e3 : (kdV v != 3) = false := by rw [bne_eq_false_iff_eq]; exact h3
            have HP := hid (HN.out.2 _ (HST.out.trans (HS.out.trans (if_neg (fun h => h h3)))))
            have O6 := hid (O5.out.set_ 1 (.bool (blV v)))
            have BL6 := hid (BL5.out.setCell (p := ⟨g, 1, none⟩) (Nat.le_refl g) (.bool (blV v)))
            clear h3
            go_wp2_with fail
            go_roundw
            case rel => exact ⟨j + 1, { o with p := blV v }, by omega, by go_num, rfl, rfl, rfl, rfl, O6, BL6, HP⟩
            case measure => simp [intOf]; omega
          · have e3 : (kdV v != 3) = true := by rw [bne_iff_ne]; exact h3
            have HZ := hid (show ordP s = none from by rw [HO2.out, HN.out.1 (HST.out.trans (HS.out.trans (if_pos h3)))])
            clear h3
            go_wp2_with fail
            refine bodyPost_ret (v := .tuple #[odV odZ, .bool false]) (by simp [results, Try.results16, go_sem, odV, odZ, r0, r1, r2, r3, r4, r5, r6, r7, r8, r9, r10]) rfl (ro_none HZ.out ?_)
            repeat' (refine Below.setCell ?_ (show W.heap.size ≤ R from HB0.out) _)
            repeat' (refine Below.setCell ?_ (show W.heap.size ≤ g from HGB.out) _)
            exact BB5.out
        · have f0 : (nm.toList == [116, 117, 114, 110]) = false := (nmK_facts nm 0 (by decide)).trans (by rw [hk]; rfl)
          have f1 : (nm.toList == [112, 101, 114, 102, 101, 99, 116]) = false := (nmK_facts nm 1 (by decide)).trans (by rw [hk]; rfl)
          have f2 : (nm.toList == [98, 97, 114, 101]) = true := (nmK_facts nm 2 (by decide)).trans (by rw [hk]; rfl)
          have f3 : (nm.toList == [120]) = false := (nmK_facts nm 3 (by decide)).trans (by rw [hk]; rfl)
          have f4 : (nm.toList == [121]) = false := (nmK_facts nm 4 (by decide)).trans (by rw [hk]; rfl)
          have f5 : (nm.toList == [119]) = false := (nmK_facts nm 5 (by decide)).trans (by rw [hk]; rfl)
          have f6 : (nm.toList == [104]) = false := (nmK_facts nm 6 (by decide)).trans (by rw [hk]; rfl)
          have f7 : (nm.toList == [102, 111, 114, 109]) = false := (nmK_facts nm 7 (by decide)).trans (by rw [hk]; rfl)
          have f8 : (nm.toList == [114, 101, 115, 116, 97, 114, 116]) = false := (nmK_facts nm 8 (by decide)).trans (by rw [hk]; rfl)
          have f9 : (nm.toList == [108, 97, 99, 101]) = false := (nmK_facts nm 9 (by decide)).trans (by rw [hk]; rfl)
          clear hk hle hb
          have c0 : w5.cell? ⟨g, 0, none⟩ = some (.int .i64 o.t) := O5.out.cell 0
          have c1 : w5.cell? ⟨g, 1, none⟩ = some (.bool o.p) := O5.out.cell 1
          have c2 : w5.cell? ⟨g, 2, none⟩ = some (.bool o.cr) := O5.out.cell 2
          have c3 : w5.cell? ⟨g, 3, none⟩ = some (.int .i64 0) := O5.out.cell 3
          have c4 : w5.cell? ⟨g, 4, none⟩ = some (.int .i64 0) := O5.out.cell 4
          have c5 : w5.cell? ⟨g, 5, none⟩ = some (.int .i64 0) := O5.out.cell 5
          have c6 : w5.cell? ⟨g, 6, none⟩ = some (.int .i64 0) := O5.out.cell 6
          have c7 : w5.cell? ⟨g, 7, none⟩ = some (.bool o.ba) := O5.out.cell 7
          have c8 : w5.cell? ⟨g, 8, none⟩ = some (.int .i64 o.fo) := O5.out.cell 8
          have c9 : w5.cell? ⟨g, 9, none⟩ = some (.int .i64 o.re) := O5.out.cell 9
          have c10 : w5.cell? ⟨g, 10, none⟩ = some (.int .i64 o.la) := O5.out.cell 10
          have v0 : w5.cell? ⟨vb, 0, none⟩ = some (.string nm) := V5.out.cell 0
          have v1 : w5.cell? ⟨vb, 1, none⟩ = some (.int .i64 (kdV v)) := V5.out.cell 1
          have v2 : w5.cell? ⟨vb, 2, none⟩ = some (.int .i64 (nuV v)) := V5.out.cell 2
          have v3 : w5.cell? ⟨vb, 3, none⟩ = some (.string (sxV v)) := V5.out.cell 3
          have v4 : w5.cell? ⟨vb, 4, none⟩ = some (.bool (blV v)) := V5.out.cell 4
          have fzo : ∀ i, w5.frozen? ⟨g, i, none⟩ = false := O5.out.frozen
          have T5 := hid (T2.out.below BL5.out hRg hNg)
          have BB5 := hid (B2.out.trans (BL5.out.mono HGB.out))
          have TR := hid T5.out.r
          have TN := hid T5.out.n
          have r0 : w5.cell? ⟨R, 0, none⟩ = some (.int .i64 0) := TR.out.cell 0
          have r1 : w5.cell? ⟨R, 1, none⟩ = some (.bool false) := TR.out.cell 1
          have r2 : w5.cell? ⟨R, 2, none⟩ = some (.bool false) := TR.out.cell 2
          have r3 : w5.cell? ⟨R, 3, none⟩ = some (.int .i64 0) := TR.out.cell 3
          have r4 : w5.cell? ⟨R, 4, none⟩ = some (.int .i64 0) := TR.out.cell 4
          have r5 : w5.cell? ⟨R, 5, none⟩ = some (.int .i64 0) := TR.out.cell 5
          have r6 : w5.cell? ⟨R, 6, none⟩ = some (.int .i64 0) := TR.out.cell 6
          have r7 : w5.cell? ⟨R, 7, none⟩ = some (.bool false) := TR.out.cell 7
          have r8 : w5.cell? ⟨R, 8, none⟩ = some (.int .i64 0) := TR.out.cell 8
          have r9 : w5.cell? ⟨R, 9, none⟩ = some (.int .i64 0) := TR.out.cell 9
          have r10 : w5.cell? ⟨R, 10, none⟩ = some (.int .i64 0) := TR.out.cell 10
          have n0 : w5.cell? ⟨N, 0, none⟩ = some (.int .i64 0) := TN.out.cell 0
          have n1 : w5.cell? ⟨N, 1, none⟩ = some (.bool false) := TN.out.cell 1
          have n2 : w5.cell? ⟨N, 2, none⟩ = some (.bool false) := TN.out.cell 2
          have n3 : w5.cell? ⟨N, 3, none⟩ = some (.int .i64 0) := TN.out.cell 3
          have n4 : w5.cell? ⟨N, 4, none⟩ = some (.int .i64 0) := TN.out.cell 4
          have n5 : w5.cell? ⟨N, 5, none⟩ = some (.int .i64 0) := TN.out.cell 5
          have n6 : w5.cell? ⟨N, 6, none⟩ = some (.int .i64 0) := TN.out.cell 6
          have n7 : w5.cell? ⟨N, 7, none⟩ = some (.bool false) := TN.out.cell 7
          have n8 : w5.cell? ⟨N, 8, none⟩ = some (.int .i64 0) := TN.out.cell 8
          have n9 : w5.cell? ⟨N, 9, none⟩ = some (.int .i64 0) := TN.out.cell 9
          have n10 : w5.cell? ⟨N, 10, none⟩ = some (.int .i64 0) := TN.out.cell 10
          have fzr : ∀ i, w5.frozen? ⟨R, i, none⟩ = false := TR.out.frozen
          have hRw := TR.out.lt
          have hNw := TN.out.lt
          have HS := hid (show setK 2 o v = if kdV v ≠ 3 then none else some { o with ba := blV v } from rfl)
          by_cases h3 : kdV v = 3
          · have e3 : (kdV v != 3) = false := by rw [bne_eq_false_iff_eq]; exact h3
            have HP := hid (HN.out.2 _ (HST.out.trans (HS.out.trans (if_neg (fun h => h h3)))))
            have O6 := hid (O5.out.set_ 7 (.bool (blV v)))
            have BL6 := hid (BL5.out.setCell (p := ⟨g, 7, none⟩) (Nat.le_refl g) (.bool (blV v)))
            clear h3
            go_wp2_with fail
            go_roundw
            case rel => exact ⟨j + 1, { o with ba := blV v }, by omega, by go_num, rfl, rfl, rfl, rfl, O6, BL6, HP⟩
            case measure => simp [intOf]; omega
          · have e3 : (kdV v != 3) = true := by rw [bne_iff_ne]; exact h3
            have HZ := hid (show ordP s = none from by rw [HO2.out, HN.out.1 (HST.out.trans (HS.out.trans (if_pos h3)))])
            clear h3
            go_wp2_with fail
            refine bodyPost_ret (v := .tuple #[odV odZ, .bool false]) (by simp [results, Try.results16, go_sem, odV, odZ, r0, r1, r2, r3, r4, r5, r6, r7, r8, r9, r10]) rfl (ro_none HZ.out ?_)
            repeat' (refine Below.setCell ?_ (show W.heap.size ≤ R from HB0.out) _)
            repeat' (refine Below.setCell ?_ (show W.heap.size ≤ g from HGB.out) _)
            exact BB5.out
        · have f0 : (nm.toList == [116, 117, 114, 110]) = false := (nmK_facts nm 0 (by decide)).trans (by rw [hk]; rfl)
          have f1 : (nm.toList == [112, 101, 114, 102, 101, 99, 116]) = false := (nmK_facts nm 1 (by decide)).trans (by rw [hk]; rfl)
          have f2 : (nm.toList == [98, 97, 114, 101]) = false := (nmK_facts nm 2 (by decide)).trans (by rw [hk]; rfl)
          have f3 : (nm.toList == [120]) = true := (nmK_facts nm 3 (by decide)).trans (by rw [hk]; rfl)
          have f4 : (nm.toList == [121]) = false := (nmK_facts nm 4 (by decide)).trans (by rw [hk]; rfl)
          have f5 : (nm.toList == [119]) = false := (nmK_facts nm 5 (by decide)).trans (by rw [hk]; rfl)
          have f6 : (nm.toList == [104]) = false := (nmK_facts nm 6 (by decide)).trans (by rw [hk]; rfl)
          have f7 : (nm.toList == [102, 111, 114, 109]) = false := (nmK_facts nm 7 (by decide)).trans (by rw [hk]; rfl)
          have f8 : (nm.toList == [114, 101, 115, 116, 97, 114, 116]) = false := (nmK_facts nm 8 (by decide)).trans (by rw [hk]; rfl)
          have f9 : (nm.toList == [108, 97, 99, 101]) = false := (nmK_facts nm 9 (by decide)).trans (by rw [hk]; rfl)
          clear hk hle hb
          have HS := hid (show setK 3 o v = if numV v 0 < 0 then none else some { o with x := numV v 0, cr := true } from rfl)
          have NU := hid (numberR_any (nm, v) 0 w5)
          unfold rwV at NU
          dsimp only at NU
          generalize numV v 0 = nv at *
          have c0 : w5.cell? ⟨g, 0, none⟩ = some (.int .i64 o.t) := O5.out.cell 0
          have c1 : w5.cell? ⟨g, 1, none⟩ = some (.bool o.p) := O5.out.cell 1
          have c2 : w5.cell? ⟨g, 2, none⟩ = some (.bool o.cr) := O5.out.cell 2
          have c3 : w5.cell? ⟨g, 3, none⟩ = some (.int .i64 0) := O5.out.cell 3
          have c4 : w5.cell? ⟨g, 4, none⟩ = some (.int .i64 0) := O5.out.cell 4
          have c5 : w5.cell? ⟨g, 5, none⟩ = some (.int .i64 0) := O5.out.cell 5
          have c6 : w5.cell? ⟨g, 6, none⟩ = some (.int .i64 0) := O5.out.cell 6
          have c7 : w5.cell? ⟨g, 7, none⟩ = some (.bool o.ba) := O5.out.cell 7
          have c8 : w5.cell? ⟨g, 8, none⟩ = some (.int .i64 o.fo) := O5.out.cell 8
          have c9 : w5.cell? ⟨g, 9, none⟩ = some (.int .i64 o.re) := O5.out.cell 9
          have c10 : w5.cell? ⟨g, 10, none⟩ = some (.int .i64 o.la) := O5.out.cell 10
          have v0 : w5.cell? ⟨vb, 0, none⟩ = some (.string nm) := V5.out.cell 0
          have v1 : w5.cell? ⟨vb, 1, none⟩ = some (.int .i64 (kdV v)) := V5.out.cell 1
          have v2 : w5.cell? ⟨vb, 2, none⟩ = some (.int .i64 (nuV v)) := V5.out.cell 2
          have v3 : w5.cell? ⟨vb, 3, none⟩ = some (.string (sxV v)) := V5.out.cell 3
          have v4 : w5.cell? ⟨vb, 4, none⟩ = some (.bool (blV v)) := V5.out.cell 4
          have fzo : ∀ i, w5.frozen? ⟨g, i, none⟩ = false := O5.out.frozen
          go_wp2_with fail
          refine (NU.out).mono ?_
          rintro e w6 ⟨rfl, hb6⟩
          have V6 := hid (V5.out.below hb6 hvW)
          have O6 := hid (O5.out.below hb6 (by omega))
          have BL6 := hid (BL5.out.trans (hb6.mono (by omega)))
          have T6 := hid (T2.out.below BL6.out hRg hNg)
          have BB6 := hid (B2.out.trans (BL6.out.mono HGB.out))
          have hvW6 := V6.out.lt
          have hgW6 := O6.out.lt
          clear hb6 NU c0 c1 c2 c3 c4 c5 c6 c7 c8 c9 c10 v0 v1 v2 v3 v4 fzo
          have c0 : w6.cell? ⟨g, 0, none⟩ = some (.int .i64 o.t) := O6.out.cell 0
          have c1 : w6.cell? ⟨g, 1, none⟩ = some (.bool o.p) := O6.out.cell 1
          have c2 : w6.cell? ⟨g, 2, none⟩ = some (.bool o.cr) := O6.out.cell 2
          have c3 : w6.cell? ⟨g, 3, none⟩ = some (.int .i64 0) := O6.out.cell 3
          have c4 : w6.cell? ⟨g, 4, none⟩ = some (.int .i64 0) := O6.out.cell 4
          have c5 : w6.cell? ⟨g, 5, none⟩ = some (.int .i64 0) := O6.out.cell 5
          have c6 : w6.cell? ⟨g, 6, none⟩ = some (.int .i64 0) := O6.out.cell 6
          have c7 : w6.cell? ⟨g, 7, none⟩ = some (.bool o.ba) := O6.out.cell 7
          have c8 : w6.cell? ⟨g, 8, none⟩ = some (.int .i64 o.fo) := O6.out.cell 8
          have c9 : w6.cell? ⟨g, 9, none⟩ = some (.int .i64 o.re) := O6.out.cell 9
          have c10 : w6.cell? ⟨g, 10, none⟩ = some (.int .i64 o.la) := O6.out.cell 10
          have v0 : w6.cell? ⟨vb, 0, none⟩ = some (.string nm) := V6.out.cell 0
          have v1 : w6.cell? ⟨vb, 1, none⟩ = some (.int .i64 (kdV v)) := V6.out.cell 1
          have v2 : w6.cell? ⟨vb, 2, none⟩ = some (.int .i64 (nuV v)) := V6.out.cell 2
          have v3 : w6.cell? ⟨vb, 3, none⟩ = some (.string (sxV v)) := V6.out.cell 3
          have v4 : w6.cell? ⟨vb, 4, none⟩ = some (.bool (blV v)) := V6.out.cell 4
          have fzo : ∀ i, w6.frozen? ⟨g, i, none⟩ = false := O6.out.frozen
          have TR := hid T6.out.r
          have TN := hid T6.out.n
          have r0 : w6.cell? ⟨R, 0, none⟩ = some (.int .i64 0) := TR.out.cell 0
          have r1 : w6.cell? ⟨R, 1, none⟩ = some (.bool false) := TR.out.cell 1
          have r2 : w6.cell? ⟨R, 2, none⟩ = some (.bool false) := TR.out.cell 2
          have r3 : w6.cell? ⟨R, 3, none⟩ = some (.int .i64 0) := TR.out.cell 3
          have r4 : w6.cell? ⟨R, 4, none⟩ = some (.int .i64 0) := TR.out.cell 4
          have r5 : w6.cell? ⟨R, 5, none⟩ = some (.int .i64 0) := TR.out.cell 5
          have r6 : w6.cell? ⟨R, 6, none⟩ = some (.int .i64 0) := TR.out.cell 6
          have r7 : w6.cell? ⟨R, 7, none⟩ = some (.bool false) := TR.out.cell 7
          have r8 : w6.cell? ⟨R, 8, none⟩ = some (.int .i64 0) := TR.out.cell 8
          have r9 : w6.cell? ⟨R, 9, none⟩ = some (.int .i64 0) := TR.out.cell 9
          have r10 : w6.cell? ⟨R, 10, none⟩ = some (.int .i64 0) := TR.out.cell 10
          have n0 : w6.cell? ⟨N, 0, none⟩ = some (.int .i64 0) := TN.out.cell 0
          have n1 : w6.cell? ⟨N, 1, none⟩ = some (.bool false) := TN.out.cell 1
          have n2 : w6.cell? ⟨N, 2, none⟩ = some (.bool false) := TN.out.cell 2
          have n3 : w6.cell? ⟨N, 3, none⟩ = some (.int .i64 0) := TN.out.cell 3
          have n4 : w6.cell? ⟨N, 4, none⟩ = some (.int .i64 0) := TN.out.cell 4
          have n5 : w6.cell? ⟨N, 5, none⟩ = some (.int .i64 0) := TN.out.cell 5
          have n6 : w6.cell? ⟨N, 6, none⟩ = some (.int .i64 0) := TN.out.cell 6
          have n7 : w6.cell? ⟨N, 7, none⟩ = some (.bool false) := TN.out.cell 7
          have n8 : w6.cell? ⟨N, 8, none⟩ = some (.int .i64 0) := TN.out.cell 8
          have n9 : w6.cell? ⟨N, 9, none⟩ = some (.int .i64 0) := TN.out.cell 9
          have n10 : w6.cell? ⟨N, 10, none⟩ = some (.int .i64 0) := TN.out.cell 10
          have fzr : ∀ i, w6.frozen? ⟨R, i, none⟩ = false := TR.out.frozen
          have hRw := TR.out.lt
          have hNw := TN.out.lt
          by_cases h3 : nv < 0
          · have d3 : decide (nv < 0) = true := decide_eq_true h3
            have HZ := hid (show ordP s = none from by rw [HO2.out, HN.out.1 (HST.out.trans (HS.out.trans (if_pos h3)))])
            clear h3
            go_wp2_with fail
            refine bodyPost_ret (v := .tuple #[odV odZ, .bool false]) (by simp [results, Try.results16, go_sem, odV, odZ, r0, r1, r2, r3, r4, r5, r6, r7, r8, r9, r10]) rfl (ro_none HZ.out ?_)
            repeat' (refine Below.setCell ?_ (show W.heap.size ≤ R from HB0.out) _)
            exact BB6.out
          · have d3 : decide (nv < 0) = false := decide_eq_false h3
            have HP := hid (HN.out.2 _ (HST.out.trans (HS.out.trans (if_neg h3))))
            have O7 := hid (O6.out.set_ 2 (.bool true))
            have BL7 := hid (BL6.out.setCell (p := ⟨g, 2, none⟩) (Nat.le_refl g) (.bool true))
            clear h3
            go_wp2_with fail
            go_roundw
            case rel => exact ⟨j + 1, { o with x := nv, cr := true }, by omega, by go_num, rfl, rfl, rfl, rfl, O7, BL7, HP⟩
            case measure => simp [intOf]; omega
        · have f0 : (nm.toList == [116, 117, 114, 110]) = false := (nmK_facts nm 0 (by decide)).trans (by rw [hk]; rfl)
          have f1 : (nm.toList == [112, 101, 114, 102, 101, 99, 116]) = false := (nmK_facts nm 1 (by decide)).trans (by rw [hk]; rfl)
          have f2 : (nm.toList == [98, 97, 114, 101]) = false := (nmK_facts nm 2 (by decide)).trans (by rw [hk]; rfl)
          have f3 : (nm.toList == [120]) = false := (nmK_facts nm 3 (by decide)).trans (by rw [hk]; rfl)
          have f4 : (nm.toList == [121]) = true := (nmK_facts nm 4 (by decide)).trans (by rw [hk]; rfl)
          have f5 : (nm.toList == [119]) = false := (nmK_facts nm 5 (by decide)).trans (by rw [hk]; rfl)
          have f6 : (nm.toList == [104]) = false := (nmK_facts nm 6 (by decide)).trans (by rw [hk]; rfl)
          have f7 : (nm.toList == [102, 111, 114, 109]) = false := (nmK_facts nm 7 (by decide)).trans (by rw [hk]; rfl)
          have f8 : (nm.toList == [114, 101, 115, 116, 97, 114, 116]) = false := (nmK_facts nm 8 (by decide)).trans (by rw [hk]; rfl)
          have f9 : (nm.toList == [108, 97, 99, 101]) = false := (nmK_facts nm 9 (by decide)).trans (by rw [hk]; rfl)
          clear hk hle hb
          have HS := hid (show setK 4 o v = if numV v 0 < 0 then none else some { o with y := numV v 0, cr := true } from rfl)
          have NU := hid (numberR_any (nm, v) 0 w5)
          unfold rwV at NU
          dsimp only at NU
          generalize numV v 0 = nv at *
          have c0 : w5.cell? ⟨g, 0, none⟩ = some (.int .i64 o.t) := O5.out.cell 0
          have c1 : w5.cell? ⟨g, 1, none⟩ = some (.bool o.p) := O5.out.cell 1
          have c2 : w5.cell? ⟨g, 2, none⟩ = some (.bool o.cr) := O5.out.cell 2
          have c3 : w5.cell? ⟨g, 3, none⟩ = some (.int .i64 0) := O5.out.cell 3
          have c4 : w5.cell? ⟨g, 4, none⟩ = some (.int .i64 0) := O5.out.cell 4
          have c5 : w5.cell? ⟨g, 5, none⟩ = some (.int .i64 0) := O5.out.cell 5
          have c6 : w5.cell? ⟨g, 6, none⟩ = some (.int .i64 0) := O5.out.cell 6
          have c7 : w5.cell? ⟨g, 7, none⟩ = some (.bool o.ba) := O5.out.cell 7
          have c8 : w5.cell? ⟨g, 8, none⟩ = some (.int .i64 o.fo) := O5.out.cell 8
          have c9 : w5.cell? ⟨g, 9, none⟩ = some (.int .i64 o.re) := O5.out.cell 9
          have c10 : w5.cell? ⟨g, 10, none⟩ = some (.int .i64 o.la) := O5.out.cell 10
          have v0 : w5.cell? ⟨vb, 0, none⟩ = some (.string nm) := V5.out.cell 0
          have v1 : w5.cell? ⟨vb, 1, none⟩ = some (.int .i64 (kdV v)) := V5.out.cell 1
          have v2 : w5.cell? ⟨vb, 2, none⟩ = some (.int .i64 (nuV v)) := V5.out.cell 2
          have v3 : w5.cell? ⟨vb, 3, none⟩ = some (.string (sxV v)) := V5.out.cell 3
          have v4 : w5.cell? ⟨vb, 4, none⟩ = some (.bool (blV v)) := V5.out.cell 4
          have fzo : ∀ i, w5.frozen? ⟨g, i, none⟩ = false := O5.out.frozen
          go_wp2_with fail
          refine (NU.out).mono ?_
          rintro e w6 ⟨rfl, hb6⟩
          have V6 := hid (V5.out.below hb6 hvW)
          have O6 := hid (O5.out.below hb6 (by omega))
          have BL6 := hid (BL5.out.trans (hb6.mono (by omega)))
          have T6 := hid (T2.out.below BL6.out hRg hNg)
          have BB6 := hid (B2.out.trans (BL6.out.mono HGB.out))
          have hvW6 := V6.out.lt
          have hgW6 := O6.out.lt
          clear hb6 NU c0 c1 c2 c3 c4 c5 c6 c7 c8 c9 c10 v0 v1 v2 v3 v4 fzo
          have c0 : w6.cell? ⟨g, 0, none⟩ = some (.int .i64 o.t) := O6.out.cell 0
          have c1 : w6.cell? ⟨g, 1, none⟩ = some (.bool o.p) := O6.out.cell 1
          have c2 : w6.cell? ⟨g, 2, none⟩ = some (.bool o.cr) := O6.out.cell 2
          have c3 : w6.cell? ⟨g, 3, none⟩ = some (.int .i64 0) := O6.out.cell 3
          have c4 : w6.cell? ⟨g, 4, none⟩ = some (.int .i64 0) := O6.out.cell 4
          have c5 : w6.cell? ⟨g, 5, none⟩ = some (.int .i64 0) := O6.out.cell 5
          have c6 : w6.cell? ⟨g, 6, none⟩ = some (.int .i64 0) := O6.out.cell 6
          have c7 : w6.cell? ⟨g, 7, none⟩ = some (.bool o.ba) := O6.out.cell 7
          have c8 : w6.cell? ⟨g, 8, none⟩ = some (.int .i64 o.fo) := O6.out.cell 8
          have c9 : w6.cell? ⟨g, 9, none⟩ = some (.int .i64 o.re) := O6.out.cell 9
          have c10 : w6.cell? ⟨g, 10, none⟩ = some (.int .i64 o.la) := O6.out.cell 10
          have v0 : w6.cell? ⟨vb, 0, none⟩ = some (.string nm) := V6.out.cell 0
          have v1 : w6.cell? ⟨vb, 1, none⟩ = some (.int .i64 (kdV v)) := V6.out.cell 1
          have v2 : w6.cell? ⟨vb, 2, none⟩ = some (.int .i64 (nuV v)) := V6.out.cell 2
          have v3 : w6.cell? ⟨vb, 3, none⟩ = some (.string (sxV v)) := V6.out.cell 3
          have v4 : w6.cell? ⟨vb, 4, none⟩ = some (.bool (blV v)) := V6.out.cell 4
          have fzo : ∀ i, w6.frozen? ⟨g, i, none⟩ = false := O6.out.frozen
          have TR := hid T6.out.r
          have TN := hid T6.out.n
          have r0 : w6.cell? ⟨R, 0, none⟩ = some (.int .i64 0) := TR.out.cell 0
          have r1 : w6.cell? ⟨R, 1, none⟩ = some (.bool false) := TR.out.cell 1
          have r2 : w6.cell? ⟨R, 2, none⟩ = some (.bool false) := TR.out.cell 2
          have r3 : w6.cell? ⟨R, 3, none⟩ = some (.int .i64 0) := TR.out.cell 3
          have r4 : w6.cell? ⟨R, 4, none⟩ = some (.int .i64 0) := TR.out.cell 4
          have r5 : w6.cell? ⟨R, 5, none⟩ = some (.int .i64 0) := TR.out.cell 5
          have r6 : w6.cell? ⟨R, 6, none⟩ = some (.int .i64 0) := TR.out.cell 6
          have r7 : w6.cell? ⟨R, 7, none⟩ = some (.bool false) := TR.out.cell 7
          have r8 : w6.cell? ⟨R, 8, none⟩ = some (.int .i64 0) := TR.out.cell 8
          have r9 : w6.cell? ⟨R, 9, none⟩ = some (.int .i64 0) := TR.out.cell 9
          have r10 : w6.cell? ⟨R, 10, none⟩ = some (.int .i64 0) := TR.out.cell 10
          have n0 : w6.cell? ⟨N, 0, none⟩ = some (.int .i64 0) := TN.out.cell 0
          have n1 : w6.cell? ⟨N, 1, none⟩ = some (.bool false) := TN.out.cell 1
          have n2 : w6.cell? ⟨N, 2, none⟩ = some (.bool false) := TN.out.cell 2
          have n3 : w6.cell? ⟨N, 3, none⟩ = some (.int .i64 0) := TN.out.cell 3
          have n4 : w6.cell? ⟨N, 4, none⟩ = some (.int .i64 0) := TN.out.cell 4
          have n5 : w6.cell? ⟨N, 5, none⟩ = some (.int .i64 0) := TN.out.cell 5
          have n6 : w6.cell? ⟨N, 6, none⟩ = some (.int .i64 0) := TN.out.cell 6
          have n7 : w6.cell? ⟨N, 7, none⟩ = some (.bool false) := TN.out.cell 7
          have n8 : w6.cell? ⟨N, 8, none⟩ = some (.int .i64 0) := TN.out.cell 8
          have n9 : w6.cell? ⟨N, 9, none⟩ = some (.int .i64 0) := TN.out.cell 9
          have n10 : w6.cell? ⟨N, 10, none⟩ = some (.int .i64 0) := TN.out.cell 10
          have fzr : ∀ i, w6.frozen? ⟨R, i, none⟩ = false := TR.out.frozen
          have hRw := TR.out.lt
          have hNw := TN.out.lt
          by_cases h3 : nv < 0
          · have d3 : decide (nv < 0) = true := decide_eq_true h3
            have HZ := hid (show ordP s = none from by rw [HO2.out, HN.out.1 (HST.out.trans (HS.out.trans (if_pos h3)))])
            clear h3
            go_wp2_with fail
            refine bodyPost_ret (v := .tuple #[odV odZ, .bool false]) (by simp [results, Try.results16, go_sem, odV, odZ, r0, r1, r2, r3, r4, r5, r6, r7, r8, r9, r10]) rfl (ro_none HZ.out ?_)
            repeat' (refine Below.setCell ?_ (show W.heap.size ≤ R from HB0.out) _)
            exact BB6.out
          · have d3 : decide (nv < 0) = false := decide_eq_false h3
            have HP := hid (HN.out.2 _ (HST.out.trans (HS.out.trans (if_neg h3))))
            have O7 := hid (O6.out.set_ 2 (.bool true))
            have BL7 := hid (BL6.out.setCell (p := ⟨g, 2, none⟩) (Nat.le_refl g) (.bool true))
            clear h3
            go_wp2_with fail
            go_roundw
            case rel => exact ⟨j + 1, { o with y := nv, cr := true }, by omega, by go_num, rfl, rfl, rfl, rfl, O7, BL7, HP⟩
            case measure => simp [intOf]; omega
        · have f0 : (nm.toList == [116, 117, 114, 110]) = false := (nmK_facts nm 0 (by decide)).trans (by rw [hk]; rfl)
          have f1 : (nm.toList == [112, 101, 114, 102, 101, 99, 116]) = false := (nmK_facts nm 1 (by decide)).trans (by rw [hk]; rfl)
          have f2 : (nm.toList == [98, 97, 114, 101]) = false := (nmK_facts nm 2 (by decide)).trans (by rw [hk]; rfl)
          have f3 : (nm.toList == [120]) = false := (nmK_facts nm 3 (by decide)).trans (by rw [hk]; rfl)
          have f4 : (nm.toList == [121]) = false := (nmK_facts nm 4 (by decide)).trans (by rw [hk]; rfl)
          have f5 : (nm.toList == [119]) = true := (nmK_facts nm 5 (by decide)).trans (by rw [hk]; rfl)
          have f6 : (nm.toList == [104]) = false := (nmK_facts nm 6 (by decide)).trans (by rw [hk]; rfl)
          have f7 : (nm.toList == [102, 111, 114, 109]) = false := (nmK_facts nm 7 (by decide)).trans (by rw [hk]; rfl)
          have f8 : (nm.toList == [114, 101, 115, 116, 97, 114, 116]) = false := (nmK_facts nm 8 (by decide)).trans (by rw [hk]; rfl)
          have f9 : (nm.toList == [108, 97, 99, 101]) = false := (nmK_facts nm 9 (by decide)).trans (by rw [hk]; rfl)
          clear hk hle hb
          have HS := hid (show setK 5 o v = if numV v 1 < 0 then none else some { o with w := numV v 1, cr := true } from rfl)
          have NU := hid (numberR_any (nm, v) 1 w5)
          unfold rwV at NU
          dsimp only at NU
          generalize numV v 1 = nv at *
          have c0 : w5.cell? ⟨g, 0, none⟩ = some (.int .i64 o.t) := O5.out.cell 0
          have c1 : w5.cell? ⟨g, 1, none⟩ = some (.bool o.p) := O5.out.cell 1
          have c2 : w5.cell? ⟨g, 2, none⟩ = some (.bool o.cr) := O5.out.cell 2
          have c3 : w5.cell? ⟨g, 3, none⟩ = some (.int .i64 0) := O5.out.cell 3
          have c4 : w5.cell? ⟨g, 4, none⟩ = some (.int .i64 0) := O5.out.cell 4
          have c5 : w5.cell? ⟨g, 5, none⟩ = some (.int .i64 0) := O5.out.cell 5
          have c6 : w5.cell? ⟨g, 6, none⟩ = some (.int .i64 0) := O5.out.cell 6
          have c7 : w5.cell? ⟨g, 7, none⟩ = some (.bool o.ba) := O5.out.cell 7
          have c8 : w5.cell? ⟨g, 8, none⟩ = some (.int .i64 o.fo) := O5.out.cell 8
          have c9 : w5.cell? ⟨g, 9, none⟩ = some (.int .i64 o.re) := O5.out.cell 9
          have c10 : w5.cell? ⟨g, 10, none⟩ = some (.int .i64 o.la) := O5.out.cell 10
          have v0 : w5.cell? ⟨vb, 0, none⟩ = some (.string nm) := V5.out.cell 0
          have v1 : w5.cell? ⟨vb, 1, none⟩ = some (.int .i64 (kdV v)) := V5.out.cell 1
          have v2 : w5.cell? ⟨vb, 2, none⟩ = some (.int .i64 (nuV v)) := V5.out.cell 2
          have v3 : w5.cell? ⟨vb, 3, none⟩ = some (.string (sxV v)) := V5.out.cell 3
          have v4 : w5.cell? ⟨vb, 4, none⟩ = some (.bool (blV v)) := V5.out.cell 4
          have fzo : ∀ i, w5.frozen? ⟨g, i, none⟩ = false := O5.out.frozen
          go_wp2_with fail
          refine (NU.out).mono ?_
          rintro e w6 ⟨rfl, hb6⟩
          have V6 := hid (V5.out.below hb6 hvW)
          have O6 := hid (O5.out.below hb6 (by omega))
          have BL6 := hid (BL5.out.trans (hb6.mono (by omega)))
          have T6 := hid (T2.out.below BL6.out hRg hNg)
          have BB6 := hid (B2.out.trans (BL6.out.mono HGB.out))
          have hvW6 := V6.out.lt
          have hgW6 := O6.out.lt
          clear hb6 NU c0 c1 c2 c3 c4 c5 c6 c7 c8 c9 c10 v0 v1 v2 v3 v4 fzo
          have c0 : w6.cell? ⟨g, 0, none⟩ = some (.int .i64 o.t) := O6.out.cell 0
          have c1 : w6.cell? ⟨g, 1, none⟩ = some (.bool o.p) := O6.out.cell 1
          have c2 : w6.cell? ⟨g, 2, none⟩ = some (.bool o.cr) := O6.out.cell 2
          have c3 : w6.cell? ⟨g, 3, none⟩ = some (.int .i64 0) := O6.out.cell 3
          have c4 : w6.cell? ⟨g, 4, none⟩ = some (.int .i64 0) := O6.out.cell 4
          have c5 : w6.cell? ⟨g, 5, none⟩ = some (.int .i64 0) := O6.out.cell 5
          have c6 : w6.cell? ⟨g, 6, none⟩ = some (.int .i64 0) := O6.out.cell 6
          have c7 : w6.cell? ⟨g, 7, none⟩ = some (.bool o.ba) := O6.out.cell 7
          have c8 : w6.cell? ⟨g, 8, none⟩ = some (.int .i64 o.fo) := O6.out.cell 8
          have c9 : w6.cell? ⟨g, 9, none⟩ = some (.int .i64 o.re) := O6.out.cell 9
          have c10 : w6.cell? ⟨g, 10, none⟩ = some (.int .i64 o.la) := O6.out.cell 10
          have v0 : w6.cell? ⟨vb, 0, none⟩ = some (.string nm) := V6.out.cell 0
          have v1 : w6.cell? ⟨vb, 1, none⟩ = some (.int .i64 (kdV v)) := V6.out.cell 1
          have v2 : w6.cell? ⟨vb, 2, none⟩ = some (.int .i64 (nuV v)) := V6.out.cell 2
          have v3 : w6.cell? ⟨vb, 3, none⟩ = some (.string (sxV v)) := V6.out.cell 3
          have v4 : w6.cell? ⟨vb, 4, none⟩ = some (.bool (blV v)) := V6.out.cell 4
          have fzo : ∀ i, w6.frozen? ⟨g, i, none⟩ = false := O6.out.frozen
          have TR := hid T6.out.r
          have TN := hid T6.out.n
          have r0 : w6.cell? ⟨R, 0, none⟩ = some (.int .i64 0) := TR.out.cell 0
          have r1 : w6.cell? ⟨R, 1, none⟩ = some (.bool false) := TR.out.cell 1
          have r2 : w6.cell? ⟨R, 2, none⟩ = some (.bool false) := TR.out.cell 2
          have r3 : w6.cell? ⟨R, 3, none⟩ = some (.int .i64 0) := TR.out.cell 3
          have r4 : w6.cell? ⟨R, 4, none⟩ = some (.int .i64 0) := TR.out.cell 4
          have r5 : w6.cell? ⟨R, 5, none⟩ = some (.int .i64 0) := TR.out.cell 5
          have r6 : w6.cell? ⟨R, 6, none⟩ = some (.int .i64 0) := TR.out.cell 6
          have r7 : w6.cell? ⟨R, 7, none⟩ = some (.bool false) := TR.out.cell 7
          have r8 : w6.cell? ⟨R, 8, none⟩ = some (.int .i64 0) := TR.out.cell 8
          have r9 : w6.cell? ⟨R, 9, none⟩ = some (.int .i64 0) := TR.out.cell 9
          have r10 : w6.cell? ⟨R, 10, none⟩ = some (.int .i64 0) := TR.out.cell 10
          have n0 : w6.cell? ⟨N, 0, none⟩ = some (.int .i64 0) := TN.out.cell 0
          have n1 : w6.cell? ⟨N, 1, none⟩ = some (.bool false) := TN.out.cell 1
          have n2 : w6.cell? ⟨N, 2, none⟩ = some (.bool false) := TN.out.cell 2
          have n3 : w6.cell? ⟨N, 3, none⟩ = some (.int .i64 0) := TN.out.cell 3
          have n4 : w6.cell? ⟨N, 4, none⟩ = some (.int .i64 0) := TN.out.cell 4
          have n5 : w6.cell? ⟨N, 5, none⟩ = some (.int .i64 0) := TN.out.cell 5
          have n6 : w6.cell? ⟨N, 6, none⟩ = some (.int .i64 0) := TN.out.cell 6
          have n7 : w6.cell? ⟨N, 7, none⟩ = some (.bool false) := TN.out.cell 7
          have n8 : w6.cell? ⟨N, 8, none⟩ = some (.int .i64 0) := TN.out.cell 8
          have n9 : w6.cell? ⟨N, 9, none⟩ = some (.int .i64 0) := TN.out.cell 9
          have n10 : w6.cell? ⟨N, 10, none⟩ = some (.int .i64 0) := TN.out.cell 10
          have fzr : ∀ i, w6.frozen? ⟨R, i, none⟩ = false := TR.out.frozen
          have hRw := TR.out.lt
          have hNw := TN.out.lt
          by_cases h3 : nv < 0
          · have d3 : decide (nv < 0) = true := decide_eq_true h3
            have HZ := hid (show ordP s = none from by rw [HO2.out, HN.out.1 (HST.out.trans (HS.out.trans (if_pos h3)))])
            clear h3
            go_wp2_with fail
            refine bodyPost_ret (v := .tuple #[odV odZ, .bool false]) (by simp [results, Try.results16, go_sem, odV, odZ, r0, r1, r2, r3, r4, r5, r6, r7, r8, r9, r10]) rfl (ro_none HZ.out ?_)
            repeat' (refine Below.setCell ?_ (show W.heap.size ≤ R from HB0.out) _)
            exact BB6.out
          · have d3 : decide (nv < 0) = false := decide_eq_false h3
            have HP := hid (HN.out.2 _ (HST.out.trans (HS.out.trans (if_neg h3))))
            have O7 := hid (O6.out.set_ 2 (.bool true))
            have BL7 := hid (BL6.out.setCell (p := ⟨g, 2, none⟩) (Nat.le_refl g) (.bool true))
            clear h3
            go_wp2_with fail
            go_roundw
            case rel => exact ⟨j + 1, { o with w := nv, cr := true }, by omega, by go_num, rfl, rfl, rfl, rfl, O7, BL7, HP⟩
            case measure => simp [intOf]; omega
        · have f0 : (nm.toList == [116, 117, 114, 110]) = false := (nmK_facts nm 0 (by decide)).trans (by rw [hk]; rfl)
          have f1 : (nm.toList == [112, 101, 114, 102, 101, 99, 116]) = false := (nmK_facts nm 1 (by decide)).trans (by rw [hk]; rfl)
          have f2 : (nm.toList == [98, 97, 114, 101]) = false := (nmK_facts nm 2 (by decide)).trans (by rw [hk]; rfl)
          have f3 : (nm.toList == [120]) = false := (nmK_facts nm 3 (by decide)).trans (by rw [hk]; rfl)
          have f4 : (nm.toList == [121]) = false := (nmK_facts nm 4 (by decide)).trans (by rw [hk]; rfl)
          have f5 : (nm.toList == [119]) = false := (nmK_facts nm 5 (by decide)).trans (by rw [hk]; rfl)
          have f6 : (nm.toList == [104]) = true := (nmK_facts nm 6 (by decide)).trans (by rw [hk]; rfl)
          have f7 : (nm.toList == [102, 111, 114, 109]) = false := (nmK_facts nm 7 (by decide)).trans (by rw [hk]; rfl)
          have f8 : (nm.toList == [114, 101, 115, 116, 97, 114, 116]) = false := (nmK_facts nm 8 (by decide)).trans (by rw [hk]; rfl)
          have f9 : (nm.toList == [108, 97, 99, 101]) = false := (nmK_facts nm 9 (by decide)).trans (by rw [hk]; rfl)
          clear hk hle hb
          have HS := hid (show setK 6 o v = if numV v 1 < 0 then none else some { o with h := numV v 1, cr := true } from rfl)
          have NU := hid (numberR_any (nm, v) 1 w5)
          unfold rwV at NU
          dsimp only at NU
          generalize numV v 1 = nv at *
          have c0 : w5.cell? ⟨g, 0, none⟩ = some (.int .i64 o.t) := O5.out.cell 0
          have c1 : w5.cell? ⟨g, 1, none⟩ = some (.bool o.p) := O5.out.cell 1
          have c2 : w5.cell? ⟨g, 2, none⟩ = some (.bool o.cr) := O5.out.cell 2
          have c3 : w5.cell? ⟨g, 3, none⟩ = some (.int .i64 0) := O5.out.cell 3
          have c4 : w5.cell? ⟨g, 4, none⟩ = some (.int .i64 0) := O5.out.cell 4
          have c5 : w5.cell? ⟨g, 5, none⟩ = some (.int .i64 0) := O5.out.cell 5
          have c6 : w5.cell? ⟨g, 6, none⟩ = some (.int .i64 0) := O5.out.cell 6
          have c7 : w5.cell? ⟨g, 7, none⟩ = some (.bool o.ba) := O5.out.cell 7
          have c8 : w5.cell? ⟨g, 8, none⟩ = some (.int .i64 o.fo) := O5.out.cell 8
          have c9 : w5.cell? ⟨g, 9, none⟩ = some (.int .i64 o.re) := O5.out.cell 9
          have c10 : w5.cell? ⟨g, 10, none⟩ = some (.int .i64 o.la) := O5.out.cell 10
          have v0 : w5.cell? ⟨vb, 0, none⟩ = some (.string nm) := V5.out.cell 0
          have v1 : w5.cell? ⟨vb, 1, none⟩ = some (.int .i64 (kdV v)) := V5.out.cell 1
          have v2 : w5.cell? ⟨vb, 2, none⟩ = some (.int .i64 (nuV v)) := V5.out.cell 2
          have v3 : w5.cell? ⟨vb, 3, none⟩ = some (.string (sxV v)) := V5.out.cell 3
          have v4 : w5.cell? ⟨vb, 4, none⟩ = some (.bool (blV v)) := V5.out.cell 4
          have fzo : ∀ i, w5.frozen? ⟨g, i, none⟩ = false := O5.out.frozen
          go_wp2_with fail
          refine (NU.out).mono ?_
          rintro e w6 ⟨rfl, hb6⟩
          have V6 := hid (V5.out.below hb6 hvW)
          have O6 := hid (O5.out.below hb6 (by omega))
          have BL6 := hid (BL5.out.trans (hb6.mono (by omega)))
          have T6 := hid (T2.out.below BL6.out hRg hNg)
          have BB6 := hid (B2.out.trans (BL6.out.mono HGB.out))
          have hvW6 := V6.out.lt
          have hgW6 := O6.out.lt
          clear hb6 NU c0 c1 c2 c3 c4 c5 c6 c7 c8 c9 c10 v0 v1 v2 v3 v4 fzo
          have c0 : w6.cell? ⟨g, 0, none⟩ = some (.int .i64 o.t) := O6.out.cell 0
          have c1 : w6.cell? ⟨g, 1, none⟩ = some (.bool o.p) := O6.out.cell 1
          have c2 : w6.cell? ⟨g, 2, none⟩ = some (.bool o.cr) := O6.out.cell 2
          have c3 : w6.cell? ⟨g, 3, none⟩ = some (.int .i64 0) := O6.out.cell 3
          have c4 : w6.cell? ⟨g, 4, none⟩ = some (.int .i64 0) := O6.out.cell 4
          have c5 : w6.cell? ⟨g, 5, none⟩ = some (.int .i64 0) := O6.out.cell 5
          have c6 : w6.cell? ⟨g, 6, none⟩ = some (.int .i64 0) := O6.out.cell 6
          have c7 : w6.cell? ⟨g, 7, none⟩ = some (.bool o.ba) := O6.out.cell 7
          have c8 : w6.cell? ⟨g, 8, none⟩ = some (.int .i64 o.fo) := O6.out.cell 8
          have c9 : w6.cell? ⟨g, 9, none⟩ = some (.int .i64 o.re) := O6.out.cell 9
          have c10 : w6.cell? ⟨g, 10, none⟩ = some (.int .i64 o.la) := O6.out.cell 10
          have v0 : w6.cell? ⟨vb, 0, none⟩ = some (.string nm) := V6.out.cell 0
          have v1 : w6.cell? ⟨vb, 1, none⟩ = some (.int .i64 (kdV v)) := V6.out.cell 1
          have v2 : w6.cell? ⟨vb, 2, none⟩ = some (.int .i64 (nuV v)) := V6.out.cell 2
          have v3 : w6.cell? ⟨vb, 3, none⟩ = some (.string (sxV v)) := V6.out.cell 3
          have v4 : w6.cell? ⟨vb, 4, none⟩ = some (.bool (blV v)) := V6.out.cell 4
          have fzo : ∀ i, w6.frozen? ⟨g, i, none⟩ = false := O6.out.frozen
          have TR := hid T6.out.r
          have TN := hid T6.out.n
          have r0 : w6.cell? ⟨R, 0, none⟩ = some (.int .i64 0) := TR.out.cell 0
          have r1 : w6.cell? ⟨R, 1, none⟩ = some (.bool false) := TR.out.cell 1
          have r2 : w6.cell? ⟨R, 2, none⟩ = some (.bool false) := TR.out.cell 2
          have r3 : w6.cell? ⟨R, 3, none⟩ = some (.int .i64 0) := TR.out.cell 3
          have r4 : w6.cell? ⟨R, 4, none⟩ = some (.int .i64 0) := TR.out.cell 4
          have r5 : w6.cell? ⟨R, 5, none⟩ = some (.int .i64 0) := TR.out.cell 5
          have r6 : w6.cell? ⟨R, 6, none⟩ = some (.int .i64 0) := TR.out.cell 6
          have r7 : w6.cell? ⟨R, 7, none⟩ = some (.bool false) := TR.out.cell 7
          have r8 : w6.cell? ⟨R, 8, none⟩ = some (.int .i64 0) := TR.out.cell 8
          have r9 : w6.cell? ⟨R, 9, none⟩ = some (.int .i64 0) := TR.out.cell 9
          have r10 : w6.cell? ⟨R, 10, none⟩ = some (.int .i64 0) := TR.out.cell 10
          have n0 : w6.cell? ⟨N, 0, none⟩ = some (.int .i64 0) := TN.out.cell 0
          have n1 : w6.cell? ⟨N, 1, none⟩ = some (.bool false) := TN.out.cell 1
          have n2 : w6.cell? ⟨N, 2, none⟩ = some (.bool false) := TN.out.cell 2
          have n3 : w6.cell? ⟨N, 3, none⟩ = some (.int .i64 0) := TN.out.cell 3
          have n4 : w6.cell? ⟨N, 4, none⟩ = some (.int .i64 0) := TN.out.cell 4
          have n5 : w6.cell? ⟨N, 5, none⟩ = some (.int .i64 0) := TN.out.cell 5
          have n6 : w6.cell? ⟨N, 6, none⟩ = some (.int .i64 0) := TN.out.cell 6
          have n7 : w6.cell? ⟨N, 7, none⟩ = some (.bool false) := TN.out.cell 7
          have n8 : w6.cell? ⟨N, 8, none⟩ = some (.int .i64 0) := TN.out.cell 8
          have n9 : w6.cell? ⟨N, 9, none⟩ = some (.int .i64 0) := TN.out.cell 9
          have n10 : w6.cell? ⟨N, 10, none⟩ = some (.int .i64 0) := TN.out.cell 10
          have fzr : ∀ i, w6.frozen? ⟨R, i, none⟩ = false := TR.out.frozen
          have hRw := TR.out.lt
          have hNw := TN.out.lt
          by_cases h3 : nv < 0
          · have d3 : decide (nv < 0) = true := decide_eq_true h3
            have HZ := hid (show ordP s = none from by rw [HO2.out, HN.out.1 (HST.out.trans (HS.out.trans (if_pos h3)))])
            clear h3
            go_wp2_with fail
            refine bodyPost_ret (v := .tuple #[odV odZ, .bool false]) (by simp [results, Try.results16, go_sem, odV, odZ, r0, r1, r2, r3, r4, r5, r6, r7, r8, r9, r10]) rfl (ro_none HZ.out ?_)
            repeat' (refine Below.setCell ?_ (show W.heap.size ≤ R from HB0.out) _)
            exact BB6.out
          · have d3 : decide (nv < 0) = false := decide_eq_false h3
            have HP := hid (HN.out.2 _ (HST.out.trans (HS.out.trans (if_neg h3))))
            have O7 := hid (O6.out.set_ 2 (.bool true))
            have BL7 := hid (BL6.out.setCell (p := ⟨g, 2, none⟩) (Nat.le_refl g) (.bool true))
            clear h3
            go_wp2_with fail
            go_roundw
            case rel => exact ⟨j + 1, { o with h := nv, cr := true }, by omega, by go_num, rfl, rfl, rfl, rfl, O7, BL7, HP⟩
            case measure => simp [intOf]; omega
        · have f0 : (nm.toList == [116, 117, 114, 110]) = false := (nmK_facts nm 0 (by decide)).trans (by rw [hk]; rfl)
          have f1 : (nm.toList == [112, 101, 114, 102, 101, 99, 116]) = false := (nmK_facts nm 1 (by decide)).trans (by rw [hk]; rfl)
          have f2 : (nm.toList == [98, 97, 114, 101]) = false := (nmK_facts nm 2 (by decide)).trans (by rw [hk]; rfl)
          have f3 : (nm.toList == [120]) = false := (nmK_facts nm 3 (by decide)).trans (by rw [hk]; rfl)
          have f4 : (nm.toList == [121]) = false := (nmK_facts nm 4 (by decide)).trans (by rw [hk]; rfl)
          have f5 : (nm.toList == [119]) = false := (nmK_facts nm 5 (by decide)).trans (by rw [hk]; rfl)
          have f6 : (nm.toList == [104]) = false := (nmK_facts nm 6 (by decide)).trans (by rw [hk]; rfl)
          have f7 : (nm.toList == [102, 111, 114, 109]) = true := (nmK_facts nm 7 (by decide)).trans (by rw [hk]; rfl)
          have f8 : (nm.toList == [114, 101, 115, 116, 97, 114, 116]) = false := (nmK_facts nm 8 (by decide)).trans (by rw [hk]; rfl)
          have f9 : (nm.toList == [108, 97, 99, 101]) = false := (nmK_facts nm 9 (by decide)).trans (by rw [hk]; rfl)
          clear hk hle hb
          have HS := hid (show setK 7 o v = if amgV formsW v < 0 then none else some { o with fo := amgV formsW v } from rfl)
          have AM := hid (fun (w : World) (gg : Nat) (h : Blk w gg 9 (strV formsW).toArray) => among_any (nm, v) formsW gg 3 w h (by decide))
          unfold rwV at AM
          dsimp only at AM
          have hln : formsW.length = 3 := rfl
          rw [hln] at AM
          have hav : -1 ≤ amgV formsW v ∧ amgV formsW v < 100 := by unfold amgV; have := idxW_bd formsW (sxV v); rw [hln] at this; split <;> omega
          generalize amgV formsW v = nv at *
          have twr : wrap64 (nv - 1) = nv - 1 := IntWalk.wrap64_in _ (by omega)
          have twr2 : IntKind.i64.wrap (nv - 1) = nv - 1 := IntWalk.i64_in _ (by omega)
          have BN := hid (show Blk (w5.alloc (.cells (strV formsW).toArray 9)).drew w5.heap.size 9 (strV formsW).toArray from Blk.new w5 _ _)
          have BX := hid (show Below w5.heap.size w5 (w5.alloc (.cells (strV formsW).toArray 9)).drew from (below_allocW w5 _).drew)
          have c0 : w5.cell? ⟨g, 0, none⟩ = some (.int .i64 o.t) := O5.out.cell 0
          have c1 : w5.cell? ⟨g, 1, none⟩ = some (.bool o.p) := O5.out.cell 1
          have c2 : w5.cell? ⟨g, 2, none⟩ = some (.bool o.cr) := O5.out.cell 2
          have c3 : w5.cell? ⟨g, 3, none⟩ = some (.int .i64 0) := O5.out.cell 3
          have c4 : w5.cell? ⟨g, 4, none⟩ = some (.int .i64 0) := O5.out.cell 4
          have c5 : w5.cell? ⟨g, 5, none⟩ = some (.int .i64 0) := O5.out.cell 5
          have c6 : w5.cell? ⟨g, 6, none⟩ = some (.int .i64 0) := O5.out.cell 6
          have c7 : w5.cell? ⟨g, 7, none⟩ = some (.bool o.ba) := O5.out.cell 7
          have c8 : w5.cell? ⟨g, 8, none⟩ = some (.int .i64 o.fo) := O5.out.cell 8
          have c9 : w5.cell? ⟨g, 9, none⟩ = some (.int .i64 o.re) := O5.out.cell 9
          have c10 : w5.cell? ⟨g, 10, none⟩ = some (.int .i64 o.la) := O5.out.cell 10
          have v0 : w5.cell? ⟨vb, 0, none⟩ = some (.string nm) := V5.out.cell 0
          have v1 : w5.cell? ⟨vb, 1, none⟩ = some (.int .i64 (kdV v)) := V5.out.cell 1
          have v2 : w5.cell? ⟨vb, 2, none⟩ = some (.int .i64 (nuV v)) := V5.out.cell 2
          have v3 : w5.cell? ⟨vb, 3, none⟩ = some (.string (sxV v)) := V5.out.cell 3
          have v4 : w5.cell? ⟨vb, 4, none⟩ = some (.bool (blV v)) := V5.out.cell 4
          have fzo : ∀ i, w5.frozen? ⟨g, i, none⟩ = false := O5.out.frozen
          go_upto_region 40 with (fail)
          go_region_with (first
            | (go_at_call 46; refine (ref_Forms_any _).mono ?_; rintro e w6 ⟨rfl, rfl⟩)
            | (go_at_call 43; refine (AM.out _ _ BN.out).mono ?_; rintro e w7 ⟨rfl, hb7⟩; have BY := hid (BX.out.trans (hb7.mono BX.out.size)); clear hb7))
          all_goals
            have V6 := hid (V5.out.below BY.out hvW)
            have O6 := hid (O5.out.below BY.out (by omega))
            have BL6 := hid (BL5.out.trans (BY.out.mono (by omega)))
            have T6 := hid (T2.out.below BL6.out hRg hNg)
            have BB6 := hid (B2.out.trans (BL6.out.mono HGB.out))
            have hvW6 := V6.out.lt
            have hgW6 := O6.out.lt
            clear AM BN BX c0 c1 c2 c3 c4 c5 c6 c7 c8 c9 c10 v0 v1 v2 v3 v4 fzo
            have c0 : w7.cell? ⟨g, 0, none⟩ = some (.int .i64 o.t) := O6.out.cell 0
            have c1 : w7.cell? ⟨g, 1, none⟩ = some (.bool o.p) := O6.out.cell 1
            have c2 : w7.cell? ⟨g, 2, none⟩ = some (.bool o.cr) := O6.out.cell 2
            have c3 : w7.cell? ⟨g, 3, none⟩ = some (.int .i64 0) := O6.out.cell 3
            have c4 : w7.cell? ⟨g, 4, none⟩ = some (.int .i64 0) := O6.out.cell 4
            have c5 : w7.cell? ⟨g, 5, none⟩ = some (.int .i64 0) := O6.out.cell 5
            have c6 : w7.cell? ⟨g, 6, none⟩ = some (.int .i64 0) := O6.out.cell 6
            have c7 : w7.cell? ⟨g, 7, none⟩ = some (.bool o.ba) := O6.out.cell 7
            have c8 : w7.cell? ⟨g, 8, none⟩ = some (.int .i64 o.fo) := O6.out.cell 8
            have c9 : w7.cell? ⟨g, 9, none⟩ = some (.int .i64 o.re) := O6.out.cell 9
            have c10 : w7.cell? ⟨g, 10, none⟩ = some (.int .i64 o.la) := O6.out.cell 10
            have v0 : w7.cell? ⟨vb, 0, none⟩ = some (.string nm) := V6.out.cell 0
            have v1 : w7.cell? ⟨vb, 1, none⟩ = some (.int .i64 (kdV v)) := V6.out.cell 1
            have v2 : w7.cell? ⟨vb, 2, none⟩ = some (.int .i64 (nuV v)) := V6.out.cell 2
            have v3 : w7.cell? ⟨vb, 3, none⟩ = some (.string (sxV v)) := V6.out.cell 3
            have v4 : w7.cell? ⟨vb, 4, none⟩ = some (.bool (blV v)) := V6.out.cell 4
            have fzo : ∀ i, w7.frozen? ⟨g, i, none⟩ = false := O6.out.frozen
            have TR := hid T6.out.r
            have TN := hid T6.out.n
            have r0 : w7.cell? ⟨R, 0, none⟩ = some (.int .i64 0) := TR.out.cell 0
            have r1 : w7.cell? ⟨R, 1, none⟩ = some (.bool false) := TR.out.cell 1
            have r2 : w7.cell? ⟨R, 2, none⟩ = some (.bool false) := TR.out.cell 2
            have r3 : w7.cell? ⟨R, 3, none⟩ = some (.int .i64 0) := TR.out.cell 3
            have r4 : w7.cell? ⟨R, 4, none⟩ = some (.int .i64 0) := TR.out.cell 4
            have r5 : w7.cell? ⟨R, 5, none⟩ = some (.int .i64 0) := TR.out.cell 5
            have r6 : w7.cell? ⟨R, 6, none⟩ = some (.int .i64 0) := TR.out.cell 6
            have r7 : w7.cell? ⟨R, 7, none⟩ = some (.bool false) := TR.out.cell 7
            have r8 : w7.cell? ⟨R, 8, none⟩ = some (.int .i64 0) := TR.out.cell 8
            have r9 : w7.cell? ⟨R, 9, none⟩ = some (.int .i64 0) := TR.out.cell 9
            have r10 : w7.cell? ⟨R, 10, none⟩ = some (.int .i64 0) := TR.out.cell 10
            have n0 : w7.cell? ⟨N, 0, none⟩ = some (.int .i64 0) := TN.out.cell 0
            have n1 : w7.cell? ⟨N, 1, none⟩ = some (.bool false) := TN.out.cell 1
            have n2 : w7.cell? ⟨N, 2, none⟩ = some (.bool false) := TN.out.cell 2
            have n3 : w7.cell? ⟨N, 3, none⟩ = some (.int .i64 0) := TN.out.cell 3
            have n4 : w7.cell? ⟨N, 4, none⟩ = some (.int .i64 0) := TN.out.cell 4
            have n5 : w7.cell? ⟨N, 5, none⟩ = some (.int .i64 0) := TN.out.cell 5
            have n6 : w7.cell? ⟨N, 6, none⟩ = some (.int .i64 0) := TN.out.cell 6
            have n7 : w7.cell? ⟨N, 7, none⟩ = some (.bool false) := TN.out.cell 7
            have n8 : w7.cell? ⟨N, 8, none⟩ = some (.int .i64 0) := TN.out.cell 8
            have n9 : w7.cell? ⟨N, 9, none⟩ = some (.int .i64 0) := TN.out.cell 9
            have n10 : w7.cell? ⟨N, 10, none⟩ = some (.int .i64 0) := TN.out.cell 10
            have fzr : ∀ i, w7.frozen? ⟨R, i, none⟩ = false := TR.out.frozen
            have hRw := TR.out.lt
            have hNw := TN.out.lt
            by_cases h3 : nv < 0
            · have d3 : decide (nv < 0) = true := decide_eq_true h3
              have HZ := hid (show ordP s = none from by rw [HO2.out, HN.out.1 (HST.out.trans (HS.out.trans (if_pos h3)))])
              clear h3
              go_wp2_with fail
              refine bodyPost_ret (v := .tuple #[odV odZ, .bool false]) (by simp [results, Try.results16, go_sem, odV, odZ, r0, r1, r2, r3, r4, r5, r6, r7, r8, r9, r10]) rfl (ro_none HZ.out ?_)
              repeat' (refine Below.setCell ?_ (show W.heap.size ≤ R from HB0.out) _)
              repeat' (refine Below.setCell ?_ (show W.heap.size ≤ g from HGB.out) _)
              exact BB6.out
            · have d3 : decide (nv < 0) = false := decide_eq_false h3
              have HP := hid (HN.out.2 _ (HST.out.trans (HS.out.trans (if_neg h3))))
              have O7 := hid (O6.out.set_ 8 (.int .i64 (nv)))
              have BL7 := hid (BL6.out.setCell (p := ⟨g, 8, none⟩) (Nat.le_refl g) (.int .i64 (nv)))
              clear h3
              go_wp2_with fail
              go_roundw
              case rel => exact ⟨j + 1, { o with fo := nv }, by omega, by go_num, rfl, rfl, rfl, rfl, O7, BL7, HP⟩
              case measure => simp [intOf]; omega
        · have f0 : (nm.toList == [116, 117, 114, 110]) = false := (nmK_facts nm 0 (by decide)).trans (by rw [hk]; rfl)
          have f1 : (nm.toList == [112, 101, 114, 102, 101, 99, 116]) = false := (nmK_facts nm 1 (by decide)).trans (by rw [hk]; rfl)
          have f2 : (nm.toList == [98, 97, 114, 101]) = false := (nmK_facts nm 2 (by decide)).trans (by rw [hk]; rfl)
          have f3 : (nm.toList == [120]) = false := (nmK_facts nm 3 (by decide)).trans (by rw [hk]; rfl)
          have f4 : (nm.toList == [121]) = false := (nmK_facts nm 4 (by decide)).trans (by rw [hk]; rfl)
          have f5 : (nm.toList == [119]) = false := (nmK_facts nm 5 (by decide)).trans (by rw [hk]; rfl)
          have f6 : (nm.toList == [104]) = false := (nmK_facts nm 6 (by decide)).trans (by rw [hk]; rfl)
          have f7 : (nm.toList == [102, 111, 114, 109]) = false := (nmK_facts nm 7 (by decide)).trans (by rw [hk]; rfl)
          have f8 : (nm.toList == [114, 101, 115, 116, 97, 114, 116]) = true := (nmK_facts nm 8 (by decide)).trans (by rw [hk]; rfl)
          have f9 : (nm.toList == [108, 97, 99, 101]) = false := (nmK_facts nm 9 (by decide)).trans (by rw [hk]; rfl)
          clear hk hle hb
          have HS := hid (show setK 8 o v = if numV v 0 < 0 then none else some { o with re := numV v 0 } from rfl)
          have NU := hid (numberR_any (nm, v) 0 w5)
          unfold rwV at NU
          dsimp only at NU
          generalize numV v 0 = nv at *
          have c0 : w5.cell? ⟨g, 0, none⟩ = some (.int .i64 o.t) := O5.out.cell 0
          have c1 : w5.cell? ⟨g, 1, none⟩ = some (.bool o.p) := O5.out.cell 1
          have c2 : w5.cell? ⟨g, 2, none⟩ = some (.bool o.cr) := O5.out.cell 2
          have c3 : w5.cell? ⟨g, 3, none⟩ = some (.int .i64 0) := O5.out.cell 3
          have c4 : w5.cell? ⟨g, 4, none⟩ = some (.int .i64 0) := O5.out.cell 4
          have c5 : w5.cell? ⟨g, 5, none⟩ = some (.int .i64 0) := O5.out.cell 5
          have c6 : w5.cell? ⟨g, 6, none⟩ = some (.int .i64 0) := O5.out.cell 6
          have c7 : w5.cell? ⟨g, 7, none⟩ = some (.bool o.ba) := O5.out.cell 7
          have c8 : w5.cell? ⟨g, 8, none⟩ = some (.int .i64 o.fo) := O5.out.cell 8
          have c9 : w5.cell? ⟨g, 9, none⟩ = some (.int .i64 o.re) := O5.out.cell 9
          have c10 : w5.cell? ⟨g, 10, none⟩ = some (.int .i64 o.la) := O5.out.cell 10
          have v0 : w5.cell? ⟨vb, 0, none⟩ = some (.string nm) := V5.out.cell 0
          have v1 : w5.cell? ⟨vb, 1, none⟩ = some (.int .i64 (kdV v)) := V5.out.cell 1
          have v2 : w5.cell? ⟨vb, 2, none⟩ = some (.int .i64 (nuV v)) := V5.out.cell 2
          have v3 : w5.cell? ⟨vb, 3, none⟩ = some (.string (sxV v)) := V5.out.cell 3
          have v4 : w5.cell? ⟨vb, 4, none⟩ = some (.bool (blV v)) := V5.out.cell 4
          have fzo : ∀ i, w5.frozen? ⟨g, i, none⟩ = false := O5.out.frozen
          go_wp2_with fail
          refine (NU.out).mono ?_
          rintro e w6 ⟨rfl, hb6⟩
          have V6 := hid (V5.out.below hb6 hvW)
          have O6 := hid (O5.out.below hb6 (by omega))
          have BL6 := hid (BL5.out.trans (hb6.mono (by omega)))
          have T6 := hid (T2.out.below BL6.out hRg hNg)
          have BB6 := hid (B2.out.trans (BL6.out.mono HGB.out))
          have hvW6 := V6.out.lt
          have hgW6 := O6.out.lt
          clear hb6 NU c0 c1 c2 c3 c4 c5 c6 c7 c8 c9 c10 v0 v1 v2 v3 v4 fzo
          have c0 : w6.cell? ⟨g, 0, none⟩ = some (.int .i64 o.t) := O6.out.cell 0
          have c1 : w6.cell? ⟨g, 1, none⟩ = some (.bool o.p) := O6.out.cell 1
          have c2 : w6.cell? ⟨g, 2, none⟩ = some (.bool o.cr) := O6.out.cell 2
          have c3 : w6.cell? ⟨g, 3, none⟩ = some (.int .i64 0) := O6.out.cell 3
          have c4 : w6.cell? ⟨g, 4, none⟩ = some (.int .i64 0) := O6.out.cell 4
          have c5 : w6.cell? ⟨g, 5, none⟩ = some (.int .i64 0) := O6.out.cell 5
          have c6 : w6.cell? ⟨g, 6, none⟩ = some (.int .i64 0) := O6.out.cell 6
          have c7 : w6.cell? ⟨g, 7, none⟩ = some (.bool o.ba) := O6.out.cell 7
          have c8 : w6.cell? ⟨g, 8, none⟩ = some (.int .i64 o.fo) := O6.out.cell 8
          have c9 : w6.cell? ⟨g, 9, none⟩ = some (.int .i64 o.re) := O6.out.cell 9
          have c10 : w6.cell? ⟨g, 10, none⟩ = some (.int .i64 o.la) := O6.out.cell 10
          have v0 : w6.cell? ⟨vb, 0, none⟩ = some (.string nm) := V6.out.cell 0
          have v1 : w6.cell? ⟨vb, 1, none⟩ = some (.int .i64 (kdV v)) := V6.out.cell 1
          have v2 : w6.cell? ⟨vb, 2, none⟩ = some (.int .i64 (nuV v)) := V6.out.cell 2
          have v3 : w6.cell? ⟨vb, 3, none⟩ = some (.string (sxV v)) := V6.out.cell 3
          have v4 : w6.cell? ⟨vb, 4, none⟩ = some (.bool (blV v)) := V6.out.cell 4
          have fzo : ∀ i, w6.frozen? ⟨g, i, none⟩ = false := O6.out.frozen
          have TR := hid T6.out.r
          have TN := hid T6.out.n
          have r0 : w6.cell? ⟨R, 0, none⟩ = some (.int .i64 0) := TR.out.cell 0
          have r1 : w6.cell? ⟨R, 1, none⟩ = some (.bool false) := TR.out.cell 1
          have r2 : w6.cell? ⟨R, 2, none⟩ = some (.bool false) := TR.out.cell 2
          have r3 : w6.cell? ⟨R, 3, none⟩ = some (.int .i64 0) := TR.out.cell 3
          have r4 : w6.cell? ⟨R, 4, none⟩ = some (.int .i64 0) := TR.out.cell 4
          have r5 : w6.cell? ⟨R, 5, none⟩ = some (.int .i64 0) := TR.out.cell 5
          have r6 : w6.cell? ⟨R, 6, none⟩ = some (.int .i64 0) := TR.out.cell 6
          have r7 : w6.cell? ⟨R, 7, none⟩ = some (.bool false) := TR.out.cell 7
          have r8 : w6.cell? ⟨R, 8, none⟩ = some (.int .i64 0) := TR.out.cell 8
          have r9 : w6.cell? ⟨R, 9, none⟩ = some (.int .i64 0) := TR.out.cell 9
          have r10 : w6.cell? ⟨R, 10, none⟩ = some (.int .i64 0) := TR.out.cell 10
          have n0 : w6.cell? ⟨N, 0, none⟩ = some (.int .i64 0) := TN.out.cell 0
          have n1 : w6.cell? ⟨N, 1, none⟩ = some (.bool false) := TN.out.cell 1
          have n2 : w6.cell? ⟨N, 2, none⟩ = some (.bool false) := TN.out.cell 2
          have n3 : w6.cell? ⟨N, 3, none⟩ = some (.int .i64 0) := TN.out.cell 3
          have n4 : w6.cell? ⟨N, 4, none⟩ = some (.int .i64 0) := TN.out.cell 4
          have n5 : w6.cell? ⟨N, 5, none⟩ = some (.int .i64 0) := TN.out.cell 5
          have n6 : w6.cell? ⟨N, 6, none⟩ = some (.int .i64 0) := TN.out.cell 6
          have n7 : w6.cell? ⟨N, 7, none⟩ = some (.bool false) := TN.out.cell 7
          have n8 : w6.cell? ⟨N, 8, none⟩ = some (.int .i64 0) := TN.out.cell 8
          have n9 : w6.cell? ⟨N, 9, none⟩ = some (.int .i64 0) := TN.out.cell 9
          have n10 : w6.cell? ⟨N, 10, none⟩ = some (.int .i64 0) := TN.out.cell 10
          have fzr : ∀ i, w6.frozen? ⟨R, i, none⟩ = false := TR.out.frozen
          have hRw := TR.out.lt
          have hNw := TN.out.lt
          by_cases h3 : nv < 0
          · have d3 : decide (nv < 0) = true := decide_eq_true h3
            have HZ := hid (show ordP s = none from by rw [HO2.out, HN.out.1 (HST.out.trans (HS.out.trans (if_pos h3)))])
            clear h3
            go_wp2_with fail
            refine bodyPost_ret (v := .tuple #[odV odZ, .bool false]) (by simp [results, Try.results16, go_sem, odV, odZ, r0, r1, r2, r3, r4, r5, r6, r7, r8, r9, r10]) rfl (ro_none HZ.out ?_)
            repeat' (refine Below.setCell ?_ (show W.heap.size ≤ R from HB0.out) _)
            repeat' (refine Below.setCell ?_ (show W.heap.size ≤ g from HGB.out) _)
            exact BB6.out
          · have d3 : decide (nv < 0) = false := decide_eq_false h3
            have HP := hid (HN.out.2 _ (HST.out.trans (HS.out.trans (if_neg h3))))
            have O7 := hid (O6.out.set_ 9 (.int .i64 nv))
            have BL7 := hid (BL6.out.setCell (p := ⟨g, 9, none⟩) (Nat.le_refl g) (.int .i64 nv))
            clear h3
            go_wp2_with fail
            go_roundw
            case rel => exact ⟨j + 1, { o with re := nv }, by omega, by go_num, rfl, rfl, rfl, rfl, O7, BL7, HP⟩
            case measure => simp [intOf]; omega
        · have f0 : (nm.toList == [116, 117, 114, 110]) = false := (nmK_facts nm 0 (by decide)).trans (by rw [hk]; rfl)
          have f1 : (nm.toList == [112, 101, 114, 102, 101, 99, 116]) = false := (nmK_facts nm 1 (by decide)).trans (by rw [hk]; rfl)
          have f2 : (nm.toList == [98, 97, 114, 101]) = false := (nmK_facts nm 2 (by decide)).trans (by rw [hk]; rfl)
          have f3 : (nm.toList == [120]) = false := (nmK_facts nm 3 (by decide)).trans (by rw [hk]; rfl)
          have f4 : (nm.toList == [121]) = false := (nmK_facts nm 4 (by decide)).trans (by rw [hk]; rfl)
          have f5 : (nm.toList == [119]) = false := (nmK_facts nm 5 (by decide)).trans (by rw [hk]; rfl)
          have f6 : (nm.toList == [104]) = false := (nmK_facts nm 6 (by decide)).trans (by rw [hk]; rfl)
          have f7 : (nm.toList == [102, 111, 114, 109]) = false := (nmK_facts nm 7 (by decide)).trans (by rw [hk]; rfl)
          have f8 : (nm.toList == [114, 101, 115, 116, 97, 114, 116]) = false := (nmK_facts nm 8 (by decide)).trans (by rw [hk]; rfl)
          have f9 : (nm.toList == [108, 97, 99, 101]) = true := (nmK_facts nm 9 (by decide)).trans (by rw [hk]; rfl)
          clear hk hle hb
          have HS := hid (show setK 9 o v = if amgV lacesW v < 0 then none else some { o with la := amgV lacesW v - 1 } from rfl)
          have AM := hid (fun (w : World) (gg : Nat) (h : Blk w gg 9 (strV lacesW).toArray) => among_any (nm, v) lacesW gg 3 w h (by decide))
          unfold rwV at AM
          dsimp only at AM
          have hln : lacesW.length = 3 := rfl
          rw [hln] at AM
          have hav : -1 ≤ amgV lacesW v ∧ amgV lacesW v < 100 := by unfold amgV; have := idxW_bd lacesW (sxV v); rw [hln] at this; split <;> omega
          generalize amgV lacesW v = nv at *
          have twr : wrap64 (nv - 1) = nv - 1 := IntWalk.wrap64_in _ (by omega)
          have twr2 : IntKind.i64.wrap (nv - 1) = nv - 1 := IntWalk.i64_in _ (by omega)
          have BN := hid (show Blk (w5.alloc (.cells (strV lacesW).toArray 9)).drew w5.heap.size 9 (strV lacesW).toArray from Blk.new w5 _ _)
          have BX := hid (show Below w5.heap.size w5 (w5.alloc (.cells (strV lacesW).toArray 9)).drew from (below_allocW w5 _).drew)
          have c0 : w5.cell? ⟨g, 0, none⟩ = some (.int .i64 o.t) := O5.out.cell 0
          have c1 : w5.cell? ⟨g, 1, none⟩ = some (.bool o.p) := O5.out.cell 1
          have c2 : w5.cell? ⟨g, 2, none⟩ = some (.bool o.cr) := O5.out.cell 2
          have c3 : w5.cell? ⟨g, 3, none⟩ = some (.int .i64 0) := O5.out.cell 3
          have c4 : w5.cell? ⟨g, 4, none⟩ = some (.int .i64 0) := O5.out.cell 4
          have c5 : w5.cell? ⟨g, 5, none⟩ = some (.int .i64 0) := O5.out.cell 5
          have c6 : w5.cell? ⟨g, 6, none⟩ = some (.int .i64 0) := O5.out.cell 6
          have c7 : w5.cell? ⟨g, 7, none⟩ = some (.bool o.ba) := O5.out.cell 7
          have c8 : w5.cell? ⟨g, 8, none⟩ = some (.int .i64 o.fo) := O5.out.cell 8
          have c9 : w5.cell? ⟨g, 9, none⟩ = some (.int .i64 o.re) := O5.out.cell 9
          have c10 : w5.cell? ⟨g, 10, none⟩ = some (.int .i64 o.la) := O5.out.cell 10
          have v0 : w5.cell? ⟨vb, 0, none⟩ = some (.string nm) := V5.out.cell 0
          have v1 : w5.cell? ⟨vb, 1, none⟩ = some (.int .i64 (kdV v)) := V5.out.cell 1
          have v2 : w5.cell? ⟨vb, 2, none⟩ = some (.int .i64 (nuV v)) := V5.out.cell 2
          have v3 : w5.cell? ⟨vb, 3, none⟩ = some (.string (sxV v)) := V5.out.cell 3
          have v4 : w5.cell? ⟨vb, 4, none⟩ = some (.bool (blV v)) := V5.out.cell 4
          have fzo : ∀ i, w5.frozen? ⟨g, i, none⟩ = false := O5.out.frozen
          go_upto_region 46 with (fail)
          go_region_with (first
            | (go_at_call 47; refine (ref_Laces_any _).mono ?_; rintro e w6 ⟨rfl, rfl⟩)
            | (go_at_call 43; refine (AM.out _ _ BN.out).mono ?_; rintro e w7 ⟨rfl, hb7⟩; have BY := hid (BX.out.trans (hb7.mono BX.out.size)); clear hb7))
          all_goals
            have V6 := hid (V5.out.below BY.out hvW)
            have O6 := hid (O5.out.below BY.out (by omega))
            have BL6 := hid (BL5.out.trans (BY.out.mono (by omega)))
            have T6 := hid (T2.out.below BL6.out hRg hNg)
            have BB6 := hid (B2.out.trans (BL6.out.mono HGB.out))
            have hvW6 := V6.out.lt
            have hgW6 := O6.out.lt
            clear AM BN BX c0 c1 c2 c3 c4 c5 c6 c7 c8 c9 c10 v0 v1 v2 v3 v4 fzo
            have c0 : w7.cell? ⟨g, 0, none⟩ = some (.int .i64 o.t) := O6.out.cell 0
            have c1 : w7.cell? ⟨g, 1, none⟩ = some (.bool o.p) := O6.out.cell 1
            have c2 : w7.cell? ⟨g, 2, none⟩ = some (.bool o.cr) := O6.out.cell 2
            have c3 : w7.cell? ⟨g, 3, none⟩ = some (.int .i64 0) := O6.out.cell 3
            have c4 : w7.cell? ⟨g, 4, none⟩ = some (.int .i64 0) := O6.out.cell 4
            have c5 : w7.cell? ⟨g, 5, none⟩ = some (.int .i64 0) := O6.out.cell 5
            have c6 : w7.cell? ⟨g, 6, none⟩ = some (.int .i64 0) := O6.out.cell 6
            have c7 : w7.cell? ⟨g, 7, none⟩ = some (.bool o.ba) := O6.out.cell 7
            have c8 : w7.cell? ⟨g, 8, none⟩ = some (.int .i64 o.fo) := O6.out.cell 8
            have c9 : w7.cell? ⟨g, 9, none⟩ = some (.int .i64 o.re) := O6.out.cell 9
            have c10 : w7.cell? ⟨g, 10, none⟩ = some (.int .i64 o.la) := O6.out.cell 10
            have v0 : w7.cell? ⟨vb, 0, none⟩ = some (.string nm) := V6.out.cell 0
            have v1 : w7.cell? ⟨vb, 1, none⟩ = some (.int .i64 (kdV v)) := V6.out.cell 1
            have v2 : w7.cell? ⟨vb, 2, none⟩ = some (.int .i64 (nuV v)) := V6.out.cell 2
            have v3 : w7.cell? ⟨vb, 3, none⟩ = some (.string (sxV v)) := V6.out.cell 3
            have v4 : w7.cell? ⟨vb, 4, none⟩ = some (.bool (blV v)) := V6.out.cell 4
            have fzo : ∀ i, w7.frozen? ⟨g, i, none⟩ = false := O6.out.frozen
            have TR := hid T6.out.r
            have TN := hid T6.out.n
            have r0 : w7.cell? ⟨R, 0, none⟩ = some (.int .i64 0) := TR.out.cell 0
            have r1 : w7.cell? ⟨R, 1, none⟩ = some (.bool false) := TR.out.cell 1
            have r2 : w7.cell? ⟨R, 2, none⟩ = some (.bool false) := TR.out.cell 2
            have r3 : w7.cell? ⟨R, 3, none⟩ = some (.int .i64 0) := TR.out.cell 3
            have r4 : w7.cell? ⟨R, 4, none⟩ = some (.int .i64 0) := TR.out.cell 4
            have r5 : w7.cell? ⟨R, 5, none⟩ = some (.int .i64 0) := TR.out.cell 5
            have r6 : w7.cell? ⟨R, 6, none⟩ = some (.int .i64 0) := TR.out.cell 6
            have r7 : w7.cell? ⟨R, 7, none⟩ = some (.bool false) := TR.out.cell 7
            have r8 : w7.cell? ⟨R, 8, none⟩ = some (.int .i64 0) := TR.out.cell 8
            have r9 : w7.cell? ⟨R, 9, none⟩ = some (.int .i64 0) := TR.out.cell 9
            have r10 : w7.cell? ⟨R, 10, none⟩ = some (.int .i64 0) := TR.out.cell 10
            have n0 : w7.cell? ⟨N, 0, none⟩ = some (.int .i64 0) := TN.out.cell 0
            have n1 : w7.cell? ⟨N, 1, none⟩ = some (.bool false) := TN.out.cell 1
            have n2 : w7.cell? ⟨N, 2, none⟩ = some (.bool false) := TN.out.cell 2
            have n3 : w7.cell? ⟨N, 3, none⟩ = some (.int .i64 0) := TN.out.cell 3
            have n4 : w7.cell? ⟨N, 4, none⟩ = some (.int .i64 0) := TN.out.cell 4
            have n5 : w7.cell? ⟨N, 5, none⟩ = some (.int .i64 0) := TN.out.cell 5
            have n6 : w7.cell? ⟨N, 6, none⟩ = some (.int .i64 0) := TN.out.cell 6
            have n7 : w7.cell? ⟨N, 7, none⟩ = some (.bool false) := TN.out.cell 7
            have n8 : w7.cell? ⟨N, 8, none⟩ = some (.int .i64 0) := TN.out.cell 8
            have n9 : w7.cell? ⟨N, 9, none⟩ = some (.int .i64 0) := TN.out.cell 9
            have n10 : w7.cell? ⟨N, 10, none⟩ = some (.int .i64 0) := TN.out.cell 10
            have fzr : ∀ i, w7.frozen? ⟨R, i, none⟩ = false := TR.out.frozen
            have hRw := TR.out.lt
            have hNw := TN.out.lt
            by_cases h3 : nv < 0
            · have d3 : decide (nv < 0) = true := decide_eq_true h3
              have HZ := hid (show ordP s = none from by rw [HO2.out, HN.out.1 (HST.out.trans (HS.out.trans (if_pos h3)))])
              clear h3
              go_wp2_with fail
              refine bodyPost_ret (v := .tuple #[odV odZ, .bool false]) (by simp [results, Try.results16, go_sem, odV, odZ, r0, r1, r2, r3, r4, r5, r6, r7, r8, r9, r10]) rfl (ro_none HZ.out ?_)
              repeat' (refine Below.setCell ?_ (show W.heap.size ≤ R from HB0.out) _)
              repeat' (refine Below.setCell ?_ (show W.heap.size ≤ g from HGB.out) _)
              exact BB6.out
            · have d3 : decide (nv < 0) = false := decide_eq_false h3
              have HP := hid (HN.out.2 _ (HST.out.trans (HS.out.trans (if_neg h3))))
              have O7 := hid (O6.out.set_ 10 (.int .i64 (nv - 1)))
              have BL7 := hid (BL6.out.setCell (p := ⟨g, 10, none⟩) (Nat.le_refl g) (.int .i64 (nv - 1)))
              clear h3
              go_wp2_with fail
              go_roundw
              case rel => exact ⟨j + 1, { o with la := nv - 1 }, by omega, by go_num, rfl, rfl, rfl, rfl, O7, BL7, HP⟩
              case measure => simp [intOf]; omega
        · have f0 : (nm.toList == [116, 117, 114, 110]) = false := (nmK_facts nm 0 (by decide)).trans (by rw [hk]; rfl)
          have f1 : (nm.toList == [112, 101, 114, 102, 101, 99, 116]) = false := (nmK_facts nm 1 (by decide)).trans (by rw [hk]; rfl)
          have f2 : (nm.toList == [98, 97, 114, 101]) = false := (nmK_facts nm 2 (by decide)).trans (by rw [hk]; rfl)
          have f3 : (nm.toList == [120]) = false := (nmK_facts nm 3 (by decide)).trans (by rw [hk]; rfl)
          have f4 : (nm.toList == [121]) = false := (nmK_facts nm 4 (by decide)).trans (by rw [hk]; rfl)
          have f5 : (nm.toList == [119]) = false := (nmK_facts nm 5 (by decide)).trans (by rw [hk]; rfl)
          have f6 : (nm.toList == [104]) = false := (nmK_facts nm 6 (by decide)).trans (by rw [hk]; rfl)
          have f7 : (nm.toList == [102, 111, 114, 109]) = false := (nmK_facts nm 7 (by decide)).trans (by rw [hk]; rfl)
          have f8 : (nm.toList == [114, 101, 115, 116, 97, 114, 116]) = false := (nmK_facts nm 8 (by decide)).trans (by rw [hk]; rfl)
          have f9 : (nm.toList == [108, 97, 99, 101]) = false := (nmK_facts nm 9 (by decide)).trans (by rw [hk]; rfl)
          clear hk hle hb
          have HZ := hid (show ordP s = none from by rw [HO2.out, HN.out.1 (HST.out.trans rfl)])
          have T5 := hid (T2.out.below BL5.out hRg hNg)
          have BB5 := hid (B2.out.trans (BL5.out.mono HGB.out))
          have c0 : w5.cell? ⟨g, 0, none⟩ = some (.int .i64 o.t) := O5.out.cell 0
          have c1 : w5.cell? ⟨g, 1, none⟩ = some (.bool o.p) := O5.out.cell 1
          have c2 : w5.cell? ⟨g, 2, none⟩ = some (.bool o.cr) := O5.out.cell 2
          have c3 : w5.cell? ⟨g, 3, none⟩ = some (.int .i64 0) := O5.out.cell 3
          have c4 : w5.cell? ⟨g, 4, none⟩ = some (.int .i64 0) := O5.out.cell 4
          have c5 : w5.cell? ⟨g, 5, none⟩ = some (.int .i64 0) := O5.out.cell 5
          have c6 : w5.cell? ⟨g, 6, none⟩ = some (.int .i64 0) := O5.out.cell 6
          have c7 : w5.cell? ⟨g, 7, none⟩ = some (.bool o.ba) := O5.out.cell 7
          have c8 : w5.cell? ⟨g, 8, none⟩ = some (.int .i64 o.fo) := O5.out.cell 8
          have c9 : w5.cell? ⟨g, 9, none⟩ = some (.int .i64 o.re) := O5.out.cell 9
          have c10 : w5.cell? ⟨g, 10, none⟩ = some (.int .i64 o.la) := O5.out.cell 10
          have v0 : w5.cell? ⟨vb, 0, none⟩ = some (.string nm) := V5.out.cell 0
          have v1 : w5.cell? ⟨vb, 1, none⟩ = some (.int .i64 (kdV v)) := V5.out.cell 1
          have v2 : w5.cell? ⟨vb, 2, none⟩ = some (.int .i64 (nuV v)) := V5.out.cell 2
          have v3 : w5.cell? ⟨vb, 3, none⟩ = some (.string (sxV v)) := V5.out.cell 3
          have v4 : w5.cell? ⟨vb, 4, none⟩ = some (.bool (blV v)) := V5.out.cell 4
          have fzo : ∀ i, w5.frozen? ⟨g, i, none⟩ = false := O5.out.frozen
          have TR := hid T5.out.r
          have TN := hid T5.out.n
          have r0 : w5.cell? ⟨R, 0, none⟩ = some (.int .i64 0) := TR.out.cell 0
          have r1 : w5.cell? ⟨R, 1, none⟩ = some (.bool false) := TR.out.cell 1
          have r2 : w5.cell? ⟨R, 2, none⟩ = some (.bool false) := TR.out.cell 2
          have r3 : w5.cell? ⟨R, 3, none⟩ = some (.int .i64 0) := TR.out.cell 3
          have r4 : w5.cell? ⟨R, 4, none⟩ = some (.int .i64 0) := TR.out.cell 4
          have r5 : w5.cell? ⟨R, 5, none⟩ = some (.int .i64 0) := TR.out.cell 5
          have r6 : w5.cell? ⟨R, 6, none⟩ = some (.int .i64 0) := TR.out.cell 6
          have r7 : w5.cell? ⟨R, 7, none⟩ = some (.bool false) := TR.out.cell 7
          have r8 : w5.cell? ⟨R, 8, none⟩ = some (.int .i64 0) := TR.out.cell 8
          have r9 : w5.cell? ⟨R, 9, none⟩ = some (.int .i64 0) := TR.out.cell 9
          have r10 : w5.cell? ⟨R, 10, none⟩ = some (.int .i64 0) := TR.out.cell 10
          have n0 : w5.cell? ⟨N, 0, none⟩ = some (.int .i64 0) := TN.out.cell 0
          have n1 : w5.cell? ⟨N, 1, none⟩ = some (.bool false) := TN.out.cell 1
          have n2 : w5.cell? ⟨N, 2, none⟩ = some (.bool false) := TN.out.cell 2
          have n3 : w5.cell? ⟨N, 3, none⟩ = some (.int .i64 0) := TN.out.cell 3
          have n4 : w5.cell? ⟨N, 4, none⟩ = some (.int .i64 0) := TN.out.cell 4
          have n5 : w5.cell? ⟨N, 5, none⟩ = some (.int .i64 0) := TN.out.cell 5
          have n6 : w5.cell? ⟨N, 6, none⟩ = some (.int .i64 0) := TN.out.cell 6
          have n7 : w5.cell? ⟨N, 7, none⟩ = some (.bool false) := TN.out.cell 7
          have n8 : w5.cell? ⟨N, 8, none⟩ = some (.int .i64 0) := TN.out.cell 8
          have n9 : w5.cell? ⟨N, 9, none⟩ = some (.int .i64 0) := TN.out.cell 9
          have n10 : w5.cell? ⟨N, 10, none⟩ = some (.int .i64 0) := TN.out.cell 10
          have fzr : ∀ i, w5.frozen? ⟨R, i, none⟩ = false := TR.out.frozen
          have hRw := TR.out.lt
          have hNw := TN.out.lt
          go_wp2_with fail
          refine bodyPost_ret (v := .tuple #[odV odZ, .bool false]) (by simp [results, Try.results16, go_sem, odV, odZ, r0, r1, r2, r3, r4, r5, r6, r7, r8, r9, r10]) rfl (ro_none HZ.out ?_)
          repeat' (refine Below.setCell ?_ (show W.heap.size ≤ R from HB0.out) _)
          exact BB5.out
      · have dd1 : decide (j < L.length) = false := decide_eq_false hlt
        have dd2 : decide ((j : Int) < (L.length : Int)) = false := decide_eq_false (by omega)
        have HF2 := hid (show ordF L od0 = some o from by have := HF.out; rw [List.drop_eq_nil_of_le (by omega)] at this; exact this.symm)
        have HS := hid (show ordP s = some (finO o) from by rw [HO2.out, HF2.out])
        have c0 : wr.cell? ⟨g, 0, none⟩ = some (.int .i64 o.t) := O.out.cell 0
        have c1 : wr.cell? ⟨g, 1, none⟩ = some (.bool o.p) := O.out.cell 1
        have c2 : wr.cell? ⟨g, 2, none⟩ = some (.bool o.cr) := O.out.cell 2
        have c3 : wr.cell? ⟨g, 3, none⟩ = some (.int .i64 0) := O.out.cell 3
        have c4 : wr.cell? ⟨g, 4, none⟩ = some (.int .i64 0) := O.out.cell 4
        have c5 : wr.cell? ⟨g, 5, none⟩ = some (.int .i64 0) := O.out.cell 5
        have c6 : wr.cell? ⟨g, 6, none⟩ = some (.int .i64 0) := O.out.cell 6
        have c7 : wr.cell? ⟨g, 7, none⟩ = some (.bool o.ba) := O.out.cell 7
        have c8 : wr.cell? ⟨g, 8, none⟩ = some (.int .i64 o.fo) := O.out.cell 8
        have c9 : wr.cell? ⟨g, 9, none⟩ = some (.int .i64 o.re) := O.out.cell 9
        have c10 : wr.cell? ⟨g, 10, none⟩ = some (.int .i64 o.la) := O.out.cell 10
        have TR := hid TT.out.r
        have TN := hid TT.out.n
        have r0 : wr.cell? ⟨R, 0, none⟩ = some (.int .i64 0) := TR.out.cell 0
        have r1 : wr.cell? ⟨R, 1, none⟩ = some (.bool false) := TR.out.cell 1
        have r2 : wr.cell? ⟨R, 2, none⟩ = some (.bool false) := TR.out.cell 2
        have r3 : wr.cell? ⟨R, 3, none⟩ = some (.int .i64 0) := TR.out.cell 3
        have r4 : wr.cell? ⟨R, 4, none⟩ = some (.int .i64 0) := TR.out.cell 4
        have r5 : wr.cell? ⟨R, 5, none⟩ = some (.int .i64 0) := TR.out.cell 5
        have r6 : wr.cell? ⟨R, 6, none⟩ = some (.int .i64 0) := TR.out.cell 6
        have r7 : wr.cell? ⟨R, 7, none⟩ = some (.bool false) := TR.out.cell 7
        have r8 : wr.cell? ⟨R, 8, none⟩ = some (.int .i64 0) := TR.out.cell 8
        have r9 : wr.cell? ⟨R, 9, none⟩ = some (.int .i64 0) := TR.out.cell 9
        have r10 : wr.cell? ⟨R, 10, none⟩ = some (.int .i64 0) := TR.out.cell 10
        have n0 : wr.cell? ⟨N, 0, none⟩ = some (.int .i64 0) := TN.out.cell 0
        have n1 : wr.cell? ⟨N, 1, none⟩ = some (.bool false) := TN.out.cell 1
        have n2 : wr.cell? ⟨N, 2, none⟩ = some (.bool false) := TN.out.cell 2
        have n3 : wr.cell? ⟨N, 3, none⟩ = some (.int .i64 0) := TN.out.cell 3
        have n4 : wr.cell? ⟨N, 4, none⟩ = some (.int .i64 0) := TN.out.cell 4
        have n5 : wr.cell? ⟨N, 5, none⟩ = some (.int .i64 0) := TN.out.cell 5
        have n6 : wr.cell? ⟨N, 6, none⟩ = some (.int .i64 0) := TN.out.cell 6
        have n7 : wr.cell? ⟨N, 7, none⟩ = some (.bool false) := TN.out.cell 7
        have n8 : wr.cell? ⟨N, 8, none⟩ = some (.int .i64 0) := TN.out.cell 8
        have n9 : wr.cell? ⟨N, 9, none⟩ = some (.int .i64 0) := TN.out.cell 9
        have n10 : wr.cell? ⟨N, 10, none⟩ = some (.int .i64 0) := TN.out.cell 10
        have fzr : ∀ i, wr.frozen? ⟨R, i, none⟩ = false := TR.out.frozen
        have hRw := TR.out.lt
        have hNw := TN.out.lt
        have fzo : ∀ i, wr.frozen? ⟨g, i, none⟩ = false := O.out.frozen
        cases hcr : o.cr with
        | true =>
          rw [hcr] at c2
          have HV := hid (show odV (finO o) = .agg #[.int .i64 o.t, .bool o.p, .bool true, .int .i64 o.x, .int .i64 o.y, .int .i64 o.w, .int .i64 o.h, .bool o.ba, .int .i64 o.fo, .int .i64 o.re, .int .i64 o.la] from by unfold finO; rw [if_pos hcr]; unfold odV; rw [hcr])
          clear hcr
          go_wp2_with fail
          refine bodyPost_ret (v := .tuple #[odV (finO o), .bool true]) (by rw [HV.out]; simp [results, Try.results16, go_sem, r0, r1, r2, r3, r4, r5, r6, r7, r8, r9, r10]) rfl (ro_some HS.out ?_)
          repeat' (refine Below.setCell ?_ (show W.heap.size ≤ R from HB0.out) _)
          repeat' (refine Below.setCell ?_ (show W.heap.size ≤ g from HGB.out) _)
          exact BB.out
        | false =>
          rw [hcr] at c2
          have HV := hid (show odV (finO o) = .agg #[.int .i64 o.t, .bool o.p, .bool false, .int .i64 0, .int .i64 0, .int .i64 0, .int .i64 0, .bool o.ba, .int .i64 o.fo, .int .i64 o.re, .int .i64 o.la] from by unfold finO; rw [if_neg (by rw [hcr]; decide)]; unfold odV; rw [hcr])
          clear hcr
          go_wp2_with fail
          refine bodyPost_ret (v := .tuple #[odV (finO o), .bool true]) (by rw [HV.out]; simp [results, Try.results16, go_sem, r0, r1, r2, r3, r4, r5, r6, r7, r8, r9, r10]) rfl (ro_some HS.out ?_)
          repeat' (refine Below.setCell ?_ (show W.heap.size ≤ R from HB0.out) _)
          exact BB.out
end Go.Proofs.Ytegmbjkpjglgpaa
