/-
  burnishref05.table and Best, walked.
-/
import Derived.Test.YthhllollhjpheaaMgM
import Derived.Test.YthhllollhjpheaaMgL
namespace Go.Proofs.Ythhllollhjpheaa
open Go.RowKit Mg

def valRow (n : Nat) (f : Nat → Value) : Array Value := ((List.range n).map f).toArray
theorem valRow_at (n : Nat) (f : Nat → Value) {k : Nat} (h : k < n) : (valRow n f)[k]? = some (f k) := by
  simp [valRow, h]
theorem valRow_set (n : Nat) (f f' : Nat → Value) (s : Nat) (v : Value) (hs : f' s = v) (h : ∀ k, k ≠ s → f' k = f k) : (valRow n f).setIfInBounds s v = valRow n f' := by
  unfold valRow
  rw [List.setIfInBounds_toArray]
  congr 1
  apply List.ext_getElem?
  intro k
  rw [List.getElem?_set]
  by_cases e : s = k
  · subst e
    rw [if_pos rfl]
    by_cases hk : s < n
    · simp [hk, hs]
    · simp [hk]
  · rw [if_neg e]
    by_cases hk : k < n
    · simp [hk, h k (fun h => e h.symm)]
    · simp [hk]
theorem intRow_congr (n : Nat) (f f' : Nat → Int) (h : ∀ k, k < n → f k = f' k) : intRow n f = intRow n f' := by
  unfold intRow
  congr 1
  exact List.map_congr_left fun k hk => by rw [h k (List.mem_range.1 hk)]
theorem valRow_congr (n : Nat) (f f' : Nat → Value) (h : ∀ k, k < n → f k = f' k) : valRow n f = valRow n f' := by
  unfold valRow
  congr 1
  exact List.map_congr_left fun k hk => by rw [h k (List.mem_range.1 hk)]
/-- a table of numbers in memory, its rows in the blocks behind it -/
structure TabW (w : World) (g m : Nat) (T : Tab) : Prop where
  top : Blk w g 48 (valRow (m + 1) fun i => .slice (some ⟨g + 1 + i, 0, none⟩) (m + 2) (m + 2))
  row : ∀ i, i ≤ m → Blk w (g + 1 + i) 3 (intRow (m + 2) (T i))
section
variable {w w' : World} {g m : Nat} {T : Tab}
theorem TabW.below {C : Nat} (h : TabW w g m T) (hb : Below C w w') (hC : g + 1 + m < C) : TabW w' g m T :=
  ⟨h.top.below hb (by omega), fun i hi => (h.row i hi).below hb (by omega)⟩
theorem TabW.far (h : TabW w g m T) {p : Addr} (hp : p.block < g ∨ g + 1 + m < p.block) (u : Value) : TabW (w.setCell p u) g m T :=
  ⟨h.top.far (by omega) u, fun i hi => (h.row i hi).far (by omega) u⟩
theorem TabW.put (h : TabW w g m T) {i n : Nat} (hi : i ≤ m) (c : Int) : TabW (w.setCell ⟨g + 1 + i, n, none⟩ (.int .i64 c)) g m (set2 T i n c) := by
  refine ⟨h.top.far (by show g ≠ g + 1 + i; omega) _, fun j hj => ?_⟩
  by_cases e : j = i
  · subst e
    have h1 := (h.row j hj).set_ n (.int .i64 c)
    rw [intRow_set (m + 2) (T j) (set2 T j n c j) n c (by unfold set2; rw [if_pos ⟨rfl, rfl⟩]) (fun k hk => by unfold set2; rw [if_neg (fun h => hk h.2)])] at h1
    exact h1
  · have h1 := (h.row j hj).far (p := ⟨g + 1 + i, n, none⟩) (by show g + 1 + j ≠ g + 1 + i; omega) (.int .i64 c)
    have e2 : intRow (m + 2) (set2 T i n c j) = intRow (m + 2) (T j) := intRow_congr _ _ _ fun k _ => by unfold set2; rw [if_neg (fun h => e h.1)]
    rw [e2]
    exact h1
theorem TabW.at_ (h : TabW w g m T) {i n : Nat} (hi : i ≤ m) (hn : n < m + 2) : w.cell? ⟨g, i, none⟩ = some (.slice (some ⟨g + 1 + i, 0, none⟩) (m + 2) (m + 2)) ∧ w.cell? ⟨g + 1 + i, n, none⟩ = some (.int .i64 (T i n)) := by
  constructor
  · rw [h.top.cell, valRow_at _ _ (by omega)]
  · rw [(h.row i hi).cell, intRow_at _ _ _ hn]
end
theorem ints_info : (Try.prog.info? 48).map (fun i => (i.zero, i.size, i.bytes)) = some (some (.slice none 0 0), 1, 24) := by kernel_rfl
theorem make_ints (n : Nat) (hn : n ≤ 1000000) : ∀ w : World, (Instr.makeSlice 48 (.int .i64 (n : Int)) (.int .i64 (n : Int))).run Try.prog w = .ok (.slice (some ⟨w.heap.size, 0, none⟩) n n) (w.alloc (.cells (intRow n fun _ => 0) 3)) := by
  intro w
  obtain ⟨i0, hi0, hz0, hz1, hz2⟩ := info_parts int_info
  have h := run_make (P := Try.prog) w 48 3 i0 (.int .i64 0) Try.underlying48 hi0 hz0 .i64 .i64 (n : Int) (n : Int) (by omega) (by omega) (by rw [hz2]; omega) (by omega)
  rw [hz1, made_list _ _ rfl] at h
  have e : (List.replicate n (Value.int .i64 0)).toArray = intRow n fun _ => 0 := by
    unfold intRow
    simp [List.map_const']
  rw [← e]
  exact h
theorem make_rows (n : Nat) (hn : n ≤ 1000000) : ∀ w : World, (Instr.makeSlice 99 (.int .i64 (n : Int)) (.int .i64 (n : Int))).run Try.prog w = .ok (.slice (some ⟨w.heap.size, 0, none⟩) n n) (w.alloc (.cells (valRow n fun _ => .slice none 0 0) 48)) := by
  intro w
  obtain ⟨i0, hi0, hz0, hz1, hz2⟩ := info_parts ints_info
  have h := run_make (P := Try.prog) w 99 48 i0 (.slice none 0 0) Try.underlying99 hi0 hz0 .i64 .i64 (n : Int) (n : Int) (by omega) (by omega) (by rw [hz2]; omega) (by omega)
  rw [hz1, made_list _ _ rfl] at h
  have e : (List.replicate n (Value.slice none 0 0)).toArray = valRow n fun _ => .slice none 0 0 := by
    unfold valRow
    simp [List.map_const']
  rw [← e]
  exact h
set_option maxRecDepth 100000 in
set_option maxHeartbeats 2000000 in
theorem table_any (m : Nat) (hm : m ≤ 300) (W : World) :
    Calls Try.prog 49 #[.int .i64 (m : Int), .int .i64 (-1)] W fun e w' => e = .returned (.slice (some ⟨W.heap.size, 0, none⟩) (m + 1) (m + 1)) ∧ TabW w' W.heap.size m none2M ∧ Below W.heap.size W w' := by
  obtain ⟨N1, hN1⟩ : ∃ N1, N1 = m + 1 := ⟨_, rfl⟩
  obtain ⟨N2, hN2⟩ : ∃ N2, N2 = m + 2 := ⟨_, rfl⟩
  have t1 : IntKind.i64.wrap ((m : Int) + 1) = (N1 : Int) := (IntWalk.i64_in _ (by omega)).trans (by omega)
  have t2 : IntKind.i64.wrap ((m : Int) + 2) = (N2 : Int) := (IntWalk.i64_in _ (by omega)).trans (by omega)
  have mk1 := make_rows N1 (by omega)
  have mk2 := make_ints N2 (by omega)
  have Mk1 := hid mk1
  have Mk2 := hid mk2
  have hb1 : N1 ≤ 1000 := by omega
  have hb2 : N2 ≤ 1000 := by omega
  have H1 := hid hN1
  have H2 := hid hN2
  rw [← hN1]
  clear hN1 hN2 mk1 mk2
  obtain ⟨g, hg⟩ : ∃ g, g = W.heap.size := ⟨_, rfl⟩
  have Hg := hid hg
  go_enter Try.func49, Try.ntmps49
  have mk1 := Mk1.out
  go_upto_region 3 with (fail)
  clear mk1
  rw [← hg]
  have G0 := hid (show Blk (W.alloc (.cells (valRow N1 fun _ => .slice none 0 0) 48)) g 48 (valRow N1 fun _ => .slice none 0 0) from by rw [hg]; exact Blk.new _ _ _)
  have S0 := hid (show (W.alloc (.cells (valRow N1 fun _ => .slice none 0 0) 48)).heap.size = g + 1 from by rw [World.size_alloc, hg])
  have B0 := hid (show Below g W (W.alloc (.cells (valRow N1 fun _ => .slice none 0 0) 48)) from (Below.refl _ _).alloc (by omega) _)
  generalize W.alloc (.cells (valRow N1 fun _ => .slice none 0 0) 48) = w1 at *
  clear hg
  go_loopw [13] (fun i wr => ∃ j : Nat, j ≤ N1 ∧ i = .int .i64 j ∧ Hid (wr.heap.size = g + 1 + j) ∧ Blk wr g 48 (valRow N1 fun i => if i < j then .slice (some ⟨g + 1 + i, 0, none⟩) N2 N2 else .slice none 0 0) ∧ (∀ i, i < j → Blk wr (g + 1 + i) 3 (intRow N2 fun _ => -1)) ∧ Below g W wr) (fun i _ => N1 - (intOf i).toNat)
  case atStart => exact ⟨0, by omega, rfl, S0, by simpa using G0.out, fun i hi => (by omega), B0.out⟩
  case round =>
    obtain ⟨j, hj, rfl, hS, hT, hR, hB⟩ := hrel
    have T := hid hT
    have R := hid hR
    have B := hid hB
    clear hT hR hB
    by_cases hlt : j < N1
    · have d1 : decide (j < N1) = true := decide_eq_true hlt
      have mk2 := Mk2.out
      have fz : (wr.alloc (.cells (intRow N2 fun _ => 0) 3)).frozen? ⟨g, j, none⟩ = false := (T.out.alloc _).frozen j
      have hgw := (T.out.alloc (.cells (intRow N2 fun _ => 0) 3)).lt
      have xc : (wr.alloc (.cells (intRow N2 fun _ => 0) 3)).cell? ⟨g, j, none⟩ = some (.slice none 0 0) := by
        rw [(T.out.alloc _).cell, valRow_at _ _ hlt, if_neg (by omega)]
      go_upto_region 6 with (fail)
      clear mk2 fz hgw xc
      obtain ⟨b, hb⟩ : ∃ b, b = wr.heap.size := ⟨_, rfl⟩
      have Eb := hid (show b = g + 1 + j from hb.trans hS.out)
      rw [← hb]
      have V0 := hid (show Blk ((wr.alloc (.cells (intRow N2 fun _ => 0) 3)).setCell ⟨g, j, none⟩ (.slice (some ⟨b, 0, none⟩) N2 N2)) g 48 (valRow N1 fun i => if i < j + 1 then .slice (some ⟨g + 1 + i, 0, none⟩) N2 N2 else .slice none 0 0) from by
        have h := (T.out.alloc (.cells (intRow N2 fun _ => 0) 3)).set_ j (.slice (some ⟨b, 0, none⟩) N2 N2)
        rw [valRow_set N1 _ (fun i => if i < j + 1 then .slice (some ⟨g + 1 + i, 0, none⟩) N2 N2 else .slice none 0 0) j _ (by rw [if_pos (by omega), Eb.out]) (fun k hk => by
          by_cases h1 : k < j
          · rw [if_pos h1, if_pos (by omega)]
          · rw [if_neg h1, if_neg (by omega)])] at h
        exact h)
      have V1 := hid (show ∀ i, i < j → Blk ((wr.alloc (.cells (intRow N2 fun _ => 0) 3)).setCell ⟨g, j, none⟩ (.slice (some ⟨b, 0, none⟩) N2 N2)) (g + 1 + i) 3 (intRow N2 fun _ => -1) from fun i hi => ((R.out i hi).alloc _).far (by show g + 1 + i ≠ g; omega) _)
      have V2 := hid (show Blk ((wr.alloc (.cells (intRow N2 fun _ => 0) 3)).setCell ⟨g, j, none⟩ (.slice (some ⟨b, 0, none⟩) N2 N2)) b 3 (intRow N2 fun _ => 0) from by
        have hgb : b ≠ g := by have := Eb.out; omega
        rw [hb]
        rw [hb] at hgb
        exact (Blk.new _ _ _).far hgb _)
      have V3 := hid (show ((wr.alloc (.cells (intRow N2 fun _ => 0) 3)).setCell ⟨g, j, none⟩ (.slice (some ⟨b, 0, none⟩) N2 N2)).heap.size = b + 1 from by
        rw [hb]
        simp [World.setCell])
      have V4 := hid (show Below g W ((wr.alloc (.cells (intRow N2 fun _ => 0) 3)).setCell ⟨g, j, none⟩ (.slice (some ⟨b, 0, none⟩) N2 N2)) from (B.out.alloc (by have := hS.out; omega) _).setCell (by show g ≤ g; omega) _)
      generalize (wr.alloc (.cells (intRow N2 fun _ => 0) 3)).setCell ⟨g, j, none⟩ (.slice (some ⟨b, 0, none⟩) N2 N2) = wv at *
      clear hb hS
      have xt : wv.cell? ⟨g, j, none⟩ = some (.slice (some ⟨b, 0, none⟩) N2 N2) := by
        rw [V0.out.cell, valRow_at _ _ hlt, if_pos (by omega), Eb.out]
      have hgv := V0.out.lt
      go_upto_region 7 with (fail)
      clear xt hgv
      go_loopw [27] (fun i wr => ∃ k : Nat, k ≤ N2 ∧ i = .int .i64 k ∧ wv.grownBy wr (some b) ∧ Blk wr b 3 (intRow N2 fun x => if x < k then -1 else 0) ∧ Hid (wr.heap.size = b + 1)) (fun i _ => N2 - (intOf i).toNat)
      case atStart => exact ⟨0, by omega, rfl, World.grownBy.refl _ _, by simpa using V2.out, V3⟩
      case round =>
        obtain ⟨k, hk, rfl, hG, hK, hS⟩ := hrel
        have G := hid hG
        have K := hid hK
        clear hG hK
        by_cases hlt2 : k < N2
        · have d2 : decide (k < N2) = true := decide_eq_true hlt2
          have T2 := V0.out.grown G.out (by have := Eb.out; simp; omega)
          have xt : wr.cell? ⟨g, j, none⟩ = some (.slice (some ⟨b, 0, none⟩) N2 N2) := by
            rw [T2.cell, valRow_at _ _ hlt, if_pos (by omega), Eb.out]
          have hgw := T2.lt
          have xk : wr.cell? ⟨b, k, none⟩ = some (.int .i64 0) := by
            rw [K.out.cell, intRow_at _ _ _ hlt2, if_neg (by omega)]
          have fz := K.out.frozen k
          have hbw := K.out.lt
          have K2 := hid (show Blk (wr.setCell ⟨b, k, none⟩ (.int .i64 (-1))) b 3 (intRow N2 fun x => if x < k + 1 then -1 else 0) from by
            have h := K.out.set_ k (.int .i64 (-1))
            rw [intRow_set N2 _ (fun x => if x < k + 1 then -1 else 0) k _ (by rw [if_pos (by omega)]) (fun x hx => by
              by_cases h1 : x < k
              · rw [if_pos h1, if_pos (by omega)]
              · rw [if_neg h1, if_neg (by omega)])] at h
            exact h)
          clear T2
          go_wp2
          go_roundw
          case rel => exact ⟨k + 1, by omega, by go_num, grown_set1 G.out _ _, K2.out, hid (by rw [← hS.out]; simp [World.setCell])⟩
          case measure => simp [intOf]; omega
        · have d2 : decide (k < N2) = false := decide_eq_false hlt2
          obtain rfl : k = N2 := by omega
          have K2 := hid (show Blk wr b 3 (intRow k fun _ => -1) from by
            have h := K.out
            rw [intRow_congr k _ (fun _ => -1) (fun x hx => by rw [if_pos hx])] at h
            exact h)
          go_wp2
          go_roundw
          case rel =>
            refine ⟨j + 1, by omega, by go_num, hid (by rw [hS.out, Eb.out]; omega), V0.out.grown G.out (by have := Eb.out; simp; omega), fun i hi => ?_, ?_⟩
            · by_cases e : i = j
              · subst e
                have := K2.out
                rwa [Eb.out] at this
              · exact (V1.out i (by omega)).grown G.out (by have := Eb.out; simp; omega)
            · exact V4.out.grown G.out (by have := V3.out; have := Eb.out; omega) (fun x hx => by injection hx with hx; have := Eb.out; omega)
          case measure => simp [intOf]; omega
    · have d1 : decide (j < N1) = false := decide_eq_false hlt
      obtain rfl : j = N1 := by omega
      have RR := hid (show TabW wr W.heap.size m none2M ∧ Below W.heap.size W wr from by
        have hg := Hg.out
        rw [← hg]
        refine ⟨⟨?_, fun i hi => ?_⟩, B.out⟩
        · have h := T.out
          rw [valRow_congr j _ (fun i => .slice (some ⟨g + 1 + i, 0, none⟩) (m + 2) (m + 2)) (fun x hx => by rw [if_pos hx, H2.out])] at h
          rw [← H1.out]
          exact h
        · have h := R.out i (by have := H1.out; omega)
          rw [H2.out] at h
          exact h)
      go_wp2
      go_ret
      exact ⟨by rw [Hg.out]; rfl, RR.out⟩
end Go.Proofs.Ythhllollhjpheaa
