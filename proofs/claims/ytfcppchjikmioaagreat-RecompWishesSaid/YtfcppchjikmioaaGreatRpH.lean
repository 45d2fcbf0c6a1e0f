/-
  (*strings.byteStringReplacer).Replace of the two pairs: the size of what comes out.
-/
import Derived.Test.YtfcppchjikmioaaGreatRpBuf
import Derived.Deep.RegionHeld3
import Derived.BigQuiet
import Derived.Laws.Cover3
namespace Go.Proofs.YtfcppchjikmioaaGreat
open Go.RowKit

set_option maxRecDepth 100000 in
set_option maxHeartbeats 4000000 in
theorem replace_any (b B0 c : Nat) (p34 p126 : Value) (A : Option Addr) (s : ByteArray) (W : World) (hs : s.size ≤ 4194304) (hb : Blk W b 148 (bsC p34 p126 (.slice A 2 c)))
    (hX : Byt W b p34 [126, 34]) (hY : Byt W b p126 [126, 126]) (hT : W.ownsRow B0 9 1 (.slice A 2 c) 2 [.string ⟨#[126]⟩, .string ⟨#[34]⟩]) :
    Calls Tryz.prog 144 #[.pointer (some ⟨b, 0, none⟩), .string s] W fun e w' => e = .returned (.string ⟨(qL s.data.toList).toArray⟩) ∧ Below W.heap.size W w' := by
  have c256 : W.cell? ⟨b, 256, none⟩ = some (.slice A 2 c) := by rw [hb.cell 256, bsC_at _ _ _ 256 (by decide)] <;> rfl
  obtain ⟨ga, ua, hA, hga, hla, hxa, t0⟩ := own_cell hT (j := 0) (by decide)
  obtain ⟨gb, ub, hA', _, _, hxb, t1⟩ := own_cell hT (j := 1) (by decide)
  have hgg : gb = ga := by rw [hA] at hA'; injection hA' with e; injection e with e; exact e.symm
  subst hgg
  subst hA
  have eua : ua = .string ⟨#[126]⟩ := by injection hxa with e; exact e.symm
  have eub : ub = .string ⟨#[34]⟩ := by injection hxb with e; exact e.symm
  subst eua eub
  have c34 : W.cell? ⟨b, 34, none⟩ = some p34 := by rw [hb.cell 34, bsC_at _ _ _ 34 (by decide)] <;> rfl
  have c126 : W.cell? ⟨b, 126, none⟩ = some p126 := by rw [hb.cell 126, bsC_at _ _ _ 126 (by decide)] <;> rfl
  obtain ⟨gx, cx, ex, hx1, hx2, hx3⟩ := hX.at_
  obtain ⟨gy, cy, ey, hy1, hy2, hy3⟩ := hY.at_
  replace ex : p34 = .slice (some ⟨gx, 0, none⟩) 2 cx := ex
  replace ey : p126 = .slice (some ⟨gy, 0, none⟩) 2 cy := ey
  subst ex ey
  have HB := hid hb
  have HX := hid hX
  have HY := hid hY
  clear hb hX hY hT hxa hxb
  have i126 : ∀ h, ((⟨#[126]⟩ : ByteArray)[0]'h).toNat = 126 := fun _ => rfl
  have i34 : ∀ h, ((⟨#[34]⟩ : ByteArray)[0]'h).toNat = 34 := fun _ => rfl
  obtain ⟨ka, hka⟩ : ∃ k, k = Lib.countByte s.data.toList 126 := ⟨_, rfl⟩
  obtain ⟨kb, hkb⟩ : ∃ k, k = Lib.countByte s.data.toList 34 := ⟨_, rfl⟩
  have C1 := hid (fun w => hka ▸ strings_Count_one s 126 w)
  have C2 := hid (fun w => hkb ▸ strings_Count_one s 34 w)
  have HK := hid (show nQ s.data.toList = ka + kb from by rw [hka, hkb]; exact nQ_count _)
  have hks : ka + kb ≤ 4194304 := by
    have h1 := nQ_le s.data.toList
    rw [HK.out, Array.length_toList] at h1
    have h2 : s.data.size = s.size := rfl
    omega
  clear hka hkb
  obtain ⟨m, hm⟩ : ∃ m, m = ka + kb := ⟨_, rfl⟩
  have HM := hid hm
  clear hm
  go_enter Tryz.func144, Tryz.ntmps144
  go_upto_if 26 with (fail)
  go_cut [5, 6] from 8 to 80 (fun n a wq => n = .int .i64 ((s.size + m : Nat) : Int) ∧ a = .bool (decide (m ≠ 0)) ∧ Hid (∃ k, wq = W.drewN k))
  · by_cases h16 : (16 : Int) ≤ (s.size : Int)
    · have d16 : decide ((16 : Int) ≤ (s.size : Int)) = true := decide_eq_true h16
      go_upto_region 5 with (fail)
      go_loopw [5, 6, 32] (fun n a i wr => Hid (∃ k, wr = W.drewN k) ∧ ((i = .int .i64 0 ∧ n = .int .i64 s.size ∧ a = .bool false) ∨ (i = .int .i64 1 ∧ n = .int .i64 ((s.size + ka : Nat) : Int) ∧ a = .bool (decide (ka ≠ 0))) ∨ (i = .int .i64 2 ∧ n = .int .i64 ((s.size + (ka + kb) : Nat) : Int) ∧ a = .bool (decide (ka + kb ≠ 0))))) (fun _ _ i _ => 3 - (intOf i).toNat)
      case atStart => exact ⟨hid ⟨0, rfl⟩, .inl ⟨rfl, rfl, rfl⟩⟩
      case round =>
        obtain ⟨hwr, hrel⟩ := hrel
        have cells : ∀ a, wr.cell? a = W.cell? a := by obtain ⟨k, rfl⟩ := hwr.out; intro a; simp
        replace c256 := (cells _).trans c256
        replace t0 := (cells _).trans t0
        replace t1 := (cells _).trans t1
        replace c34 := (cells _).trans c34
        replace c126 := (cells _).trans c126
        clear cells
        rcases hrel with ⟨rfl, rfl, rfl⟩ | ⟨rfl, rfl, rfl⟩ | ⟨rfl, rfl, rfl⟩
        · by_cases hz : ka = 0
          · have dz : decide (ka = 0) = true := decide_eq_true hz
            subst hz
            go_wp2_with (go_at_call 146; refine (C1.out _).mono ?_; rintro e w' ⟨rfl, rfl⟩)
            exact ⟨⟨hwr, .inr (.inl ⟨rfl, by simp, by simp⟩)⟩, by simp [intOf]⟩
          · have dz : decide (ka = 0) = false := decide_eq_false hz
            have dz' : decide ((ka : Int) = 0) = false := decide_eq_false (by omega)
            go_wp2_with (go_at_call 146; refine (C1.out _).mono ?_; rintro e w' ⟨rfl, rfl⟩)
            go_quiet (fail)
            go_wp2_with fail
            go_roundw
            case rel => exact ⟨hid (by obtain ⟨k, rfl⟩ := hwr.out; exact ⟨k + nq, by simp⟩), .inr (.inl ⟨rfl, by push_cast; rfl, by simp [hz]⟩)⟩
            case measure => simp [intOf]
        · obtain ⟨fl, hfl⟩ : ∃ fl, fl = decide (ka ≠ 0) := ⟨_, rfl⟩
          rw [← hfl]
          have HF := hid hfl
          obtain ⟨nn, hnn⟩ : ∃ nn : Int, nn = ((s.size + ka : Nat) : Int) := ⟨_, rfl⟩
          rw [← hnn]
          have HN := hid hnn
          have hn1 : 0 ≤ nn := by omega
          have hn2 : nn ≤ 8388608 := by omega
          clear hfl hnn
          by_cases hz : kb = 0
          · have dz : decide (kb = 0) = true := decide_eq_true hz
            subst hz
            go_wp2_with (go_at_call 146; refine (C2.out _).mono ?_; rintro e w' ⟨rfl, rfl⟩)
            exact ⟨⟨hwr, .inr (.inr ⟨rfl, by rw [HN.out]; simp, by rw [HF.out]; simp⟩)⟩, by simp [intOf]⟩
          · have dz : decide (kb = 0) = false := decide_eq_false hz
            have dz' : decide ((kb : Int) = 0) = false := decide_eq_false (by omega)
            go_wp2_with (go_at_call 146; refine (C2.out _).mono ?_; rintro e w' ⟨rfl, rfl⟩)
            go_quiet (fail)
            go_wp2_with fail
            go_roundw
            case rel => exact ⟨hid (by obtain ⟨k, rfl⟩ := hwr.out; exact ⟨k + nq, by simp⟩), .inr (.inr ⟨rfl, by rw [HN.out]; push_cast; rw [Int.add_assoc], by simp [hz]⟩)⟩
            case measure => simp [intOf]
        · go_wp2_with fail
          go_meet
          exact ⟨by rw [HM.out], by rw [HM.out], hwr⟩
    · have d16 : decide ((16 : Int) ≤ (s.size : Int)) = false := decide_eq_false h16
      have HM2 := hid (show nQ s.data.toList = m from HK.out.trans HM.out.symm)
      clear c256 t0 t1 C1 C2 HM HK
      go_upto_region 13 with (fail)
      go_loopw [5, 6, 10] (fun n a i wr => Hid (∃ k, wr = W.drewN k) ∧ ∃ k : Nat, k ≤ s.size ∧ i = .int .i64 (k : Int) ∧ n = .int .i64 ((s.size + nQ (s.data.toList.take k) : Nat) : Int) ∧ a = .bool (decide (nQ (s.data.toList.take k) ≠ 0))) (fun _ _ i _ => s.size - (intOf i).toNat)
      case atStart => exact ⟨hid ⟨0, rfl⟩, 0, Nat.zero_le _, rfl, by simp [nQ], by simp [nQ]⟩
      case round =>
        obtain ⟨hwr, k, hk, rfl, rfl, rfl⟩ := hrel
        by_cases hlt : k < s.size
        · have dk : decide ((k : Int) < (s.size : Int)) = true := decide_eq_true (by omega)
          have hks' : k < s.data.toList.length := by rw [Array.length_toList]; exact hlt
          have hidx : s.data.toList[k]'hks' = s[k]'hlt := rfl
          have hn1 := nQ_take s.data.toList k hks'
          rw [hidx] at hn1
          have hq : ∀ i < 256, wr.cell? ⟨b, i, none⟩ = some (if i = 34 then .slice (some ⟨gx, 0, none⟩) 2 cx else if i = 126 then .slice (some ⟨gy, 0, none⟩) 2 cy else nilB) := fun i hi => by
            obtain ⟨q, rfl⟩ := hwr.out
            rw [World.cell?_drewN, HB.out.cell i, bsC_at _ _ _ i (by omega), if_neg (show ¬ i = 256 from by omega)]
          have hy256 : (s[k]'hlt).toNat < 256 := (s[k]'hlt).toNat_lt
          have hqk := hq (s[k]'hlt).toNat (by omega)
          have hle := nQ_le (s.data.toList.take k)
          have hle2 : (s.data.toList.take k).length ≤ k := List.length_take_le _ _
          by_cases e1 : s[k]'hlt = 34
          · have hv : wr.cell? ⟨b, 34, none⟩ = some (.slice (some ⟨gx, 0, none⟩) 2 cx) := hq 34 (by decide)
            rw [show isQ (s[k]'hlt) = true from by rw [e1]; rfl, if_pos rfl] at hn1
            have hne := fun w => run_neq_slice_nil (P := Tryz.prog) w 75 5 (some ⟨gx, 0, none⟩) 2 cx Tryz.underlying75
            clear hqk hq
            go_wp2_with fail
            go_roundw
            case rel => exact ⟨hwr, k + 1, hlt, by push_cast; rfl, by rw [hn1]; push_cast; rw [Int.add_assoc], by rw [hn1]; simp⟩
            case measure => simp [intOf]; omega
          by_cases e2 : s[k]'hlt = 126
          · have hv : wr.cell? ⟨b, 126, none⟩ = some (.slice (some ⟨gy, 0, none⟩) 2 cy) := hq 126 (by decide)
            rw [show isQ (s[k]'hlt) = true from by rw [e2]; rfl, if_pos rfl] at hn1
            have hne := fun w => run_neq_slice_nil (P := Tryz.prog) w 75 5 (some ⟨gy, 0, none⟩) 2 cy Tryz.underlying75
            clear hqk hq
            go_wp2_with fail
            go_roundw
            case rel => exact ⟨hwr, k + 1, hlt, by push_cast; rfl, by rw [hn1]; push_cast; rw [Int.add_assoc], by rw [hn1]; simp⟩
            case measure => simp [intOf]; omega
          · have hv : wr.cell? ⟨b, (s[k]'hlt).toNat, none⟩ = some (.slice none 0 0) := by
              have n1 : ¬ (s[k]'hlt).toNat = 34 := fun h => e1 (UInt8.toNat_inj.1 (show _ = (34 : UInt8).toNat from h))
              have n2 : ¬ (s[k]'hlt).toNat = 126 := fun h => e2 (UInt8.toNat_inj.1 (show _ = (126 : UInt8).toNat from h))
              rw [hqk, if_neg n1, if_neg n2]; rfl
            rw [show isQ (s[k]'hlt) = false from by simp [isQ, e1, e2], if_neg (by simp)] at hn1
            have hne := fun w => run_neq_slice_nil (P := Tryz.prog) w 75 5 none 0 0 Tryz.underlying75
            clear hqk hq
            go_wp2_with fail
            go_roundw
            case rel => exact ⟨hwr, k + 1, hlt, by push_cast; rfl, by rw [hn1]; rfl, by rw [hn1]; rfl⟩
            case measure => simp [intOf]; omega
        · have dk : decide ((k : Int) < (s.size : Int)) = false := decide_eq_false (by omega)
          go_wp2_with fail
          go_meet
          have ht : s.data.toList.take k = s.data.toList := List.take_of_length_le (by rw [Array.length_toList]; show s.size ≤ k; omega)
          exact ⟨by rw [ht, HM2.out], by rw [ht, HM2.out], hwr⟩
  · obtain ⟨rfl, rfl, hwc⟩ := hcut
    have HM2 := hid (show nQ s.data.toList = m from HK.out.trans HM.out.symm)
    have Bc := hid (show Below W.heap.size W wc from by obtain ⟨q, rfl⟩ := hwc.out; exact below_drewN (Below.refl _ _) q)
    by_cases hm : m = 0
    · have dm : decide (m = 0) = true := decide_eq_true hm
      subst hm
      go_wp2_with fail
      go_ret
      refine ⟨?_, Bc.out⟩
      rw [qL_id _ HM2.out, Array.toArray_toList]
      rfl
    · have dm : decide (m = 0) = false := decide_eq_false hm
      have hm1 : m ≤ 4194304 := by have := HM.out; omega
      obtain ⟨N, hN⟩ : ∃ N, N = s.size + m := ⟨_, rfl⟩
      have HN := hid hN
      have mk : ∀ w : World, (Instr.makeSlice 75 (.int .i64 ((s.size : Int) + (m : Int))) (.int .i64 ((s.size : Int) + (m : Int)))).run Tryz.prog w = .ok (.slice (some ⟨w.heap.size, 0, none⟩) N N) (w.alloc (.cells (bufV N []) 5)) := by
        intro w
        rw [show (s.size : Int) + (m : Int) = (N : Int) from by omega]
        exact make_bytes N (by omega) w
      clear hN
      go_upto_region 24 with (fail)
      clear mk
      obtain ⟨g, hg⟩ : ∃ g, g = wc.heap.size := ⟨_, rfl⟩
      have hbg : b < wc.heap.size := by have := Bc.out.size; have := HB.out.lt; omega
      have hgg : W.heap.size ≤ wc.heap.size := Bc.out.size
      have hgx : W.heap.size ≤ g := by omega
      have Hbuf := hid (show Blk (wc.alloc (.cells (bufV N []) 5)) g 5 (bufV N []) from hg ▸ Blk.new wc _ _)
      have Hbl := hid (show Below W.heap.size W (wc.alloc (.cells (bufV N []) 5)) from Bc.out.alloc hgg _)
      rw [← hg]
      have Hg := hid hg
      clear hg hgg hbg
      generalize wc.alloc (.cells (bufV N []) 5) = wb at *
      go_loopw [13, 14] (fun j i wr => ∃ k : Nat, k ≤ s.size ∧ i = .int .i64 (k : Int) ∧ j = .int .i64 ((qL (s.data.toList.take k)).length : Int) ∧ Hid (Blk wr g 5 (bufV N (qL (s.data.toList.take k)))) ∧ Hid (Below W.heap.size W wr)) (fun _ i _ => s.size - (intOf i).toNat)
      case atStart => exact ⟨0, Nat.zero_le _, rfl, rfl, Hbuf, Hbl⟩
      case round =>
        obtain ⟨k, hk, rfl, rfl, Hr, Hw⟩ := hrel
        obtain ⟨J, hJ⟩ : ∃ J, J = (qL (s.data.toList.take k)).length := ⟨_, rfl⟩
        rw [← hJ]
        have HJ := hid hJ.symm
        by_cases hlt : k < s.size
        · have dk : decide ((k : Int) < (s.size : Int)) = true := decide_eq_true (by omega)
          have hks' : k < s.data.toList.length := by rw [Array.length_toList]; exact hlt
          have ht := qL_take s.data.toList k hks'
          rw [show s.data.toList[k]'hks' = s[k]'hlt from rfl] at ht
          have hle := qL_take_le s.data.toList (k + 1)
          rw [qL_len s.data.toList, HM2.out, show s.data.toList.length = s.size from rfl, ← HN.out] at hle
          clear hJ
          have hNb : N ≤ 8388608 := by have := HN.out; omega
          have hq : ∀ i < 256, wr.cell? ⟨b, i, none⟩ = some (if i = 34 then .slice (some ⟨gx, 0, none⟩) 2 cx else if i = 126 then .slice (some ⟨gy, 0, none⟩) 2 cy else nilB) := fun i hi => by
            rw [World.cell?_of_block (Hw.out.block b HB.out.lt), HB.out.cell i, bsC_at _ _ _ i (by omega), if_neg (show ¬ i = 256 from by omega)]
          have hqx : ∀ (j : Nat) (h : j < 2), wr.cell? ⟨gx, j, none⟩ = some (.int .u8 ([126, 34][j])) := fun j h => by
            rw [World.cell?_of_block (Hw.out.block gx hx2)]; exact hx3 j h
          have hqy : ∀ (j : Nat) (h : j < 2), wr.cell? ⟨gy, j, none⟩ = some (.int .u8 ([126, 126][j])) := fun j h => by
            rw [World.cell?_of_block (Hw.out.block gy hy2)]; exact hy3 j h
          have HX1 := hid hqx
          have HY1 := hid hqy
          clear hqx hqy c256 t0 t1 c34 c126 hx3 hy3
          by_cases e34 : s[k]'hlt = 34
          · have hv : wr.cell? ⟨b, 34, none⟩ = some (.slice (some ⟨gx, 0, none⟩) 2 cx) := hq 34 (by decide)
            have hqb : qB (s[k]'hlt) = [126, 34] := by rw [e34]; rfl
            rw [hqb] at ht
            have hne := fun w => run_neq_slice_nil (P := Tryz.prog) w 75 5 (some ⟨gx, 0, none⟩) 2 cx Tryz.underlying75
            have hJ2 : J + 2 ≤ N := by rw [ht, List.length_append, HJ.out] at hle; exact hle
            have sl := slice_l8 g N J (by omega)
            obtain ⟨w3, hcp, hg3, hb3⟩ := buf_copy (w := wr.drew) (W0 := W) (B := W.heap.size) (cx := cx) (k := J) 126 34 (Blk.drew Hr.out) HJ.out hJ2 (by rw [World.cell?_drew]; exact (HX1.out 0 (by decide))) (by rw [World.cell?_drew]; exact (HX1.out 1 (by decide))) Hw.out.drew (by have := Hg.out; omega)
            have K3 := hid (show w3.cell? ⟨b, 34, none⟩ = some (.slice (some ⟨gx, 0, none⟩) 2 cx) from by rw [World.cell?_of_block (hb3.block b HB.out.lt), ← World.cell?_of_block (Hw.out.block b HB.out.lt)]; exact hv)
            have Hg3 := hid hg3
            have Hb3 := hid hb3
            have HT := hid ht
            have hwr : IntKind.i64.wrap ((J : Int) + 2) = ((J + 2 : Nat) : Int) := by rw [IntKind.wrap_i64]; omega
            clear hg3 hb3 hq ht hqb
            go_upto_region 28 with (fail)
            go_region_held3 (fun w => w.cell? ⟨b, 34, none⟩ = some (.slice (some ⟨gx, 0, none⟩) 2 cx)) (first | go_keep | exact hv | exact K3.out) (fail)
            all_goals
              go_wp2
              go_roundw
              case rel => exact ⟨k + 1, hlt, by push_cast; rfl, by rw [HT.out, List.length_append, HJ.out]; rfl, hid (by rw [HT.out]; exact Hg3.out), Hb3⟩
              case measure => simp [intOf]; omega
          by_cases e126 : s[k]'hlt = 126
          · have hv : wr.cell? ⟨b, 126, none⟩ = some (.slice (some ⟨gy, 0, none⟩) 2 cy) := hq 126 (by decide)
            have hqb : qB (s[k]'hlt) = [126, 126] := by rw [e126]; rfl
            rw [hqb] at ht
            have hne := fun w => run_neq_slice_nil (P := Tryz.prog) w 75 5 (some ⟨gy, 0, none⟩) 2 cy Tryz.underlying75
            have hJ2 : J + 2 ≤ N := by rw [ht, List.length_append, HJ.out] at hle; exact hle
            have sl := slice_l8 g N J (by omega)
            obtain ⟨w3, hcp, hg3, hb3⟩ := buf_copy (w := wr.drew) (W0 := W) (B := W.heap.size) (cx := cy) (k := J) 126 126 (Blk.drew Hr.out) HJ.out hJ2 (by rw [World.cell?_drew]; exact (HY1.out 0 (by decide))) (by rw [World.cell?_drew]; exact (HY1.out 1 (by decide))) Hw.out.drew (by have := Hg.out; omega)
            have K3 := hid (show w3.cell? ⟨b, 126, none⟩ = some (.slice (some ⟨gy, 0, none⟩) 2 cy) from by rw [World.cell?_of_block (hb3.block b HB.out.lt), ← World.cell?_of_block (Hw.out.block b HB.out.lt)]; exact hv)
            have Hg3 := hid hg3
            have Hb3 := hid hb3
            have HT := hid ht
            have hwr : IntKind.i64.wrap ((J : Int) + 2) = ((J + 2 : Nat) : Int) := by rw [IntKind.wrap_i64]; omega
            clear hg3 hb3 hq ht hqb
            go_upto_region 28 with (fail)
            go_region_held3 (fun w => w.cell? ⟨b, 126, none⟩ = some (.slice (some ⟨gy, 0, none⟩) 2 cy)) (first | go_keep | exact hv | exact K3.out) (fail)
            all_goals
              go_wp2
              go_roundw
              case rel => exact ⟨k + 1, hlt, by push_cast; rfl, by rw [HT.out, List.length_append, HJ.out]; rfl, hid (by rw [HT.out]; exact Hg3.out), Hb3⟩
              case measure => simp [intOf]; omega
          · have hv : wr.cell? ⟨b, (s[k]'hlt).toNat, none⟩ = some (.slice none 0 0) := by
              have n1 : ¬ (s[k]'hlt).toNat = 34 := fun h => e34 (UInt8.toNat_inj.1 (show _ = (34 : UInt8).toNat from h))
              have n2 : ¬ (s[k]'hlt).toNat = 126 := fun h => e126 (UInt8.toNat_inj.1 (show _ = (126 : UInt8).toNat from h))
              rw [hq _ (by have := (s[k]'hlt).toNat_lt; omega), if_neg n1, if_neg n2]; rfl
            have hy256 : (s[k]'hlt).toNat < 256 := (s[k]'hlt).toNat_lt
            have hqb : qB (s[k]'hlt) = [s[k]'hlt] := by unfold qB; rw [if_neg e34, if_neg e126]
            rw [hqb] at ht
            have hne := fun w => run_neq_slice_nil (P := Tryz.prog) w 75 5 none 0 0 Tryz.underlying75
            have hJ2 : J < N := by rw [ht, List.length_append, HJ.out] at hle; exact hle
            have HS := hid (buf_set Hr.out HJ.out hJ2 (s[k]'hlt))
            have Hw3 := hid (Hw.out.setCell (p := ⟨g, J, none⟩) (by exact hgx) (.int .u8 ((s[k]'hlt).toNat : Int)))
            have HT := hid ht
            have fz := Hr.out.frozen J
            have cg : wr.cell? ⟨g, J, none⟩ = some ((bufL N (qL (s.data.toList.take k)))[J]'(by rw [bufL, List.length_append, u8V_len, List.length_replicate]; have := HJ.out; omega)) := by
              rw [Hr.out.cell J, bufV, List.getElem?_toArray, List.getElem?_eq_getElem]
            clear hq ht hqb
            go_wp2_with fail
            exact ⟨⟨k + 1, hlt, by push_cast; rfl, by rw [HT.out, List.length_append, HJ.out]; push_cast; rfl, hid (by rw [HT.out]; exact HS.out), Hw3⟩, by simp [intOf]; omega⟩
        · have dk : decide ((k : Int) < (s.size : Int)) = false := decide_eq_false (by omega)
          have ht : s.data.toList.take k = s.data.toList := List.take_of_length_le (by rw [Array.length_toList]; show s.size ≤ k; omega)
          rw [ht] at Hr
          have hcv := buf_string Hr.out (by rw [qL_len, HM2.out, HN.out]; rfl)
          go_wp2_with fail
          go_ret
          exact ⟨rfl, Hw.out⟩
end Go.Proofs.YtfcppchjikmioaaGreat
