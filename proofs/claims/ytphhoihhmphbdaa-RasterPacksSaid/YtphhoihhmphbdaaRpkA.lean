/-
  The reference's packing of numbers: burnishref03.Bytes in the high order for whole bytes, burnishref16.Pack.
  burnishref17.Pack walked against packM: a good form, a raster of its size.
-/
import Derived.Test.YtphhoihhmphbdaaSamR
import Derived.Test.YtphhoihhmphbdaaPakM
import Derived.Test.YtphhoihhmphbdaaGood
import Derived.Test.YtphhoihhmphbdaaUnpR
import Derived.Test.YtphhoihhmphbdaaRnums
import Derived.Test.YtphhoihhmphbdaaReg
import Derived.BigQuiet
import Derived.Deep.QuietTactic
import Derived.RegionTactic
import Derived.RegionCalls
namespace Go.Proofs.Ytphhoihhmphbdaa
open Go.RowKit

theorem dgB_dgS (n : Int) (k : Nat) : dgB n k = dgS true n k := by
  refine List.ext_getElem (by rw [dgB_length, dgS_len]) fun i h1 h2 => ?_
  rw [dgB_length] at h1
  have e : ∀ (k i : Nat) (h : i < (dgB n k).length), (dgB n k)[i] = n / 2 ^ (k - 1 - i) % 2 := by
    intro k
    induction k with
    | zero => intro i h; simp [dgB] at h
    | succ k ih =>
      intro i h
      cases i with
      | zero => rfl
      | succ i =>
        have h2 : i < (dgB n k).length := by rw [dgB_length] at h ⊢; omega
        have e1 : (dgB n (k + 1))[i + 1] = (dgB n k)[i] := rfl
        rw [e1, ih i h2]
        congr 3
        omega
  rw [e]
  simp [dgS, pkI]
/-- eight bits, the highest first, as a number -/
theorem num_byte {L : List Int} (hb : ∀ x ∈ L, isBit x) (j : Nat) : numH L (8 * j) 8 = byS true L j 8 := by
  have g : ∀ n, isBit (L.getD (8 * j + n) 0) := fun n => getD_bit hb _
  have p0 : (2 : Int) ^ (7 - 0) = 128 := by decide
  have p1 : (2 : Int) ^ (7 - 1) = 64 := by decide
  have p2 : (2 : Int) ^ (7 - 2) = 32 := by decide
  have p3 : (2 : Int) ^ (7 - 3) = 16 := by decide
  have p4 : (2 : Int) ^ (7 - 4) = 8 := by decide
  have p5 : (2 : Int) ^ (7 - 5) = 4 := by decide
  have p6 : (2 : Int) ^ (7 - 6) = 2 := by decide
  have p7 : (2 : Int) ^ (7 - 7) = 1 := by decide
  simp only [numH, byS, shS, if_true, p0, p1, p2, p3, p4, p5, p6, p7]
  omega
def pkT (L : List Int) (j : Nat) : List Int := (List.range j).map fun i => byS true L i 8
theorem pkT_len (L : List Int) (j : Nat) : (pkT L j).length = j := by simp [pkT]
theorem pkT_snoc (L : List Int) (j : Nat) : pkT L (j + 1) = pkT L j ++ [byS true L j 8] := by unfold pkT; rw [List.range_succ, List.map_append]; rfl
theorem pkT_all (L : List Int) (h : L.length % 8 = 0) : pkT L (L.length / 8) = pkS true L := by
  unfold pkT pkS
  rw [show (L.length + 7) / 8 = L.length / 8 by omega]
def BytEndH (b : List Int) (W : World) (e : Ending) (w' : World) : Prop := ∃ A c, e = .returned (.slice A b.length c) ∧ w'.ownsRow W.heap.size 5 1 (.slice A b.length c) b.length (bytesV b) ∧ Below W.heap.size W w'
set_option maxRecDepth 100000 in
set_option maxHeartbeats 8000000 in
theorem rbytesH_any (A : Option Addr) (c n : Nat) (l : List Int) (W : World) (hn : n = l.length) (h : RdI W W.heap.size A l) (hb : ∀ x ∈ l, isBit x) (h8 : n % 8 = 0) (hm : n ≤ 100000) : Calls Try.prog 107 #[.slice A n c, .bool true] W (BytEndH (pkS true l) W) := by
  have H := hid h
  have Hb := hid hb
  have Hn := hid hn
  have H8 := hid h8
  clear h hb hn h8
  obtain ⟨i0, hi0, hz0, hz1, hz2⟩ := info_parts int_info
  have Hi0 := hid hi0
  have Hz0 := hid hz0
  have Hz1 := hid hz1
  have Hz2 := hid hz2
  clear hi0 hz0 hz1 hz2
  obtain ⟨j0, hj0, hw0, hw1, hw2⟩ := info_parts u8_info
  have Hj0 := hid hj0
  have Hw0 := hid hw0
  have Hw1 := hid hw1
  have Hw2 := hid hw2
  clear hj0 hw0 hw1 hw2
  go_enter Try.func107, Try.ntmps107
  go_upto_region 3 with (fail)
  go_loopw [5, 6] (fun v i wr => ∃ (j a : Nat) (A' : Option Addr) (c' : Nat), a ≤ n ∧ Hid (a = 8 * j) ∧ v = .slice A' j c' ∧ i = .int .i64 (a : Int) ∧ Hid (wr.ownsRow W.heap.size 5 1 (.slice A' j c') j (bytesV (pkT l j))) ∧ Hid (Below W.heap.size W wr)) (fun _ i _ => n - (intOf i).toNat)
  case atStart => exact ⟨0, 0, none, 0, by omega, hid rfl, rfl, rfl, hid (World.ownsRow_nil _ _ _ _), hid (Below.refl _ _)⟩
  case round =>
    obtain ⟨j, a, A', c', ha, Ha, rfl, rfl, O, B⟩ := hrel
    by_cases hlt : a < n
    · have ha8 : a + 8 ≤ n := by have := H8.out; have := Ha.out; omega
      have Ha8 := hid ha8
      obtain ⟨w0, rfl⟩ : ∃ w0, w0 = wr := ⟨_, rfl⟩
      go_upto_region 7 with (fail)
      go_loopw [7, 8] (fun v i wx => ∃ (k m : Nat) (A1 : Option Addr) (c1 : Nat), k ≤ 8 ∧ m ≤ a + 8 ∧ Hid (m = a + k) ∧ v = .slice A1 k c1 ∧ i = .int .i64 (m : Int) ∧ Hid (wx.ownsRow w0.heap.size 3 1 (.slice A1 k c1) k (intsV ((l.drop a).take k))) ∧ Hid (Below w0.heap.size w0 wx)) (fun _ i _ => a + 8 - (intOf i).toNat)
      case atStart => exact ⟨0, a, none, 0, by omega, by omega, hid rfl, rfl, rfl, hid (World.ownsRow_nil _ _ _ _), hid (Below.refl _ _)⟩
      case round =>
        obtain ⟨k, m, A1, c1, hk, hma, Hm, rfl, rfl, O1, B1⟩ := hrel
        by_cases hk8 : m < a + 8
        · have d1 : decide ((m : Int) < (a : Int) + 8) = true := decide_eq_true (by omega)
          have hmn : m < n := by omega
          have d2 : decide ((m : Int) < (n : Int)) = true := decide_eq_true (by omega)
          have d3 : decide (m < n) = true := decide_eq_true hmn
          have hml : m < l.length := by rw [← Hn.out]; exact hmn
          obtain ⟨b, off, hA, hbb, hc⟩ := int_at (H.out.below (B.out.trans (B1.out.mono B.out.size)) (Nat.le_refl _)) hml
          have hs : (l.drop a).take (k + 1) = (l.drop a).take k ++ [l[m]] := by
            rw [List.take_succ_eq_append_getElem (by rw [List.length_drop]; have := Hm.out; omega), List.getElem_drop]
            congr 2
            exact getElem_congr_idx Hm.out.symm
          have Hs := hid hs
          have hk9 := hid (show k < 8 by have := Hm.out; omega)
          generalize l[m]'hml = y at *
          have hz1 := (B.out.trans (B1.out.mono B.out.size)).size
          have hbw : b < wr.heap.size := by omega
          have hkm : k ≤ 8 := hk
          have hz2 := B1.out.size
          clear hs
          subst hA
          go_wp2_with (at_builtin; go_loud (refine wpList_app _ rfl _ _ _ rfl w0.heap.size 3 i0 (.int .i64 0) 1 8 Try.underlying25 Hi0.out Hz0.out Hz1.out Hz2.out rfl (by omega) A1 k c1 _ rfl (O1.out.alloc _) _ _ 1 1 [.int .i64 y] rfl (rd_one _ _ _ _ (Blk.new _ _ _)) (by simp) (by simp [Value.oneCell']) (by simp only [maxLen]; omega) (by omega) (by first | omega | (simp; done) | (simp; omega)) ?_; intro A6 c6 w9 ha6; have Ha6 := hid ha6; clear ha6))
          obtain ⟨o6, _, b6, _⟩ := Ha6.out
          have O6 := hid (show w9.ownsRow w0.heap.size 3 1 (.slice A6 (k + 1) c6) (k + 1) (intsV ((l.drop a).take (k + 1))) from by rw [Hs.out]; unfold intsV at o6 ⊢; rw [List.map_append]; exact o6)
          have B6 := hid ((B1.out.alloc B1.out.size (.cells #[.int .i64 y] 3)).trans b6)
          clear o6 b6 Ha6 O1 B1
          go_roundw
          case rel => exact ⟨k + 1, m + 1, A6, c6, by have := hk9.out; omega, by omega, hid (by rw [Hm.out]; omega), rfl, by go_num, O6, B6⟩
          case measure => simp [intOf]; omega
        · obtain rfl : m = a + 8 := by omega
          have d1 : decide ((a : Int) + 8 < (a : Int) + 8) = false := decide_eq_false (by omega)
          have hk9 : k = 8 := by have := Hm.out; omega
          have hlen : ((l.drop a).take 8).length = 8 := by rw [List.length_take, List.length_drop, ← Hn.out]; omega
          subst hk9
          have NC := hid (numberH_any A1 c1 8 ((l.drop a).take 8) wr hlen.symm (by unfold RdI; rw [hlen, intsV_eq]; exact own_rd O1.out) (fun y hy => Hb.out y (List.mem_of_mem_drop (List.mem_of_mem_take hy))) (by omega))
          have hv : numH ((l.drop a).take 8) 0 8 = byS true l j 8 := by
            rw [numH_part l a 8 8 (Nat.le_refl _), Ha.out]
            exact num_byte Hb.out j
          have hbd := byS_B true Hb.out j 8 (Nat.le_refl _)
          have Hsn := hid (pkT_snoc l j)
          rw [hv] at NC
          generalize byS true l j 8 = v at *
          unfold isB at hbd
          have tw : IntKind.u8.wrap v = v := by
            show v % 256 = v
            omega
          have O1b := hid (own_below O.out B1.out (Nat.le_refl _))
          have hz1 := (B.out.trans (B1.out.mono B.out.size)).size
          have hj : j ≤ 100000 := by have := Ha.out; omega
          clear hlen hv
          go_wp2_with (first
            | (go_at_call 95; refine (NC.out).mono ?_; rintro e w5 ⟨rfl, rfl⟩)
            | (at_builtin; go_loud (refine wpList_app _ rfl _ _ _ rfl W.heap.size 5 j0 (.int .u8 0) 1 1 Try.underlying28 Hj0.out Hw0.out Hw1.out Hw2.out rfl (by omega) A' j c' _ rfl (O1b.out.alloc _) _ _ 1 1 [.int .u8 v] rfl (rd_one _ _ _ _ (Blk.new _ _ _)) (by simp) (by simp [Value.oneCell']) (by simp only [maxLen]; omega) (by omega) (by first | omega | (simp; done) | (simp; omega)) ?_; intro A6 c6 w9 ha6; have Ha6 := hid ha6; clear ha6)))
          obtain ⟨o6, _, b6, _⟩ := Ha6.out
          have O6 := hid (show w9.ownsRow W.heap.size 5 1 (.slice A6 (j + 1) c6) (j + 1) (bytesV (pkT l (j + 1))) from by rw [Hsn.out]; unfold bytesV at o6 ⊢; rw [List.map_append]; exact o6)
          have B6 := hid (((B.out.trans (B1.out.mono B.out.size)).alloc hz1 (.cells #[.int .u8 v] 5)).trans b6)
          clear o6 b6 Ha6 O1b O1 B1 O B
          go_roundw
          case rel => exact ⟨j + 1, a + 8, A6, c6, Ha8.out, hid (by rw [Ha.out]; omega), rfl, by go_num, O6, B6⟩
          case measure => simp [intOf]; omega
    · obtain rfl : a = n := by omega
      have hj : j = l.length / 8 := by rw [← Hn.out, Ha.out]; omega
      have hpk := pkT_all l (by rw [← Hn.out]; exact H8.out)
      rw [← hj] at hpk
      rw [hpk] at O
      have hl := pkS_len true l
      have hj2 : j = (pkS true l).length := by rw [← hpk, pkT_len]
      have HJ := hid hj2
      clear hj hpk hl hj2
      go_wp2_with fail
      go_ret
      exact ⟨A', c', by rw [← HJ.out]; rfl, by rw [← HJ.out]; exact O.out, B.out⟩
def lenV : Value → Nat
  | .slice _ n _ => n
  | _ => 0
def RspkEnd (b : List Int) (W : World) (e : Ending) (w' : World) : Prop := ∃ A c, e = .returned (.tuple #[.slice A b.length c, .int .i64 0]) ∧ w'.ownsRow W.heap.size 5 1 (.slice A b.length c) b.length (bytesV b) ∧ Below W.heap.size W w'
theorem nbH_snoc (l : List Int) (x : Int) (d : Nat) : nbH (l ++ [x]) d = nbH l d ++ dgB x d := by
  unfold nbH
  rw [List.flatMap_append, List.flatMap_cons, List.flatMap_nil, List.append_nil, dgB_dgS]
theorem nbH_bit (l : List Int) (d : Nat) : ∀ x ∈ nbH l d, isBit x := fun x hx => by
  unfold nbH at hx
  obtain ⟨n, _, hx⟩ := List.mem_flatMap.1 hx
  exact dgS_bit true n d x hx
set_option maxRecDepth 100000 in
set_option maxHeartbeats 8000000 in
theorem rspack_any (A : Option Addr) (c n d : Nat) (l : List Int) (W : World) (hd : deepOk (d : Int)) (hn : n = l.length) (h : RdI W W.heap.size A l) (hr : ∀ x ∈ l, 0 ≤ x ∧ x < 2 ^ d) (hm : n ≤ 2000) :
    Calls Try.prog 59 #[.slice A n c, .int .i64 (d : Int)] W (RspkEnd (packB l d) W) := by
  have H := hid h
  have Hn := hid hn
  have Hr := hid hr
  obtain ⟨i0, hi0, hz0, hz1, hz2⟩ := info_parts int_info
  have Hi0 := hid hi0
  have Hz0 := hid hz0
  have Hz1 := hid hz1
  have Hz2 := hid hz2
  have hd1 : 1 ≤ d ∧ d ≤ 16 := by unfold deepOk at hd; omega
  obtain ⟨hd1, hd2⟩ := hd1
  have HD := hid (rdeep_any (d : Int) hd W)
  have HT := hid (top_any (d : Int) hd)
  have hpw : pw (d : Int) = 2 ^ d := by
    have := pw_pow hd
    rwa [Int.toNat_natCast] at this
  have h2 : (2 : Int) ^ d ≤ 65536 := by
    have := pow_mono hd2
    rwa [show (2 : Int) ^ 16 = 65536 by decide] at this
  obtain ⟨T, hT⟩ : ∃ T : Int, T = 2 ^ d := ⟨_, rfl⟩
  rw [← hT] at hpw h2
  rw [hpw] at HT
  have HTe := hid hT
  obtain ⟨Q, hQ⟩ : ∃ Q, Q = n * d := ⟨_, rfl⟩
  have hQb : Q ≤ 32000 := by rw [hQ]; exact Nat.mul_le_mul hm hd2
  have HQ := hid hQ
  clear hi0 hz0 hz1 hz2 h hn hr hd hpw hT hQ
  go_enter Try.func59, Try.ntmps59
  go_upto_region 1 with (fail)
  go_cut [15] from 8 to 15 (fun v wq => v = .bool false ∧ W = wq)
  · go_wp2_with (go_at_call 93; refine (HD.out).mono ?_; rintro e w5 ⟨rfl, rfl⟩)
    go_meet
    exact ⟨by rw [decide_eq_false (show ¬ 1048576 < (n : Int) by omega)], rfl⟩
  obtain ⟨rfl, rfl⟩ := hcut
  go_upto_region 5 with (fail)
  go_loopw [6, 7] (fun v i wr => ∃ (j k : Nat) (A' : Option Addr) (c' : Nat), j ≤ n ∧ k ≤ 32000 ∧ Hid (k = j * d) ∧ v = .slice A' k c' ∧ i = .int .i64 (j : Int) ∧ Hid (wr.ownsRow W.heap.size 3 1 (.slice A' k c') k (intsV (nbH (l.take j) d))) ∧ Hid (Below W.heap.size W wr)) (fun _ i _ => n - (intOf i).toNat)
  case atStart => exact ⟨0, 0, none, 0, by omega, by omega, hid (by simp), rfl, rfl, hid (World.ownsRow_nil _ _ _ _), hid (Below.refl _ _)⟩
  case round =>
    obtain ⟨j, k, A', c', hj, hk, Hk, rfl, rfl, O, B⟩ := hrel
    by_cases hlt : j < n
    · have hjl : j < l.length := by rw [← Hn.out]; exact hlt
      obtain ⟨b, off, hA, hbb, hc⟩ := int_at (H.out.below B.out (Nat.le_refl _)) hjl
      obtain ⟨q1, q2⟩ := Hr.out _ (List.getElem_mem hjl)
      rw [← HTe.out] at q2
      have htk : l.take (j + 1) = l.take j ++ [l[j]] := List.take_succ_eq_append_getElem hjl
      have Hs := hid (show nbH (l.take (j + 1)) d = nbH (l.take j) d ++ dgB l[j] d by rw [htk, nbH_snoc])
      have hkd : k + d ≤ 32000 := by
        have h1 : (j + 1) * d ≤ n * d := Nat.mul_le_mul_right _ hlt
        rw [Nat.succ_mul, ← Hk.out, ← HQ.out] at h1
        omega
      generalize l[j]'hjl = y at *
      have hz := B.out.size
      have hbw : b < wr.heap.size := by omega
      subst hA
      have d1 : decide (y < 0) = false := decide_eq_false (by omega)
      have d2 : decide (T - 1 < y) = false := decide_eq_false (by omega)
      have cS : ∀ d' os, Calls Try.prog 42 #[.int .i64 (d : Int)] (Sort.grow (redrawn wr d') os) fun e w'' => e = .returned (.int .i64 (T - 1)) ∧ ∃ p : Regrown, w'' = Sort.grow (redrawn wr p.d) p.os := fun d' os => Calls.regrown_of ((HT.out _).mono fun e w' h => ⟨h.1, h.2 ▸ Below.refl _ _⟩)
      have k0 := cell_regrown hc
      clear htk
      go_upto_region 7 with (fail)
      refine wp_region_quiet_below (by kernel_rfl) (by kernel_rfl) ?_
      repeat (go_big_quiet_step (with_reducible exact cS _ _))
      refine wpQuiet_nil ?_
      intro wv hwv
      obtain ⟨⟨dq, osq⟩, hwv⟩ := hwv
      have hbv : Below wr.heap.size wr wv := by rw [hwv]; exact below_regrown wr dq osq
      have Bv := hid (B.out.trans (hbv.mono hz))
      have Ov := hid (own_below O.out hbv (Nat.le_refl _))
      have hcv : wv.cell? ⟨b, off + j, none⟩ = some (.int .i64 y) := by
        rw [hbv.cell (by exact hbw)]
        exact hc
      have hzv := Bv.out.size
      have hbw2 : b < wv.heap.size := by omega
      clear hwv hbv k0 cS O B hc hz hbw
      go_wp2_with fail
      refine (digitsH_any y d (by omega) (by omega) (by omega) _).mono ?_
      rintro e w3 ⟨A3, c3, rfl, ho3, hb3⟩
      rw [dgB_length] at ho3 ⊢
      have B3 := hid (Bv.out.trans (hb3.mono hzv))
      have O3 := hid (own_rd ho3)
      have Z3 := hid (own_hnilH ho3)
      have O4 := hid (own_below Ov.out hb3 (Nat.le_refl _))
      have hz3 := B3.out.size
      clear ho3 hb3
      go_wp2_with (at_builtin; (refine wpList_app _ rfl _ _ _ rfl (W.heap.size) 3 i0 (.int .i64 0) 1 8 Try.underlying25 Hi0.out Hz0.out Hz1.out Hz2.out rfl (by omega) A' k c' (intsV (nbH (l.take j) d)) rfl (O4.out) _ _ d c3 (intsV (dgB y d)) rfl (O3.out) (Z3.out) intsV_cellsH (by simp only [maxLen]; omega) (by omega) (by first | omega | (simp; omega)) ?_; intro A4 c4 w4 ha4; have Ha4 := hid ha4; clear ha4))
      obtain ⟨hown4, _, hb4, _⟩ := Ha4.out
      have O5 := hid (show w4.ownsRow W.heap.size 3 1 (.slice A4 (k + d) c4) (k + d) (intsV (nbH (l.take (j + 1)) d)) from by rw [Hs.out]; unfold intsV at hown4 ⊢; rw [List.map_append]; exact hown4)
      have B5 := hid (B3.out.trans hb4)
      clear hown4 hb4 Ha4
      go_roundw
      case rel => exact ⟨j + 1, k + d, A4, c4, by omega, hkd, hid (by rw [Hk.out, Nat.succ_mul]), rfl, by go_num, O5, B5⟩
      case measure => simp [intOf]; omega
    · obtain rfl : j = n := by omega
      have hkQ : k = Q := by rw [Hk.out, HQ.out]
      subst hkQ
      rw [show l.take j = l from List.take_of_length_le (by rw [← Hn.out]; omega)] at O
      have hnl := nbH_len l d
      have HL := hid (show (nbH l d).length = k by rw [hnl, ← Hn.out, HQ.out])
      have hP := padZ_len (nbH l d)
      obtain ⟨P, hPe⟩ : ∃ P, P = (padZ (nbH l d)).length := ⟨_, rfl⟩
      have HP := hid (show P % 8 = 0 ∧ P = k + (8 - k % 8) % 8 ∧ P ≤ 32007 by
        have h1 := hP.1
        have h2 := hP.2
        have h3 := HL.out
        rw [h3] at h2
        omega)
      have HPe := hid hPe
      clear hnl hP hPe
      go_upto_region 10 with (fail)
      go_loopw [6] (fun v wx => ∃ (m : Nat) (A1 : Option Addr) (c1 : Nat), k ≤ m ∧ m ≤ P ∧ v = .slice A1 m c1 ∧ Hid (wx.ownsRow W.heap.size 3 1 (.slice A1 m c1) m (intsV (nbH l d ++ List.replicate (m - k) 0))) ∧ Hid (Below W.heap.size W wx)) (fun v _ => P - lenV v)
      case atStart => exact ⟨k, A', c', by omega, by have := HP.out; omega, rfl, hid (by rw [Nat.sub_self, List.replicate_zero, List.append_nil]; exact O.out), B⟩
      case round =>
        obtain ⟨m, A1, c1, hm1, hm2, rfl, O1, B1⟩ := hrel
        have tm : (m : Int).tmod 8 = ((m % 8 : Nat) : Int) := by rw [Int.tmod_eq_emod_of_nonneg (by omega)]; omega
        have tm2 : (m : Int) % 8 = ((m % 8 : Nat) : Int) := by omega
        have hz1 := B1.out.size
        by_cases hx : m % 8 = 0
        · have e0 : (((m % 8 : Nat) : Int) == 0) = true := by rw [hx]; rfl
          have e1 : (m % 8 == 0) = true := by rw [hx]; rfl
          have hmP : m = P := by have := HP.out; omega
          have hpz : padZ (nbH l d) = nbH l d ++ List.replicate (m - k) 0 := by
            unfold padZ
            rw [HL.out, show m - k = (8 - k % 8) % 8 by have := HP.out; omega]
          rw [← hpz] at O1
          have NB := hid (rbytesH_any A1 c1 m (padZ (nbH l d)) wr (by rw [hmP, HPe.out]) (by unfold RdI; rw [← HPe.out, ← hmP, intsV_eq]; exact own_rd O1.out) (fun y hy => by
            unfold padZ at hy
            rcases List.mem_append.1 hy with hy | hy
            · exact nbH_bit l d y hy
            · rw [List.eq_of_mem_replicate hy]; exact .inl rfl) hx (by have := HP.out; omega))
          rw [show pkS true (padZ (nbH l d)) = packB l d from rfl] at NB
          generalize m % 8 = r at *
          clear hx hmP hpz
          go_wp2_with fail
          refine (NB.out).mono ?_
          rintro e w5 ⟨A5, c5, rfl, o5, b5⟩
          have O5 := hid (own_base o5 hz1)
          have B5 := hid (B1.out.trans (b5.mono hz1))
          clear o5 b5
          go_wp2_with fail
          go_ret2
          exact ⟨A5, c5, rfl, O5.out, B5.out⟩
        · have e0 : (((m % 8 : Nat) : Int) == 0) = false := beq_eq_false_iff_ne.2 (by omega)
          have e1 : (m % 8 == 0) = false := beq_eq_false_iff_ne.2 hx
          have hlt : m < P := by have := HP.out; omega
          have hmb : m ≤ 32007 := by have := HP.out; omega
          have hrp := hid (show nbH l d ++ List.replicate (m + 1 - k) 0 = (nbH l d ++ List.replicate (m - k) 0) ++ [0] by rw [show m + 1 - k = (m - k) + 1 by omega, List.replicate_succ', List.append_assoc])
          have Hlt := hid hlt
          generalize hr9 : m % 8 = r at *
          clear hx hr9
          go_wp2_with (at_builtin; go_loud (refine wpList_app _ rfl _ _ _ rfl W.heap.size 3 i0 (.int .i64 0) 1 8 Try.underlying25 Hi0.out Hz0.out Hz1.out Hz2.out rfl (by omega) A1 m c1 _ rfl (O1.out.alloc _) _ _ 1 1 [.int .i64 0] rfl (rd_one _ _ _ _ (Blk.new _ _ _)) (by simp) (by simp [Value.oneCell']) (by simp only [maxLen]; omega) (by omega) (by first | omega | (simp; done) | (simp; omega)) ?_; intro A6 c6 w9 ha6; have Ha6 := hid ha6; clear ha6))
          obtain ⟨o6, _, b6, _⟩ := Ha6.out
          have O6 := hid (show w9.ownsRow W.heap.size 3 1 (.slice A6 (m + 1) c6) (m + 1) (intsV (nbH l d ++ List.replicate (m + 1 - k) 0)) from by rw [hrp.out]; unfold intsV at o6 ⊢; rw [List.map_append (l₂ := [0])]; exact o6)
          have B6 := hid ((B1.out.alloc hz1 (.cells #[.int .i64 0] 3)).trans b6)
          clear o6 b6 Ha6 O1 B1
          go_roundw
          case rel => exact ⟨m + 1, A6, c6, by omega, Hlt.out, rfl, O6, B6⟩
          case measure => simp [lenV]; omega
end Go.Proofs.Ytphhoihhmphbdaa

namespace Go.Proofs.Ytphhoihhmphbdaa
open Go.RowKit Go.Shelf
attribute [local go_sem] Oper.semAt_some

/-- rows behind a nought each -/
def zP (f : Fm) (px : List Px) (pl : List Int) (k : Nat) : Nat → List Int
  | 0 => []
  | y + 1 => zP f px pl k y ++ [0] ++ rowP f px pl k y
theorem filN_zero (bpp : Int) (row ahead : List Int) (hr : ∀ x ∈ row, isB x) : ∀ n, n ≤ row.length → filN 0 bpp row ahead n = row.take n
  | 0, _ => by rw [List.take_zero]; rfl
  | n + 1, h => by
    have hn : n < row.length := by omega
    rw [filN, filN_zero bpp row ahead hr n (by omega), List.take_succ_eq_append_getElem hn, List.getD_eq_getElem?_getD, List.getElem?_eq_getElem hn, Option.getD_some]
    have hx := hr _ (List.getElem_mem hn)
    unfold isB at hx
    congr 2
    unfold foreM
    simp only [show ¬ (0 : Int) = 1 by omega, show ¬ (0 : Int) = 2 by omega, show ¬ (0 : Int) = 3 by omega, show ¬ (0 : Int) = 4 by omega, if_false]
    omega
theorem seg_zero {f : Fm} {px : List Px} {pl : List Int} (hf : formOk f = true) {k N : Nat} (hk : k < passN f) (hok : numdP f px pl N) (hN : pixI f k + rowsI f k * colsI f k ≤ N) : zP f px pl k (rowsI f k) = segP f px pl 0 k := by
  unfold segP
  suffices h : ∀ y, y ≤ rowsI f k → rollM (rowsP f px pl k (rowsI f k)) (rowI f k) (whM f.d f.c) (List.replicate (rowsI f k) 0) y = zP f px pl k y from (h _ (Nat.le_refl _)).symm
  intro y
  induction y with
  | zero => intro _; rfl
  | succ y ih =>
    intro hy
    have hbd : y * colsI f k + colsI f k ≤ rowsI f k * colsI f k := by rw [← Nat.succ_mul]; exact Nat.mul_le_mul_right _ hy
    have hrow : rowK (rowsP f px pl k (rowsI f k)) (rowI f k) y = rowP f px pl k y :=
      chunk_get (chunk_split (rowsP f px pl k) (rowP f px pl k) y _ (fun _ _ => rfl) hy) (rowsP_len hf hk hok y (by omega)) (rowP_len hf hk hok (by omega))
    have hlen := rowP_len hf hk hok (y := y) (by omega)
    have hkd : takeK (rowsP f px pl k (rowsI f k)) (rowI f k) (whM f.d f.c) (List.replicate (rowsI f k) 0) y = 0 := by
      unfold takeK
      rw [List.getD_eq_getElem?_getD, List.getElem?_replicate, if_pos (show y < rowsI f k by omega), Option.getD_some, if_neg (by omega)]
    rw [rollM, ih (by omega), hkd, hrow, filN_zero _ (rowP f px pl k y) _ (by unfold rowP; exact packB_B _ _) _ (by omega), List.take_of_length_le (by rw [hlen]; exact Nat.le_refl _)]
    rfl
theorem zP_len {f : Fm} {px : List Px} {pl : List Int} (hf : formOk f = true) {k N : Nat} (hk : k < passN f) (hok : numdP f px pl N) : ∀ y, pixI f k + y * colsI f k ≤ N → (zP f px pl k y).length = y * (1 + rowI f k)
  | 0, _ => by simp [zP]
  | y + 1, h => by
    rw [Nat.succ_mul] at h
    rw [zP, List.length_append, List.length_append, zP_len hf hk hok y (by omega), rowP_len hf hk hok (by omega), Nat.succ_mul]
    simp [Nat.add_assoc]
theorem size_zero {w h l : Int} {p : Nat} (w1 : 1 ≤ w) (hz : (sizeR w h l p).1 = 0) : (sizeR w h l p).2 = 0 := by
  unfold sizeR at hz ⊢
  split at hz
  · rename_i hl
    rw [if_pos hl]
    split at hz
    · dsimp only at hz; omega
    · rename_i hp
      rw [if_neg hp]
  · rename_i hl
    rw [if_neg hl]
    unfold passM at hz ⊢
    split at hz
    · rename_i ho
      rw [if_pos ho]
    · rename_i ho
      rw [if_neg ho]
      dsimp only at hz
      exact absurd (.inl hz) ho
theorem own_neB {w w0 : World} {b1 b2 t1 t2 s1 s2 n1 n2 : Nat} {v1 v2 : Value} {x1 x2 : List Value} (h1 : w.ownsRow b1 t1 s1 v1 n1 x1) (h2 : w0.ownsRow b2 t2 s2 v2 n2 x2) (hb : w0.heap.size ≤ b1) : v1.ownBlock = none ∨ v1.ownBlock ≠ v2.ownBlock := by
  rcases h1.2 with ⟨rfl, _⟩ | ⟨g, cap, cur, rfl, hg, _⟩
  · exact .inl rfl
  · refine .inr fun e => ?_
    have h : g < w0.heap.size := (own_lt2 h2 e.symm).1
    omega
theorem bytesV_cellsR {l : List Int} : ∀ u ∈ bytesV l, u.oneCell' = true := by intro u hu; unfold bytesV at hu; obtain ⟨x, _, rfl⟩ := List.mem_map.1 hu; rfl
def RpkEnd (f : Fm) (px : List Px) (W : World) (e : Ending) (w' : World) : Prop :=
  Below W.heap.size W w' ∧ match packM f px 0 with
  | none => e = .returned (.tuple #[.slice none 0 0, .bool false])
  | some b => ∃ A c, e = .returned (.tuple #[.slice A b.length c, .bool true]) ∧ w'.ownsRow W.heap.size 5 1 (.slice A b.length c) b.length (bytesV b)
def NuM (r : Option (List Int)) (w : World) (x : (Value × Bool) × World) : Prop := match r with
  | none => x.1 = (.slice none 0 0, false)
  | some l => ∃ A c, x.1 = (.slice A l.length c, true) ∧ x.2.ownsRow w.heap.size 3 1 (.slice A l.length c) l.length (intsV l)
theorem threeR (W : World) (c0 c1 c2 : Array Value) (t0 t1 t2 : TypeId) : ∃ w, w = (((W.alloc (.cells c0 t0)).alloc (.cells c1 t1)).alloc (.cells c2 t2)) ∧
    Blk w W.heap.size t0 c0 ∧ Blk w (W.heap.size + 1) t1 c1 ∧ Blk w (W.heap.size + 1 + 1) t2 c2 ∧ Below W.heap.size W w ∧ w.heap.size = W.heap.size + 3 := by
  have k1 := Blk.new (W.alloc (.cells c0 t0)) t1 c1
  have k2 := Blk.new ((W.alloc (.cells c0 t0)).alloc (.cells c1 t1)) t2 c2
  simp only [World.size_alloc] at k1 k2
  exact ⟨_, rfl, ((Blk.new W t0 c0).alloc _).alloc _, k1.alloc _, k2, (((Below.refl W.heap.size W).alloc (Nat.le_refl _) _).alloc (by simp) _).alloc (by simp; omega) _, by simp⟩
set_option maxRecDepth 100000 in
set_option maxHeartbeats 16000000 in
theorem runpk_go (f : Fm) (PA KA PR : Option Addr) (pc kc pr : Nat) (px : List Px) (W : World) (hf : formOk f = true) (hp : RdP W W.heap.size PA f.pal) (hk : RdI W W.heap.size KA f.key) (hpm : f.pal.length ≤ 1000000)
    (hr : RdP W W.heap.size PR px) (hl : (px.length : Int) = f.w * f.h) (hm : px.length ≤ 500) :
    Calls Try.prog 20 #[.agg #[.int .i64 f.w, .int .i64 f.h, .int .i64 f.d, .int .i64 f.c, .int .i64 f.l, .slice PA f.pal.length pc, .slice KA f.key.length kc], .agg #[.int .i64 f.w, .int .i64 f.h, .slice PR px.length pr]] W (RpkEnd f px W) := by
  have hh : headErr f.w f.h f.d f.c f.l = 0 := (formOk_parts hf).1
  have Hf := hid hf
  have Hh := hid hh
  have Hp := hid hp
  have Hk := hid hk
  have Hr := hid hr
  obtain ⟨N, hN⟩ : ∃ N, N = px.length := ⟨_, rfl⟩
  have HN := hid hN
  have Hl := hid hl
  have hmul : f.w * f.h = (N : Int) := by rw [hN]; exact hl.symm
  have Hmul := hid hmul
  rw [← hN] at hm ⊢
  clear hf hh hp hk hr hN hl
  obtain ⟨i0, hi0, hz0, hz1, hz2⟩ := info_parts int_info
  have Hi0 := hid hi0
  have Hz0 := hid hz0
  have Hz1 := hid hz1
  have Hz2 := hid hz2
  obtain ⟨j0, hj0, hw0, hw1, hw2⟩ := info_parts u8_info
  have Hj0 := hid hj0
  have Hw0 := hid hw0
  have Hw1 := hid hw1
  have Hw2 := hid hw2
  clear hi0 hz0 hz1 hz2 hj0 hw0 hw1 hw2
  obtain ⟨w1, w2, h1, h2, hwh, l1, l2⟩ := headErr_bnd Hh.out
  have hnat : f.w.toNat * f.h.toNat = N := by
    have e : ((f.w.toNat * f.h.toNat : Nat) : Int) = f.w * f.h := by rw [Int.natCast_mul, Int.toNat_of_nonneg (by omega), Int.toNat_of_nonneg (by omega)]
    omega
  have Hnat := hid hnat
  have SP := hid (fun (w : World) => (rspread_any f.l f.w.toNat f.h.toNat (by omega) (by omega) (by omega) (by omega) (by omega) (by omega) w))
  rw [Int.toNat_of_nonneg (by omega), Int.toNat_of_nonneg (by omega)] at SP
  clear hwh hnat hmul
  obtain ⟨v0, hv0, B2, B4, B6, BB, BS⟩ := threeR W #[.int .i64 f.w, .int .i64 f.h, .int .i64 f.d, .int .i64 f.c, .int .i64 f.l, .slice PA f.pal.length pc, .slice KA f.key.length kc] #[.int .i64 f.w, .int .i64 f.h, .slice PR N pr] #[.int .i64 f.w, .int .i64 f.h, .int .i64 f.d, .int .i64 f.c, .int .i64 f.l]
    27 33 23
  go_enter Try.func20, Try.ntmps20
  go_upto_region 2 with (fail)
  rw [← hv0]
  clear hv0
  obtain ⟨g2, hg2⟩ : ∃ g, g = W.heap.size := ⟨_, rfl⟩
  have Hg2 := hid hg2
  rw [← hg2] at B2 B4 B6 ⊢
  obtain ⟨g4, hg4⟩ : ∃ g, g = g2 + 1 := ⟨_, rfl⟩
  have Hg4 := hid hg4
  rw [← hg4] at B4 B6 ⊢
  obtain ⟨g6, hg6⟩ : ∃ g, g = g4 + 1 := ⟨_, rfl⟩
  have Hg6 := hid hg6
  rw [← hg6] at B6 ⊢
  clear hg2 hg4 hg6
  have q0 := B6.cell 0
  have q1 := B6.cell 1
  have q2 := B6.cell 2
  have q3 := B6.cell 3
  have q4 := B6.cell 4
  simp only [List.getElem?_toArray, List.getElem?_cons_zero, List.getElem?_cons_succ] at q0 q1 q2 q3 q4
  have l6 := B6.lt
  have K2 := hid B2
  have K4 := hid B4
  have K6 := hid B6
  have KB := hid BB
  clear B2 B4 B6 BB BS
  go_wp2_with fail
  refine (SP.out v0).mono ?_
  rintro e u3 ⟨A8, c8, n8, rfl, hn8, ho8, hb3⟩
  have Hn8 := hid hn8
  have T2 := hid (K2.out.below hb3 K2.out.lt)
  have T4 := hid (K4.out.below hb3 K4.out.lt)
  have T6 := hid (K6.out.below hb3 K6.out.lt)
  have TB := hid (KB.out.trans (hb3.mono KB.out.size))
  have TO := hid (own_rd ho8)
  obtain ⟨pl, hpl⟩ : ∃ pl, pl = spreadM f.l f.w.toNat f.h.toNat := ⟨_, rfl⟩
  have Hpl := hid hpl
  rw [← hpl] at TO Hn8
  obtain rfl : n8 = pl.length := Hn8.out
  have hpN : pl.length = pixI f (passN f) := by rw [pixI_all f Hh.out, hpl]
  have HpN := hid hpN
  have hpmx : pl.length ≤ 3500 := by
    rw [hpN]
    have h7 := passN_le f
    suffices h : ∀ k, k ≤ passN f → pixI f k ≤ k * N from Nat.le_trans (h _ (Nat.le_refl _)) (Nat.le_trans (Nat.mul_le_mul h7 hm) (by omega))
    intro k
    induction k with
    | zero => intro _; simp [pixI]
    | succ k ih =>
      intro h
      have h1 := ih (by omega)
      have h2 := (size_le f Hh.out Hmul.out (k := k) (by omega)).1
      rw [pixI, Nat.succ_mul]
      omega
  clear hn8 ho8 hb3 hpl hpN SP K2 K4 K6 KB q0 q1 q2 q3 q4 l6
  go_upto_region 6 with (fail)
  go_loopw [9, 10, 11] (fun v9 v10 v11 wr => ∃ (p ok dn : Nat) (A : Option Addr) (c : Nat), p ≤ 7 ∧ Hid (ok = offI f (cntI f p)) ∧ Hid (dn = pixI f (cntI f p)) ∧ v11 = .int .i64 (p : Int) ∧ v10 = .int .i64 (dn : Int) ∧ v9 = .slice A ok c ∧ Hid (wr.ownsRow u3.heap.size 5 1 (.slice A ok c) ok (bytesV (outP f px pl 0 (cntI f p)))) ∧ Hid (numdP f px pl dn) ∧ Hid (Below u3.heap.size u3 wr)) (fun _ _ i _ => 7 - (intOf i).toNat)
  case atStart => exact ⟨0, 0, 0, none, 0, by omega, hid (by rw [cnt_zero]; rfl), hid (by rw [cnt_zero]; rfl), rfl, rfl, rfl, hid (by rw [cnt_zero]; exact World.ownsRow_nil _ _ _ _), hid (numdP_zero f px pl), hid (Below.refl _ _)⟩
  case round =>
    obtain ⟨p, ok, dn, A, c, hp7, Hok, Hdn, rfl, rfl, rfl, O, HNu, HB⟩ := hrel
    by_cases hlt : p < 7
    · have d2 : decide (p < 7) = true := decide_eq_true hlt
      have d2i : decide ((p : Int) < 7) = true := decide_eq_true (by omega)
      have SZ := hid (fun (w : World) => rsize17_any f.w f.h f.d f.c f.l p hlt w1 w2 h1 h2 w)
      obtain ⟨s1, s2, s3, s4⟩ := sizeR_bd f.w f.h f.l p w1 w2 h1 h2
      have M6 := hid (T6.out.below HB.out T6.out.lt)
      by_cases hz : 0 < (sizeR f.w f.h f.l p).1
      · have CC := hid (cnt_cols f Hh.out hlt hz)
        have CY := hid (cnt_yes f w1 hz)
        have CP := hid (cnt_pass f w1 hlt hz)
        obtain ⟨k, hk⟩ : ∃ k, k = cntI f p := ⟨_, rfl⟩
        rw [← hk] at CP CC CY Hok Hdn O
        have Hk2 := hid hk
        have hk2 : k < passN f := CP.out.1
        obtain ⟨_, pc1, pc2, pr1, pr2⟩ := pass_pos f Hh.out hk2
        have hsz := size_le f Hh.out Hmul.out hk2
        have hoff := offI_le f Hh.out Hmul.out k (by omega)
        have hpx2 := pixI_mono f (j := k + 1) (passN f) (by omega)
        rw [pixI, ← HpN.out, ← Hdn.out] at hpx2
        rw [CC.out] at SZ
        have h7 := passN_le f
        have hok5 : ok ≤ 31500 := by
          rw [Hok.out]
          exact Nat.le_trans hoff (Nat.le_trans (Nat.mul_le_mul (show k ≤ 7 by omega) (Nat.mul_le_mul_left 9 hm)) (by omega))
        have hrl8 : rowI f k ≤ 8 * colsI f k := row_le f Hh.out hk2
        have hmn : 1 ≤ manyI f ∧ manyI f ≤ 4 := ⟨(chan_in (headErr_deep Hh.out).2.2).1, (chan_in (headErr_deep Hh.out).2.2).2.1⟩
        have hco5 : colsI f k ≤ 500 := Nat.le_trans (Nat.le_mul_of_pos_left _ pr1) (Nat.le_trans hsz.1 hm)
        have hsg : segI f k = rowsI f k * (1 + rowI f k) := rfl
        obtain ⟨co, hco⟩ : ∃ c, c = colsI f k := ⟨_, rfl⟩
        obtain ⟨ro, hro⟩ : ∃ c, c = rowsI f k := ⟨_, rfl⟩
        obtain ⟨rl, hrl⟩ : ∃ c, c = rowI f k := ⟨_, rfl⟩
        have Hco := hid hco
        have Hro := hid hro
        have Hrl := hid hrl
        rw [← hco, ← hro] at SZ hpx2 hsz
        rw [← hro, ← hrl] at hsg
        rw [← hro] at pr1 pr2
        rw [← hco] at pc1 pc2 hco5
        rw [← hrl, ← hco] at hrl8
        have hsg9 : segI f k ≤ 4500 := by omega
        have Hsg := hid hsg
        have Hsg9 := hid hsg9
        have Hpx2 := hid hpx2
        have Hsz := hid hsz
        have hdn5 : dn ≤ 3500 := by omega
        clear hk hz s1 s2 s3 s4 hoff h7 hco hro hrl hsg hsg9 hpx2 hsz
        have q0 := M6.out.cell 0
        have q1 := M6.out.cell 1
        have q2 := M6.out.cell 2
        have q3 := M6.out.cell 3
        have q4 := M6.out.cell 4
        simp only [List.getElem?_toArray, List.getElem?_cons_zero, List.getElem?_cons_succ] at q0 q1 q2 q3 q4
        have l6' := M6.out.lt
        go_wp2_with fail
        refine (SZ.out wr).mono ?_
        rintro e w8 ⟨rfl, hb8⟩
        have O8 := hid (own_below O.out hb8 (Nat.le_refl _))
        have B8 := hid (HB.out.trans (hb8.mono HB.out.size))
        clear hb8 O HB q0 q1 q2 q3 q4 l6' M6 SZ
        go_upto_region 10 with (fail)
        go_loopw [9, 10, 14] (fun v9 v10 v14 wr => ∃ (y o2 dm : Nat) (A : Option Addr) (c : Nat), y ≤ ro ∧ o2 ≤ 36000 ∧ dm ≤ 3500 ∧ Hid (o2 = ok + y * (1 + rl)) ∧ Hid (dm = dn + y * co) ∧ v14 = .int .i64 (y : Int) ∧ v10 = .int .i64 (dm : Int) ∧ v9 = .slice A o2 c ∧ Hid (wr.ownsRow u3.heap.size 5 1 (.slice A o2 c) o2 (bytesV (outP f px pl 0 k ++ zP f px pl k y))) ∧ Hid (numdP f px pl dm) ∧ Hid (Below u3.heap.size u3 wr)) (fun _ _ i _ => ro - (intOf i).toNat)
        case atStart => exact ⟨0, ok, dn, A, c, by omega, by omega, hdn5, hid (by simp), hid (by simp), rfl, rfl, rfl, hid (by rw [zP, List.append_nil]; exact O8.out), HNu, B8⟩
        case round =>
          obtain ⟨y, o2, dm, A, c, hy, ho2, hdm, Ho2, Hdm, rfl, rfl, rfl, O2, HN2, HB2⟩ := hrel
          by_cases hly : y < ro
          · have dy : decide (y < ro) = true := decide_eq_true hly
            have dyi : decide ((y : Int) < (ro : Int)) = true := decide_eq_true (by omega)
            have hyc : y * co + co ≤ ro * co := by rw [← Nat.succ_mul]; exact Nat.mul_le_mul_right _ hly
            have hyr : y * (1 + rl) + (1 + rl) ≤ ro * (1 + rl) := by rw [← Nat.succ_mul]; exact Nat.mul_le_mul_right _ hly
            have hdc : dm + co ≤ pl.length := by have := Hpx2.out; have := Hdm.out; omega
            have hoc : o2 + (1 + rl) ≤ 36000 := by have := Hsg.out; have := Hsg9.out; have := Ho2.out; omega
            clear hyc hyr
            go_upto_region 14 with (fail)
            obtain ⟨w9, rfl⟩ : ∃ w9, w9 = wr := ⟨_, rfl⟩
            go_loopw [10, 15, 16] (fun v10 v15 v16 wx => ∃ (x d3 n3 : Nat) (A1 : Option Addr) (c1 : Nat), x ≤ co ∧ d3 ≤ 3500 ∧ n3 ≤ 2000 ∧ Hid (d3 = dm + x) ∧ Hid (n3 = x * manyI f) ∧ v16 = .int .i64 (x : Int) ∧ v10 = .int .i64 (d3 : Int) ∧ v15 = .slice A1 n3 c1 ∧ Hid (wx.ownsRow w9.heap.size 3 1 (.slice A1 n3 c1) n3 (intsV (nlP f px pl dm x))) ∧ Hid (numdP f px pl d3) ∧ Hid (Below w9.heap.size w9 wx)) (fun _ _ i _ => co - (intOf i).toNat)
            case atStart => exact ⟨0, dm, 0, none, 0, by omega, hdm, by omega, hid rfl, hid (by simp), rfl, rfl, rfl, hid (World.ownsRow_nil _ _ _ _), HN2, hid (Below.refl _ _)⟩
            case round =>
              obtain ⟨x, d3, n3, A1, c1, hx, hd3, hn3, Hd3, Hn3, rfl, rfl, rfl, O3, HN3, HB3⟩ := hrel
              have HB4 := hid (HB2.out.trans (HB3.out.mono HB2.out.size))
              by_cases hlx : x < co
              · have dx : decide (x < co) = true := decide_eq_true hlx
                have dxi : decide ((x : Int) < (co : Int)) = true := decide_eq_true (by omega)
                have hdl : d3 < pl.length := by have := Hd3.out; omega
                obtain ⟨pb, po, hPA, hpb, hpc⟩ := int_at (l := pl) (w := wr) (B := u3.heap.size) (A := A8) (by unfold RdI; rw [intsV_eq]; exact TO.out.below HB4.out (Nat.le_refl _)) hdl
                subst hPA
                obtain ⟨e1, e2⟩ := spread_in (l := f.l) (w := f.w.toNat) (h := f.h.toNat) (by rw [← Hpl.out]; exact List.getElem_mem hdl)
                rw [Hnat.out] at e2
                obtain ⟨vn, hvn⟩ : ∃ v : Nat, pl[d3] = (v : Int) := ⟨pl[d3].toNat, by rw [Int.toNat_of_nonneg e1]⟩
                have hvN : vn < N := by omega
                have hvl : vn < px.length := by rw [← HN.out]; exact hvN
                rw [hvn] at hpc
                have HNX := hid (show nmP f px pl d3 = numsOf f px[vn] by
                  have e : pl.getD d3 0 = (vn : Int) := by rw [List.getD_eq_getElem?_getD, List.getElem?_eq_getElem hdl, Option.getD_some, hvn]
                  unfold nmP gth
                  rw [e, Int.toNat_natCast, List.getD_eq_getElem?_getD, List.getElem?_eq_getElem hvl, Option.getD_some])
                have HWX := hid (TB.out.trans (HB4.out.mono TB.out.size))
                obtain ⟨bp, op, hPR, hbp, y0, y1, y2, y3⟩ := px_at (RdP.below Hr.out HWX.out (Nat.le_refl _)) hvl
                subst hPR
                have hWs := HWX.out.size
                have hbp2 : bp < wr.heap.size := by omega
                have hpb2 : pb < wr.heap.size := by have := HB4.out.size; omega
                have OF := hid (rnums_any f PA KA pc kc px[vn].1 px[vn].2.1 px[vn].2.2.1 px[vn].2.2.2 wr.drew Hf.out ((RdP.below Hp.out HWX.out (Nat.le_refl _)).more hWs).drew ((Rd.below Hk.out HWX.out (Nat.le_refl _)).more hWs).drew hpm)
                obtain ⟨pq, hpq⟩ : ∃ q, q = px[vn] := ⟨_, rfl⟩
                rw [← hpq] at HNX OF y0 y1 y2 y3
                obtain ⟨p0, p1, p2, p3⟩ := pq
                dsimp only at y0 y1 y2 y3 OF
                have X2 := hid (T2.out.below HB4.out T2.out.lt)
                have X4 := hid (T4.out.below HB4.out T4.out.lt)
                clear hpq e1 e2 hvn hWs
                go_upto_region 16 with (fail)
                refine free_lit (S := (Value × Bool) × World) (fun i => i == 9)
                  (fun x i => [.agg #[.int .i64 f.w, .int .i64 f.h, .int .i64 f.d, .int .i64 f.c, .int .i64 f.l, .slice PA f.pal.length pc, .slice KA f.key.length kc], .pointer (some ⟨g4, 2, none⟩), .slice (some ⟨bp, op, none⟩) N pr, .slice (some ⟨pb, po, none⟩) pl.length c8, .int .i64 (d3 : Nat), .pointer (some ⟨pb, po + d3, none⟩), .int .i64 (vn : Nat), .pointer (some ⟨bp, op + vn * 4, none⟩), .agg #[.int .i64 p0, .int .i64 p1, .int .i64 p2, .int .i64 p3], .tuple #[x.1.1, .bool x.1.2], .tuple #[x.1.1, .bool x.1.2], x.1.1, .bool x.1.2, x.1.1, .bool x.1.2].getD i undef)
                  (fun x => x.2) (fun k x => match k with | 0 => x = ((undef, false), wr.drew) | 1 => Below wr.heap.size wr x.2 ∧ NuM (numsOf f (p0, p1, p2, p3)) wr x | _ => False)
                  (fun i => if i ≤ 9 then 0 else 1) (fun i => 1) (fun _ => false) (fun _ => false) ?af1 ?ab1 1 (((undef, false), wr.drew)) (by kernel_rfl) (by kernel_rfl) (by kernel_rfl) (by kernel_rfl) (by kernel_rfl) (by kernel_rfl) (by kernel_rfl) rfl rfl ?haf1 ?hab1 ?hy1 ?hQ1
                case haf1 =>
                  intro x
                  simp only [actOf, dstAt, List.length_cons, List.length_nil, Nat.reduceAdd, List.getElem?_cons_zero, List.getElem?_cons_succ, Option.bind_some, if_true, List.getD_cons_zero, List.getD_cons_succ, Act.put, List.setIfInBounds_toArray, List.set_cons_zero, List.set_cons_succ]
                  rfl
                case hab1 =>
                  intro x
                  simp only [actOf, dstAt, List.length_cons, List.length_nil, Nat.reduceAdd, List.getElem?_cons_zero, List.getElem?_cons_succ, Option.bind_some, Bool.not_false, if_true, List.getD_cons_zero, List.getD_cons_succ, Act.put, List.setIfInBounds_toArray, List.set_cons_zero, List.set_cons_succ]
                  rfl
                case hy1 =>
                  intro k4 xw hR
                  have hb : Below wr.heap.size wr xw.2 := by
                    match k4, hR with
                    | 0, h => rw [show xw = ((undef, false), wr.drew) from h]; exact (Below.refl _ _).drew
                    | 1, h => exact h.1
                  have b2 := X2.out.below hb X2.out.lt
                  have b4 := X4.out.below hb X4.out.lt
                  have d0 := b2.cell 0
                  have d1 := b2.cell 1
                  have d2 := b2.cell 2
                  have d3 := b2.cell 3
                  have d4 := b2.cell 4
                  have d5 := b2.cell 5
                  have d6 := b2.cell 6
                  simp only [List.getElem?_toArray, List.getElem?_cons_zero, List.getElem?_cons_succ] at d0 d1 d2 d3 d4 d5 d6
                  have r2 := (b4.cell 2).trans rfl
                  have z0 := (hb.cell hpb2).trans hpc
                  have t0 := (hb.cell hbp2).trans y0
                  have t1 := (hb.cell hbp2).trans y1
                  have t2 := (hb.cell hbp2).trans y2
                  have t3 := (hb.cell hbp2).trans y3
                  simp only [AllY]
                  refine ⟨?_, ?_, ?_, ?_, ?_, ?_, ?_, ?_, ?_, ?_, ?_, ?_, ?_, ?_, ?_, trivial⟩
                  case refine_10 =>
                    intro hk
                    obtain rfl : k4 = 0 := hk
                    obtain rfl : xw = ((undef, false), wr.drew) := hR
                    refine .inr (.inr ⟨58, #[.agg #[.int .i64 f.w, .int .i64 f.h, .int .i64 f.d, .int .i64 f.c, .int .i64 f.l, .slice PA f.pal.length pc, .slice KA f.key.length kc], .agg #[.int .i64 p0, .int .i64 p1, .int .i64 p2, .int .i64 p3]], wr.drew, by simp [go_sem, Act.eval], ?_⟩)
                    refine (OF.out).mono ?_
                    intro e w5 hE
                    unfold NumEnd at hE
                    obtain ⟨hE, hb5⟩ := hE
                    cases hnu : numsOf f (p0, p1, p2, p3) with
                    | none =>
                      rw [hnu] at hE
                      exact ⟨.tuple #[.slice none 0 0, .bool false], hE, ((.slice none 0 0, false), w5), ⟨(Below.refl _ _).drew.trans hb5, rfl⟩, rfl, rfl, fun i hi hd hn => by
                        have hd : (if i ≤ 9 then 0 else 1) ≤ 0 := hd
                        dsimp only
                        refine agree_upto 9 ?_ i (by
                          rcases Nat.lt_or_ge i 9 with h | h
                          · exact h
                          · have : i ≠ 9 := hn
                            rw [if_neg (by omega)] at hd; omega)
                        rfl⟩
                    | some l =>
                      rw [hnu] at hE
                      obtain ⟨An, cn, he, ho⟩ := hE
                      exact ⟨.tuple #[.slice An l.length cn, .bool true], he, ((.slice An l.length cn, true), w5), ⟨(Below.refl _ _).drew.trans hb5, ⟨An, cn, rfl, ho⟩⟩, rfl, rfl, fun i hi hd hn => by
                        have hd : (if i ≤ 9 then 0 else 1) ≤ 0 := hd
                        dsimp only
                        refine agree_upto 9 ?_ i (by
                          rcases Nat.lt_or_ge i 9 with h | h
                          · exact h
                          · have : i ≠ 9 := hn
                            rw [if_neg (by omega)] at hd; omega)
                        rfl⟩
                  all_goals exact fun _ _ => .inl (by simp [execOp, go_sem, Act.eval, d0, d1, d2, d3, d4, d5, d6, r2, z0, t0, t1, t2, t3, hvN, hdl])
                case hQ1 =>
                  rintro ⟨⟨v1, okv⟩, w5⟩ ⟨hb5, hm5⟩
                  show Exit.then _ _ .normal _ w5
                  have O5 := hid (own_below O3.out hb5 (Nat.le_refl _))
                  have B5 := hid (HB3.out.trans (hb5.mono HB3.out.size))
                  have hz5 := B5.out.size
                  clear OF X2 X4 y0 y1 y2 y3 hpc hbp hbp2 hpb hpb2 hb5 O3 HB3
                  cases hnu : numsOf f (p0, p1, p2, p3) with
                  | none =>
                    rw [hnu] at hm5
                    have hm5 : (v1, okv) = (.slice none 0 0, false) := hm5
                    injection hm5 with e1 e2
                    subst e1 e2
                    have hno := packM_none (f := f) (px := px) (kind := 0) (i := d3) (by rw [← Hpl.out]; exact hdl) (by rw [← Hpl.out, HNX.out]; exact hnu)
                    have Hno := hid hno
                    clear hnu hno hm5
                    go_wp2_with fail
                    go_ret2
                    refine ⟨TB.out.trans ((HB2.out.trans (B5.out.mono HB2.out.size)).mono TB.out.size), ?_⟩
                    rw [Hno.out]
                    rfl
                  | some l =>
                    rw [hnu] at hm5
                    obtain ⟨An, cn, hm5, ho⟩ := hm5
                    injection hm5 with e1 e2
                    have e1 : v1 = .slice An l.length cn := e1
                    have e2 : okv = true := e2
                    subst e1 e2
                    have hll := nums_len Hf.out hnu
                    have HNx := hid (show nmP f px pl d3 = some l from HNX.out.trans hnu)
                    have Hll := hid hll
                    have OR := hid (own_rd ho)
                    have ON := hid (own_hnilH ho)
                    have hl4 : l.length ≤ 4 := by omega
                    have hxm : n3 + l.length ≤ 2000 := by
                      have h1 : (x + 1) * manyI f ≤ 500 * 4 := Nat.mul_le_mul (by omega) hmn.2
                      rw [Nat.succ_mul, ← Hn3.out, ← hll] at h1
                      omega
                    clear ho hnu hll
                    go_wp2_with (at_builtin; go_loud (refine wpList_app _ rfl _ _ _ rfl (w9.heap.size) 3 i0 (.int .i64 0) 1 8 Try.underlying25 Hi0.out Hz0.out Hz1.out Hz2.out rfl (by omega) A1 n3 c1 (intsV (nlP f px pl dm x)) rfl (O5.out) _ _ l.length cn (intsV l) rfl (OR.out) (ON.out) intsV_cellsH (by simp only [maxLen]; omega) (by omega) (by first | omega | (simp; omega)) ?_; intro A4 c4 w4 ha4; have Ha4 := hid ha4; clear ha4))
                    obtain ⟨o6, _, b6, _⟩ := Ha4.out
                    have O6 := hid (show w4.ownsRow w9.heap.size 3 1 (.slice A4 (n3 + l.length) c4) (n3 + l.length) (intsV (nlP f px pl dm (x + 1))) from by
                      rw [nlP, ← Hd3.out, HNx.out, Option.getD_some]
                      unfold intsV at o6 ⊢
                      rw [List.map_append]
                      exact o6)
                    have B6 := hid (B5.out.trans b6)
                    have HN6 := hid (numdP_succ HN3.out HNx.out)
                    clear o6 b6 Ha4 O5 B5
                    go_roundw
                    case rel => exact ⟨x + 1, d3 + 1, n3 + l.length, A4, c4, by omega, by omega, hxm, hid (by rw [Hd3.out]; omega), hid (by rw [Hn3.out, Hll.out, Nat.succ_mul]), by go_num, by go_num, rfl, O6, HN6, B6⟩
                    case measure => simp [intOf]; omega
              · have dx : decide (x < co) = false := decide_eq_false hlx
                have dxi : decide ((x : Int) < (co : Int)) = false := decide_eq_false (by omega)
                obtain rfl : x = co := by omega
                have hnl := nlP_len Hf.out HN3.out dm x (by have := Hd3.out; omega)
                have hnr := nlP_range (px := px) (pl := pl) Hf.out dm x
                have hd0 : 0 ≤ f.d := by have := deep_bd (headErr_deep Hh.out).1; omega
                have hrow : packB (nlP f px pl dm x) f.d.toNat = rowP f px pl k y := by
                  unfold rowP
                  rw [← Hco.out, ← Hdn.out, ← Hdm.out]
                have RP := hid (rspack_any A1 c1 n3 f.d.toNat (nlP f px pl dm x) wr (by rw [Int.toNat_of_nonneg hd0]; exact (headErr_deep Hh.out).1) (by rw [hnl, Hn3.out]) (by
                  unfold RdI
                  rw [intsV_eq, hnl, ← Hn3.out]
                  exact own_rd O3.out) hnr hn3)
                rw [hrow, Int.toNat_of_nonneg hd0] at RP
                have hrlen := rowP_len (y := y) Hf.out hk2 HN3.out (by rw [← Hco.out, ← Hdn.out, ← Hdm.out]; have := Hd3.out; omega)
                rw [← Hrl.out] at hrlen
                have M6 := hid (T6.out.below HB4.out T6.out.lt)
                have O2b := hid (own_below O2.out HB3.out (Nat.le_refl _))
                have hzb := HB4.out.size
                have HD3 := hid (show d3 = dn + (y + 1) * x by rw [Hd3.out, Hdm.out, Nat.succ_mul, Nat.add_assoc])
                have Hrlen := hid hrlen
                clear hnl hnr hrow O3 hlx hrlen hd0
                have q0 := M6.out.cell 0
                have q1 := M6.out.cell 1
                have q2 := M6.out.cell 2
                have q3 := M6.out.cell 3
                have q4 := M6.out.cell 4
                simp only [List.getElem?_toArray, List.getElem?_cons_zero, List.getElem?_cons_succ] at q0 q1 q2 q3 q4
                have l6' := M6.out.lt
                go_wp2_with fail
                refine (RP.out).mono ?_
                rintro e w5 ⟨A5, c5, rfl, o5, b5⟩
                rw [Hrlen.out] at o5 ⊢
                have B5 := hid (HB4.out.trans (b5.mono hzb))
                have O2c := hid (own_below O2b.out b5 (Nat.le_refl _))
                have R5 := hid o5
                have NE := hid (own_neB o5 O2b.out (Nat.le_refl _))
                have Z5 := hid (own_hnilH o5)
                have hz5 := B5.out.size
                clear b5 o5 O2 O2b HB3 HB4 RP M6 q0 q1 q2 q3 q4 l6' hzb
                have hyb : o2 + 1 + rl ≤ 36000 := by omega
                go_wp2_with (first
                  | (at_builtin; (refine wpList_app _ rfl _ _ _ rfl u3.heap.size 5 j0 (.int .u8 0) 1 1 Try.underlying28 Hj0.out Hw0.out Hw1.out Hw2.out rfl (by omega) A o2 c _ rfl (O2c.out.alloc _) _ _ 1 1 [.int .u8 0] rfl (rd_one _ _ _ _ (Blk.new _ _ _)) (by simp) (by simp [Value.oneCell']) (by simp only [maxLen]; omega) (by omega) (by first | omega | (simp; done) | (simp; omega)) ?_; intro A6 c6 w6 ha6; have Ha6 := hid ha6; have RK := hid (own_rd ((R5.out.alloc _).kept ha6.2.1 NE.out)); have hz6 : w5.heap.size ≤ w6.heap.size := Nat.le_trans (by simp) ha6.2.2.1.size; clear ha6))
                  | (at_builtin; go_loud (refine wpList_app _ rfl _ _ _ rfl u3.heap.size 5 j0 (.int .u8 0) 1 1 Try.underlying28 Hj0.out Hw0.out Hw1.out Hw2.out rfl (by omega) A6 (o2 + 1) c6 _ rfl Ha6.out.1 _ _ rl c5 (bytesV (rowP f px pl k y)) rfl (RK.out) (Z5.out) bytesV_cellsR (by simp only [maxLen]; omega) (by omega) (by first | omega | (simp; done) | (simp; omega)) ?_; intro A7 c7 w7 ha7; have Ha7 := hid ha7; clear ha7)))
                obtain ⟨_, _, b6, _⟩ := Ha6.out
                obtain ⟨o7, _, b7, _⟩ := Ha7.out
                have O7 := hid (show w7.ownsRow u3.heap.size 5 1 (.slice A7 (o2 + 1 + rl) c7) (o2 + 1 + rl) (bytesV (outP f px pl 0 k ++ zP f px pl k (y + 1))) from by
                  rw [zP, ← List.append_assoc, ← List.append_assoc]
                  unfold bytesV at o7 ⊢
                  rw [List.map_append, List.map_append (l₂ := [0])]
                  exact o7)
                have B7 := hid ((B5.out.alloc hz5 (.cells #[.int .u8 0] 5)).trans (b6.trans b7))
                clear o7 b6 b7 Ha6 Ha7 RK R5 NE O2c
                go_roundw
                case rel => exact ⟨y + 1, o2 + 1 + rl, d3, A7, c7, by omega, hyb, by omega, hid (by rw [Ho2.out, Nat.succ_mul]; omega), HD3, by go_num, rfl, rfl, O7, HN3, B7⟩
                case measure => simp [intOf]; omega
          · have dy : decide (y < ro) = false := decide_eq_false hly
            have dyi : decide ((y : Int) < (ro : Int)) = false := decide_eq_false (by omega)
            obtain rfl : y = ro := by omega
            have hN : pixI f k + rowsI f k * colsI f k ≤ dm := by rw [← Hro.out, ← Hco.out, ← Hdn.out, ← Hdm.out]; exact Nat.le_refl _
            have hsz := seg_zero Hf.out hk2 HN2.out hN
            rw [← Hro.out] at hsz
            have O4 := hid (show wr.ownsRow u3.heap.size 5 1 (.slice A o2 c) o2 (bytesV (outP f px pl 0 (cntI f (p + 1)))) from by rw [CY.out, outP, ← hsz]; exact O2.out)
            have HO4 := hid (show o2 = offI f (cntI f (p + 1)) by rw [CY.out, offI, ← Hok.out, Hsg.out, Ho2.out])
            have HD4 := hid (show dm = pixI f (cntI f (p + 1)) by rw [CY.out, pixI, ← Hdn.out, ← Hro.out, ← Hco.out, Hdm.out])
            clear hN hsz O2
            go_wp2
            go_roundw
            case rel => exact ⟨p + 1, o2, dm, A, c, by omega, HO4, HD4, by go_num, rfl, rfl, O4, HN2, HB2⟩
            case measure => simp [intOf]; omega
      · have hz0 : (sizeR f.w f.h f.l p).1 = 0 := by omega
        have hz1 := size_zero w1 hz0
        rw [hz0, hz1] at SZ
        have CN := hid (cnt_no f w1 hz)
        have q0 := M6.out.cell 0
        have q1 := M6.out.cell 1
        have q2 := M6.out.cell 2
        have q3 := M6.out.cell 3
        have q4 := M6.out.cell 4
        simp only [List.getElem?_toArray, List.getElem?_cons_zero, List.getElem?_cons_succ] at q0 q1 q2 q3 q4
        have l6' := M6.out.lt
        clear hz hz0 hz1 s1 s2 s3 s4
        go_wp2_with fail
        refine (SZ.out wr).mono ?_
        rintro e w8 ⟨rfl, hb8⟩
        have O8 := hid (own_below O.out hb8 (Nat.le_refl _))
        have B8 := hid (HB.out.trans (hb8.mono HB.out.size))
        clear hb8 O HB q0 q1 q2 q3 q4 l6'
        go_wp2_with fail
        go_loopw [9, 10, 14] (fun v9 v10 v14 wx => v9 = .slice A ok c ∧ v10 = .int .i64 (dn : Int) ∧ v14 = .int .i64 0 ∧ wx = w8) (fun _ _ _ _ => 0)
        case atStart => exact ⟨rfl, rfl, rfl, rfl⟩
        case round =>
          obtain ⟨rfl, rfl, rfl, rfl⟩ := hrel
          go_wp2_with fail
          go_roundw
          case rel => exact ⟨p + 1, ok, dn, A, c, by omega, hid (by rw [CN.out]; exact Hok.out), hid (by rw [CN.out]; exact Hdn.out), by go_num, rfl, rfl, hid (by rw [CN.out]; exact O8.out), HNu, B8⟩
          case measure => simp [intOf]; omega
    · obtain rfl : p = 7 := by omega
      have hall := cnt_all f
      rw [hall] at Hok Hdn O
      have hpk : packM f px 0 = some (outP f px pl 0 (passN f)) := by
        unfold packM
        rw [if_pos (by rw [← Hpl.out, HpN.out, ← Hdn.out]; exact HNu.out), ← Hpl.out]
      have hpl2 := outP_len f px pl 0 (passN f)
      rw [← Hok.out] at hpl2
      have Hpk := hid hpk
      have Hpl2 := hid hpl2
      clear hpk hpl2
      go_wp2_with fail
      go_ret2
      refine ⟨TB.out.trans (HB.out.mono TB.out.size), ?_⟩
      rw [Hpk.out]
      exact ⟨A, c, by rw [Hpl2.out]; rfl, by rw [Hpl2.out]; exact own_base O.out TB.out.size⟩
end Go.Proofs.Ytphhoihhmphbdaa
