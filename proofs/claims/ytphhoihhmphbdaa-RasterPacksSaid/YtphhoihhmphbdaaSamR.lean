/-
  burnishref03: digits, numbers, bits in the high order; burnishref16.Unpack: the same numbers.
-/
import Derived.Test.YtphhoihhmphbdaaSamA
import Derived.Test.YtphhoihhmphbdaaSlc
namespace Go.Proofs.Ytphhoihhmphbdaa
open Go.RowKit

/-- digits of a number, the highest first -/
def dgB (n : Int) : Nat → List Int
  | 0 => []
  | k + 1 => (n / 2 ^ k % 2) :: dgB n k
theorem dgB_length (n : Int) : ∀ k, (dgB n k).length = k
  | 0 => rfl
  | k + 1 => by rw [dgB, List.length_cons, dgB_length n k]
theorem intsV_cellsH {l : List Int} : ∀ u ∈ intsV l, u.oneCell' = true := by intro u hu; obtain ⟨x, _, rfl⟩ := List.mem_map.1 hu; rfl
def IntsEndH (l : List Int) (W : World) (e : Ending) (w' : World) : Prop := ∃ A c, e = .returned (.slice A l.length c) ∧ w'.ownsRow W.heap.size 3 1 (.slice A l.length c) l.length (intsV l) ∧ Below W.heap.size W w'
theorem div_stepH (n : Int) (j : Nat) : n / 2 ^ j / 2 = n / 2 ^ (j + 1) := by rw [Int.ediv_ediv_of_nonneg (Int.le_of_lt (Int.pow_pos (by decide)))]; rfl
theorem own_hnilH {w : World} {base t sz n c : Nat} {A : Option Addr} {xs : List Value} (h : w.ownsRow base t sz (.slice A n c) n xs) : A = none → n = 0 := by
  rintro rfl
  rcases h.2 with ⟨_, e⟩ | ⟨g, cap, cur, e, _⟩
  · exact e
  · cases e
theorem own_oneH (w : World) (B : Nat) (hB : B ≤ w.heap.size) (v : Value) : (w.alloc (.cells #[v] 3)).ownsRow B 3 1 (.slice (some ⟨w.heap.size, 0, none⟩) 1 1) 1 [v] :=
  ⟨by simp, .inr ⟨w.heap.size, 1, #[v], rfl, hB, Blk.new w 3 _, Nat.le_refl _, by simp only [maxLen]; omega, by simp, by simp⟩⟩
set_option maxRecDepth 100000 in
set_option maxHeartbeats 4000000 in
theorem digitsH_any (n : Int) (k : Nat) (h0 : 0 ≤ n) (h1 : n < 4294967296) (hk : k ≤ 32) (W : World) : Calls Try.prog 106 #[.int .i64 n, .int .i64 (k : Int), .bool true] W (IntsEndH (dgB n k) W) := by
  obtain ⟨i0, hi0, hz0, hz1, hz2⟩ := info_parts int_info
  have Hi0 := hid hi0
  have Hz0 := hid hz0
  have Hz1 := hid hz1
  have Hz2 := hid hz2
  clear hi0 hz0 hz1 hz2
  go_enter Try.func106, Try.ntmps106
  go_wp2_with fail
  go_loopw [0, 7, 8] (fun v0 v7 v8 wr => ∃ (j : Nat) (A' : Option Addr) (c' : Nat), j ≤ k ∧ v0 = .int .i64 (n / 2 ^ j) ∧ v7 = .slice A' j c' ∧ v8 = .int .i64 (j : Int) ∧ Hid (wr.ownsRow W.heap.size 3 1 (.slice A' j c') j (intsV (dgB n j))) ∧ Hid (Below W.heap.size W wr)) (fun _ _ i _ => k - (intOf i).toNat)
  case atStart => exact ⟨0, none, 0, by omega, by simp, rfl, rfl, hid (World.ownsRow_nil _ _ _ _), hid (Below.refl _ _)⟩
  case round =>
    obtain ⟨j, A', c', hj, rfl, rfl, rfl, O, B⟩ := hrel
    by_cases hlt : j < k
    · have hq0 : 0 ≤ n / 2 ^ j := Int.ediv_nonneg h0 (Int.le_of_lt (Int.pow_pos (by decide)))
      have hq1 : n / 2 ^ j ≤ n := Int.ediv_le_self _ h0
      have HS := hid (div_stepH n j)
      have HD := hid (show dgB n (j + 1) = [n / 2 ^ j % 2] ++ dgB n j from rfl)
      obtain ⟨q, hq⟩ : ∃ q, q = n / 2 ^ j := ⟨_, rfl⟩
      rw [← hq] at hq0 hq1 HS HD ⊢
      have hz := B.out.size
      have tm : q.tmod 2 = q % 2 := Int.tmod_eq_emod_of_nonneg hq0
      have td : q.tdiv 2 = q / 2 := Int.tdiv_eq_ediv_of_nonneg hq0
      have N1 := hid (own_oneH wr W.heap.size hz (.int .i64 (q % 2)))
      have O1 := hid (own_rd (own_below O.out ((Below.refl wr.heap.size wr).alloc (Nat.le_refl _) (.cells #[.int .i64 (q % 2)] 3)) (Nat.le_refl _)))
      have Z1 := hid (own_hnilH O.out)
      clear hq
      go_wp2_with (at_builtin; go_loud (refine wpList_app _ rfl _ _ _ rfl (W.heap.size) 3 i0 (.int .i64 0) 1 8 Try.underlying25 Hi0.out Hz0.out Hz1.out Hz2.out rfl (by omega) (some ⟨wr.heap.size, 0, none⟩) 1 1 [.int .i64 (q % 2)] rfl N1.out _ A' j c' (intsV (dgB n j)) rfl O1.out Z1.out intsV_cellsH (by simp only [maxLen]; omega) (by omega) (by first | omega | (simp; omega)) ?_; intro A4 c4 w4 ha4; have Ha4 := hid ha4; clear ha4))
      obtain ⟨hown4, _, hb4, _⟩ := Ha4.out
      have e1 : 1 + j = j + 1 := Nat.add_comm 1 j
      rw [e1] at hown4
      exact ⟨⟨j + 1, A4, c4, by omega, by rw [← HS.out], by first | rfl | (rw [e1]) | (congr 1), by go_num, hid (by rw [HD.out]; unfold intsV at hown4 ⊢; rw [List.map_append]; exact hown4), hid (B.out.trans (((Below.refl _ _).alloc hz _).trans hb4))⟩, by simp [intOf]; omega⟩
    · obtain rfl : j = k := by omega
      go_wp2_with fail
      go_ret
      exact ⟨A', c', by rw [dgB_length]; rfl, by rw [dgB_length]; exact O.out, B.out⟩
theorem numH_part (L : List Int) (k n : Nat) : ∀ b, b ≤ n → numH ((L.drop k).take n) 0 b = numH L k b
  | 0, _ => rfl
  | b + 1, h => by
    show 2 * numH _ 0 b + ((L.drop k).take n).getD (0 + b) 0 = 2 * numH L k b + L.getD (k + b) 0
    rw [numH_part L k n b (by omega)]
    congr 1
    rw [List.getD_eq_getElem?_getD, List.getD_eq_getElem?_getD, List.getElem?_take, if_pos (by omega), List.getElem?_drop, Nat.zero_add]
set_option maxRecDepth 100000 in
set_option maxHeartbeats 4000000 in
theorem numberH_any (A : Option Addr) (c n : Nat) (l : List Int) (W : World) (hn : n = l.length) (h : RdI W W.heap.size A l) (hb : ∀ x ∈ l, isBit x) (hm : n ≤ 32) : Calls Try.prog 95 #[.slice A n c, .bool true] W fun e w' => e = .returned (.int .i64 (numH l 0 n)) ∧ w' = W := by
  have H := hid h
  have Hb := hid hb
  have Hn := hid hn
  clear h hb hn
  go_enter Try.func95, Try.ntmps95
  go_wp2_with fail
  go_loop [5, 6] (fun v i => ∃ j : Nat, j ≤ n ∧ v = .int .i64 (numH l 0 j) ∧ i = .int .i64 (j : Int)) (fun _ i => n - (intOf i).toNat)
  case atStart => exact ⟨0, by omega, rfl, rfl⟩
  case round =>
    obtain ⟨j, hj, rfl, rfl⟩ := hrel
    by_cases hlt : j < n
    · have hjl : j < l.length := by rw [← Hn.out]; exact hlt
      obtain ⟨b, off, hA, hbb, hc⟩ := int_at H.out hjl
      subst hA
      have hbd := numH_bd Hb.out 0 j
      have hbit := Hb.out _ (List.getElem_mem hjl)
      have hst : numH l 0 (j + 1) = 2 * numH l 0 j + l[j] := by
        show 2 * numH l 0 j + l.getD (0 + j) 0 = _
        rw [Nat.zero_add, List.getD_eq_getElem?_getD, List.getElem?_eq_getElem hjl, Option.getD_some]
      have hpm := pow_mono (show j ≤ 32 by omega)
      have hp32 : (2 : Int) ^ 32 = 4294967296 := by decide
      rw [hp32] at hpm
      have Hst := hid hst
      generalize l[j]'hjl = x at *
      generalize hK : numH l 0 j = K at *
      have hx : x = 0 ∨ x = 1 := hbit
      have tw2 : IntKind.i64.wrap (2 * K) = 2 * K := IntWalk.i64_in _ (by omega)
      have tw3 : IntKind.i64.wrap (2 * K + x) = 2 * K + x := IntWalk.i64_in _ (by omega)
      clear hst hbit hK
      go_wp2_with fail
      go_round
      case rel => exact ⟨j + 1, by omega, by rw [Hst.out], by go_num⟩
      case measure => simp [intOf]; omega
    · obtain rfl : j = n := by omega
      go_wp2_with fail
      go_ret
      exact ⟨rfl, rfl⟩
theorem bitsH_snoc (l : List Int) (x : Int) : bitsH (l ++ [x]) = bitsH l ++ dgB x 8 := by
  have e8 : dgB x 8 = (List.range 8).map (fun i => x / 2 ^ (7 - i) % 2) := rfl
  rw [e8]
  refine List.ext_getElem (by simp [bitsH_length]; omega) fun i h1 h2 => ?_
  rw [List.getElem_append]
  split
  · rename_i h
    rw [bitsH_length] at h
    simp only [bitsH, List.getElem_map, List.getElem_range, bitH]
    rw [List.getD_eq_getElem?_getD, List.getD_eq_getElem?_getD, List.getElem?_append_left (by omega)]
  · rename_i h
    rw [bitsH_length] at h h1
    rw [List.length_append, List.length_singleton] at h1
    simp only [bitsH, List.getElem_map, List.getElem_range, bitH, List.length_map, List.length_range]
    rw [List.getD_eq_getElem?_getD, List.getElem?_append_right (by omega), show i / 8 - l.length = 0 by omega, show i % 8 = i - 8 * l.length by omega, List.getElem?_cons_zero, Option.getD_some]
set_option maxRecDepth 100000 in
set_option maxHeartbeats 4000000 in
theorem rbitsH_any (A : Option Addr) (c n : Nat) (l : List Int) (W : World) (hn : n = l.length) (h : Rd W W.heap.size 1 A l.length (bytesV l)) (hb : ∀ x ∈ l, isB x) (hm : n ≤ 100000) : Calls Try.prog 94 #[.slice A n c, .bool true] W (IntsEndH (bitsH l) W) := by
  have H := hid h
  have Hb := hid hb
  have Hn := hid hn
  clear h hb hn
  obtain ⟨i0, hi0, hz0, hz1, hz2⟩ := info_parts int_info
  have Hi0 := hid hi0
  have Hz0 := hid hz0
  have Hz1 := hid hz1
  have Hz2 := hid hz2
  clear hi0 hz0 hz1 hz2
  go_enter Try.func94, Try.ntmps94
  go_wp2_with fail
  go_loopw [5, 6] (fun v i wr => ∃ (j k : Nat) (A' : Option Addr) (c' : Nat), j ≤ n ∧ k ≤ 8 * n ∧ Hid (k = 8 * j) ∧ v = .slice A' k c' ∧ i = .int .i64 (j : Int) ∧ Hid (wr.ownsRow W.heap.size 3 1 (.slice A' k c') k (intsV (bitsH (l.take j)))) ∧ Hid (Below W.heap.size W wr)) (fun _ i _ => n - (intOf i).toNat)
  case atStart => exact ⟨0, 0, none, 0, by omega, by omega, hid rfl, rfl, rfl, hid (World.ownsRow_nil _ _ _ _), hid (Below.refl _ _)⟩
  case round =>
    obtain ⟨j, k, A', c', hj, hkn, Hk, rfl, rfl, O, B⟩ := hrel
    by_cases hlt : j < n
    · have hjl : j < l.length := by rw [← Hn.out]; exact hlt
      obtain ⟨b, off, hA, hbb, hc⟩ := byte_at (H.out.below B.out (Nat.le_refl _)) hjl
      subst hA
      have htk : l.take (j + 1) = l.take j ++ [l[j]] := List.take_succ_eq_append_getElem hjl
      have hx := Hb.out _ (List.getElem_mem hjl)
      have hs := bitsH_snoc (l.take j) l[j]
      rw [← htk] at hs
      rw [List.getD_eq_getElem?_getD, List.getElem?_eq_getElem hjl, Option.getD_some] at hc
      have HS := hid hs
      generalize l[j]'hjl = x at *
      unfold isB at hx
      have tw : IntKind.i64.wrap x = x := IntWalk.i64_in _ (by omega)
      have tw2 : wrap64 x = x := by unfold wrap64; omega
      have hz := B.out.size
      have hbw : b < wr.heap.size := by omega
      clear htk hs
      go_wp2_with fail
      refine (digitsH_any x 8 (by omega) (by omega) (by omega) _).mono ?_
      rintro e w3 ⟨A3, c3, rfl, ho3, hb3⟩
      rw [dgB_length] at ho3 ⊢
      have B3 := hid (B.out.trans (hb3.mono hz))
      have O3 := hid (own_rd ho3)
      have Z3 := hid (own_hnilH ho3)
      have O4 := hid (own_below O.out hb3 (Nat.le_refl _))
      have hz3 := B3.out.size
      clear ho3 hb3
      go_wp2_with (at_builtin; (refine wpList_app _ rfl _ _ _ rfl (W.heap.size) 3 i0 (.int .i64 0) 1 8 Try.underlying25 Hi0.out Hz0.out Hz1.out Hz2.out rfl (by omega) A' k c' (intsV (bitsH (l.take j))) rfl (O4.out) _ _ 8 c3 (intsV (dgB x 8)) rfl (O3.out) (Z3.out) intsV_cellsH (by simp only [maxLen]; omega) (by omega) (by first | omega | (simp; omega)) ?_; intro A4 c4 w4 ha4; have Ha4 := hid ha4; clear ha4))
      obtain ⟨hown4, _, hb4, _⟩ := Ha4.out
      exact ⟨⟨j + 1, k + 8, A4, c4, by omega, by have := Hk.out; omega, hid (by rw [Hk.out]; omega), rfl, by go_num, hid (by rw [HS.out]; unfold intsV at hown4 ⊢; rw [List.map_append]; exact hown4), hid (B3.out.trans hb4)⟩, by simp [intOf]; omega⟩
    · have hje : l.take j = l := List.take_of_length_le (by rw [← Hn.out]; omega)
      rw [hje] at O
      have HL := hid (bitsH_length l)
      rw [← Hn.out] at HL
      have Hk2 := hid (show k = (bitsH l).length by rw [HL.out, Hk.out]; omega)
      obtain rfl : j = n := by omega
      go_wp2_with fail
      go_ret
      exact ⟨A', c', by rw [← Hk2.out]; rfl, by rw [← Hk2.out]; exact O.out, B.out⟩
theorem rdeep_any (d : Int) (hd : deepOk d) (W : World) : Calls Try.prog 93 #[.int .i64 d] W fun e w' => e = .returned (.bool true) ∧ W = w' := by
  rcases hd with rfl | rfl | rfl | rfl | rfl
  all_goals
    go_enter Try.func93, Try.ntmps93
    go_wp2
    go_ret
    exact ⟨rfl, rfl⟩
theorem own_capH {w : World} {base t sz n c : Nat} {A : Option Addr} {xs : List Value} (h : w.ownsRow base t sz (.slice A n c) n xs) : n ≤ c := by
  rcases h.2 with ⟨e, e2⟩ | ⟨g, cap, cur, e, _, _, h1, _⟩
  · omega
  · injection e with _ _ e3
    omega
def RunpEnd (row : List Int) (d count : Nat) (W : World) (e : Ending) (w' : World) : Prop :=
  ∃ A c, e = .returned (.tuple #[.slice A count c, .bool true]) ∧ w'.ownsRow W.heap.size 3 1 (.slice A count c) count (intsV (unpM row d count)) ∧ Below W.heap.size W w'
theorem unpM_snoc (row : List Int) (d i : Nat) : unpM row d (i + 1) = unpM row d i ++ [numH (bitsH row) (i * d) d] := by unfold unpM; rw [List.range_succ, List.map_append]; rfl
set_option maxRecDepth 100000 in
set_option maxHeartbeats 8000000 in
theorem rsunpack_any (A : Option Addr) (c n d count : Nat) (row : List Int) (W : World) (hd : deepOk (d : Int)) (hn : n = row.length) (hl : 8 * n = count * d + 7 - (count * d + 7) % 8) (hc : count ≤ 100000) (hr : Rd W W.heap.size 1 A row.length (bytesV row)) (ok : ∀ x ∈ row, isB x) (hm : n ≤ 100000) :
    Calls Try.prog 51 #[.slice A n c, .int .i64 (d : Int), .int .i64 (count : Int)] W (RunpEnd row d count W) := by
  obtain ⟨i0, hi0, hz0, hz1, hz2⟩ := info_parts int_info
  have Hi0 := hid hi0
  have Hz0 := hid hz0
  have Hz1 := hid hz1
  have Hz2 := hid hz2
  have hd16 : 1 ≤ d ∧ d ≤ 16 := by unfold deepOk at hd; omega
  have hd1 := hd16.1
  have hd2 := hd16.2
  obtain ⟨Q, hQ⟩ : ∃ Q, Q = count * d := ⟨_, rfl⟩
  have hQm : (count : Int) * (d : Int) = (Q : Int) := by rw [hQ]; simp
  have hQb : Q ≤ 1600000 := by rw [hQ]; exact Nat.mul_le_mul hc hd2
  rw [← hQ] at hl
  have HQ := hid hQ
  have Hl := hid hl
  have hQn : Q ≤ 8 * n := by omega
  have HD := hid (rdeep_any (d : Int) hd W)
  have BI := hid (fun w (hb : Below W.heap.size W w) => rbitsH_any A c n row w hn ((hr.below hb (Nat.le_refl _)).more hb.size) ok hm)
  have HL := hid (show (bitsH row).length = 8 * n by rw [bitsH_length, hn])
  clear hi0 hz0 hz1 hz2 hd16 hQ hr hd ok hn hl
  go_enter Try.func51, Try.ntmps51
  go_upto_region 1 with (fail)
  go_cut [22] from 12 to 22 (fun v wq => v = .bool false ∧ W = wq)
  · go_wp2_with (go_at_call 93; refine (HD.out).mono ?_; rintro e w5 ⟨rfl, rfl⟩)
    go_meet
    exact ⟨by rw [decide_eq_false (show ¬ (count : Int) < 0 by omega), decide_eq_false (show ¬ 1048576 < (count : Int) by omega)]; rfl, rfl⟩
  obtain ⟨rfl, rfl⟩ := hcut
  go_upto_region 4 with (fail)
  go_loop [8] (fun v => ∃ x : Nat, Q ≤ x ∧ x ≤ 8 * n ∧ v = .int .i64 (x : Int)) (fun v => 8 * n - (intOf v).toNat)
  case atStart => exact ⟨Q, by omega, by omega, rfl⟩
  case round =>
    obtain ⟨x, hx1, hx2, rfl⟩ := hrel
    have tm : (x : Int).tmod 8 = ((x % 8 : Nat) : Int) := by rw [Int.tmod_eq_emod_of_nonneg (by omega)]; omega
    have tm2 : (x : Int) % 8 = ((x % 8 : Nat) : Int) := by omega
    by_cases hx : x % 8 = 0
    · have hxe : x = 8 * n := by have := Hl.out; omega
      have e0 : (((x % 8 : Nat) : Int) == 0) = true := by rw [hx]; rfl
      have e1 : (x % 8 == 0) = true := by rw [hx]; rfl
      have HX := hid hx
      clear hx
      generalize x % 8 = r at *
      have h8 : (8 : Int) * (n : Int) = (x : Int) := by omega
      have HXE := hid hxe
      clear hxe
      go_upto_region 8 with (fail)
      go_wp2_with fail
      refine (BI.out W (Below.refl _ _)).mono ?_
      rintro e w1 ⟨AL, cL, rfl, oL, hb1⟩
      rw [HL.out] at oL ⊢
      have OL := hid oL
      have B1 := hid hb1
      clear oL hb1
      have OO := hid (World.ownsRow_nil w1 w1.heap.size 3 1)
      have CL := hid (own_capH OL.out)
      have RL := hid (own_rd OL.out)
      have ON := hid (fun (h : AL = none) => by have := OL.out; rw [h] at this; exact own_nil this)
      clear OL
      go_upto_region 11 with (fail)
      go_loopw [10, 11] (fun v i wr => ∃ (j c1 : Nat) (A1 : Option Addr), j ≤ count ∧ i = .int .i64 (j : Int) ∧ v = .slice A1 j c1 ∧ Hid (wr.ownsRow w1.heap.size 3 1 (.slice A1 j c1) j (intsV (unpM row d j))) ∧ Hid (Below w1.heap.size w1 wr)) (fun _ i _ => count - (intOf i).toNat)
      case atStart => exact ⟨0, 0, none, by omega, rfl, rfl, OO, hid (Below.refl _ _)⟩
      case round =>
        obtain ⟨j, c1, A1, hj, rfl, rfl, O1, BB⟩ := hrel
        by_cases hlt : j < count
        · have d2 : decide (j < count) = true := decide_eq_true hlt
          have hjd : j * d + d ≤ 8 * n := by
            have h1 : (j + 1) * d ≤ count * d := Nat.mul_le_mul_right _ (by omega)
            rw [Nat.succ_mul, ← HQ.out] at h1
            omega
          obtain ⟨P, hP⟩ : ∃ P, P = j * d := ⟨_, rfl⟩
          have hPm : (j : Int) * (d : Int) = (P : Int) := by rw [hP]; simp
          have HS := hid (unpM_snoc row d j)
          rw [← hP] at hjd HS
          have hpt := numH_part (bitsH row) P d d (Nat.le_refl _)
          clear hP
          obtain ⟨A5, hs5, hr5, _⟩ := slcI_lh (bitsH row) (P : Int) ((P : Int) + (d : Int)) P (P + d) d rfl (by omega) rfl hjd CL.out ON.out (RL.out.below BB.out (Nat.le_refl _))
          have hql : (((bitsH row).drop P).take d).length = d := by rw [List.length_take, List.length_drop, HL.out]; omega
          have NC := hid (numberH_any A5 (cL - P) d (((bitsH row).drop P).take d) wr hql.symm (by unfold RdI; rw [hql, intsV_eq]; exact hr5.more BB.out.size) (fun y hy => bitsH_bit row y (List.mem_of_mem_drop (List.mem_of_mem_take hy))) (by omega))
          rw [hpt] at NC
          generalize numH (bitsH row) P d = v at *
          have hsw := BB.out.size
          clear hr5 hql hpt
          go_wp2_with (first
            | (go_at_call 95; refine (NC.out).mono ?_; rintro e w5 ⟨rfl, rfl⟩)
            | (at_builtin; go_loud (refine wpList_app _ rfl _ _ _ rfl w1.heap.size 3 i0 (.int .i64 0) 1 8 Try.underlying25 Hi0.out Hz0.out Hz1.out Hz2.out rfl (by omega) A1 j c1 _ rfl (O1.out.alloc _) _ _ 1 1 [.int .i64 v] rfl (rd_one _ _ _ _ (Blk.new _ _ _)) (by simp) (by simp [Value.oneCell']) (by simp only [maxLen]; omega) (by omega) (by simp; omega) ?_; intro A6 c6 w9 ha6; have Ha6 := hid ha6; clear ha6)))
          obtain ⟨o6, g6, b6, _⟩ := Ha6.out
          have O6 := hid (show w9.ownsRow w1.heap.size 3 1 (.slice A6 (j + 1) c6) (j + 1) (intsV (unpM row d (j + 1))) from by rw [HS.out]; unfold intsV at o6 ⊢; rw [List.map_append]; exact o6)
          have B6 := hid ((BB.out.alloc BB.out.size (.cells #[.int .i64 v] 3)).trans b6)
          clear o6 g6 b6 Ha6 O1 BB
          go_roundw
          case rel => exact ⟨j + 1, c6, A6, by omega, by go_num, rfl, O6, B6⟩
          case measure => simp [intOf]; omega
        · obtain rfl : j = count := by omega
          go_wp2_with fail
          go_ret2
          exact ⟨A1, c1, rfl, own_base O1.out B1.out.size, B1.out.trans (BB.out.mono B1.out.size)⟩
    · have e0 : (((x % 8 : Nat) : Int) == 0) = false := beq_eq_false_iff_ne.2 (by omega)
      have e1 : (x % 8 == 0) = false := beq_eq_false_iff_ne.2 hx
      have hxl : x < 8 * n := by have := Hl.out; omega
      clear hx
      generalize x % 8 = r at *
      go_wp2_with fail
      go_round
      case rel => exact ⟨x + 1, by omega, by omega, by go_num⟩
      case measure => simp [intOf]; omega
end Go.Proofs.Ytphhoihhmphbdaa
