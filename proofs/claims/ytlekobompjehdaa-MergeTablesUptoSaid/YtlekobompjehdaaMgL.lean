/-
  burnishlaw05's helpers: alive, used; burnishref04.Free.
-/
import Derived.Test.YtlekobompjehdaaMgK
namespace Go.Proofs.Ytlekobompjehdaa
open Go.RowKit Mg

theorem ex_a : bestLs (itemsOf [1, 1, 2, 4]) 2 4 = [3, 3, 2, 1] := by decide
theorem ex_b : bestLs (itemsOf [1, 1, 2, 4]) 1 4 = [2, 2, 2, 2] := by decide
theorem ex_l : (itemsOf [1, 1, 2, 4]).length = 4 := by decide
/-- the chapter's examples -/
theorem ex_any (A : Option Addr) (c K : Nat) (W : World) (hk : 1 ≤ K ∧ K ≤ 15) (h : RdI W W.heap.size A [1, 1, 2, 4]) :
    Calls Try.prog 18 #[.slice A 4 c, .int .i64 ((K + 1 : Nat) : Int)] W fun e w' => ∃ A' c', e = .returned (.tuple #[.slice A' 4 c', .nilIface]) ∧ w'.ownsRow W.heap.size 3 1 (.slice A' 4 c') 4 (intsV (bestLs (itemsOf [1, 1, 2, 4]) K 4)) ∧ Below W.heap.size W w' :=
  lengths_best A c [1, 1, 2, 4] W K h (by decide) hk.2 (by
    rw [ex_l]
    have := Nat.pow_le_pow_right (n := 2) (by omega) (show 2 ≤ K + 1 by omega)
    exact this)
theorem ints_lit (A : Option Addr) (c : Nat) (l : List Int) (cs : Array Value) (W : World) (h : RdI W W.heap.size A l) (hc : cs = (l.map (Value.int .i64)).toArray) (hm : l.length ≤ 1000000) :
    Calls Try.prog 45 #[.slice A l.length c, .slice (some ⟨W.heap.size, 0, none⟩) l.length l.length] (W.alloc (.cells cs 3)) fun e w' => e = .returned (.bool true) ∧ Below W.heap.size W w' := by
  have hb : Below W.heap.size W (W.alloc (.cells cs 3)) := (Below.refl _ _).alloc (Nat.le_refl _) _
  refine (ints_refl A (some ⟨W.heap.size, 0, none⟩) c l.length l _ (W.heap.size + 1) ((h.below hb (Nat.le_refl _)).more (by omega)) (RdI.new hc) (by omega)).mono fun e w' ⟨he, n, hw⟩ => ⟨he, ?_⟩
  rw [hw]
  exact below_drewN hb n
theorem own_rdi' {w : World} {base n c : Nat} {A : Option Addr} {o : List Int} (h : w.ownsRow base 3 1 (.slice A n c) n (intsV o)) (hn : n = o.length) : RdI w w.heap.size A o := by
  subst hn
  exact own_rdi h
set_option maxRecDepth 100000 in
set_option maxHeartbeats 2000000 in
theorem alive_any (W : World) : Calls Try.prog 14 #[] W fun e w' => e = .returned (.bool true) ∧ Below W.heap.size W w' := by
  have r1 : RdI (W.alloc (.cells #[.int .i64 1, .int .i64 1, .int .i64 2, .int .i64 4] 3)) (W.alloc (.cells #[.int .i64 1, .int .i64 1, .int .i64 2, .int .i64 4] 3)).heap.size (some ⟨W.heap.size, 0, none⟩) [1, 1, 2, 4] := by
    rw [World.size_alloc]
    exact RdI.new rfl
  have R1 := hid r1
  clear r1
  go_enter Try.func14, Try.ntmps14
  go_wp2_with fail
  refine (ex_any _ _ 2 _ (by omega) R1.out).mono ?_
  rintro e w1 ⟨A1, c1, rfl, ho1, hb1⟩
  have O1 := hid ho1
  have B1 := hid hb1
  clear ho1 hb1
  have r2 : RdI (w1.alloc (.cells #[.int .i64 1, .int .i64 1, .int .i64 2, .int .i64 4] 3)) (w1.alloc (.cells #[.int .i64 1, .int .i64 1, .int .i64 2, .int .i64 4] 3)).heap.size (some ⟨w1.heap.size, 0, none⟩) [1, 1, 2, 4] := by
    rw [World.size_alloc]
    exact RdI.new rfl
  have R2 := hid r2
  clear r2
  go_wp2_with fail
  refine (ex_any _ _ 1 _ (by omega) R2.out).mono ?_
  rintro e w2 ⟨A2, c2, rfl, ho2, hb2⟩
  have O2 := hid ho2
  have B2 := hid hb2
  clear ho2 hb2
  have hsz := B2.out.size
  rw [World.size_alloc] at hsz
  have A1' := hid (show RdI w2 w2.heap.size A1 [3, 3, 2, 1] from by
    have h := O1.out
    rw [ex_a] at h
    have h := own_rdi' h rfl
    refine (RdI.below (h.below ((Below.refl _ _).alloc (Nat.le_refl _) _) (Nat.le_refl _)) B2.out ?_).more ?_
    · rw [World.size_alloc]; omega
    · omega)
  have A2' := hid (show RdI w2 w2.heap.size A2 [2, 2, 2, 2] from by
    have h := O2.out
    rw [ex_b] at h
    exact own_rdi' h rfl)
  have B3 := hid (show Below W.heap.size W w2 from by
    have h1 := B1.out
    have h2 := B2.out
    have hs1 := h1.size
    rw [World.size_alloc] at h1 hs1 h2
    exact (((Below.refl _ _).alloc (Nat.le_refl _) _).trans (h1.mono (by omega))).trans (((Below.refl _ w1).alloc (by omega) _).trans (h2.mono (by omega))))
  clear hsz O1 B1 O2 B2 R1 R2
  go_wp2_with fail
  refine (ints_lit A1 c1 [3, 3, 2, 1] _ w2 A1'.out rfl (by decide)).mono ?_
  rintro e w3 ⟨rfl, hb3⟩
  have B4 := hid (B3.out.trans (hb3.mono B3.out.size))
  have A3' := hid ((A2'.out.below hb3 (Nat.le_refl _)).more hb3.size)
  clear hb3
  go_wp2_with fail
  refine (ints_lit A2 c2 [2, 2, 2, 2] _ w3 A3'.out rfl (by decide)).mono ?_
  rintro e w4 ⟨rfl, hb4⟩
  have B5 := hid (B4.out.trans (hb4.mono B4.out.size))
  clear hb4
  go_wp2
  go_ret
  exact ⟨rfl, B5.out⟩
theorem used_step (l : List Int) (j : Nat) : (itemsTo l (j + 1)).length = (itemsTo l j).length + if 0 < l.getD j 0 then 1 else 0 := by
  show (if 0 < l.getD j 0 then itemsTo l j ++ [⟨l.getD j 0, [j]⟩] else itemsTo l j).length = _
  split <;> simp
theorem used_any (A : Option Addr) (c : Nat) (l : List Int) (W : World) (B : Nat) (h : RdI W B A l) (hm : l.length ≤ 2000000) :
    Calls Try.prog 16 #[.slice A l.length c] W fun e w' => e = .returned (.int .i64 ((itemsOf l).length : Nat)) ∧ W = w' := by
  have H := hid h
  clear h
  go_enter Try.func16, Try.ntmps16
  go_upto_region 3 with (fail)
  go_loop [3, 8] (fun n i => ∃ j k : Nat, j ≤ l.length ∧ i = .int .i64 j ∧ n = .int .i64 k ∧ k = (itemsTo l j).length ∧ k ≤ j) (fun _ i => l.length - (intOf i).toNat)
  case atStart => exact ⟨0, 0, by omega, rfl, rfl, rfl, Nat.le_refl _⟩
  case round =>
    obtain ⟨j, k, hj, rfl, rfl, hk, hkj⟩ := hrel
    have Hk := hid hk
    clear hk
    by_cases hlt : j < l.length
    · have d1 : decide (j < l.length) = true := decide_eq_true hlt
      obtain ⟨b, off, rfl, hb, x0⟩ := int_at H.out hlt
      have st := used_step l j
      rw [List.getD_eq_getElem?_getD, List.getElem?_eq_getElem hlt] at st
      simp only [Option.getD_some] at st
      generalize l[j] = v at *
      by_cases hv : 0 < v
      · have d2 : decide (0 < v) = true := decide_eq_true hv
        rw [if_pos hv, ← Hk.out] at st
        have St := hid st
        clear st hv
        go_wp2
        go_round
        case rel => exact ⟨j + 1, k + 1, by omega, by go_num, by go_num, St.out.symm, by omega⟩
        case measure => simp [intOf]; omega
      · have d2 : decide (0 < v) = false := decide_eq_false hv
        rw [if_neg hv, ← Hk.out] at st
        have St := hid st
        clear st hv
        go_wp2
        go_round
        case rel => exact ⟨j + 1, k, by omega, by go_num, rfl, St.out.symm, by omega⟩
        case measure => simp [intOf]; omega
    · have d1 : decide (j < l.length) = false := decide_eq_false hlt
      obtain rfl : j = l.length := by omega
      go_wp2
      go_ret
      exact ⟨ret_int (by rw [itemsOf_len, Hk.out]), rfl⟩
/-- what lengths take up -/
def tk (l : List Int) (s : Nat) : Nat := if 0 < l.getD s 0 then 2 ^ (16 - (l.getD s 0).toNat) else 0
theorem tk_le (l : List Int) (s : Nat) : tk l s ≤ 65536 := by
  unfold tk
  split
  · exact pow_le16 (by omega)
  · omega
theorem SN_tk_le (l : List Int) : ∀ n, SN n (tk l) ≤ n * 65536
  | 0 => Nat.le_refl _
  | n + 1 => by
    have := SN_tk_le l n
    have := tk_le l n
    simp only [SN]
    omega
theorem half_pow {k : Nat} (h : k < 16) : 2 ^ (16 - k) = 2 * 2 ^ (16 - (k + 1)) := by
  rw [show 16 - k = 16 - (k + 1) + 1 by omega, Nat.pow_succ, Nat.mul_comm]
set_option maxRecDepth 100000 in
theorem free_any (A : Option Addr) (c : Nat) (l : List Int) (W : World) (B : Nat) (h : RdI W B A l) (hm : l.length ≤ 512) (hf : ∀ s, s < l.length → 0 ≤ l.getD s 0 ∧ l.getD s 0 ≤ 16) :
    Calls Try.prog 24 #[.slice A l.length c] W fun e w' => e = .returned (.tuple #[.int .i64 (65536 - (SN l.length (tk l) : Int)), .bool (decide ((SN l.length (tk l) : Int) ≤ 65536))]) ∧ W = w' := by
  have H := hid h
  have Hf := hid hf
  clear h hf
  go_enter Try.func24, Try.ntmps24
  go_upto_region 5 with (fail)
  go_loop [4, 5] (fun n i => ∃ j k : Nat, j ≤ l.length ∧ i = .int .i64 j ∧ n = .int .i64 k ∧ k = SN j (tk l) ∧ k ≤ j * 65536) (fun _ i => l.length - (intOf i).toNat)
  case atStart => exact ⟨0, 0, by omega, rfl, rfl, rfl, Nat.le_refl _⟩
  case round =>
    obtain ⟨j, k, hj, rfl, rfl, hk, hkj⟩ := hrel
    have Hk := hid hk
    clear hk
    by_cases hlt : j < l.length
    · have d1 : decide (j < l.length) = true := decide_eq_true hlt
      obtain ⟨b, off, rfl, hb, x0⟩ := int_at H.out hlt
      have st : SN (j + 1) (tk l) = SN j (tk l) + tk l j := rfl
      have hv := Hf.out j hlt
      have tkj := tk_le l j
      have ev : l.getD j 0 = l[j] := by rw [List.getD_eq_getElem?_getD, List.getElem?_eq_getElem hlt]; rfl
      rw [ev] at hv
      obtain ⟨v, hv2⟩ : ∃ v : Nat, l[j] = (v : Int) := ⟨l[j].toNat, by omega⟩
      rw [hv2] at x0 hv ev
      obtain ⟨T, hT⟩ : ∃ T, T = tk l j := ⟨_, rfl⟩
      rw [← hT, ← Hk.out] at st
      rw [← hT] at tkj
      have hv3 : v ≤ 16 := by omega
      have St := hid st
      clear hv2 st hv
      by_cases hv : 0 < v
      · have d2 : decide (0 < v) = true := decide_eq_true hv
        have hT2 : T = 2 ^ (16 - v) := by
          rw [hT]
          unfold tk
          rw [ev, if_pos (by omega)]
          simp
        have HT := hid hT2
        have Hv := hid hv
        clear hT ev hT2 hv
        go_upto_region 12 with (fail)
        go_loop [6, 7] (fun q i => ∃ p r : Nat, p ≤ v ∧ i = .int .i64 p ∧ q = .int .i64 r ∧ r = 2 ^ (16 - p) ∧ r ≤ 65536) (fun _ i => v - (intOf i).toNat)
        case atStart => exact ⟨0, 65536, by omega, rfl, rfl, rfl, Nat.le_refl _⟩
        case round =>
          obtain ⟨p, r, hp, rfl, rfl, hr, hr2⟩ := hrel
          have Hr := hid hr
          clear hr
          by_cases hpv : p < v
          · have d3 : decide (p < v) = true := decide_eq_true hpv
            have hh : r / 2 = 2 ^ (16 - (p + 1)) := by rw [Hr.out, half_pow (by omega), Nat.mul_comm, Nat.mul_div_cancel _ (by omega)]
            have Hh := hid hh
            clear hh
            go_wp2
            go_round
            case rel => exact ⟨p + 1, r / 2, by omega, by go_num, by go_num, Hh.out, Nat.le_trans (Nat.div_le_self _ _) hr2⟩
            case measure => simp [intOf]; omega
          · have d3 : decide (p < v) = false := decide_eq_false hpv
            obtain rfl : p = v := by omega
            have hrT : r = T := Hr.out.trans HT.out.symm
            have hk5 : k ≤ 33554432 := Nat.le_trans hkj (Nat.mul_le_mul_right 65536 (by omega : j ≤ 512))
            have Hkb := hid (show k + T ≤ (j + 1) * 65536 by rw [Nat.succ_mul]; exact Nat.add_le_add hkj tkj)
            clear hpv hkj
            go_wp2
            go_round
            case rel => exact ⟨j + 1, k + T, by omega, by go_num, by go_num, St.out.symm, Hkb.out⟩
            case measure => simp [intOf]; omega
      · have d2 : decide (0 < v) = false := decide_eq_false hv
        have hT2 : T = 0 := by
          rw [hT]
          unfold tk
          rw [ev, if_neg (by omega)]
        have St2 := hid (show SN (j + 1) (tk l) = k by rw [St.out, hT2]; rfl)
        obtain rfl : v = 0 := by omega
        clear hT ev hT2 hv
        go_wp2
        go_round
        case rel => exact ⟨j + 1, k, by omega, by go_num, rfl, St2.out.symm, Nat.le_trans hkj (Nat.mul_le_mul_right _ (by omega))⟩
        case measure => simp [intOf]; omega
    · have d1 : decide (j < l.length) = false := decide_eq_false hlt
      obtain rfl : j = l.length := by omega
      have hk5 : k ≤ 33554432 := Nat.le_trans hkj (Nat.mul_le_mul_right 65536 hm)
      go_wp2
      go_ret2
      exact ⟨by rw [← Hk.out]; rfl, rfl⟩
end Go.Proofs.Ytlekobompjehdaa
