/-
  ZlibBack's law.
-/
import Derived.Test.YtegmbjkpjglgpaaZuG
namespace Go.Proofs.Ytegmbjkpjglgpaa
open Go.RowKit

theorem rd_takeZ {w : World} {B : Nat} {A : Option Addr} {l : List Int} (h : Rd w B 1 A l.length (bytesV l)) (k : Nat) (hk : k ≤ l.length) : Rd w B 1 A k (bytesV (l.take k)) := by
  have hl : (bytesV (l.take k)).length = k := by rw [bytesV_length, List.length_take]; omega
  refine ⟨by rw [hl, Nat.mul_one], fun hp => ?_⟩
  rw [hl] at hp
  obtain ⟨b, off, e, h1, h2⟩ := h.2 (by rw [bytesV_length]; omega)
  refine ⟨b, off, e, h1, fun j u hu => h2 j u ?_⟩
  unfold bytesV at hu ⊢
  rw [List.map_take, List.getElem?_take] at hu
  split at hu
  · exact hu
  · cases hu
theorem own_nilZ {w : World} {base t sz n c k : Nat} {A : Option Addr} {xs : List Value} (h : w.ownsRow base t sz (.slice A n c) k xs) : A = none → c = 0 := by
  rcases h.2 with ⟨e1, _⟩ | ⟨g', cap, cur, e1, _⟩
  · intro _; cases e1; rfl
  · intro hA; cases e1; cases hA
theorem u64_nn (b : Int) : 0 ≤ IntKind.u64.wrap b := by
  unfold IntKind.wrap
  show 0 ≤ b % 2 ^ 64
  exact Int.emod_nonneg _ (by decide)
theorem u64_parts (b : Int) : ∃ u : Nat, IntKind.u64.wrap b = (u : Int) := ⟨(IntKind.u64.wrap b).toNat, (Int.toNat_of_nonneg (u64_nn b)).symm⟩
theorem by_parts (u lw us : Nat) (h : lw = us + 6) (hl : lw ≤ 400) : ∃ q r ps : Nat, r < 8 ∧ ps < lw ∧ (u : Int).tmod 4 = (q : Int) ∧ (u : Int).tmod 8 = (r : Int) ∧ wrap64 (q : Int) = (q : Int) ∧ wrap64 ((lw : Int) - 1 - (q : Int)) = (ps : Int) ∧ ∃ j, j < 4 ∧ ps = us + 2 + j := by
  have hq : u % 4 < 4 := Nat.mod_lt _ (by decide)
  refine ⟨u % 4, u % 8, lw - 1 - u % 4, by omega, by omega, ?_, ?_, ?_, ?_, 3 - u % 4, by omega, by omega⟩
  · rw [Int.tmod_eq_emod_of_nonneg (by omega)]; omega
  · rw [Int.tmod_eq_emod_of_nonneg (by omega)]; omega
  · exact IntWalk.wrap64_in _ (by omega)
  · rw [IntWalk.wrap64_in _ (by omega)]; omega
theorem pow8 : ∀ r : Fin 8, (2 : Int) ^ r.val % 256 = 2 ^ r.val := by decide
theorem xor_of (x : Int) (hx : isB x) (r : Nat) (hr : r < 8) : isB (bits .xor .u8 x (2 ^ r % 256)) ∧ bits .xor .u8 x (2 ^ r % 256) ≠ x := by
  have e := pow8 ⟨r, hr⟩
  rw [show (2 : Int) ^ r % 256 = 2 ^ r from e]
  obtain ⟨n, rfl⟩ := Int.eq_ofNat_of_zero_le hx.1
  have hn : n < 256 := by have := hx.2; omega
  have := xor_ne ⟨n, hn⟩ ⟨r, hr⟩
  exact ⟨⟨this.1, this.2.1⟩, this.2.2⟩
theorem back_far (A B : Option Addr) (c d n m : Nat) (b : Int) (W : World) (h : 300 < n ∨ 100 < m) :
    Calls Try.prog 10 #[.slice A n c, .int .i64 b, .slice B m d] W fun e w' => e = .returned (.bool true) ∧ Below W.heap.size W w' := by
  by_cases h1 : 300 < n
  · have d1 : decide (300 < n) = true := decide_eq_true h1
    have d2 : decide ((300 : Int) < (n : Int)) = true := decide_eq_true (by omega)
    clear h h1
    go_enter Try.func10, Try.ntmps10
    go_wp2_with fail
    refine (alive7_any W).mono ?_
    rintro e w1 ⟨rfl, hb1⟩
    go_wp2_with fail
    go_ret
    exact ⟨rfl, hb1⟩
  · have h2 : 100 < m := by omega
    have d1 : decide (300 < n) = false := decide_eq_false h1
    have d2 : decide ((300 : Int) < (n : Int)) = false := decide_eq_false (by omega)
    have d3 : decide (100 < m) = true := decide_eq_true h2
    have d4 : decide ((100 : Int) < (m : Int)) = true := decide_eq_true (by omega)
    clear h h1 h2
    go_enter Try.func10, Try.ntmps10
    go_wp2_with fail
    refine (alive7_any W).mono ?_
    rintro e w1 ⟨rfl, hb1⟩
    go_wp2_with fail
    go_ret
    exact ⟨rfl, hb1⟩
set_option maxRecDepth 100000 in
set_option maxHeartbeats 4000000 in
theorem back_near (A B : Option Addr) (c d : Nat) (p h : List Int) (b : Int) (W : World) (hr : Rd W W.heap.size 1 A p.length (bytesV p)) (hr2 : Rd W W.heap.size 1 B h.length (bytesV h)) (hok : ∀ x ∈ p, isB x) (hok2 : ∀ x ∈ h, isB x) (hz : A = none → c = 0) (hcap : p.length ≤ c) (h1 : p.length ≤ 300) (h2 : h.length ≤ 100) :
    Calls Try.prog 10 #[.slice A p.length c, .int .i64 b, .slice B h.length d] W fun e w' => e = .returned (.bool true) ∧ Below W.heap.size W w' := by
  have RT := hid (fun (w : World) (h : Below W.heap.size W w) => rtok_any A c p 20000 w ((hr.below h (Nat.le_refl _)).more h.size) hok (by omega))
  have HR := hid hr
  have HR2 := hid hr2
  have HOK := hid hok
  have HOK2 := hid hok2
  have HZ := hid hz
  have H1 := hid (show B = none → h.length = 0 from fun e => rd_nil hr2 (by omega) e)
  obtain ⟨n, hn⟩ : ∃ n, n = p.length := ⟨_, rfl⟩
  obtain ⟨m, hm⟩ : ∃ m, m = h.length := ⟨_, rfl⟩
  rw [← hn] at h1 RT hcap ⊢
  rw [← hm] at h2 H1 ⊢
  have Hn := hid hn
  have Hm := hid hm
  have d1 : decide (300 < n) = false := decide_eq_false (by omega)
  have d2 : decide ((300 : Int) < (n : Int)) = false := decide_eq_false (by omega)
  have d3 : decide (100 < m) = false := decide_eq_false (by omega)
  have d4 : decide ((100 : Int) < (m : Int)) = false := decide_eq_false (by omega)
  clear hr hr2 hok hok2 hz hn hm
  go_enter Try.func10, Try.ntmps10
  go_wp2_with fail
  refine (alive7_any W).mono ?_
  rintro e w1 ⟨rfl, hb1⟩
  have B1 := hid hb1
  clear hb1
  go_wp2_with fail
  refine (RT.out w1 B1.out).mono ?_
  intro e w2 hE
  obtain ⟨hb2, hE⟩ := hE
  have B2 := hid (B1.out.trans (hb2.mono B1.out.size))
  clear hb2
  cases hi : infM (bitsL p) 20000 with
  | error k =>
    rw [hi] at hE
    obtain ⟨hk0, rfl⟩ := hE
    have e1 : (k != 0) = true := by rw [bne_iff_ne]; exact hk0
    clear hi hk0
    go_wp2_with fail
    go_ret
    exact ⟨rfl, B2.out⟩
  | ok s2 =>
    rw [hi] at hE
    have hsn := infM_sound (bitsL_bit p) hi
    have hol := out_len s2.toks 0 [] hsn.2.2.1 (by simp) hsn.1
    have hus := (inf_behind hi).2.1
    rw [← Hn.out] at hus
    obtain ⟨os, hos⟩ : ∃ os, os = s2.toks.foldl layTok [] := ⟨_, rfl⟩
    obtain ⟨us, hu⟩ : ∃ us, us = (s2.k + 7) / 8 := ⟨_, rfl⟩
    rw [← hu] at hus
    rw [← hos] at hol
    obtain ⟨T, tc, heq, ho, htl⟩ := hE
    rw [← hu] at heq
    subst heq
    have hob : ∀ x ∈ os, isB x := by
      intro x hx
      rw [hos] at hx
      exact out_isB s2.toks [] hsn.2.2.2 (by simp) x hx
    have hres : expRes 20000 s2.toks = 0 := by unfold expRes; rw [if_neg (by omega)]; exact hsn.2.2.1
    have hout : expOut 20000 s2.toks = os := by unfold expOut; rw [if_pos hres, hos]
    have htl2 : s2.toks.length ≤ 20000 := by omega
    have EX := hid (fun (w : World) (hr : Rd w w.heap.size 2 T s2.toks.length (s2.toks.flatMap encTok)) => refExpandB_any T tc s2.toks 20000 w hr htl2)
    have WN := hid (fun (w : World) (hr : Rd w w.heap.size 2 T s2.toks.length (s2.toks.flatMap encTok)) => window_any T tc s2.toks w hr (by unfold maxLen; omega) (fun t ht => by have := tgood_true.1 (hsn.2.2.2 t ht); exact ⟨Go.WalkArith.wf_i64 (by omega), Go.WalkArith.wf_i64 (by omega)⟩))
    obtain ⟨no, hno⟩ : ∃ no, no = os.length := ⟨_, rfl⟩
    rw [← hno] at hol
    have HOB := hid hob
    have Hi := hid hi
    have HU := hid (show usedZ s2 = us from hu.symm)
    have HO := hid (show outZ s2 = os from hos.symm)
    have HNO := hid hno
    have HRES := hid hres
    have HOUT := hid hout
    have O2 := hid ho
    have HTL := hid htl2
    have RDT := hid (own_rd ho)
    clear hi ho hu hos hno hsn hob hres hout htl
    obtain ⟨nt, hnt⟩ : ∃ nt, nt = s2.toks.length := ⟨_, rfl⟩
    rw [← hnt] at EX WN O2 RDT htl2 ⊢
    clear hnt
    go_wp2_with fail
    refine (EX.out w2 RDT.out).mono ?_
    intro e w3 hE3
    obtain ⟨Ao, co, he3, ho3, hb3⟩ := hE3
    rw [HOUT.out, HRES.out, ← HNO.out] at he3
    rw [HOUT.out, ← HNO.out] at ho3
    subst he3
    have O3 := hid ho3
    have B3 := hid (B2.out.trans (hb3.mono B2.out.size))
    have RDT3 := hid ((RDT.out.below hb3 (Nat.le_refl _)).more hb3.size)
    clear ho3 hb3
    go_wp2_with fail
    refine (WN.out w3 RDT3.out).mono ?_
    rintro e w4 ⟨v, hwin, rfl, hb4⟩
    have B4 := hid (B3.out.trans (hb4.mono B3.out.size))
    have O4 := hid (own_below O3.out hb4 (Nat.le_refl _))
    obtain ⟨k, hk, hvk⟩ := isWin_two hwin.1
    have HW := hid (show (256 * 2 ^ k : Int) = 32768 ∨ far s2.toks ≤ 256 * 2 ^ k by rw [← hvk]; exact hwin.2.1)
    have HVK := hid hvk
    clear hb4 hwin hvk
    have hpl : (p.take us).length = us := by rw [List.length_take, ← Hn.out]; omega
    have WR := progWrap_any A Ao c co (p.take us) os v w4 (by rw [hpl]; exact ((rd_takeZ (by have := HR.out; exact this) us (by rw [← Hn.out]; exact hus)).below B4.out (Nat.le_refl _)).more B4.out.size) (by rw [← HNO.out]; exact own_rd O4.out) HOB.out (by omega) (by rw [← HNO.out]; omega)
    rw [hpl, ← HNO.out] at WR
    have WR' := hid WR
    have HPL := hid hpl
    have hsl := slice_b4 A n c us (by omega)
    clear WR hpl
    go_wp2_with fail
    refine (WR'.out).mono ?_
    rintro e w5 ⟨hE5, hb5⟩
    rcases hE5 with ⟨k', A5, c5, hk', hvk', rfl, ho5⟩ | ⟨hbad, _⟩
    case inr => exact absurd HVK.out (hbad k hk)
    have hkk : k' = k := by
      have e : (2 : Int) ^ k' = 2 ^ k := by have := HVK.out; omega
      have e2 : (2 : Nat) ^ k' = 2 ^ k := by exact_mod_cast e
      exact (Nat.pow_right_inj (by decide)).1 e2
    subst hkk
    rw [HPL.out] at ho5 ⊢
    have O5 := hid ho5
    have B5 := hid (B4.out.trans (hb5.mono B4.out.size))
    have OO5 := hid (own_below O4.out hb5 (Nat.le_refl _))
    obtain ⟨lw, hlw⟩ : ∃ lw, lw = us + 6 := ⟨_, rfl⟩
    rw [← hlw] at O5 ⊢
    have HLW := hid hlw
    have hlw1 : lw ≤ 400 := by omega
    clear ho5 hb5 hlw hsl WR'
    have hwl : (wrapped k' (p.take us) os).length = lw := by unfold wrapped; simp only [List.length_append, be4_len, HPL.out]; show 2 + us + 4 = lw; rw [HLW.out]; omega
    have hwb := wrapped_isB hk' (os := os) (p := p.take us) (fun x hx => HOK.out x (List.mem_of_mem_take hx))
    have hu1 : unzM (wrapped k' (p.take us) os ++ h) 20000 = .ok (os, lw) := by
      have e := unz_wrap (by omega) Hi.out hk' HW.out (be 4 (adler os) ++ h) (by rw [List.length_append, be4_len]; omega)
      have t4 : (be 4 (adler os) ++ h).take 4 = be 4 (adler os) := by rw [List.take_append_of_le_length (by rw [be4_len]; omega), List.take_of_length_le (by rw [be4_len]; omega)]
      rw [HU.out, HO.out, t4, if_pos (beN_be _ (adler_bd os).1 (adler_bd os).2)] at e
      rw [show wrapped k' (p.take us) os ++ h = [16 * (k' : Int) + 8, fit k'] ++ (p.take us ++ (be 4 (adler os) ++ h)) from by unfold wrapped; simp [List.append_assoc], e, HLW.out, Nat.add_comm]
    have hu2 : ∀ (j : Nat) (y : Int), j < 4 → isB y → y ≠ (wrapped k' (p.take us) os).getD (us + 2 + j) 0 → unzM ((wrapped k' (p.take us) os).set (us + 2 + j) y) 20000 = .error 2 := by
      intro j y hj hy hne
      have hpl := HPL.out
      have e1 := wrapped_set (k := k') (p := p.take us) (os := os) hj y
      have e2 := wrapped_at (k := k') (p := p.take us) (os := os) (j := j)
      rw [hpl] at e1 e2
      rw [e2] at hne
      have e := unz_wrap (by omega) Hi.out hk' HW.out ((be 4 (adler os)).set j y) (by rw [List.length_set, be4_len]; omega)
      have t4 : ((be 4 (adler os)).set j y).take 4 = (be 4 (adler os)).set j y := List.take_of_length_le (by rw [List.length_set, be4_len]; omega)
      rw [HU.out, HO.out, t4, if_neg (fun hq => beN_set (adler os) j hj y hy hne (hq.trans (beN_be _ (adler_bd os).1 (adler_bd os).2).symm))] at e
      rw [e1, e]
    have HU1 := hid hu1
    have HU2 := hid hu2
    have HWB := hid hwb
    obtain ⟨wl, hwl'⟩ : ∃ wl, wl = wrapped k' (p.take us) os := ⟨_, rfl⟩
    rw [← hwl'] at hwl HU1 HU2 HWB O5
    have HWL := hid hwl
    clear hu1 hu2 hwb hwl'
    obtain ⟨i0, hi0, hz0, hz1, hz22⟩ := info_parts byte_info
    have Hi0 := hid hi0
    have Hz0 := hid hz0
    have Hz1 := hid hz1
    have Hz2 := hid hz22
    have RT5 := hid (own_rd O5.out)
    have HN1 := hid (show A5 = none → lw = 0 from fun e => rd_nil RT5.out (by omega) e)
    have HBW := hid B5.out.size
    have HM2 := hid (fun (w : World) (hw : Below W.heap.size W w) => show Rd w w.heap.size 1 B m (bytesV h) from by rw [Hm.out]; exact (HR2.out.below hw (Nat.le_refl _)).more hw.size)
    clear hi0 hz0 hz1 hz22 hwl
    go_upto_region 13 with (fail)
    go_wp2_with (first
      | (at_builtin; refine wpList_app _ rfl _ _ _ rfl w5.heap.size 5 i0 (.int .u8 0) 1 1 Try.underlying42 Hi0.out Hz0.out Hz1.out Hz2.out rfl (by omega) _ 0 0 [] rfl (empty_own w5 _ 1) w5.heap.size A5 lw c5 (bytesV wl) rfl (RT5.out.alloc (Nat.le_refl _) _) HN1.out bytesV_cells (by simp only [maxLen]; omega) (by omega) (by simp) ?_; intro A6 c6 w6 ha6; have O6 : Hid (w6.ownsRow w5.heap.size 5 1 (.slice A6 lw c6) lw (bytesV wl)) := hid (by simpa using ha6.1); have B6 := hid (B5.out.trans (((below_alloc1 w5 (.cells #[] 5)).trans ha6.2.2.1).mono HBW.out)); have BB6 := hid ((below_alloc1 w5 (.cells #[] 5)).trans ha6.2.2.1); have S6 := hid (show w5.heap.size ≤ w6.heap.size from ((below_alloc1 w5 (.cells #[] 5)).trans ha6.2.2.1).size); clear ha6)
      | (at_builtin; refine wpList_app _ rfl _ _ _ rfl w5.heap.size 5 i0 (.int .u8 0) 1 1 Try.underlying42 Hi0.out Hz0.out Hz1.out Hz2.out rfl (by omega) A6 lw c6 (bytesV wl) rfl O6.out w6.heap.size B m d (bytesV h) rfl (HM2.out w6 B6.out) H1.out bytesV_cells (by simp only [maxLen]; omega) (by omega) S6.out ?_; intro A7 c7 w7 ha7; have Ha7 := hid ha7; clear ha7))
    obtain ⟨hown7, _, hb7, _⟩ := Ha7.out
    have BB7 := hid (BB6.out.trans hb7)
    have B7 := hid (B5.out.trans (BB7.out.mono HBW.out))
    have hjn : (wl ++ h).length = lw + m := by rw [List.length_append, HWL.out, ← Hm.out]
    have hrow : w7.ownsRow w5.heap.size 5 1 (.slice A7 (lw + m) c7) (lw + m) (bytesV (wl ++ h)) := by
      have e : bytesV (wl ++ h) = bytesV wl ++ bytesV h := by unfold bytesV; rw [List.map_append]
      rw [e]; exact hown7
    have hcc : lw + m ≤ c7 := by obtain ⟨_, _, e, hh⟩ := own_form hrow; cases e; exact hh
    have IY := unwrap_any A7 c7 (wl ++ h) 20000 w7 (by rw [hjn]; exact own_rd hrow) (fun x hx => by
      rcases List.mem_append.1 hx with hx | hx
      · exact HWB.out x hx
      · exact HOK2.out x hx) (by rw [hjn]; exact hcc) (own_nilZ hrow) (by rw [hjn]; omega)
    rw [hjn] at IY
    have HIY := hid IY
    have OO7 := hid (own_below OO5.out BB7.out (Nat.le_refl _))
    have O7 := hid (own_below O5.out BB7.out (Nat.le_refl _))
    clear IY hrow hjn hown7 hb7 Ha7 hcc
    refine HIY.out.mono ?_
    intro e w8 hE8
    obtain ⟨hb8, hE8⟩ := hE8
    rw [HU1.out] at hE8
    obtain ⟨A8, c8, he8, ho8⟩ := hE8
    have he8 : e = .returned (.tuple #[.slice A8 os.length c8, .int .i64 (lw : Int), .nilIface]) := he8
    rw [← HNO.out] at he8 ho8
    subst he8
    have B8 := hid (B7.out.trans (hb8.mono B7.out.size))
    have O8 := hid (own_below O7.out hb8 (Nat.le_refl _))
    have OO8 := hid (own_below OO7.out hb8 (Nat.le_refl _))
    have SM := hid (same_refl A8 Ao c8 co os w8 w8.heap.size (by rw [← HNO.out]; exact own_rd ho8) (by rw [← HNO.out]; exact own_rd OO8.out))
    rw [← HNO.out] at SM
    clear ho8 hb8
    go_wp2_with fail
    refine SM.out.mono ?_
    rintro e w9 ⟨rfl, rfl⟩
    obtain ⟨u, hu⟩ := u64_parts b
    have Hu := hid hu
    clear hu
    obtain ⟨q, r, ps, hr8, hps2, tq, tr, twq, tps, j4, hj4, hpsj⟩ := by_parts u lw us HLW.out hlw1
    have HJ4 := hid hj4
    have HPSJ := hid hpsj
    clear hj4 hpsj
    obtain ⟨g5, x5, hA5, hg5, hg5w, hx5, q0⟩ := own_cell O8.out (j := ps) hps2
    subst hA5
    obtain ⟨x, rfl⟩ : ∃ x, x5 = .int .u8 x := by
      unfold bytesV at hx5
      rw [List.getElem?_map] at hx5
      cases hw : wl[ps]? with
      | none => rw [hw] at hx5; cases hx5
      | some y => rw [hw] at hx5; cases hx5; exact ⟨y, rfl⟩
    have fz := World.ownsRow.frozenAt O8.out ps
    have hxw : wl[ps]? = some x := by
      unfold bytesV at hx5
      rw [List.getElem?_map] at hx5
      cases hw : wl[ps]? with
      | none => rw [hw] at hx5; cases hx5
      | some y => rw [hw] at hx5; cases hx5; rfl
    have hxb : isB x := HWB.out x (List.mem_of_getElem? hxw)
    have hxo := xor_of x hxb r hr8
    have HX := hid hxo
    have hxd : wl.getD (us + 2 + j4) 0 = x := by rw [← HPSJ.out, List.getD_eq_getElem?_getD, hxw]; rfl
    have HU3 := hid (HU2.out j4 (bits .xor .u8 x (2 ^ r % 256)) HJ4.out hxo.1 (by rw [hxd]; exact hxo.2))
    rw [← HPSJ.out] at HU3
    have HG5 := hid (Nat.le_trans B4.out.size hg5)
    have hu := Hu.out
    clear hx5 hxw hxb hxo hxd hg5
    go_wp2_with fail
    have hst := (O8.out.stored (g := g5) ps (.int .u8 (bits .xor .u8 x (2 ^ r % 256)))).1
    have B9 := hid (B8.out.setCell (p := ⟨g5, ps, none⟩) HG5.out (.int .u8 (bits .xor .u8 x (2 ^ r % 256))))
    generalize bits .xor .u8 x (2 ^ r % 256) = y at *
    generalize w8.setCell ⟨g5, ps, none⟩ (.int .u8 y) = w9 at *
    have hsl : (wl.set ps y).length = lw := by rw [List.length_set, HWL.out]
    have hset : (bytesV wl).set ps (.int .u8 y) = bytesV (wl.set ps y) := by unfold bytesV; rw [List.map_set]
    rw [hset] at hst
    have hcc : lw ≤ c5 := by obtain ⟨_, _, e, hh⟩ := own_form hst; cases e; exact hh
    have UW := unwrap_any (some ⟨g5, 0, none⟩) c5 (wl.set ps y) 20000 w9 (by rw [hsl]; exact own_rd hst) (fun z hz => by
      rcases List.mem_or_eq_of_mem_set hz with hz | rfl
      · exact HWB.out z hz
      · exact HX.out.1) (by rw [hsl]; exact hcc) (fun h => by cases h) (by rw [hsl]; exact Nat.le_trans hlw1 (by decide))
    rw [hsl] at UW
    have UW' := hid UW
    clear hst hsl hset hcc UW
    refine UW'.out.mono ?_
    intro e wA hEA
    obtain ⟨hbA, hEA⟩ := hEA
    rw [HU3.out] at hEA
    have hEA : e = .returned (.tuple #[.slice none 0 0, .int .i64 0, .iface 40 (.int .i64 2)]) := hEA
    subst hEA
    have BA := hid (B9.out.trans (hbA.mono B9.out.size))
    clear hbA
    go_wp2_with fail
    refine (is_no 2 2 (by decide) _).mono ?_
    rintro e wB ⟨rfl, rfl⟩
    go_wp2_with fail
    go_ret
    exact ⟨rfl, BA.out⟩
theorem back_law (A B : Option Addr) (c d : Nat) (p h : List Int) (b : Int) (W : World) (hr : Rd W W.heap.size 1 A p.length (bytesV p)) (hr2 : Rd W W.heap.size 1 B h.length (bytesV h)) (hok : ∀ x ∈ p, isB x) (hok2 : ∀ x ∈ h, isB x) (hz : A = none → c = 0) (hcap : p.length ≤ c) :
    Calls Try.prog 10 #[.slice A p.length c, .int .i64 b, .slice B h.length d] W fun e w' => e = .returned (.bool true) ∧ Below W.heap.size W w' := by
  by_cases hf : 300 < p.length ∨ 100 < h.length
  · exact back_far A B c d p.length h.length b W hf
  · exact back_near A B c d p h b W hr hr2 hok hok2 hz hcap (by omega) (by omega)
end Go.Proofs.Ytegmbjkpjglgpaa
