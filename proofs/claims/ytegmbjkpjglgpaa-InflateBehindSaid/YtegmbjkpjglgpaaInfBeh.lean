/-
  burnishlaw06.InflateBehind: walked.
-/
import Derived.Test.YtegmbjkpjglgpaaInfAl
import Derived.Test.YtegmbjkpjglgpaaSte
import Derived.Test.YtegmbjkpjglgpaaExpU
namespace Go.Proofs.Ytegmbjkpjglgpaa
open Go.RowKit

theorem out_lenB {most : Int} : ∀ (l : List (Int × Int)) (s : Int) (out : List Int), scan most l s = 0 → (out.length : Int) ≤ s → s ≤ most → ((l.foldl layTok out).length : Int) ≤ most
  | [], s, out, _, h1, h2 => by show (out.length : Int) ≤ most; omega
  | t :: r, s, out, h, h1, h2 => by
    rw [scan] at h
    by_cases ht : terr most s t = 0
    · rw [if_pos ht] at h
      have hm : s + tn t ≤ most := by
        unfold terr at ht
        split at ht
        · cases ht
        · split at ht
          · cases ht
          · split at ht
            · cases ht
            · omega
      refine out_lenB r (s + tn t) (layTok out t) h ?_ hm
      have := lay_len out t
      omega
    · rw [if_neg ht] at h
      exact absurd h ht
theorem behind_far (A B : Option Addr) (c d : Nat) (b h : List Int) (most : Int) (W : World) (hm : 1000 < b.length ∨ 1000 < h.length) :
    Calls Try.prog 8 #[.slice A b.length c, .slice B h.length d, .int .i64 most] W fun e w' => e = .returned (.bool true) ∧ Below W.heap.size W w' := by
  obtain ⟨n, hn⟩ : ∃ n, n = b.length := ⟨_, rfl⟩
  obtain ⟨m, hmm⟩ : ∃ m, m = h.length := ⟨_, rfl⟩
  rw [← hn, ← hmm] at hm ⊢
  clear hn hmm
  by_cases h1 : 1000 < n
  · have d1 : decide (1000 < n) = true := decide_eq_true h1
    have d2 : decide ((1000 : Int) < (n : Int)) = true := decide_eq_true (by omega)
    clear hm h1
    go_enter Try.func8, Try.ntmps8
    go_wp2_with fail
    refine (alive6_any W).mono ?_
    rintro e w1 ⟨rfl, hb1⟩
    go_wp2_with fail
    go_ret
    exact ⟨rfl, hb1⟩
  · have h2 : 1000 < m := by omega
    have d1 : decide (1000 < n) = false := decide_eq_false h1
    have d2 : decide ((1000 : Int) < (n : Int)) = false := decide_eq_false (by omega)
    have d3 : decide (1000 < m) = true := decide_eq_true h2
    have d4 : decide ((1000 : Int) < (m : Int)) = true := decide_eq_true (by omega)
    clear hm h1 h2
    go_enter Try.func8, Try.ntmps8
    go_wp2_with fail
    refine (alive6_any W).mono ?_
    rintro e w1 ⟨rfl, hb1⟩
    go_wp2_with fail
    go_ret
    exact ⟨rfl, hb1⟩
theorem own_nilB {w : World} {base t sz n c k : Nat} {A : Option Addr} {xs : List Value} (h : w.ownsRow base t sz (.slice A n c) k xs) : A = none → c = 0 := by
  rintro rfl
  rcases h.2 with ⟨e, _⟩ | ⟨g, cap, cur, e, _⟩
  · cases e; rfl
  · cases e
set_option maxRecDepth 100000 in
theorem slice_hB (A : Option Addr) (N lc k : Nat) (h : k ≤ lc) (w : World) : (Instr.slice 42 (.slice A N lc) none (some (.int .i64 (k : Int))) none).run Try.prog w = .ok (.slice A k lc) w := by
  have base : (Instr.slice 42 (.slice A N lc) none (some (.int .i64 (k : Int))) none).run Try.prog w = .ok (sliced A 0 k lc 1) w := by
    rw [run_slice_h (P := Try.prog) (w := w) 42 A N lc Try.underlying42 .i64 (k : Int) (by omega) (by omega)]
    rfl
  rw [base]
  unfold sliced
  cases A with
  | none => simp
  | some a => simp [Addr.add]
theorem rd_take {w : World} {B : Nat} {A : Option Addr} {l : List Int} (h : Rd w B 1 A l.length (bytesV l)) (k : Nat) (hk : k ≤ l.length) : Rd w B 1 A k (bytesV (l.take k)) := by
  have hl : (bytesV (l.take k)).length = k := by rw [bytesV_length, List.length_take]; omega
  refine ⟨by rw [hl, Nat.mul_one], fun hp => ?_⟩
  rw [hl] at hp
  obtain ⟨b, off, e, h1, h2⟩ := h.2 (by rw [bytesV_length]; omega)
  refine ⟨b, off, e, h1, fun j u hu => h2 j u ?_⟩
  unfold bytesV at hu ⊢
  rw [List.map_take, List.getElem?_take] at hu
  split at hu
  · exact hu
  · cases hu
set_option maxRecDepth 100000 in
set_option maxHeartbeats 4000000 in
theorem behind_near (A B : Option Addr) (c d : Nat) (b h : List Int) (most : Int) (W : World) (hr : Rd W W.heap.size 1 A b.length (bytesV b)) (hr2 : Rd W W.heap.size 1 B h.length (bytesV h)) (hok : ∀ x ∈ b, isB x) (hok2 : ∀ x ∈ h, isB x) (hz : A = none → c = 0) (hcap : b.length ≤ c) (h1 : b.length ≤ 1000) (h2 : h.length ≤ 1000) :
    Calls Try.prog 8 #[.slice A b.length c, .slice B h.length d, .int .i64 most] W fun e w' => e = .returned (.bool true) ∧ Below W.heap.size W w' := by
  have RB := hid (fun (w : World) (hw : Below W.heap.size W w) => (hr.below hw (Nat.le_refl _)).more hw.size)
  have RH := hid (fun (w : World) (hw : Below W.heap.size W w) => (hr2.below hw (Nat.le_refl _)).more hw.size)
  have IN := hid (fun (w : World) (hw : Below W.heap.size W w) (q : Int) => inflate_any A c b q w (RB.out w hw) hz hok (by omega))
  have TK := hid (fun (w : World) (hw : Below W.heap.size W w) => tokens_any A c b most w (RB.out w hw) hz hok (by omega))
  have CUT := hid (fun (w : World) (hw : Below W.heap.size W w) (k : Nat) (hk : k ≤ b.length) => show Calls Try.prog _ #[.slice A k c, .int .i64 most] w (InEnd (b.take k) most w) from by
    have := inflate_any A c (b.take k) most w (by rw [List.length_take, Nat.min_eq_left hk]; exact rd_take (RB.out w hw) k hk) hz (fun x hx => hok x (List.mem_of_mem_take hx)) (by rw [List.length_take]; omega)
    rw [List.length_take, Nat.min_eq_left hk] at this
    exact this)
  have H1 := hid (show B = none → h.length = 0 from fun e => rd_nil hr2 (by omega) e)
  have HZ := hid (show A = none → b.length = 0 from fun e => rd_nil hr (by omega) e)
  have Hok := hid hok
  have Hok2 := hid hok2
  obtain ⟨n, hn⟩ : ∃ n, n = b.length := ⟨_, rfl⟩
  obtain ⟨m, hm⟩ : ∃ m, m = h.length := ⟨_, rfl⟩
  have Hn := hid hn
  have Hm := hid hm
  rw [← hn] at IN TK CUT HZ h1 hcap ⊢
  rw [← hm] at H1 h2 ⊢
  have d1 : decide (1000 < n) = false := decide_eq_false (by omega)
  have d2 : decide ((1000 : Int) < (n : Int)) = false := decide_eq_false (by omega)
  have d3 : decide (1000 < m) = false := decide_eq_false (by omega)
  have d4 : decide ((1000 : Int) < (m : Int)) = false := decide_eq_false (by omega)
  clear hr hr2 hok hok2 hz hn hm
  go_enter Try.func8, Try.ntmps8
  go_wp2_with fail
  refine (alive6_any W).mono ?_
  rintro e w1 ⟨rfl, hb1⟩
  have B1 := hid hb1
  clear hb1
  go_wp2_with fail
  refine (IN.out w1 B1.out most).mono ?_
  intro e w2 hE
  obtain ⟨hb2, hE⟩ := hE
  have B2 := hid (B1.out.trans (hb2.mono B1.out.size))
  clear hb2
  cases hi : infM (bitsL b) most with
  | error k =>
    rw [hi] at hE
    have hE : e = .returned (.tuple #[.slice none 0 0, .int .i64 0, .iface 40 (.int .i64 k)]) := hE
    subst hE
    clear hi
    go_wp2_with fail
    go_ret
    exact ⟨rfl, B2.out⟩
  | ok s2 =>
    rw [hi] at hE
    obtain ⟨A2, c2, he2, ho2⟩ := hE
    have hsn := infM_sound (bitsL_bit b) hi
    have hout := out_lenB s2.toks 0 [] hsn.2.2.1 (by simp) hsn.1
    have htl := tok_len s2.toks []
    have hbe := inf_behind hi
    have hil := inf_len (bitsL_bit b) hi (by omega)
    have hme : expRes most s2.toks = 0 := by unfold expRes; rw [if_neg (by omega)]; exact hsn.2.2.1
    have hmo : expOut most s2.toks = s2.toks.foldl layTok [] := by unfold expOut; rw [if_pos hme]
    have Hi := hid hi
    obtain ⟨os, hos⟩ : ∃ os, os = s2.toks.foldl layTok [] := ⟨_, rfl⟩
    have Hos := hid hos
    rw [← hos] at he2 ho2 hout htl hil hmo
    subst he2
    have O2 := hid ho2
    have HIL := hid hil
    have HME := hid hme
    have HMO := hid hmo
    have hos4 : os.length ≤ 4194304 := by omega
    have htk4 : s2.toks.length ≤ 4194304 := by rw [List.length_nil] at htl; omega
    obtain ⟨no, hno⟩ : ∃ no, no = os.length := ⟨_, rfl⟩
    have Hno := hid hno
    rw [← hno] at hos4 ⊢
    obtain ⟨nb, hnb⟩ : ∃ nb, nb = (s2.k + 7) / 8 := ⟨_, rfl⟩
    rw [← hnb] at hbe ⊢
    have Hnb := hid hnb
    obtain ⟨hb1', hb2', hbeh, hcut⟩ := hbe
    rw [← Hn.out] at hb2'
    have BEH := hid (hbeh h)
    have HCUT := hid hcut
    clear hi hsn hout htl hil hme hmo hos ho2 hno hnb hbeh hcut
    have TKw := hid (TK.out w2 B2.out)
    go_wp2_with fail
    refine TKw.out.mono ?_
    intro e w3 hE3
    obtain ⟨hb3, hE3⟩ := hE3
    rw [Hi.out] at hE3
    obtain ⟨T, tc, rfl, ho3⟩ := hE3
    have B3 := hid (B2.out.trans (hb3.mono B2.out.size))
    have EX := hid (progExpandU_any T tc s2.toks most w3 (own_rd ho3) htk4)
    unfold ExpEnd at EX
    rw [HME.out, HMO.out, ← Hno.out] at EX
    have O23 := hid (own_below O2.out hb3 (Nat.le_refl _))
    obtain ⟨nt, hnt⟩ : ∃ nt, nt = s2.toks.length := ⟨_, rfl⟩
    rw [← hnt] at EX ⊢
    have ev0 : errv 0 = .nilIface := by unfold errv; rfl
    rw [ev0] at EX
    clear ho3 hb3 hnt ev0 TKw htk4
    go_wp2_with fail
    refine EX.out.mono ?_
    rintro e w4 ⟨A4, c4, rfl, ho4, hb4⟩
    have B4 := hid (B3.out.trans (hb4.mono B3.out.size))
    have O24 := hid (own_below O23.out hb4 (Nat.le_refl _))
    have SM := hid (same_refl A4 A2 c4 c2 os w4 w4.heap.size (own_rd (by rw [← Hno.out]; exact ho4)) (own_rd (by exact O24.out)))
    rw [← Hno.out] at SM
    have e1 : decide ((n : Int) < (nb : Int)) = false := decide_eq_false (by omega)
    have e2 : decide ((nb : Int) < 1) = false := decide_eq_false (by omega)
    have e1n : decide (n < nb) = false := decide_eq_false (by omega)
    have e2n : decide (nb < 1) = false := decide_eq_false (by omega)
    clear ho4 hb4
    go_wp2_with fail
    refine SM.out.mono ?_
    rintro e w5 ⟨rfl, rfl⟩
    go_upto_region 14 with (fail)
    obtain ⟨i0, hi0, hz0, hz1, hz22⟩ := info_parts byte_info
    have Hi0 := hid hi0
    have Hz0 := hid hz0
    have Hz1 := hid hz1
    have Hz2 := hid hz22
    have hsl := slice_hB A n c nb (by omega)
    have HN1 := hid (show A = none → nb = 0 from fun e => by have := HZ.out e; omega)
    have RT := hid (show Rd w4 w4.heap.size 1 A nb (bytesV (b.take nb)) from rd_take (RB.out w4 B4.out) nb (by rw [← Hn.out]; omega))
    have hbn : (b.take nb).length = nb := by rw [List.length_take, ← Hn.out]; omega
    have Hbn := hid hbn
    have HBW := hid B4.out.size
    clear hi0 hz0 hz1 hz22 hbn
    go_wp2_with (first
      | (at_builtin; refine wpList_app _ rfl _ _ _ rfl w4.heap.size 5 i0 (.int .u8 0) 1 1 Try.underlying42 Hi0.out Hz0.out Hz1.out Hz2.out rfl (by omega) _ 0 0 [] rfl (empty_own w4 _ 1) w4.heap.size A nb c (bytesV (b.take nb)) rfl (RT.out.alloc (Nat.le_refl _) _) HN1.out bytesV_cells (by simp only [maxLen]; omega) (by omega) (by simp) ?_; intro A5 c5 w6 ha5; have O6 : Hid (w6.ownsRow w4.heap.size 5 1 (.slice A5 nb c5) nb (bytesV (b.take nb))) := hid (by simpa using ha5.1); have B6 := hid (B4.out.trans (((below_alloc1 w4 (.cells #[] 5)).trans ha5.2.2.1).mono HBW.out)); have BB6 := hid ((below_alloc1 w4 (.cells #[] 5)).trans ha5.2.2.1); have S6 := hid (show w4.heap.size ≤ w6.heap.size from ((below_alloc1 w4 (.cells #[] 5)).trans ha5.2.2.1).size); clear ha5)
      | (at_builtin; refine wpList_app _ rfl _ _ _ rfl w4.heap.size 5 i0 (.int .u8 0) 1 1 Try.underlying42 Hi0.out Hz0.out Hz1.out Hz2.out rfl (by omega) A5 nb c5 (bytesV (b.take nb)) rfl O6.out w6.heap.size B m d (bytesV h) rfl (by have := RH.out w6 B6.out; rw [← Hm.out] at this; exact this) H1.out bytesV_cells (by simp only [maxLen]; omega) (by omega) S6.out ?_; intro A6 c6 w7 ha6; have Ha6 := hid ha6; clear ha6))
    obtain ⟨hown7, _, hb7, _⟩ := Ha6.out
    have BB7 := hid (BB6.out.trans hb7)
    have B7 := hid (B4.out.trans (BB7.out.mono HBW.out))
    have hjn : (b.take nb ++ h).length = nb + m := by rw [List.length_append, Hbn.out, ← Hm.out]
    have hrow : w7.ownsRow w4.heap.size 5 1 (.slice A6 (nb + m) c6) (nb + m) (bytesV (b.take nb ++ h)) := by
      have e : bytesV (b.take nb ++ h) = bytesV (b.take nb) ++ bytesV h := by unfold bytesV; rw [List.map_append]
      rw [e]; exact hown7
    have IY := inflate_any A6 c6 (b.take nb ++ h) most w7 (by rw [hjn]; exact own_rd hrow) (own_nilB hrow) (fun x hx => by
      rcases List.mem_append.1 hx with hx | hx
      · exact Hok.out x (List.mem_of_mem_take hx)
      · exact Hok2.out x hx) (by rw [hjn]; omega)
    rw [hjn] at IY
    have HIY := hid IY
    have O27 := hid (own_below O24.out BB7.out (Nat.le_refl _))
    clear IY hrow hjn hown7 hb7 Ha6
    refine HIY.out.mono ?_
    intro e w8 hE8
    obtain ⟨hb8, hE8⟩ := hE8
    rw [BEH.out] at hE8
    obtain ⟨A8, c8, he8, ho8⟩ := hE8
    rw [← Hos.out, ← Hno.out, ← Hnb.out] at he8
    rw [← Hos.out] at ho8
    subst he8
    have B8 := hid (B7.out.trans (hb8.mono B7.out.size))
    have O8 := hid ho8
    have O28 := hid (own_below O27.out hb8 (Nat.le_refl _))
    clear ho8 hb8
    obtain ⟨nb1, hnb1⟩ : ∃ nb1, nb1 + 1 = nb := ⟨nb - 1, by omega⟩
    have tw1 : IntKind.i64.wrap ((nb : Int) - 1) = (nb1 : Int) := (IntWalk.i64_in _ (by omega)).trans (by omega)
    have hsl2 := slice_hB A n c nb1 (by omega)
    have CC := hid (CUT.out w8 B8.out nb1 (by omega))
    have HC1 := hid (show infM (bitsL (b.take nb1)) most = .error 8 from by have := HCUT.out; rw [show nb - 1 = nb1 by omega] at this; exact this)
    clear hnb1 hsl
    go_wp2_with fail
    refine CC.out.mono ?_
    intro e w9 hE9
    obtain ⟨hb9, hE9⟩ := hE9
    rw [HC1.out] at hE9
    have hE9 : e = .returned (.tuple #[.slice none 0 0, .int .i64 0, .iface 40 (.int .i64 8)]) := hE9
    subst hE9
    have B9 := hid (B8.out.trans (hb9.mono B8.out.size))
    have O89 := hid (own_below O8.out hb9 (Nat.le_refl _))
    have O29 := hid (own_below O28.out hb9 (Nat.le_refl _))
    have INz := hid (IN.out w9 B9.out (no : Int))
    clear hb9 hsl2
    go_wp2_with fail
    refine INz.out.mono ?_
    intro e wA hEA
    obtain ⟨hbA, hEA⟩ := hEA
    rw [show infM (bitsL b) (no : Int) = .ok s2 from by have := HIL.out; rw [← Hno.out] at this; exact this] at hEA
    obtain ⟨AA, cA, heA, hoA⟩ := hEA
    rw [← Hos.out, ← Hno.out, ← Hnb.out] at heA
    rw [← Hos.out] at hoA
    subst heA
    have BA := hid (B9.out.trans (hbA.mono B9.out.size))
    have O8A := hid (own_below O89.out hbA (Nat.le_refl _))
    have O2A := hid (own_below O29.out hbA (Nat.le_refl _))
    have SM1 := hid (same_refl A8 A2 c8 c2 os wA wA.heap.size (own_rd O8A.out) (own_rd O2A.out))
    have SM2 := hid (same_refl AA A2 cA c2 os wA wA.heap.size (own_rd hoA) (own_rd O2A.out))
    rw [← Hno.out] at SM1 SM2
    clear hbA hoA
    go_wp2_with fail
    refine SM1.out.mono ?_
    rintro e wB ⟨rfl, rfl⟩
    go_wp2_with fail
    refine (is_no 8 8 (by decide) _).mono ?_
    rintro e wB ⟨rfl, rfl⟩
    go_wp2_with fail
    refine SM2.out.mono ?_
    rintro e wB ⟨rfl, rfl⟩
    go_wp2_with fail
    go_ret
    exact ⟨rfl, BA.out⟩
theorem behind_law (A B : Option Addr) (c d : Nat) (b h : List Int) (most : Int) (W : World) (hr : Rd W W.heap.size 1 A b.length (bytesV b)) (hr2 : Rd W W.heap.size 1 B h.length (bytesV h)) (hok : ∀ x ∈ b, isB x) (hok2 : ∀ x ∈ h, isB x) (hz : A = none → c = 0) (hcap : b.length ≤ c) :
    Calls Try.prog 8 #[.slice A b.length c, .slice B h.length d, .int .i64 most] W fun e w' => e = .returned (.bool true) ∧ Below W.heap.size W w' := by
  by_cases hm : 1000 < b.length ∨ 1000 < h.length
  · exact behind_far A B c d b h most W hm
  · exact behind_near A B c d b h most W hr hr2 hok hok2 hz hcap (by omega) (by omega)
end Go.Proofs.Ytegmbjkpjglgpaa
