/-
  The reference's inflate: fixed, sum, whole.
  The reference's inflate: a block of kind 0.
  inflate: numbers and symbols taken.
  inflate: a block of kind 0.
  inflate: a match, a block's symbols.
  inflate: a block's symbols.
  inflate: books bound; are lengths full, few; how many.
  inflate: are lengths full, few; how many.
  Unpacking, in plain Lean: what lengths' rows are in bounds.
  Unpacking, in plain Lean: how far one comes, and that the tokens are in form.
-/
import Derived.Test.YthhllollhjpheaaGreatBkWwx21
import Derived.Deep.RegionWith
import Derived.StillTailTactics
namespace Go.Proofs.YthhllollhjpheaaGreat
open Go.RowKit

def fxN (i : Nat) : Int := if i < 144 then 8 else if i < 256 then 9 else if i < 280 then 7 else 8
def fxL (n : Nat) : List Int := (List.range n).map fxN
theorem fxL_succ (n : Nat) : fxL (n + 1) = fxL n ++ [fxN n] := by unfold fxL; rw [List.range_succ, List.map_append]; rfl
theorem fxL_all : fxL 288 = fixL := by kernel_rfl
theorem rep_succR (n : Nat) (x : Int) : List.replicate (n + 1) x = List.replicate n x ++ [x] := by rw [List.replicate_succ']
def FixedEnd (W : World) (e : Ending) (w' : World) : Prop := ∃ A c B d, e = .returned (.tuple #[.slice A 288 c, .slice B 32 d]) ∧ w'.ownsRow 0 3 1 (.slice A 288 c) 288 (intsV fixL) ∧ w'.ownsRow 0 3 1 (.slice B 32 d) 32 (intsV fixD) ∧ Below W.heap.size W w'
set_option maxRecDepth 100000 in
set_option maxHeartbeats 2000000 in
theorem rfixed_any (W : World) : Calls Tryz.prog 50 #[] W (FixedEnd W) := by
  obtain ⟨i0, hi0, hz0, hz1, hz2⟩ := info_parts int_info
  have Hi0 := hid hi0
  have Hz0 := hid hz0
  have Hz1 := hid hz1
  have Hz2 := hid hz2
  clear hi0 hz0 hz1 hz2
  go_enter Tryz.func50, Tryz.ntmps50
  go_wp2_with fail
  go_loopw [2, 3] (fun v i wr => ∃ (n : Nat) (A : Option Addr) (c : Nat), n ≤ 288 ∧ v = .slice A n c ∧ i = .int .i64 (n : Int) ∧ Hid (wr.ownsRow W.heap.size 3 1 (.slice A n c) n (intsV (fxL n))) ∧ Hid (Below W.heap.size W wr)) (fun _ i _ => 288 - (intOf i).toNat)
  case atStart => exact ⟨0, none, 0, by omega, rfl, rfl, hid (World.ownsRow_nil _ _ _ _), hid (Below.refl _ _)⟩
  case round =>
    obtain ⟨n, A, c, hn, rfl, rfl, O, B⟩ := hrel
    by_cases hlt : n < 288
    · have d0 : decide ((n : Int) < 288) = true := decide_eq_true (by omega)
      have hW := B.out.size
      have O1 := hid (fun o => own_below O.out ((Below.refl wr.heap.size wr).alloc (Nat.le_refl _) o) (Nat.le_refl _))
      have B1 := hid (fun o => B.out.alloc hW o)
      have HS := hid (fxL_succ n)
      by_cases h1 : n < 144
      case' pos =>
        have d1 : decide ((n : Int) < 144) = true := decide_eq_true (by omega)
        have HF := hid (show fxN n = 8 by unfold fxN; rw [if_pos h1])
      case' neg =>
        have d1 : decide ((n : Int) < 144) = false := decide_eq_false (by omega)
        by_cases h2 : n < 256
        case' pos =>
          have d2 : decide ((n : Int) < 256) = true := decide_eq_true (by omega)
          have HF := hid (show fxN n = 9 by unfold fxN; rw [if_neg h1, if_pos h2])
        case' neg =>
          have d2 : decide ((n : Int) < 256) = false := decide_eq_false (by omega)
          by_cases h3 : n < 280
          case' pos =>
            have d3 : decide ((n : Int) < 280) = true := decide_eq_true (by omega)
            have HF := hid (show fxN n = 7 by unfold fxN; rw [if_neg h1, if_neg h2, if_pos h3])
          case' neg =>
            have d3 : decide ((n : Int) < 280) = false := decide_eq_false (by omega)
            have HF := hid (show fxN n = 8 by unfold fxN; rw [if_neg h1, if_neg h2, if_neg h3])
      all_goals
        go_wp2_with (at_builtin; (refine wpList_app _ rfl _ _ _ rfl (W.heap.size) 3 i0 (.int .i64 0) 1 8 Tryz.underlying80 Hi0.out Hz0.out Hz1.out Hz2.out rfl (by omega) A n c (intsV (fxL n)) rfl (O1.out _) _ _ 1 1 ([.int .i64 _]) rfl (rd_one _ _ _ _ (Blk.new _ _ _)) (by simp) (by simp [Value.oneCell']) (by simp only [maxLen]; omega) (by omega) (by first | omega | (simp; done) | (simp; omega)) ?_; intro A4 c4 w4 ha4; have Ha4 := hid ha4; clear ha4))
        obtain ⟨hown4, _, hb4, _⟩ := Ha4.out
        refine ⟨⟨n + 1, A4, c4, by omega, rfl, by go_num, hid ?_, hid ((B1.out _).trans hb4)⟩, by simp [intOf]; omega⟩
        rw [HS.out, HF.out]
        unfold intsV at hown4 ⊢
        rw [List.map_append]
        exact hown4
    · have N8 := hid (show n = 288 by omega)
      have d0 : decide ((n : Int) < 288) = false := decide_eq_false (by omega)
      rw [N8.out, fxL_all, ← N8.out] at O
      generalize hwk : wr = wk at *
      clear hwk
      go_wp2_with fail
      go_loopw [4, 5] (fun v i wr => ∃ (n : Nat) (A : Option Addr) (c : Nat), n ≤ 32 ∧ v = .slice A n c ∧ i = .int .i64 (n : Int) ∧ Hid (wr.ownsRow wk.heap.size 3 1 (.slice A n c) n (intsV (List.replicate n 5))) ∧ Hid (Below wk.heap.size wk wr)) (fun _ i _ => 32 - (intOf i).toNat)
      case atStart => exact ⟨0, none, 0, by omega, rfl, rfl, hid (World.ownsRow_nil _ _ _ _), hid (Below.refl _ _)⟩
      case round =>
        obtain ⟨n, A2, c2, hn, rfl, rfl, O2, B2⟩ := hrel
        by_cases hlt : n < 32
        · have d0 : decide ((n : Int) < 32) = true := decide_eq_true (by omega)
          have hW := B2.out.size
          have O1 := hid (fun o => own_below O2.out ((Below.refl wr.heap.size wr).alloc (Nat.le_refl _) o) (Nat.le_refl _))
          have B1 := hid (fun o => B2.out.alloc hW o)
          go_wp2_with (at_builtin; (refine wpList_app _ rfl _ _ _ rfl (wk.heap.size) 3 i0 (.int .i64 0) 1 8 Tryz.underlying80 Hi0.out Hz0.out Hz1.out Hz2.out rfl (by omega) A2 n c2 (intsV (List.replicate n 5)) rfl (O1.out _) _ _ 1 1 ([.int .i64 _]) rfl (rd_one _ _ _ _ (Blk.new _ _ _)) (by simp) (by simp [Value.oneCell']) (by simp only [maxLen]; omega) (by omega) (by first | omega | (simp; done) | (simp; omega)) ?_; intro A4 c4 w4 ha4; have Ha4 := hid ha4; clear ha4))
          obtain ⟨hown4, _, hb4, _⟩ := Ha4.out
          refine ⟨⟨n + 1, A4, c4, by omega, rfl, by go_num, hid ?_, hid ((B1.out _).trans hb4)⟩, by simp [intOf]; omega⟩
          rw [rep_succR]
          unfold intsV at hown4 ⊢
          rw [List.map_append]
          exact hown4
        · obtain rfl : n = 32 := by omega
          go_wp2_with fail
          go_ret2
          rw [N8.out] at O
          exact ⟨A, c, A2, c2, by rw [N8.out]; rfl, own_base (own_below O.out B2.out (Nat.le_refl _)) (Nat.zero_le _), own_base O2.out (Nat.zero_le _), B.out.trans (B2.out.mono B.out.size)⟩
theorem sum_snoc (l : List Int) (x : Int) : (l ++ [x]).sum = l.sum + x := by simp
def FreeR (l : List Int) (W : World) (e : Ending) (w' : World) : Prop := w' = W ∧ ∃ (x : Int) (b : Bool), e = .returned (.tuple #[.int .i64 x, .bool b]) ∧ (b = true ∧ x = 0 ↔ fullB l = true)
theorem fullB_iff {l : List Int} : fullB l = true ↔ l.length ≤ 512 ∧ (∀ x ∈ l, 0 ≤ x ∧ x ≤ 16) ∧ kraft l = 65536 := by
  unfold fullB
  rw [Bool.and_eq_true, lensB_iff, decide_eq_true_iff]
  constructor
  · rintro ⟨⟨h1, h2, h3⟩, h4⟩; exact ⟨h1, h2, h4⟩
  · rintro ⟨h1, h2, h3⟩; exact ⟨⟨h1, h2, by omega⟩, h3⟩
theorem free_no {l : List Int} (h : fullB l ≠ true) (w : World) (x : Int) : FreeR l w (.returned (.tuple #[.int .i64 x, .bool false])) w := ⟨rfl, x, false, rfl, ⟨fun h2 => (by cases h2.1), fun h2 => absurd h2 h⟩⟩
set_option maxRecDepth 100000 in
set_option maxHeartbeats 2000000 in
theorem rfree_any (A : Option Addr) (c : Nat) (l : List Int) (W : World) (h : RdI W W.heap.size A l) (hm : l.length ≤ 1000) : Calls Tryz.prog 141 #[.slice A l.length c] W (FreeR l W) := by
  have H := hid h
  clear h
  obtain ⟨n, hn⟩ : ∃ n, n = l.length := ⟨_, rfl⟩
  have Hn := hid hn
  rw [← hn] at hm ⊢
  by_cases hbig : 512 < n
  · have d1 : decide (512 < n) = true := decide_eq_true hbig
    have d2 : decide ((512 : Int) < (n : Int)) = true := decide_eq_true (by omega)
    have HF := hid (free_no (l := l) (fun h => by have := (fullB_iff.1 h).1; omega) W 0)
    clear hn hbig
    go_enter Tryz.func141, Tryz.ntmps141
    go_wp2
    go_ret2
    exact HF.out
  · have d1 : decide (512 < n) = false := decide_eq_false hbig
    have d2 : decide ((512 : Int) < (n : Int)) = false := decide_eq_false (by omega)
    have hn512 : n ≤ 512 := by omega
    clear hn hbig
    go_enter Tryz.func141, Tryz.ntmps141
    go_wp2_with fail
    go_loop [4, 5] (fun v i => ∃ (j : Nat) (K : Int), j ≤ n ∧ v = .int .i64 K ∧ i = .int .i64 (j : Int) ∧ 0 ≤ K ∧ K ≤ 32768 * (j : Int) ∧ Hid (K = kraft (l.take j)) ∧ Hid (∀ x ∈ l.take j, 0 ≤ x ∧ x ≤ 16)) (fun _ i => n - (intOf i).toNat)
    case atStart => exact ⟨0, 0, by omega, rfl, rfl, by omega, by omega, hid rfl, hid (by simp)⟩
    case round =>
      obtain ⟨j, K, hj, rfl, rfl, hK0, hK1, HK, HA⟩ := hrel
      by_cases hlt : j < n
      · have hjl : j < l.length := by rw [← Hn.out]; exact hlt
        obtain ⟨b, off, hA, hb, hc⟩ := int_at H.out hjl
        subst hA
        have htk : l.take (j + 1) = l.take j ++ [l[j]] := List.take_succ_eq_append_getElem hjl
        have hmem : l[j] ∈ l := List.getElem_mem hjl
        obtain ⟨x, hx⟩ : ∃ x, x = l[j] := ⟨_, rfl⟩
        rw [← hx] at hc htk hmem
        have Htk := hid htk
        have Hmem := hid hmem
        clear htk hmem hx
        by_cases h0 : x < 0
        · have HF := hid (free_no (l := l) (fun h => by have := (fullB_iff.1 h).2.1 x Hmem.out; omega) W 0)
          go_wp2
          go_ret2
          exact HF.out
        · by_cases h16 : 16 < x
          · have HF := hid (free_no (l := l) (fun h => by have := (fullB_iff.1 h).2.1 x Hmem.out; omega) W 0)
            go_wp2
            go_ret2
            exact HF.out
          · have HA2 := hid (show ∀ y ∈ l.take (j + 1), 0 ≤ y ∧ y ≤ 16 from by
              rw [Htk.out]
              intro y hy
              rw [List.mem_append] at hy
              rcases hy with hy | hy
              · exact HA.out y hy
              · rw [List.mem_singleton.1 hy]; omega)
            by_cases hp : 0 < x
            · obtain ⟨m, rfl⟩ : ∃ m : Nat, x = (m : Int) := ⟨x.toNat, by omega⟩
              have hpm : 0 < m := by omega
              have hm16 : m ≤ 16 := by omega
              have dp : decide ((0 : Int) < (m : Int)) = true := decide_eq_true (by omega)
              have dp2 : decide (0 < m) = true := decide_eq_true (by omega)
              have HKs := hid (show kraft (l.take (j + 1)) = K + 2 ^ (16 - m) by rw [Htk.out, kraft_snoc, if_pos hp, ← HK.out]; rfl)
              clear h0 h16 hp
              go_wp2_with fail
              go_loop [6, 7] (fun v i => ∃ k : Nat, k ≤ m ∧ v = .int .i64 (2 ^ (16 - k)) ∧ i = .int .i64 (k : Int)) (fun _ i => m - (intOf i).toNat)
              case atStart => exact ⟨0, by omega, rfl, rfl⟩
              case round =>
                obtain ⟨k, hk, rfl, rfl⟩ := hrel
                have hpw := pow_mono (show 16 - k ≤ 16 by omega)
                have hp16 : (2 : Int) ^ 16 = 65536 := by decide
                have hp0 : (0 : Int) < 2 ^ (16 - k) := Int.pow_pos (by omega)
                rw [hp16] at hpw
                by_cases hkm : k < m
                · have dk : decide (k < m) = true := decide_eq_true hkm
                  have dk2 : decide ((k : Int) < (m : Int)) = true := decide_eq_true (by omega)
                  have HH := hid (show (2 : Int) ^ (16 - k) / 2 = 2 ^ (16 - (k + 1)) by rw [show 16 - k = (16 - (k + 1)) + 1 by omega, Int.pow_succ]; omega)
                  generalize (2 : Int) ^ (16 - k) = P at *
                  have td : P.tdiv 2 = P / 2 := Int.tdiv_eq_ediv_of_nonneg (by omega)
                  have tw : IntKind.i64.wrap (P / 2) = P / 2 := IntWalk.i64_in _ (by omega)
                  go_wp2_with fail
                  go_round
                  case rel => exact ⟨k + 1, by omega, by rw [← HH.out], by go_num⟩
                  case measure => simp [intOf]; omega
                · have dk : decide (k < m) = false := decide_eq_false hkm
                  have dk2 : decide ((k : Int) < (m : Int)) = false := decide_eq_false (by omega)
                  obtain rfl : k = m := by omega
                  have hpw2 := pow_mono (show 16 - k ≤ 15 by omega)
                  have hp15 : (2 : Int) ^ 15 = 32768 := by decide
                  rw [hp15] at hpw2
                  generalize (2 : Int) ^ (16 - k) = P at *
                  have tw : IntKind.i64.wrap (K + P) = K + P := IntWalk.i64_in _ (by omega)
                  go_wp2_with fail
                  go_round
                  case rel => exact ⟨j + 1, K + P, by omega, rfl, by go_num, by omega, by push_cast; omega, hid (by rw [HKs.out]), HA2⟩
                  case measure => simp [intOf]; omega
            · have HKs := hid (show K = kraft (l.take (j + 1)) by rw [Htk.out, kraft_snoc, if_neg hp, ← HK.out]; omega)
              have dp : decide (0 < x) = false := decide_eq_false hp
              go_wp2_with fail
              go_round
              case rel => exact ⟨j + 1, K, by omega, rfl, by go_num, by omega, by push_cast; omega, HKs, HA2⟩
              case measure => simp [intOf]; omega
      · have hje : l.take j = l := List.take_of_length_le (by rw [← Hn.out]; omega)
        rw [hje] at HK HA
        have tw : IntKind.i64.wrap (65536 - K) = 65536 - K := IntWalk.i64_in _ (by omega)
        have HR := hid (show FreeR l W (.returned (.tuple #[.int .i64 (65536 - K), .bool (decide (K ≤ 65536))])) W from by
          refine ⟨rfl, _, _, rfl, ?_⟩
          rw [fullB_iff, ← HK.out, decide_eq_true_iff]
          constructor
          · rintro ⟨h1, h2⟩
            exact ⟨by rw [← Hn.out]; exact hn512, HA.out, by omega⟩
          · rintro ⟨_, _, h3⟩
            omega)
        clear hje
        generalize hbb : decide (K ≤ 65536) = bb at *
        go_wp2_with fail
        go_ret2
        exact HR.out
theorem whole_any (A : Option Addr) (c : Nat) (l : List Int) (W : World) (h : RdI W W.heap.size A l) (hm : l.length ≤ 1000) : Calls Tryz.prog 106 #[.slice A l.length c] W fun e w' => e = .returned (.bool (fullB l)) ∧ w' = W := by
  have F := hid (rfree_any A c l W h hm)
  clear h hm
  obtain ⟨n, hn⟩ : ∃ n, n = l.length := ⟨_, rfl⟩
  rw [← hn] at F ⊢
  clear hn
  go_enter Tryz.func106, Tryz.ntmps106
  go_wp2_with fail
  refine F.out.mono ?_
  rintro e w1 ⟨rfl, x, b, rfl, hx⟩
  have HX := hid hx
  clear hx
  cases b
  · have HB := hid (show fullB l = false from by
      cases hb : fullB l
      · rfl
      · have := (HX.out.2 hb).1; cases this)
    go_wp2_with fail
    go_ret
    exact ⟨by rw [HB.out]; rfl, rfl⟩
  · by_cases h0 : x = 0
    · have HB := hid (show fullB l = true from HX.out.1 ⟨rfl, h0⟩)
      have d0 : (x == 0) = true := by rw [beq_iff_eq]; exact h0
      clear h0
      go_wp2_with fail
      go_ret
      exact ⟨by rw [HB.out]; rfl, rfl⟩
    · have HB := hid (show fullB l = false from by
        cases hb : fullB l
        · rfl
        · exact absurd (HX.out.2 hb).2 h0)
      have d0 : (x == 0) = false := by rw [beq_eq_false_iff_ne]; exact h0
      clear h0
      go_wp2_with fail
      go_ret
      exact ⟨by rw [HB.out]; rfl, rfl⟩
end Go.Proofs.YthhllollhjpheaaGreat

namespace Go.Proofs.YthhllollhjpheaaGreat
open Go.RowKit

def ROut (v : Rv) (w : World) (r : Except Int Sk) (w' : World) : Prop := Kp w w' ∧ match r with
  | .error k => k ≠ 0 ∧ ∃ s', RI v w' s' k
  | .ok s2 => RI v w' s2 0
/-- where a loop of bytes stands -/
def SG (v : Rv) (r : Except Int Sk) (n : Nat) (s : Sk) (b : Int) : Prop := (b = 0 → r = bytesM v.L n s ∧ s.size + n ≤ v.most) ∧ (b ≠ 0 → r = .error b)
def atOf (g : Nat) (w : World) : Nat := match w.cell? ⟨g, 1, none⟩ with | some (.int _ n) => n.toNat | _ => 0
theorem atOf_eq {v : Rv} {w : World} {s : Sk} {b : Int} (h : RI v w s b) : atOf v.g w = s.k := by
  obtain ⟨T, tc, hb, _⟩ := h.tok
  have q1 := (hb.cell 1).trans rfl
  unfold atOf
  rw [q1]
  exact Int.toNat_natCast _
theorem rtake_no0 {v : Rv} {w : World} {s : Sk} (h : RI v w s 0) (n : Nat) (hn : v.L.length < s.k + n) (hn2 : n ≤ 32) : Calls Tryz.prog 48 #[.pointer (some ⟨v.g, 0, none⟩), .int .i64 (n : Int)] w fun e w' => ∃ x : Nat, Hid (x = 0) ∧ e = .returned (.int .i64 (x : Int)) ∧ RI v w' s 8 ∧ Kp w w' :=
  (rtake_no h n hn hn2).mono fun _ _ h => ⟨0, hid rfl, h.1, h.2⟩
set_option maxRecDepth 100000 in
set_option maxHeartbeats 4000000 in
theorem rstored_any {v : Rv} {w : World} {s : Sk} (h : RI v w s 0) (h8 : v.L.length % 8 = 0) (hL : 0 < v.L.length) : Calls Tryz.prog 49 #[.pointer (some ⟨v.g, 0, none⟩)] w fun e w' => e = .returned (.tuple #[]) ∧ ROut v w (storedM v.L v.most s) w' := by
  have H := hid h
  have hkl := h.kl
  have hln := h.ln
  obtain ⟨N, hN⟩ : ∃ N, N = v.L.length := ⟨_, rfl⟩
  have HN := hid hN
  rw [← hN] at hkl hln h8 hL
  obtain ⟨k0, hk0⟩ : ∃ k0, k0 = s.k := ⟨_, rfl⟩
  have Hk0 := hid hk0
  rw [← hk0] at hkl
  clear h hN hk0
  go_enter Tryz.func49, Tryz.ntmps49
  go_upto_region 0 with (fail)
  go_loopw [] (fun wr => ∃ k : Nat, k0 ≤ k ∧ k ≤ (k0 + 7) / 8 * 8 ∧ Hid (RI v wr ⟨k, s.size, s.toks⟩ 0) ∧ Hid (Kp w wr)) (fun wr => N - atOf v.g wr)
  case atStart => exact ⟨k0, Nat.le_refl _, by omega, hid (by rw [Hk0.out]; exact H.out), hid (Kp.refl _)⟩
  case round =>
    obtain ⟨k, hk1, hk2, R, K⟩ := hrel
    obtain ⟨T, tc, hb, _⟩ := R.out.tok
    unfold inCs at hb
    have q1 := hb.cell 1
    simp only [List.getElem?_toArray, List.getElem?_cons_zero, List.getElem?_cons_succ] at q1
    have hg := hb.lt
    have fz := fun o => hb.frozen o
    have tm : (k : Int).tmod 8 = (k : Int) % 8 := Int.tmod_eq_emod_of_nonneg (by omega)
    clear hb
    by_cases hm : k % 8 = 0
    · have d0 : ((k : Int) % 8 == 0) = true := by rw [beq_iff_eq]; omega
      have d1 : ((k : Int) % 8 != 0) = false := by rw [bne, d0]; rfl
      have KK := hid (show k = (s.k + 7) / 8 * 8 by rw [← Hk0.out]; omega)
      have hkN : k ≤ N := by omega
      have SM := hid (show storedM v.L v.most s = match tkM v.L k 16 with
        | none => .error 8
        | some a => match tkM v.L (k + 16) 16 with
          | none => .error 8
          | some b => if a + b ≠ 65535 then .error 2 else if v.most < s.size + a then .error 4 else bytesM v.L a.toNat ⟨k + 32, s.size, s.toks⟩ by rw [KK.out]; rfl)
      clear hk1 hk2 hm KK
      by_cases ha : N < k + 16
      case' pos =>
        have E1 := hid (show storedM v.L v.most s = .error 8 by rw [SM.out, tkM_none (by rw [← HN.out]; omega)])
        go_upto_region 2 with (fail)
        go_wp2_with fail
        refine (rtake_no0 R.out 16 (by rw [← HN.out]; show N < k + 16; omega) (by omega)).mono ?_
        rintro e w2 ⟨aN, HaN, rfl, hr2, hk2⟩
        have R2 := hid hr2
        have K2 := hid (K.out.trans hk2)
        clear hr2 hk2 fz q1 hg
        go_wp2_with fail
        refine (rtake_bad R2.out (by decide) 16).mono ?_
        rintro e wA ⟨rfl, hr3, hk3⟩
        have PA := hid hr3
        have KA := hid (K2.out.trans hk3)
        have GA := hid (show SG v (storedM v.L v.most s) aN ⟨k, s.size, s.toks⟩ 8 from ⟨fun h => absurd h (by decide), fun _ => E1.out⟩)
        have ha1 : aN ≤ 65536 := by have := HaN.out; omega
        clear hr3 hk3
        obtain ⟨T3, tc3, hb3, _⟩ := PA.out.tok
        unfold inCs at hb3
        have q2 := hb3.cell 2
        simp only [List.getElem?_toArray, List.getElem?_cons_zero, List.getElem?_cons_succ] at q2
        have hg := hb3.lt
        clear hb3
        go_upto_region 6 with (fail)
        first | go_quiet (fail) | fail
        generalize hwB : World.drewN wA nq = wB
        have PB := hid (show ∃ sB bI, RI v wB sB bI ∧ Kp w wB ∧ SG v (storedM v.L v.most s) aN sB bI from by rw [← hwB]; exact ⟨_, _, (PA.out.drewN nq).1, KA.out.trans (PA.out.drewN nq).2, GA.out⟩)
        clear hwB q2 hg PA KA GA
        go_upto_region 8 with (fail)
      case' neg =>
        have hbd1 := numL_bd R.out.bit k 16
        have hbd2 := numL_bd R.out.bit (k + 16) 16
        have hp16 : (2 : Int) ^ 16 = 65536 := by decide
        rw [hp16] at hbd1 hbd2
        obtain ⟨aN, haN⟩ : ∃ aN : Nat, numL v.L k 16 = (aN : Int) := ⟨(numL v.L k 16).toNat, by omega⟩
        rw [haN] at hbd1
        have ha1 : aN ≤ 65536 := by omega
        go_upto_region 2 with (fail)
        go_wp2_with fail
        refine (rtake_ok R.out 16 (by rw [← HN.out]; show k + 16 ≤ N; omega) (by omega) (by rw [← HN.out]; exact hL)).mono ?_
        rintro e w2 ⟨rfl, hr2, hk2⟩
        rw [show numL v.L (⟨k, s.size, s.toks⟩ : Sk).k 16 = (aN : Int) from haN]
        have R2 := hid hr2
        have K2 := hid (K.out.trans hk2)
        have HaN := hid haN
        clear hr2 hk2 fz q1 hg haN
        by_cases hb2 : N < k + 32
        case' pos =>
          have E1 := hid (show storedM v.L v.most s = .error 8 by rw [SM.out, tkM_some (by rw [← HN.out]; omega)]; dsimp only; rw [tkM_none (by rw [← HN.out]; omega)])
          have GA := hid (show SG v (storedM v.L v.most s) aN ⟨k + 16, s.size, s.toks⟩ 8 from ⟨fun h => absurd h (by decide), fun _ => E1.out⟩)
          go_wp2_with fail
          refine (rtake_no R2.out 16 (by rw [← HN.out]; show N < k + 16 + 16; omega) (by omega)).mono ?_
          rintro e wA ⟨rfl, hr3, hk3⟩
          have PA := hid hr3
          have KA := hid (K2.out.trans hk3)
          clear hr3 hk3
          obtain ⟨T3, tc3, hb3, _⟩ := PA.out.tok
          unfold inCs at hb3
          have q2 := hb3.cell 2
          simp only [List.getElem?_toArray, List.getElem?_cons_zero, List.getElem?_cons_succ] at q2
          have hg := hb3.lt
          clear hb3
          go_upto_region 6 with (fail)
          first | go_quiet (fail) | fail
          generalize hwB : World.drewN wA nq = wB
          have PB := hid (show ∃ sB bI, RI v wB sB bI ∧ Kp w wB ∧ SG v (storedM v.L v.most s) aN sB bI from by rw [← hwB]; exact ⟨_, _, (PA.out.drewN nq).1, KA.out.trans (PA.out.drewN nq).2, GA.out⟩)
          clear hwB q2 hg PA KA GA
          go_upto_region 8 with (fail)
        case' neg =>
          have E0 := hid (show storedM v.L v.most s = if (aN : Int) + numL v.L (k + 16) 16 ≠ 65535 then .error 2 else if v.most < s.size + (aN : Int) then .error 4 else bytesM v.L aN ⟨k + 32, s.size, s.toks⟩ by rw [SM.out, tkM_some (by rw [← HN.out]; omega)]; dsimp only; rw [tkM_some (by rw [← HN.out]; omega), HaN.out]; rfl)
          go_wp2_with fail
          refine (rtake_ok R2.out 16 (by rw [← HN.out]; show k + 16 + 16 ≤ N; omega) (by omega) (by rw [← HN.out]; exact hL)).mono ?_
          rintro e w3 ⟨rfl, hr3, hk3⟩
          have R3 := hid (show RI v w3 ⟨k + 32, s.size, s.toks⟩ 0 from hr3)
          have K3 := hid (K2.out.trans hk3)
          rw [show numL v.L (⟨k + 16, s.size, s.toks⟩ : Sk).k 16 = numL v.L (k + 16) 16 from rfl]
          generalize numL v.L (k + 16) 16 = mI at *
          clear hr3 hk3 hp16
          obtain ⟨T3, tc3, hb3, _⟩ := R3.out.tok
          obtain ⟨sz, hsz⟩ : ∃ sz, sz = s.size := ⟨_, rfl⟩
          obtain ⟨most, hmost⟩ : ∃ most, most = v.most := ⟨_, rfl⟩
          have hsz2 := R3.out.sz
          have hmo := R3.out.mo
          rw [← hmost] at hsz2 hmo E0
          rw [show (⟨k + 32, s.size, s.toks⟩ : Sk).size = sz from hsz.symm] at hsz2
          rw [← hsz] at E0
          unfold inCs at hb3
          rw [← hmost, show (⟨k + 32, s.size, s.toks⟩ : Sk).size = sz from hsz.symm] at hb3
          have q2 := hb3.cell 2
          have q3 := hb3.cell 3
          have q4 := hb3.cell 4
          simp only [List.getElem?_toArray, List.getElem?_cons_zero, List.getElem?_cons_succ] at q2 q3 q4
          have hg := hb3.lt
          have Hsz := hid hsz
          have Hmost := hid hmost
          clear hsz hmost
          have tw : IntKind.i64.wrap ((aN : Int) + mI) = (aN : Int) + mI := IntWalk.i64_in _ (by omega)
          have tw2 : IntKind.i64.wrap (sz + (aN : Int)) = sz + (aN : Int) := IntWalk.i64_in _ (by omega)
          clear hb3
          by_cases hc1 : (aN : Int) + mI = 65535
          case' neg =>
            have f1 : ((aN : Int) + mI == 65535) = false := by rw [beq_eq_false_iff_ne]; exact hc1
            have f1b : ((aN : Int) + mI != 65535) = true := by rw [bne, f1]; rfl
            have GA := hid (show SG v (storedM v.L v.most s) aN ⟨k + 32, s.size, s.toks⟩ 2 from ⟨fun h => absurd h (by decide), fun _ => by rw [← Hmost.out, E0.out, if_pos hc1]⟩)
            clear hc1
            go_upto_region 5 with (fail)
            go_wp2_with fail
            refine (fail_any R3.out 2).mono ?_
            rintro e wA ⟨rfl, hr4, hk4⟩
            have PA := hid hr4
            have KA := hid (K3.out.trans hk4)
            clear hr4 hk4 q2 q3 q4 hg
            obtain ⟨T3, tc3, hb3, _⟩ := PA.out.tok
            unfold inCs at hb3
            have q2 := hb3.cell 2
            simp only [List.getElem?_toArray, List.getElem?_cons_zero, List.getElem?_cons_succ] at q2
            have hg := hb3.lt
            clear hb3
            go_upto_region 6 with (fail)
            first | go_quiet (fail) | fail
            generalize hwB : World.drewN wA nq = wB
            have PB := hid (show ∃ sB bI, RI v wB sB bI ∧ Kp w wB ∧ SG v (storedM v.L v.most s) aN sB bI from by rw [← hwB]; exact ⟨_, _, (PA.out.drewN nq).1, KA.out.trans (PA.out.drewN nq).2, GA.out⟩)
            clear hwB q2 hg PA KA GA
            go_upto_region 8 with (fail)
          case' pos =>
            have f1 : ((aN : Int) + mI == 65535) = true := by rw [beq_iff_eq]; exact hc1
            have f1b : ((aN : Int) + mI != 65535) = false := by rw [bne, f1]; rfl
            by_cases hc2 : most < sz + (aN : Int)
            case' pos =>
              have f2 : decide (most < sz + (aN : Int)) = true := decide_eq_true hc2
              have GA := hid (show SG v (storedM v.L v.most s) aN ⟨k + 32, s.size, s.toks⟩ 4 from ⟨fun h => absurd h (by decide), fun _ => by rw [← Hmost.out, E0.out, if_neg (fun h => h hc1), if_pos hc2]⟩)
              have F := hid (fun nd => fail_any (R3.out.drewN nd).1 4)
              clear hc1 hc2
              go_upto_region 6 with (fail)
              first | go_quiet (fail) | fail
              go_wp2_with fail
              refine (F.out nq).mono ?_
              rintro e wB ⟨rfl, hr4, hk4⟩
              have PB := hid (show ∃ sB bI, RI v wB sB bI ∧ Kp w wB ∧ SG v (storedM v.L v.most s) aN sB bI from ⟨_, _, hr4, K3.out.trans ((R3.out.drewN nq).2.trans hk4), GA.out⟩)
              clear hr4 hk4 q2 q3 q4 hg GA F
              go_upto_region 8 with (fail)
            case' neg =>
              have f2 : decide (most < sz + (aN : Int)) = false := decide_eq_false hc2
              have GA := hid (show SG v (storedM v.L v.most s) aN ⟨k + 32, s.size, s.toks⟩ 0 from ⟨fun _ => ⟨by rw [← Hmost.out, E0.out, if_neg (fun h => h hc1), if_neg hc2, Hsz.out], by show s.size + _ ≤ v.most; rw [← Hsz.out, ← Hmost.out]; omega⟩, fun h => absurd rfl h⟩)
              clear hc1 hc2
              go_upto_region 6 with (fail)
              first | go_quiet (fail) | fail
              generalize hwB : World.drewN w3 nq = wB
              have PB := hid (show ∃ sB bI, RI v wB sB bI ∧ Kp w wB ∧ SG v (storedM v.L v.most s) aN sB bI from by rw [← hwB]; exact ⟨_, _, (R3.out.drewN nq).1, K3.out.trans (R3.out.drewN nq).2, GA.out⟩)
              clear hwB q2 q3 q4 hg GA
              go_upto_region 8 with (fail)
      all_goals
        obtain ⟨sB, bI, hrB, hkB, hG⟩ := PB.out
        have RB := hid hrB
        have KB := hid hkB
        have GB := hid hG
        clear hrB hkB hG PB
        go_wp2_with fail
        go_loopw [4] (fun i wr => ∃ (j : Nat) (sj : Sk) (bj : Int), j ≤ aN ∧ i = .int .i64 (j : Int) ∧ Hid (RI v wr sj bj) ∧ Hid (Kp w wr) ∧ Hid (SG v (storedM v.L v.most s) (aN - j) sj bj)) (fun i _ => aN - (intOf i).toNat)
        case atStart => exact ⟨0, sB, bI, by omega, rfl, RB, KB, hid (by rw [Nat.sub_zero]; exact GB.out)⟩
        case round =>
          obtain ⟨j, sj, bj, hj, rfl, R5, K5, G5⟩ := hrel
          obtain ⟨T5, tc5, hb5, _⟩ := R5.out.tok
          unfold inCs at hb5
          have q2 := hb5.cell 2
          simp only [List.getElem?_toArray, List.getElem?_cons_zero, List.getElem?_cons_succ] at q2
          have hg5 := hb5.lt
          clear hb5
          by_cases hex : j < aN ∧ bj = 0
          · obtain ⟨hja, rfl⟩ := hex
            have e1 : decide (j < aN) = true := decide_eq_true hja
            have e2 : decide ((j : Int) < (aN : Int)) = true := decide_eq_true (by omega)
            have hG5 := G5.out.1 rfl
            rw [show aN - j = (aN - (j + 1)) + 1 by omega, bytesM] at hG5
            by_cases ht : N < sj.k + 8
            · rw [tkM_none (by rw [← HN.out]; exact ht)] at hG5
              have E5 := hid hG5.1
              clear hG5 G5
              go_wp2_with fail
              refine (rtake_no R5.out 8 (by rw [← HN.out]; exact ht) (by omega)).mono ?_
              rintro e w6 ⟨rfl, hr6, hk6⟩
              have R6 := hid hr6
              have K6 := hid (K5.out.trans hk6)
              clear hr6 hk6 q2 hg5
              go_wp2_with fail
              refine (rput_bad R6.out (by decide) 0 0).mono ?_
              rintro e w7 ⟨rfl, hr7, hk7⟩
              have R7 := hid hr7
              have K7 := hid (K6.out.trans hk7)
              clear hr7 hk7
              go_wp2_with fail
              exact ⟨⟨j + 1, sj, 8, by omega, by go_num, R7, K7, hid ⟨fun h => absurd h (by decide), fun _ => E5.out⟩⟩, by simp [intOf]; omega⟩
            · have hbd := numL_bd R5.out.bit sj.k 8
              rw [tkM_some (by rw [← HN.out]; omega)] at hG5
              dsimp only at hG5
              have E5 := hid hG5.1
              have Z5 := hid hG5.2
              have P5 := hid (fun (w : World) (h : RI v w ⟨sj.k + 8, sj.size, sj.toks⟩ 0) => rput_any h 0 (numL v.L sj.k 8) (.inl rfl))
              have PM := hid (show putM v.most (0, numL v.L sj.k 8) ⟨sj.k + 8, sj.size, sj.toks⟩ = .ok ⟨sj.k + 8, sj.size + 1, sj.toks ++ [(0, numL v.L sj.k 8)]⟩ from by
                have := hG5.2
                unfold putM
                rw [if_neg (by simp), if_neg (by show ¬ v.most < sj.size + 1; omega)]
                rfl)
              clear hG5 G5
              go_wp2_with fail
              refine (rtake_ok R5.out 8 (by rw [← HN.out]; omega) (by omega) (by rw [← HN.out]; exact hL)).mono ?_
              rintro e w6 ⟨rfl, hr6, hk6⟩
              have R6 := hid hr6
              have K6 := hid (K5.out.trans hk6)
              clear hr6 hk6 q2 hg5
              generalize numL v.L sj.k 8 = x8 at *
              go_wp2_with fail
              refine (P5.out _ R6.out).mono ?_
              rintro e w7 hP
              unfold RPut at hP
              rw [PM.out] at hP
              obtain ⟨hk7, rfl, hr7⟩ := hP
              have R7 := hid hr7
              have K7 := hid (K6.out.trans hk7)
              clear hr7 hk7
              go_wp2_with fail
              exact ⟨⟨j + 1, _, 0, by omega, by go_num, R7, K7, hid ⟨fun _ => ⟨E5.out, by have := Z5.out; show sj.size + 1 + _ ≤ _; omega⟩, fun h => absurd rfl h⟩⟩, by simp [intOf]; omega⟩
          · have FIN := hid (show ∀ wq, RI v wq sj bj → Kp w wq → ROut v w (storedM v.L v.most s) wq from fun wq h1 h2 => by
              refine ⟨h2, ?_⟩
              by_cases hb0 : bj = 0
              · have := G5.out.1 hb0
                rw [this.1, show aN - j = 0 by omega]
                subst hb0
                exact h1
              · rw [G5.out.2 hb0]
                exact ⟨hb0, _, h1⟩)
            by_cases hja : j < aN
            case' pos =>
              have e1 : decide (j < aN) = true := decide_eq_true hja
              have e2 : decide ((j : Int) < (aN : Int)) = true := decide_eq_true (by omega)
              have e3 : (bj == 0) = false := by rw [beq_eq_false_iff_ne]; exact fun h => hex ⟨hja, h⟩
            case' neg =>
              have e1 : decide (j < aN) = false := decide_eq_false hja
              have e2 : decide ((j : Int) < (aN : Int)) = false := decide_eq_false (by omega)
            all_goals
              clear hex G5
              go_wp2_with fail
              go_end0
              exact ⟨rfl, FIN.out _ R5.out K5.out⟩
    · have d0 : ((k : Int) % 8 == 0) = false := by rw [beq_eq_false_iff_ne]; omega
      have d1 : ((k : Int) % 8 != 0) = true := by rw [bne, d0]; rfl
      obtain ⟨k1, hk1'⟩ : ∃ k1, k + 1 = k1 := ⟨_, rfl⟩
      have tw : IntKind.i64.wrap ((k : Int) + 1) = (k1 : Int) := (IntWalk.i64_in _ (by omega)).trans (by omega)
      have S1 := hid (R.out.setAt k1 (by rw [← HN.out]; omega))
      have A1 := hid (atOf_eq R.out)
      go_wp2_with fail
      refine ⟨⟨k1, by omega, by omega, hid S1.out.1, hid (K.out.trans S1.out.2)⟩, ?_⟩
      rw [A1.out, atOf_eq S1.out.1]
      show N - k1 < N - k
      omega
end Go.Proofs.YthhllollhjpheaaGreat

namespace Go.Proofs.YthhllollhjpheaaGreat
open Go.RowKit
theorem tkM_bd {L : List Int} (hL : ∀ x ∈ L, isBit x) {k n : Nat} {x : Int} (h : tkM L k n = some x) : 0 ≤ x ∧ x < 2 ^ n := by
  unfold tkM at h
  split at h
  · cases h
  · injection h with h
    rw [← h]
    exact numL_bd hL k n
theorem own_own_ne {w : World} {b1 b2 n1 n2 z1 z2 : Nat} {t1 t2 : TypeId} {v1 v2 : Value} {x1 x2 : List Value} (h1 : w.ownsRow b1 t1 z1 v1 n1 x1) (h2 : w.ownsRow b2 t2 z2 v2 n2 x2) (hne : t2 ≠ t1) : v1.ownBlock = none ∨ v1.ownBlock ≠ v2.ownBlock := by
  rcases h1.2 with ⟨rfl, _⟩ | ⟨g, cap, cur, rfl, _, hh, _⟩
  · exact .inl rfl
  · exact .inr (own_blk_ne (g := g) (cs := cur) h2 hh hne)
theorem BR.app {w w' : World} {g : Nat} {A : Option Addr} {c : Nat} {bl : List Int} {k base n z : Nat} {v : Value} {xs : List Value} (h : BR w g A c bl k) (ho : w.ownsRow base 3 z v n xs) (hg : w.grownBy w' v.ownBlock) : BR w' g A c bl k :=
  ⟨h.blk.grown hg (own_blk_ne ho h.blk (by decide)), h.row.kept hg (own_own_ne h.row ho (by decide)), h.ok, h.len, h.at_⟩
theorem blk_turn {v : Ev} {w w' : World} {s : Sk} {lp dp : Value} {bs : List (Nat × BM)} {g : Nat} {cs : Array Value} (h : St v w s lp dp bs) (hg : w.grownBy w' (some v.gr)) (hb : Blk w g 3 cs) : Blk w' g 3 cs := hb.grown hg (fun e => by
  injection e with e
  have hr := h.rd.blk
  rw [← e] at hr
  unfold Blk at hb hr
  rw [hb] at hr
  injection hr with hr
  injection hr with _ hr
  exact absurd hr (by decide))
end Go.Proofs.YthhllollhjpheaaGreat

namespace Go.Proofs.YthhllollhjpheaaGreat
open Go.RowKit
end Go.Proofs.YthhllollhjpheaaGreat

namespace Go.Proofs.YthhllollhjpheaaGreat
open Go.RowKit
theorem lbase_bd : ∀ i : Fin 29, 3 ≤ lbase (257 + (i.val : Int)) ∧ lbase (257 + (i.val : Int)) + 2 ^ (lextra (257 + (i.val : Int))).toNat ≤ 259 := by decide
theorem dbase_bd : ∀ i : Fin 30, 1 ≤ dbase (i.val : Int) ∧ dbase (i.val : Int) + 2 ^ (dextra (i.val : Int)).toNat ≤ 32769 := by decide
end Go.Proofs.YthhllollhjpheaaGreat

namespace Go.Proofs.YthhllollhjpheaaGreat
open Go.RowKit

theorem rdC_len (l : Cd.SL) (bt : Nat → Nat) (N : Nat) : ∀ (f n c s m : Nat), Cd.rdC l bt N f n c = .sym s m → n ≤ m ∧ m ≤ N
  | 0, _, _, _, _, h => by cases h
  | f + 1, n, c, s, m, h => by
    unfold Cd.rdC at h
    split at h
    · cases h
    · split at h
      · injection h with h1 h2
        omega
      · split at h
        · have := rdC_len l bt N f _ _ _ _ h
          omega
        · cases h
theorem symM_gt {l L : List Int} {k y k1 : Nat} (h : symM l L k = .ok (y, k1)) : k < k1 ∧ k1 ≤ L.length := by
  unfold symM at h
  split at h
  · cases h
  · cases hr : Cd.rdC (slOf l) (btF L k) (L.length - k) 16 1 0 with
    | sym s n =>
      rw [hr] at h
      injection h with h
      injection h with h1 h2
      have := rdC_len _ _ _ _ _ _ _ _ hr
      omega
    | short => rw [hr] at h; cases h
    | bad => rw [hr] at h; cases h
theorem putM_k {most : Int} {t : Int × Int} {s s2 : Sk} (h : putM most t s = .ok s2) : s2.k = s.k := by
  unfold putM at h
  split at h
  · cases h
  · split at h
    · cases h
    · injection h with h; rw [← h]
theorem matchM_ge {d L : List Int} {most : Int} {y : Nat} {s s2 : Sk} (h : matchM d L most y s = .ok s2) : s.k ≤ s2.k := by
  unfold matchM at h
  split at h
  · cases h
  · split at h
    · cases h
    · split at h
      · cases h
      · rename_i hs
        have h1 := symM_gt hs
        split at h
        · cases h
        · split at h
          · cases h
          · have := putM_k h
            simp only at this
            omega
end Go.Proofs.YthhllollhjpheaaGreat

namespace Go.Proofs.YthhllollhjpheaaGreat
open Go.RowKit

/-- a row of ints in memory -/
def IRowB (w : World) (A : Option Addr) (l : List Int) : Prop := (A = none ∧ l = []) ∨ ∃ b off cs, A = some ⟨b, off, none⟩ ∧ Blk w b 3 cs ∧ ∀ j u, (l.flatMap encI)[j]? = some u → cs[off + j]? = some u
theorem IRowB.rdi {w : World} {A : Option Addr} {l : List Int} (h : IRowB w A l) : RdI w w.heap.size A l := by
  refine ⟨by rw [intsV_eq, intsV_length, Nat.mul_one], fun hp => ?_⟩
  rcases h with ⟨_, rfl⟩ | ⟨b, off, cs, hA, hb, hc⟩
  · exact absurd hp (by simp)
  · exact ⟨b, off, hA, hb.lt, fun j u hu => (hb.cell _).trans (hc j u hu)⟩
theorem IRowB.hold {w w' : World} {A : Option Addr} {l : List Int} (h : IRowB w A l) (hh : HoldT w w') : IRowB w' A l := by
  rcases h with h | ⟨b, off, cs, hA, hb, hc⟩
  · exact .inl h
  · exact .inr ⟨b, off, cs, hA, hh _ _ _ (by decide) (by decide) (by decide) hb, hc⟩
theorem IRowB.turn {v : Ev} {w w' : World} {s : Sk} {lp dp : Value} {bs : List (Nat × BM)} {A : Option Addr} {l : List Int} (h : IRowB w A l) (hs : St v w s lp dp bs) (hg : w.grownBy w' (some v.gr)) : IRowB w' A l := by
  rcases h with h | ⟨b, off, cs, hA, hb, hc⟩
  · exact .inl h
  · exact .inr ⟨b, off, cs, hA, blk_turn hs hg hb, hc⟩
theorem IRowB.own {w : World} {base c : Nat} {A : Option Addr} {l : List Int} (h : w.ownsRow base 3 1 (.slice A l.length c) l.length (intsV l)) : IRowB w A l := by
  rcases h.2 with ⟨h1, h2⟩ | ⟨g, cap, cur, h1, _, hh, _, _, _, ht⟩
  · injection h1 with h1 _ _
    exact .inl ⟨h1, List.eq_nil_of_length_eq_zero h2⟩
  · injection h1 with h1 _ _
    refine .inr ⟨g, 0, cur, h1, hh, fun j u hu => ?_⟩
    rw [intsV_eq, ← ht] at hu
    rw [Nat.zero_add, ← Array.getElem?_toList]
    rw [List.getElem?_take] at hu
    split at hu
    · exact hu
    · cases hu
/-- a part of a row -/
theorem IRowB.part {w : World} {b off : Nat} {l : List Int} (h : IRowB w (some ⟨b, off, none⟩) l) (i n : Nat) : IRowB w (some ⟨b, off + i, none⟩) ((l.drop i).take n) := by
  rcases h with ⟨h, _⟩ | ⟨b', off', cs, hA, hb, hc⟩
  · cases h
  · injection hA with hA
    injection hA with h1 h2
    subst h1 h2
    refine .inr ⟨b, off + i, cs, rfl, hb, fun j u hu => ?_⟩
    have e : (l.flatMap encI)[i + j]? = some u := by
      rw [intsV_eq] at hu ⊢
      unfold intsV at hu ⊢
      rw [List.getElem?_map] at hu ⊢
      rw [List.getElem?_take] at hu
      split at hu
      · rw [List.getElem?_drop] at hu; exact hu
      · cases hu
    rw [Nat.add_assoc]
    exact hc _ _ e
theorem St.set4 {v : Ev} {w : World} {s : Sk} {lp dp : Value} {bs : List (Nat × BM)} (h : St v w s lp dp bs) (p : Value) : St v (w.setCell ⟨v.g, 4, none⟩ p) s p dp bs ∧ HoldT w (w.setCell ⟨v.g, 4, none⟩ p) := by
  obtain ⟨T, tc, hk, ho⟩ := h.tok
  have hh := HoldT.set (i := 4) hk (.inl rfl) p
  exact ⟨⟨⟨T, tc, hk.set_ 4 _, ownsRow_setCell_other (a := ⟨v.g, 4, none⟩) ho (fun h => own_blk_ne ho hk (by decide) h.symm) _⟩, h.rd.hold hh, fun x hx => (h.bks x hx).hold hh, h.gB, h.grB, h.fr.setCell (p := ⟨v.g, 4, none⟩) h.gB _, h.sz, fun x hx => hh _ _ _ (by decide) (by decide) (by decide) (h.ext x hx)⟩, hh⟩
end Go.Proofs.YthhllollhjpheaaGreat

namespace Go.Proofs.YthhllollhjpheaaGreat
open Go.RowKit
end Go.Proofs.YthhllollhjpheaaGreat

namespace Go.Proofs.YthhllollhjpheaaGreat

theorem rdC_mem (l : Cd.SL) (bt : Nat → Nat) (N : Nat) : ∀ (f n c s m : Nat), Cd.rdC l bt N f n c = .sym s m → s = 0 ∨ s ∈ l.map (·.1)
  | 0, _, _, _, _, h => by cases h
  | f + 1, n, c, s, m, h => by
    unfold Cd.rdC at h
    split at h
    · cases h
    · split at h
      · injection h with h1 h2
        rw [List.getD_eq_getElem?_getD] at h1
        cases hx : (Cd.rowOf l n)[2 * c + bt (n - 1) - Cd.low l n / Cd.pw n]? with
        | none => rw [hx] at h1; exact .inl h1.symm
        | some x =>
          rw [hx] at h1
          have h1 : x = s := h1
          have h3 := List.mem_of_getElem? hx
          rw [h1] at h3
          unfold Cd.rowOf at h3
          obtain ⟨y, hy, e⟩ := List.mem_map.1 h3
          exact .inr (List.mem_map.2 ⟨y, (List.mem_filter.1 hy).1, e⟩)
      · split at h
        · exact rdC_mem l bt N f _ _ _ _ h
        · cases h
theorem symM_bd {l L : List Int} {k y k1 : Nat} (h : symM l L k = .ok (y, k1)) : y = 0 ∨ y < l.length := by
  unfold symM at h
  split at h
  · cases h
  · cases hr : Cd.rdC (slOf l) (btF L k) (L.length - k) 16 1 0 with
    | sym s n =>
      rw [hr] at h
      injection h with h
      injection h with h1 h2
      subst h1
      rcases rdC_mem _ _ _ _ _ _ _ _ hr with h3 | h3
      · exact .inl h3
      · right
        unfold slOf at h3
        rw [List.map_map] at h3
        obtain ⟨z, hz, e⟩ := List.mem_map.1 h3
        have e : z = s := e
        rw [← e]
        exact (ordL_mem.1 hz).1
    | short => rw [hr] at h; cases h
    | bad => rw [hr] at h; cases h
theorem rowM_bd {sm L : List Int} (hL : ∀ x ∈ L, isBit x) (hs : sm.length ≤ 19) {size : Nat} : ∀ (f k : Nat) (out : List Int) (k2 : Nat) (row : List Int), (∀ x ∈ out, 0 ≤ x ∧ x ≤ 100) → out.length ≤ size → size ≤ f + out.length → rowM sm L size f k out = .ok (k2, row) → (∀ x ∈ row, 0 ≤ x ∧ x ≤ 100) ∧ row.length = size
  | 0, k, out, k2, row, ho, h1, h2, h => by
    injection h with h
    injection h with _ h
    subst h
    exact ⟨ho, by omega⟩
  | f + 1, k, out, k2, row, ho, h1, h2, h => by
    rw [rowM] at h
    split at h
    · injection h with h
      injection h with _ h
      subst h
      exact ⟨ho, by omega⟩
    · rename_i hn
      cases hy : symM sm L k with
      | error e => rw [hy] at h; cases h
      | ok yk =>
        obtain ⟨y, k1⟩ := yk
        rw [hy] at h
        dsimp only at h
        split at h
        · cases h
        · generalize he : (if y = 16 then 2 else if y = 17 then 3 else if y = 18 then 7 else 0) = e at h
          generalize hl : (if y = 16 then (3 : Int) else if y = 17 then 3 else if y = 18 then 11 else 1) = l at h
          generalize hv : (if y = 16 then out.getD (out.length - 1) 0 else if y = 17 then 0 else if y = 18 then 0 else (y : Int)) = val at h
          have hl1 : 1 ≤ l := by rw [← hl]; split <;> (try split) <;> (try split) <;> omega
          have hv1 : 0 ≤ val ∧ val ≤ 100 := by
            rw [← hv]
            split
            · rw [List.getD_eq_getElem?_getD]
              cases hx : out[out.length - 1]? with
              | none => simp
              | some x => exact ho x (List.mem_of_getElem? hx)
            · have := symM_bd hy
              split
              · omega
              · split <;> omega
          cases ht : tkM L k1 e with
          | none => rw [ht] at h; cases h
          | some v =>
            rw [ht] at h
            dsimp only at h
            have hv0 := (tkM_bd hL ht).1
            split at h
            · cases h
            · refine rowM_bd hL hs f _ _ _ _ (fun x hx => ?_) ?_ ?_ h
              · rcases List.mem_append.1 hx with hx | hx
                · exact ho x hx
                · rw [List.eq_of_mem_replicate hx]; exact hv1
              · rw [List.length_append, List.length_replicate]; omega
              · rw [List.length_append, List.length_replicate]; omega
theorem few_kraft : ∀ {l : List Int}, (∀ x ∈ l, 0 ≤ x) → l.sum ≤ 1 → kraft l ≤ 32768 * l.sum ∧ (∀ x ∈ l, x ≤ 1)
  | [], _, _ => by simp [kraft]
  | x :: l, h, hs => by
    rw [List.sum_cons] at hs ⊢
    have h1 := h x (by simp)
    have h0 : ∀ (l : List Int), (∀ x ∈ l, 0 ≤ x) → 0 ≤ l.sum := by
      intro l
      induction l with
      | nil => intro _; simp
      | cons x l ih => intro h; rw [List.sum_cons]; have := h x (by simp); have := ih (fun y hy => h y (by simp [hy])); omega
    have h2 := h0 l (fun y hy => h y (by simp [hy]))
    have ih := few_kraft (l := l) (fun y hy => h y (by simp [hy])) (by omega)
    have e : kraft (x :: l) = (if 0 < x then (2 : Int) ^ (16 - x.toNat) else 0) + kraft l := by unfold kraft; rw [List.map_cons, List.sum_cons]
    rw [e]
    refine ⟨?_, fun y hy => ?_⟩
    · rcases (show x = 0 ∨ x = 1 by omega) with e | e
      · subst e; simp; exact ih.1
      · subst e
        have : (2 : Int) ^ (16 - (1 : Int).toNat) = 32768 := by decide
        rw [if_pos (by omega), this]
        omega
    · rcases List.mem_cons.1 hy with rfl | hy
      · omega
      · exact ih.2 y hy
theorem few_lens {l : List Int} (hm : l.length ≤ 512) (h : ∀ x ∈ l, 0 ≤ x) (hs : l.sum ≤ 1) : lensB l = true := by
  obtain ⟨h1, h2⟩ := few_kraft h hs
  exact lensB_iff.2 ⟨hm, fun x hx => ⟨h x hx, by have := h2 x hx; omega⟩, by omega⟩
theorem full_lens {l : List Int} (h : fullB l = true) : lensB l = true := by
  unfold fullB at h
  rw [Bool.and_eq_true] at h
  exact h.1
theorem smallM_len {L : List Int} : ∀ (os : List Nat) (k : Nat) (sm : List Int) (k2 : Nat) (r : List Int), smallM L os k sm = .ok (k2, r) → r.length = sm.length
  | [], k, sm, k2, r, h => by injection h with h; injection h with _ h; rw [← h]
  | o :: os, k, sm, k2, r, h => by
    unfold smallM at h
    split at h
    · cases h
    · rw [smallM_len os _ _ _ _ h, List.length_set]
end Go.Proofs.YthhllollhjpheaaGreat

namespace Go.Proofs.YthhllollhjpheaaGreat
theorem bytesM_k {L : List Int} : ∀ {n : Nat} {s s2 : Sk}, bytesM L n s = .ok s2 → s.k ≤ s2.k
  | 0, s, s2, h => by injection h with h; rw [h]; exact Nat.le_refl _
  | n + 1, s, s2, h => by
    unfold bytesM at h
    split at h
    · cases h
    · have := bytesM_k h
      simp only at this
      omega
theorem storedM_k {L : List Int} {most : Int} {s s2 : Sk} (h : storedM L most s = .ok s2) : s.k ≤ s2.k := by
  unfold storedM at h
  split at h
  · cases h
  · split at h
    · cases h
    · split at h
      · cases h
      · split at h
        · cases h
        · have := bytesM_k h
          simp only at this
          omega
theorem symsM_k {l d L : List Int} {most : Int} : ∀ {f : Nat} {s s2 : Sk}, symsM l d L most f s = .ok s2 → s.k ≤ s2.k
  | 0, _, _, h => by cases h
  | f + 1, s, s2, h => by
    unfold symsM at h
    split at h
    · cases h
    · rename_i y k1 hs
      have h1 := symM_gt hs
      split at h
      · injection h with h; rw [← h]; show s.k ≤ k1; omega
      · split at h
        · cases h
        · rename_i s3 hp
          have h2 := symsM_k h
          have h3 : k1 ≤ s3.k := by
            split at hp
            · have := putM_k hp; simp only at this; omega
            · exact matchM_ge hp
          omega
theorem smallM_k {L : List Int} : ∀ {os : List Nat} {k : Nat} {sm : List Int} {k2 : Nat} {r : List Int}, smallM L os k sm = .ok (k2, r) → k ≤ k2
  | [], k, sm, k2, r, h => by injection h with h; injection h with h _; omega
  | o :: os, k, sm, k2, r, h => by
    unfold smallM at h
    split at h
    · cases h
    · have := smallM_k h
      omega
theorem rowM_k {sm L : List Int} {size : Nat} : ∀ {f k : Nat} {out : List Int} {k2 : Nat} {r : List Int}, rowM sm L size f k out = .ok (k2, r) → k ≤ k2
  | 0, k, out, k2, r, h => by injection h with h; injection h with h _; omega
  | f + 1, k, out, k2, r, h => by
    rw [rowM] at h
    split at h
    · injection h with h; injection h with h _; omega
    · cases hy : symM sm L k with
      | error e => rw [hy] at h; cases h
      | ok yk =>
        obtain ⟨y, k1⟩ := yk
        rw [hy] at h
        dsimp only at h
        have h1 := symM_gt hy
        split at h
        · cases h
        · generalize (if y = 16 then 2 else if y = 17 then 3 else if y = 18 then 7 else 0) = e at h
          generalize (if y = 16 then (3 : Int) else if y = 17 then 3 else if y = 18 then 11 else 1) = l at h
          generalize (if y = 16 then out.getD (out.length - 1) 0 else if y = 17 then 0 else if y = 18 then 0 else (y : Int)) = val at h
          cases ht : tkM L k1 e with
          | none => rw [ht] at h; cases h
          | some v =>
            rw [ht] at h
            dsimp only at h
            split at h
            · cases h
            · have := rowM_k h
              omega
theorem dynM_k {L : List Int} {k k2 : Nat} {l d : List Int} (h : dynM L k = .ok (k2, l, d)) : k ≤ k2 := by
  unfold dynM at h
  split at h
  · cases h
  · split at h
    · cases h
    · split at h
      · cases h
      · split at h
        · cases h
        · split at h
          · cases h
          · split at h
            · cases h
            · rename_i hs
              have h1 := smallM_k hs
              split at h
              · cases h
              · split at h
                · cases h
                · rename_i hr
                  have h2 := rowM_k hr
                  split at h
                  · cases h
                  · injection h with h
                    injection h with h _
                    omega
end Go.Proofs.YthhllollhjpheaaGreat
