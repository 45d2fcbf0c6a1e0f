/-
  inflate.Tokens, inflate.Inflate.
-/
import Derived.Test.YtegmbjkpjglgpaaInfRun
import Derived.Test.YtegmbjkpjglgpaaInfLay
import Derived.Deep.RegionWith
namespace Go.Proofs.Ytegmbjkpjglgpaa
open Go.RowKit

/-- which tokens packed bytes are -/
def TkEnd (bl : List Int) (most : Int) (W : World) (e : Ending) (w' : World) : Prop :=
  Below W.heap.size W w' ∧ match infM (bitsL bl) most with
  | .error k => e = .returned (.tuple #[.slice none 0 0, .iface 40 (.int .i64 k)])
  | .ok s2 => ∃ T tc, e = .returned (.tuple #[.slice T s2.toks.length tc, .nilIface]) ∧ w'.ownsRow W.heap.size 112 2 (.slice T s2.toks.length tc) s2.toks.length (s2.toks.flatMap encTok)
theorem tokens_any (A : Option Addr) (c : Nat) (bl : List Int) (most : Int) (W : World) (hr : Rd W W.heap.size 1 A bl.length (bytesV bl)) (hc : A = none → c = 0) (hb : ∀ x ∈ bl, isB x) (hm : bl.length ≤ 10000000) :
    Calls Try.prog 26 #[.slice A bl.length c, .int .i64 most] W (TkEnd bl most W) := by
  have RU := hid (run_any A c bl most W hr hc hb hm)
  obtain ⟨L, hL⟩ : ∃ L, L = bl.length := ⟨_, rfl⟩
  rw [← hL] at RU ⊢
  clear hr hc hb hm hL
  go_enter Try.func26, Try.ntmps26
  go_wp2_with fail
  refine RU.out.mono ?_
  intro e w1 hE
  unfold RunEnd at hE
  cases hi : infM (bitsL bl) most with
  | error k =>
    rw [hi] at hE
    obtain ⟨rfl, hb1⟩ := hE
    have B1 := hid hb1
    have Hi := hid hi
    clear hi hb1 RU
    go_wp2_with fail
    go_ret2
    unfold TkEnd
    rw [Hi.out]
    exact ⟨B1.out, rfl⟩
  | ok s2 =>
    rw [hi] at hE
    obtain ⟨v, lp, dp, bs, hB, hW, _, _, rfl, hS⟩ := hE
    obtain ⟨T, tc, hk, ho⟩ := hS.tok
    have S := hid hS
    have O := hid ho
    have Hi := hid hi
    have HB := hid hB
    have HW := hid hW
    unfold workCs at hk
    have c0 := hk.cell 0
    have c1 := hk.cell 1
    have c2 := hk.cell 2
    have c3 := hk.cell 3
    have c4 := hk.cell 4
    have c5 := hk.cell 5
    simp only [List.getElem?_toArray, List.getElem?_cons_zero, List.getElem?_cons_succ] at c0 c1 c2 c3 c4 c5
    have hgw := hk.lt
    clear hi hS hk ho hB hW RU
    go_wp2_with fail
    go_ret2
    unfold TkEnd
    rw [Hi.out]
    have h1 := S.out.fr
    have h2 := O.out
    rw [HB.out, HW.out] at h1
    rw [HB.out] at h2
    exact ⟨h1, T, tc, rfl, h2⟩
theorem work_c0 {v : Ev} {w : World} {s : Sk} {lp dp : Value} {bs : List (Nat × BM)} (h : St v w s lp dp bs) : w.cell? ⟨v.g, 0, none⟩ = some (.pointer (some ⟨v.gr, 0, none⟩)) := by
  obtain ⟨T, tc, hk, _⟩ := h.tok
  exact hk.cell 0
theorem work_lt {v : Ev} {w : World} {s : Sk} {lp dp : Value} {bs : List (Nat × BM)} (h : St v w s lp dp bs) : v.g < w.heap.size := by
  obtain ⟨T, tc, hk, _⟩ := h.tok
  exact hk.lt
/-- what packed bytes are unpacked to -/
def InEnd (bl : List Int) (most : Int) (W : World) (e : Ending) (w' : World) : Prop :=
  Below W.heap.size W w' ∧ match infM (bitsL bl) most with
  | .error k => e = .returned (.tuple #[.slice none 0 0, .int .i64 0, .iface 40 (.int .i64 k)])
  | .ok s2 => ∃ A c, e = .returned (.tuple #[.slice A (s2.toks.foldl layTok []).length c, .int .i64 (((s2.k + 7) / 8 : Nat) : Int), .nilIface]) ∧ w'.ownsRow W.heap.size 5 1 (.slice A (s2.toks.foldl layTok []).length c) (s2.toks.foldl layTok []).length (bytesV (s2.toks.foldl layTok []))
set_option maxRecDepth 100000 in
set_option maxHeartbeats 4000000 in
theorem inflate_any (A : Option Addr) (c : Nat) (bl : List Int) (most : Int) (W : World) (hr : Rd W W.heap.size 1 A bl.length (bytesV bl)) (hc : A = none → c = 0) (hb : ∀ x ∈ bl, isB x) (hm : bl.length ≤ 10000000) :
    Calls Try.prog 20 #[.slice A bl.length c, .int .i64 most] W (InEnd bl most W) := by
  have RU := hid (run_any A c bl most W hr hc hb hm)
  obtain ⟨L, hL⟩ : ∃ L, L = bl.length := ⟨_, rfl⟩
  rw [← hL] at RU ⊢
  have HL := hid hL
  have hmL : L ≤ 10000000 := by omega
  clear hr hc hb hm hL
  go_enter Try.func20, Try.ntmps20
  go_wp2_with fail
  refine RU.out.mono ?_
  intro e w1 hE
  unfold RunEnd at hE
  cases hi : infM (bitsL bl) most with
  | error k =>
    rw [hi] at hE
    obtain ⟨rfl, hb1⟩ := hE
    have B1 := hid hb1
    have Hi := hid hi
    clear hi hb1 RU
    go_wp2_with fail
    go_ret3
    unfold InEnd
    rw [Hi.out]
    exact ⟨B1.out, rfl⟩
  | ok s2 =>
    rw [hi] at hE
    obtain ⟨v, lp, dp, bs, hB, hW, hbl, _, rfl, hS⟩ := hE
    obtain ⟨hm0, hm1, hsc, _⟩ := infM_sound (bitsL_bit bl) hi
    obtain ⟨T, tc, hk, ho⟩ := hS.tok
    have hz := hS.sz
    have hk8 : s2.k ≤ 8 * L := by have := hS.rd.at_; rw [hbl, ← HL.out] at this; exact this
    have S := hid hS
    have LAY := hid (show ∀ w, Below w1.heap.size w1 w → Calls Try.prog 49 #[.slice T s2.toks.length tc, .int .i64 s2.size] w (LayEnd s2.toks w) from fun w hbw => lay_any T tc s2.toks most s2.size w (own_rd (own_below ho hbw (Nat.le_refl _))) (by omega) hz.1 (by omega) hm1 hsc)
    have Hi := hid hi
    have HB := hid hB
    have HW := hid hW
    unfold workCs at hk
    obtain ⟨sz, hszz⟩ : ∃ sz, sz = s2.size := ⟨_, rfl⟩
    obtain ⟨nt, hnt⟩ : ∃ nt, nt = s2.toks.length := ⟨_, rfl⟩
    rw [← hszz, ← hnt] at hk LAY
    have c0 := hk.cell 0
    have c1 := hk.cell 1
    have c2 := hk.cell 2
    have c3 := hk.cell 3
    have c4 := hk.cell 4
    have c5 := hk.cell 5
    simp only [List.getElem?_toArray, List.getElem?_cons_zero, List.getElem?_cons_succ] at c0 c1 c2 c3 c4 c5
    have hgw := hk.lt
    obtain ⟨kk, hkk⟩ : ∃ kk, kk = s2.k := ⟨_, rfl⟩
    obtain ⟨q8, hq8⟩ : ∃ q8, q8 = (kk + 7) / 8 := ⟨_, rfl⟩
    rw [← hkk] at hk8
    have tq : ((kk : Int) + 7).tdiv 8 = (q8 : Int) := by rw [Int.tdiv_eq_ediv_of_nonneg (by omega)]; omega
    have tq2 : ((kk : Int) + 7) / 8 = (q8 : Int) := by omega
    have tw : IntKind.i64.wrap ((kk : Int) + 7) = (kk : Int) + 7 := IntWalk.i64_in _ (by omega)
    have tw2 : IntKind.i64.wrap (q8 : Int) = (q8 : Int) := IntWalk.i64_in _ (by omega)
    have Hkk := hid hkk
    have Hq8 := hid hq8
    have ATW := hid (show ∀ w, Below w1.heap.size w1 w → Calls Try.prog 50 #[.pointer (some ⟨v.gr, 0, none⟩)] w fun e w' => e = .returned (.int .i64 (kk : Int)) ∧ w' = w from fun w hbw => by rw [hkk]; exact at_any v.gr v.A v.c v.bl s2.k w (hS.below hbw).rd)
    clear hi hS hk ho hB hW RU hz hbl hszz hnt hkk hq8 hsc
    go_wp2_with fail
    go_region_with (first
      | (go_at_call 49; refine (LAY.out _ (below_drewN (Below.refl _ _) 1)).mono ?_; rintro e w3 ⟨A3, c3, rfl, hown3, hb3⟩; have B3 := hid ((below_drewN (Below.refl w1.heap.size w1) 1).trans (hb3.mono (Nat.le_refl _))); have O3 := hid hown3; have x0 := work_c0 (S.out.below B3.out); have hz3 := work_lt (S.out.below B3.out); clear hown3 hb3)
      | (go_at_call 50; (first | refine (ATW.out _ B3.out).mono ?_ | refine (ATW.out _ (below_drewN (Below.refl _ _) 1)).mono ?_); rintro e w4 ⟨rfl, rfl⟩))
    all_goals
      go_wp2_with fail
      go_ret3
      unfold InEnd
      rw [Hi.out]
      have h1 := S.out.fr
      rw [HB.out, HW.out] at h1
      have hz1 := h1.size
      refine ⟨h1.trans (B3.out.mono hz1), A3, c3, ?_, own_base O3.out hz1⟩
      rw [← Hkk.out, ← Hq8.out]
      rfl
end Go.Proofs.Ytegmbjkpjglgpaa
