/-
  burnishref04.List: codes of given lengths.
-/
import Derived.Test.YtlekobompjehdaaMgR
namespace Go.Proofs.Ytlekobompjehdaa
open Go.RowKit Mg

theorem code_info : (Try.prog.info? 50).map (fun i => (i.zero, i.size, i.bytes)) = some (some (.agg #[.int .i64 0, .slice none 0 0]), 2, 32) := by kernel_rfl
theorem SOwn.cgrown {w w' : World} {base b n : Nat} {x : IR} {v : Value} {xs : List Value} (h : SOwn w base x) (ho : w.ownsRow b 50 2 v n xs) (hg : w.grownBy w' v.ownBlock) : SOwn w' base x := h.kept hg (own_two_ne h ho (by decide))
/-- own codes, with own bits -/
structure COwn (w W : World) (A : Option Addr) (n c : Nat) (X : List IR) : Prop where
  len : X.length = n
  row : w.ownsRow W.heap.size 50 2 (.slice A n c) n (fl X)
  sym : ∀ x ∈ X, SOwn w W.heap.size x
  old : Below W.heap.size W w
theorem COwn.below {w w' W : World} {A : Option Addr} {n c : Nat} {X : List IR} (h : COwn w W A n c X) (hb : Below w.heap.size w w') : COwn w' W A n c X :=
  ⟨h.len, own_below h.row hb (Nat.le_refl _), fun x hx => (h.sym x hx).below hb (Nat.le_refl _), h.old.trans (hb.mono h.old.size)⟩
theorem COwn.alloc {w W : World} {A : Option Addr} {n c : Nat} {X : List IR} (h : COwn w W A n c X) (o : Obj) : COwn (w.alloc o) W A n c X := h.below ((Below.refl _ _).alloc (Nat.le_refl _) o)
theorem COwn.app {w w3 W : World} {A A3 : Option Addr} {n c c3 : Nat} {X : List IR} {x : IR} (h : COwn w W A n c X) (hx : SOwn w W.heap.size x) (ha : Apped w W.heap.size 50 2 A n c (fl X) 1 (encR x) A3 c3 w3) : COwn w3 W A3 (n + 1) c3 (X ++ [x]) := by
  refine ⟨by rw [List.length_append, h.len]; rfl, ?_, fun y hy => ?_, h.old.trans ha.2.2.1⟩
  · have h7 := ha.1
    rw [fl_app]
    simpa [fl] using h7
  · rcases List.mem_append.1 hy with hy | hy
    · exact (h.sym y hy).cgrown h.row ha.2.1
    · rw [List.mem_singleton.1 hy]
      exact hx.cgrown h.row ha.2.1
def ListEnd (S Z : List Nat) (N : Nat) (W : World) (e : Ending) (w' : World) : Prop := ∃ A' c' X, e = .returned (.slice A' N c') ∧ X.map (·.it.w) = ints S ∧ X.map (·.it.s.length) = Z ∧ COwn w' W A' N c' X
theorem ints_at {w : World} {B : Nat} {A : Option Addr} {S : List Nat} (h : RdI w B A (ints S)) {j : Nat} (hj : j < S.length) : ∃ b off, A = some ⟨b, off, none⟩ ∧ b < B ∧ w.cell? ⟨b, off + j, none⟩ = some (.int .i64 (S[j] : Int)) := by
  obtain ⟨b, off, h1, h2, h3⟩ := int_at h (j := j) (by simp [ints]; exact hj)
  exact ⟨b, off, h1, h2, by rw [h3]; simp [ints]⟩
set_option maxRecDepth 100000 in
set_option maxHeartbeats 4000000 in
theorem list_any (A B : Option Addr) (c d N : Nat) (S Z : List Nat) (W : World) (hS : RdI W W.heap.size A (ints S)) (hZ : RdI W W.heap.size B (ints Z)) (hl : S.length = N) (hlz : Z.length = N) (hp : Z.Pairwise (· ≤ ·)) (hz : ∀ x ∈ Z, x ≤ 16) (hm : N ≤ 1000) :
    Calls Try.prog 50 #[.slice A N c, .slice B N d] W (ListEnd S Z N W) := by
  obtain ⟨i0, hi0, hz0, hz1, hz2⟩ := info_parts code_info
  have Hi0 := hid hi0
  have Hz0 := hid hz0
  have Hz1 := hid hz1
  have Hz2 := hid hz2
  obtain ⟨i1, hi1, hy0, hy1, hy2⟩ := info_parts int_info
  have Hi1 := hid hi1
  have Hy0 := hid hy0
  have Hy1 := hid hy1
  have Hy2 := hid hy2
  have HS := hid hS
  have HZ := hid hZ
  have Hl := hid hl
  have Hlz := hid hlz
  have Hp := hid hp
  have Hz := hid hz
  clear hi0 hz0 hz1 hz2 hi1 hy0 hy1 hy2 hS hZ hl hlz hp hz
  go_enter Try.func50, Try.ntmps50
  go_upto_region 3 with (fail)
  go_loopw [5, 6] (fun ov iv wr => ∃ (j : Nat) (A' : Option Addr) (c' : Nat) (X : List IR), j ≤ N ∧ iv = .int .i64 (j : Int) ∧ ov = .slice A' j c' ∧ Hid (X.map (·.it.w) = ints (S.take j)) ∧ Hid (X.map (·.it.s.length) = Z.take j) ∧ Hid (COwn wr W A' j c' X)) (fun _ i _ => N - (intOf i).toNat)
  case atStart => exact ⟨0, none, 0, [], by omega, rfl, rfl, hid rfl, hid rfl, hid ⟨rfl, ⟨rfl, .inl ⟨rfl, rfl⟩⟩, fun x hx => (by cases hx), Below.refl _ _⟩⟩
  case round =>
    obtain ⟨j, A', c', X, hj, rfl, rfl, HX, HY, O⟩ := hrel
    by_cases hlt : j < N
    · have d1 : decide (j < N) = true := decide_eq_true hlt
      obtain ⟨z, hze⟩ : ∃ z, z = Z[j]'(by rw [Hlz.out]; exact hlt) := ⟨_, rfl⟩
      obtain ⟨sm, hse⟩ : ∃ sm, sm = S[j]'(by rw [Hl.out]; exact hlt) := ⟨_, rfl⟩
      have hz16 : z ≤ 16 := by rw [hze]; exact Hz.out _ (List.getElem_mem _)
      have Hsw := hid O.out.old.size
      obtain ⟨bz, oz, rfl, hbz, z0⟩ := ints_at HZ.out (j := j) (by rw [Hlz.out]; exact hlt)
      obtain ⟨bs, os, rfl, hbs, s0⟩ := ints_at HS.out (j := j) (by rw [Hl.out]; exact hlt)
      rw [← hze] at z0
      rw [← hse] at s0
      have Hze := hid hze
      have Hse := hid hse
      clear hze hse
      generalize wr = wk at *
      go_upto_if 15 with (fail)
      go_cut [7] from 14 to 22 (fun bv wq => ∃ (A2 : Option Addr) (c2 ln : Nat) (s' : List Nat), bv = .slice A2 ln c2 ∧ Hid (s'.length = ln) ∧ ln ≤ z ∧ Hid (wq.ownsRow wk.heap.size 3 1 (.slice A2 ln c2) ln (intsV (ints s'))) ∧ Hid (Below wk.heap.size wk wq))
      case first =>
        by_cases h0 : 0 < j
        · have d2 : decide (0 < j) = true := decide_eq_true h0
          obtain ⟨j1, hj1⟩ : ∃ j1, j1 = j - 1 := ⟨_, rfl⟩
          have t1 : IntKind.i64.wrap ((j : Int) - 1) = (j1 : Int) := (IntWalk.i64_in _ (by omega)).trans (by omega)
          have hjX : j1 < X.length := by rw [O.out.len]; omega
          obtain ⟨b, off, hA, hb, hcl⟩ := (own_rd O.out.row).at_ (k := j1) (by omega) (by omega)
          have c1 : wk.cell? ⟨b, off + j1 * 2 + 1, none⟩ = some (.slice X[j1].A X[j1].it.s.length X[j1].c) := hcl (j1 * 2 + 1) _ ((flat_at encR 2 X (fun _ _ => rfl) j1 1 X[j1] (List.getElem?_eq_getElem hjX) (by omega)).trans rfl)
          have hln : X[j1].it.s.length ≤ z := by
            have h1 := congrArg (fun l => l[j1]?) HY.out
            simp only [List.getElem?_map, List.getElem?_eq_getElem hjX, Option.map_some, List.getElem?_take, if_pos (show j1 < j by omega), List.getElem?_eq_getElem (show j1 < Z.length by rw [Hlz.out]; omega), Option.some.injEq] at h1
            rw [h1, Hze.out]
            exact List.pairwise_iff_getElem.1 Hp.out j1 j (by rw [Hlz.out]; omega) (by rw [Hlz.out]; exact hlt) (by omega)
          have S1 := hid (own_syms (O.out.sym X[j1] (List.getElem_mem hjX)))
          generalize X[j1] = x at *
          obtain ⟨ln, hle⟩ : ∃ ln, ln = x.it.s.length := ⟨_, rfl⟩
          rw [← hle] at c1 hln
          have Hle := hid hle.symm
          subst hA
          have hj1n : j1 < j := by omega
          clear hle hcl hjX hj1
          go_wp2_with fail
          refine (plus_any x.A x.c ln x.it.s _ S1.out Hle.out (by omega)).mono ?_
          rintro e w2 ⟨A2, c2, s', rfl, hs2, ho2, hb2⟩
          have T2 := hid hs2
          have P2 := hid ho2
          have B2 := hid hb2
          clear hs2 ho2 hb2
          go_wp2
          go_meet
          exact ⟨A2, c2, ln, s', rfl, T2, hln, P2, B2⟩
        · have d2 : decide (0 < j) = false := decide_eq_false h0
          go_wp2
          go_meet
          exact ⟨none, 0, 0, [], rfl, hid rfl, by omega, hid ⟨rfl, .inl ⟨rfl, rfl⟩⟩, hid (Below.refl _ _)⟩
      case rest =>
        obtain ⟨A2, c2, ln, s', rfl, T2, hln, P2, B2⟩ := hcut
        clear z0 s0
        go_upto_region 8 with (fail)
        go_loopw [7] (fun bv wr => ∃ (A2 : Option Addr) (c2 ln : Nat) (s' : List Nat), bv = .slice A2 ln c2 ∧ Hid (s'.length = ln) ∧ ln ≤ z ∧ Hid (wr.ownsRow wk.heap.size 3 1 (.slice A2 ln c2) ln (intsV (ints s'))) ∧ Hid (Below wk.heap.size wk wr)) (fun bv _ => z - (match bv with | .slice _ n _ => n | _ => 0))
        case atStart => exact ⟨A2, c2, ln, s', rfl, T2, hln, P2, B2⟩
        case round =>
          obtain ⟨A3, c3, ln, s2, rfl, T3, hln3, P3, B3⟩ := hrel
          have HZ3 := hid (HZ.out.below (O.out.old.trans (B3.out.mono Hsw.out)) (Nat.le_refl _))
          have HS3 := hid (HS.out.below (O.out.old.trans (B3.out.mono Hsw.out)) (Nat.le_refl _))
          have hsz := B3.out.size
          have hsw := Hsw.out
          obtain ⟨bz', oz', hA, _, z0⟩ := ints_at HZ3.out (j := j) (by rw [Hlz.out]; exact hlt)
          injection hA with hA
          injection hA with e1 e2 _
          subst e1 e2
          obtain ⟨bs', os', hA, _, s0⟩ := ints_at HS3.out (j := j) (by rw [Hl.out]; exact hlt)
          injection hA with hA
          injection hA with e1 e2 _
          subst e1 e2
          rw [← Hze.out] at z0
          rw [← Hse.out] at s0
          have hbzw : bz < wr.heap.size := by omega
          have hbsw : bs < wr.heap.size := by omega
          clear hsz hsw
          by_cases hc : ln < z
          · have d2 : decide (ln < z) = true := decide_eq_true hc
            have d3 : decide ((ln : Int) < (z : Int)) = true := decide_eq_true (by omega)
            have PA := hid (own_below P3.out ((Below.refl _ _).alloc (Nat.le_refl _) (.cells #[.int .i64 0] 3)) (Nat.le_refl _))
            have BA := hid (B3.out.alloc B3.out.size (.cells #[.int .i64 0] 3))
            go_wp2_with (at_builtin; refine wpList_app _ rfl _ _ _ rfl wk.heap.size 3 i1 (.int .i64 0) 1 8 Try.underlying22 Hi1.out Hy0.out Hy1.out Hy2.out rfl (by omega) A3 ln c3 _ rfl PA.out _ _ 1 1 [.int .i64 0] rfl (rd_one _ _ _ _ (Blk.new _ _ _)) (by simp) (by simp [Value.oneCell']) (by simp only [maxLen]; omega) (by omega) (by have := B3.out.size; simp; omega) ?_; intro A4 c4 w4 ha4; have P4 := hid ha4.1; have B4 := hid (BA.out.trans ha4.2.2.1); clear ha4)
            go_roundw
            case rel => exact ⟨A4, c4, ln + 1, s2 ++ [0], rfl, hid (by rw [List.length_append, T3.out]; rfl), by omega, hid (by
              have h := P4.out
              have e : intsV (ints (s2 ++ [0])) = intsV (ints s2) ++ [.int .i64 0] := by simp [intsV, ints]
              rw [e]
              exact h), B4⟩
            case measure => simp; omega
          · have d2 : decide (ln < z) = false := decide_eq_false hc
            have d3 : decide ((ln : Int) < (z : Int)) = false := decide_eq_false (by omega)
            have hlz : ln = z := by omega
            have O3 := hid (O.out.below B3.out)
            have S3 : Hid (SOwn wr W.heap.size ⟨⟨(sm : Int), s2⟩, A3, c3⟩) := hid (by
              have h := own_base P3.out (b := W.heap.size) Hsw.out
              unfold SOwn
              rw [show (⟨⟨(sm : Int), s2⟩, A3, c3⟩ : IR).it.s.length = ln from T3.out]
              exact h)
            have Hlz2 := hid hlz
            have O4 := hid (O3.out.alloc (.cells #[.int .i64 (sm : Int), .slice A3 ln c3] 50))
            have S4 := hid (S3.out.below ((Below.refl _ _).alloc (Nat.le_refl _) (.cells #[.int .i64 (sm : Int), .slice A3 ln c3] 50)) (Nat.le_refl _))
            clear hc hlz d1
            have d1 : decide (j < N) = true := decide_eq_true hlt
            go_wp2_with (at_builtin; refine wpList_app _ rfl _ _ _ rfl W.heap.size 50 i0 (.agg #[.int .i64 0, .slice none 0 0]) 2 32 Try.underlying46 Hi0.out Hz0.out Hz1.out Hz2.out rfl (by omega) A' j c' _ rfl O4.out.row _ _ 1 1 [.int .i64 (sm : Int), .slice A3 ln c3] rfl (rd_one _ _ _ _ (Blk.new _ _ _)) (by simp) (by simp [Value.oneCell']) (by simp only [maxLen]; omega) (by omega) (by have := O3.out.old.size; simp; omega) ?_; intro A5 c5 w5 ha5; have Ha5 := hid ha5; clear ha5)
            go_roundw
            case rel =>
              refine ⟨j + 1, A5, c5, X ++ [⟨⟨(sm : Int), s2⟩, A3, c3⟩], by omega, by go_num, rfl, hid ?_, hid ?_, hid ?_⟩
              · rw [List.map_append, HX.out, List.take_succ_eq_append_getElem (by rw [Hl.out]; exact hlt), ← Hse.out]
                simp [ints]
              · rw [List.map_append, HY.out, List.take_succ_eq_append_getElem (by rw [Hlz.out]; exact hlt), ← Hze.out, ← Hlz2.out]
                simp [T3.out]
              · have e : encR ⟨⟨(sm : Int), s2⟩, A3, c3⟩ = [.int .i64 (sm : Int), .slice A3 ln c3] := by
                  show [Value.int .i64 (sm : Int), .slice A3 s2.length c3] = _
                  rw [T3.out]
                exact O4.out.app S4.out (by rw [e]; exact Ha5.out)
            case measure => simp [intOf]; omega
    · have d1 : decide (j < N) = false := decide_eq_false hlt
      obtain rfl : j = N := by omega
      have RR := hid (show ListEnd S Z j W (.returned (.slice A' j c')) wr from ⟨A', c', X, rfl, by rw [HX.out, ← Hl.out, List.take_length], by rw [HY.out, ← Hlz.out, List.take_length], O.out⟩)
      go_wp2
      go_ret
      exact RR.out
end Go.Proofs.Ytlekobompjehdaa
