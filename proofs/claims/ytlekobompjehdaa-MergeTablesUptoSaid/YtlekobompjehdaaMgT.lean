/-
  burnishref04.Table of codes in form.
-/
import Derived.Test.YtlekobompjehdaaMgS
import Derived.Test.YtlekobompjehdaaMgQ
import Derived.Test.YtlekobompjehdaaPair
namespace Go.Proofs.Ytlekobompjehdaa
open Go.RowKit Mg

def codesC (f : Nat → Nat) (A : Option Addr) (m c : Nat) : Array Value := #[.int .i64 ((f 0 : Nat) : Int), .int .i64 ((f 1 : Nat) : Int), .int .i64 ((f 2 : Nat) : Int), .int .i64 ((f 3 : Nat) : Int), .int .i64 ((f 4 : Nat) : Int), .int .i64 ((f 5 : Nat) : Int), .int .i64 ((f 6 : Nat) : Int), .int .i64 ((f 7 : Nat) : Int), .int .i64 ((f 8 : Nat) : Int), .int .i64 ((f 9 : Nat) : Int), .int .i64 ((f 10 : Nat) : Int), .int .i64 ((f 11 : Nat) : Int), .int .i64 ((f 12 : Nat) : Int), .int .i64 ((f 13 : Nat) : Int), .int .i64 ((f 14 : Nat) : Int), .int .i64 ((f 15 : Nat) : Int), .slice A m c]
theorem codes_at {w : World} {g : Nat} {f : Nat → Nat} {A : Option Addr} {m c : Nat} {cs : Array Value} (h : Blk w g 43 cs) (hcs : cs = codesC f A m c) {k : Nat} (hk : k < 16) : w.cell? ⟨g, k, none⟩ = some (.int .i64 (f k : Int)) := by
  rw [h.cell, hcs]
  have : k = 0 ∨ k = 1 ∨ k = 2 ∨ k = 3 ∨ k = 4 ∨ k = 5 ∨ k = 6 ∨ k = 7 ∨ k = 8 ∨ k = 9 ∨ k = 10 ∨ k = 11 ∨ k = 12 ∨ k = 13 ∨ k = 14 ∨ k = 15 := by omega
  rcases this with rfl | rfl | rfl | rfl | rfl | rfl | rfl | rfl | rfl | rfl | rfl | rfl | rfl | rfl | rfl | rfl <;> rfl
theorem syTo_len (L : Nat → Nat) (N n : Nat) : (syTo L N (n + 1)).length = (syTo L N n).length + (grp L (n + 1) N).length := by
  show (syTo L N n ++ grp L (n + 1) N).length = _
  rw [List.length_append]
theorem syTo_pre (L : Nat → Nat) (N n : Nat) : ∀ k, (syTo L N n) <+: (syTo L N (n + k))
  | 0 => List.prefix_refl _
  | k + 1 => (syTo_pre L N n k).trans (List.prefix_append _ _)
theorem syTo_mono (L : Nat → Nat) (N : Nat) {n m : Nat} (h : n ≤ m) : (syTo L N n).length ≤ (syTo L N m).length := by
  obtain ⟨k, rfl⟩ : ∃ k, m = n + k := ⟨m - n, by omega⟩
  exact (syTo_pre L N n k).length_le
theorem szTo_pre (L : Nat → Nat) (N n : Nat) : ∀ k, (szTo L N n) <+: (szTo L N (n + k))
  | 0 => List.prefix_refl _
  | k + 1 => (szTo_pre L N n k).trans (List.prefix_append _ _)
/-- the length at a place -/
theorem szTo_at (L : Nat → Nat) (N : Nat) {n k m : Nat} (hn : n < m) (hk : k < (grp L (n + 1) N).length) (hq : (syTo L N n).length + k < (szTo L N m).length) : (szTo L N m)[(syTo L N n).length + k] = n + 1 := by
  obtain ⟨j, hj⟩ : ∃ j, m = n + 1 + j := ⟨m - (n + 1), by omega⟩
  have hp := szTo_pre L N (n + 1) j
  rw [← hj] at hp
  obtain ⟨t, ht⟩ := hp
  have hlen : (szTo L N n).length = (syTo L N n).length := szTo_len L N n
  have e : (szTo L N m)[(syTo L N n).length + k]? = some (n + 1) := by
    rw [← ht]
    show ((szTo L N n ++ List.replicate (grp L (n + 1) N).length (n + 1)) ++ t)[(syTo L N n).length + k]? = _
    rw [List.getElem?_append_left (by rw [List.length_append, List.length_replicate]; omega), List.getElem?_append_right (by omega), hlen, List.getElem?_replicate, if_pos (by omega)]
  rw [List.getElem?_eq_getElem hq] at e
  exact Option.some.inj e
/-- codes in form: the symbols, their lengths, how many of each length -/
structure CodeIn (Sy Zs : List Nat) (f Q : Nat → Nat) (M : Nat) : Prop where
  q0 : Q 0 = 0
  qs : ∀ n, n < 16 → Q (n + 1) = Q n + f n
  qe : Q 16 = M
  qle : ∀ n, n ≤ 16 → Q n ≤ M
  ls : Sy.length = M
  lz : Zs.length = M
  at_ : ∀ n k, n < 16 → k < f n → ∀ h : Q n + k < Zs.length, Zs[Q n + k] = n + 1
  small : ∀ s ∈ Sy, s < 256
  nodup : Sy.Nodup
  sorted : Zs.Pairwise (· ≤ ·)
  lens : ∀ z ∈ Zs, 1 ≤ z ∧ z ≤ 16
  le : M ≤ 256
  fle : ∀ n, n < 16 → f n ≤ 256
theorem two_nil (W w : World) (h : Below W.heap.size W w) : Two W w 3 1 none 0 0 [] none 0 0 [] :=
  ⟨⟨rfl, .inl ⟨rfl, rfl⟩⟩, ⟨rfl, .inl ⟨rfl, rfl⟩⟩, fun g hg => by simp [Value.ownBlock] at hg, h⟩
set_option maxRecDepth 100000 in
set_option maxHeartbeats 4000000 in
theorem reftable_any (A : Option Addr) (M c : Nat) (Sy Zs : List Nat) (f Q : Nat → Nat) (W : World) (hI : CodeIn Sy Zs f Q M) (hb : Rd W W.heap.size 1 A M (bytesV (ints Sy)))
    (cs : Array Value) (hcs : cs = codesC f A M c) (hfree : SN M (tk (ints Zs)) ≤ 65536) (hfree2 : 0 < M → SN M (tk (ints Zs)) < 65536) :
    Calls Try.prog 26 #[.agg cs] W fun e w' => ∃ A' c' X, e = .returned (.tuple #[.slice A' M c', .bool true]) ∧ X.map (·.it.w) = ints Sy ∧ X.map (·.it.s.length) = Zs ∧ COwn w' W A' M c' X := by
  obtain ⟨i0, hi0, hz0, hz1, hz2⟩ := info_parts int_info
  have Hi0 := hid hi0
  have Hz0 := hid hz0
  have Hz1 := hid hz1
  have Hz2 := hid hz2
  have I := hid hI
  have hM2 := hI.le
  have Hb := hid hb
  have Hfr := hid hfree
  have Hfr2 := hid hfree2
  have Hcs := hid hcs
  have C0 := hid (Blk.new W 43 cs)
  have B0 := hid (show Below W.heap.size W (W.alloc (.cells cs 43)) from (Below.refl _ _).alloc (Nat.le_refl _) _)
  obtain ⟨g, hg⟩ : ∃ g, g = W.heap.size := ⟨_, rfl⟩
  have Hg := hid hg
  clear hi0 hz0 hz1 hz2 hI hb hfree hfree2 hcs
  go_enter Try.func26, Try.ntmps26
  go_upto_region 4 with (fail)
  rw [← hg] at C0 B0 ⊢
  generalize W.alloc (.cells cs 43) = w1 at *
  clear hg
  go_loopw [4, 5, 6] (fun sv zv iv wr => ∃ (n q : Nat) (A1 : Option Addr) (c1 : Nat) (A2 : Option Addr) (c2 : Nat), n ≤ 16 ∧ iv = .int .i64 (n : Int) ∧ sv = .slice A1 q c1 ∧ zv = .slice A2 q c2 ∧ q ≤ 256 ∧ Hid (q = Q n) ∧ Hid (Two W wr 3 1 A1 q c1 (intsV (ints (Sy.take q))) A2 q c2 (intsV (ints (Zs.take q)))) ∧ Hid (Blk wr g 43 cs)) (fun _ _ i _ => 16 - (intOf i).toNat)
  case atStart => exact ⟨0, 0, none, 0, none, 0, by omega, rfl, rfl, rfl, by omega, hid I.out.q0.symm, hid (two_nil W w1 (by rw [← Hg.out]; exact B0.out)), C0⟩
  case round =>
    obtain ⟨n, q, A1, c1, A2, c2, hn, rfl, rfl, rfl, hq, HQ, T, C⟩ := hrel
    by_cases hlt : n < 16
    · have d1 : decide (n < 16) = true := decide_eq_true hlt
      have d1i : decide ((n : Int) < 16) = true := decide_eq_true (by omega)
      have x0 := codes_at C.out Hcs.out hlt
      have hfb := I.out.fle n hlt
      have hgw := C.out.lt
      go_upto_region 9 with (fail)
      clear x0 hgw
      go_loopw [4, 5, 7] (fun sv zv kv wr => ∃ (k q : Nat) (A1 : Option Addr) (c1 : Nat) (A2 : Option Addr) (c2 : Nat), k ≤ f n ∧ kv = .int .i64 (k : Int) ∧ sv = .slice A1 q c1 ∧ zv = .slice A2 q c2 ∧ q ≤ 256 ∧ Hid (q = Q n + k) ∧ Hid (Two W wr 3 1 A1 q c1 (intsV (ints (Sy.take q))) A2 q c2 (intsV (ints (Zs.take q)))) ∧ Hid (Blk wr g 43 cs)) (fun _ _ k _ => f n - (intOf k).toNat)
      case atStart => exact ⟨0, q, A1, c1, A2, c2, by omega, rfl, rfl, rfl, hq, HQ, T, C⟩
      case round =>
        obtain ⟨k, q, A1, c1, A2, c2, hk, rfl, rfl, rfl, hq, HQ, T, C⟩ := hrel
        have x0 := codes_at C.out Hcs.out hlt
        have hgw := C.out.lt
        have x16 : wr.cell? ⟨g, 16, none⟩ = some (.slice A M c) := by rw [C.out.cell, Hcs.out]; rfl
        have hs := T.out.2.2.2.size
        by_cases hlt2 : k < f n
        · have d2 : decide (k < f n) = true := decide_eq_true hlt2
          have hl1 := I.out.qs n hlt
          have hl2 := I.out.qle (n + 1) (by omega)
          have hq2 := HQ.out
          have hqM : q < M := by omega
          have hqS : q < Sy.length := by rw [I.out.ls]; exact hqM
          have hqZ : q < Zs.length := by rw [I.out.lz]; exact hqM
          have d3 : decide (M ≤ q) = false := decide_eq_false (by omega)
          have hz : Zs[q] = n + 1 := by
            have h := I.out.at_ n k hlt hlt2 (by rw [← hq2]; exact hqZ)
            simp only [← hq2] at h
            exact h
          have hrb := Hb.out.below T.out.2.2.2 (Nat.le_refl _)
          obtain ⟨b, off, rfl, hbb, hcl⟩ := hrb.at_ (k := q) hqM (by omega)
          obtain ⟨sy0, hsy⟩ : ∃ sy0, sy0 = Sy[q] := ⟨_, rfl⟩
          have y0 : wr.cell? ⟨b, off + q, none⟩ = some (.int .u8 (sy0 : Int)) := hcl q _ (by rw [hsy]; simp [bytesV, ints, hqS])
          have hsb : sy0 < 256 := by rw [hsy]; exact I.out.small _ (List.getElem_mem hqS)
          have tw : IntKind.i64.wrap (sy0 : Int) = (sy0 : Int) := IntWalk.i64_in _ (by omega)
          have tn : IntKind.i64.wrap ((n : Int) + 1) = ((n + 1 : Nat) : Int) := (IntWalk.i64_in _ (by omega)).trans (by omega)
          have hbw : b < wr.heap.size := by omega
          have e1 := hid (show intsV (ints (Sy.take (q + 1))) = intsV (ints (Sy.take q)) ++ [.int .i64 (sy0 : Int)] from by
            rw [List.take_succ_eq_append_getElem hqS, ← hsy]
            simp [intsV, ints])
          have e2 := hid (show intsV (ints (Zs.take (q + 1))) = intsV (ints (Zs.take q)) ++ [.int .i64 ((n + 1 : Nat) : Int)] from by
            rw [List.take_succ_eq_append_getElem hqZ, hz]
            simp [intsV, ints])
          have Hs := hid hs
          generalize hn1 : n + 1 = n1 at *
          clear hl1 hl2 hq2 hz hqS hqZ hrb hcl hsy hsb hs
          have TA := hid (T.out.alloc (.cells #[.int .i64 (sy0 : Int)] 3))
          have CA := hid (C.out.alloc (.cells #[.int .i64 (sy0 : Int)] 3))
          have NA := hid (own_blk_ne TA.out.1 CA.out (by decide))
          go_wp2_with (first
            | (at_builtin; refine wpList_app _ rfl _ _ _ rfl W.heap.size 3 i0 (.int .i64 0) 1 8 Try.underlying22 Hi0.out Hz0.out Hz1.out Hz2.out rfl (by omega) A1 q c1 _ rfl TA.out.1 _ _ 1 1 [.int .i64 (sy0 : Int)] rfl (rd_one _ _ _ _ (Blk.new _ _ _)) (by simp) (by simp [Value.oneCell']) (by simp only [maxLen]; omega) (by omega) (by have := Hs.out; simp; omega) ?_; intro A3 c3 w3 ha3; have T2 := hid (Two.app TA.out ha3).1; have C2 := hid (CA.out.grown ha3.2.1 NA.out); have TB := hid (T2.out.alloc (.cells #[.int .i64 (n1 : Int)] 3)).swap; have CB := hid (C2.out.alloc (.cells #[.int .i64 (n1 : Int)] 3)); have NB := hid (own_blk_ne TB.out.1 CB.out (by decide)); have Hs2 := hid (T2.out.2.2.2.size); clear ha3)
            | (at_builtin; refine wpList_app _ rfl _ _ _ rfl W.heap.size 3 i0 (.int .i64 0) 1 8 Try.underlying22 Hi0.out Hz0.out Hz1.out Hz2.out rfl (by omega) A2 q c2 _ rfl TB.out.1 _ _ 1 1 [.int .i64 (n1 : Int)] rfl (rd_one _ _ _ _ (Blk.new _ _ _)) (by simp) (by simp [Value.oneCell']) (by simp only [maxLen]; omega) (by omega) (by have := Hs2.out; simp; omega) ?_; intro A4 c4 w4 ha4; have T3 := hid (Two.app TB.out ha4).1.swap; have C3 := hid (CB.out.grown ha4.2.1 NB.out); clear ha4))
          go_roundw
          case rel => exact ⟨k + 1, q + 1, A3, c3, A4, c4, by omega, by go_num, rfl, rfl, by omega, hid (by rw [HQ.out]; rfl), hid (by rw [e1.out, e2.out]; exact T3.out), C3⟩
          case measure => simp [intOf]; omega
        · have d2 : decide (k < f n) = false := decide_eq_false hlt2
          have hq1 := hid (show q = Q (n + 1) by rw [I.out.qs n hlt, HQ.out]; omega)
          go_wp2
          go_roundw
          case rel => exact ⟨n + 1, q, A1, c1, A2, c2, by omega, by go_num, rfl, rfl, hq, hq1, T, C⟩
          case measure => simp [intOf]; omega
    · have d1 : decide (n < 16) = false := decide_eq_false hlt
      have d1i : decide ((n : Int) < 16) = false := decide_eq_false (by omega)
      obtain rfl : q = M := by rw [HQ.out, show n = 16 by omega, I.out.qe]
      have x16 : wr.cell? ⟨g, 16, none⟩ = some (.slice A q c) := by rw [C.out.cell, Hcs.out]; rfl
      have hgw := C.out.lt
      have ht := T.out
      rw [show Sy.take q = Sy by rw [← I.out.ls]; exact List.take_length, show Zs.take q = Zs by rw [← I.out.lz]; exact List.take_length] at ht
      have T' := hid ht
      have hne : ((q : Int) != (q : Int)) = false := by simp
      clear ht T
      go_upto_region 18 with (fail)
      clear x16 hgw
      generalize wr = wk at *
      go_loopw [8] (fun iv wr => ∃ i : Nat, i ≤ q ∧ iv = .int .i64 (i : Int) ∧ Hid (Below wk.heap.size wk wr)) (fun iv _ => q - (intOf iv).toNat)
      case atStart => exact ⟨0, by omega, rfl, hid (Below.refl _ _)⟩
      case round =>
        obtain ⟨i, hi, rfl, D⟩ := hrel
        by_cases hlt2 : i < q
        · have d2 : decide (i < q) = true := decide_eq_true hlt2
          go_upto_region 21 with (fail)
          go_loopw [9] (fun kv wr => ∃ k : Nat, k ≤ i ∧ kv = .int .i64 (k : Int) ∧ Hid (Below wk.heap.size wk wr)) (fun kv _ => i - (intOf kv).toNat)
          case atStart => exact ⟨0, by omega, rfl, D⟩
          case round =>
            obtain ⟨k, hk, rfl, D2⟩ := hrel
            by_cases hlt3 : k < i
            · have d3 : decide (k < i) = true := decide_eq_true hlt3
              have hr := own_rdi' (own_below T'.out.1 D2.out (Nat.le_refl _)) (by simp [ints, I.out.ls])
              obtain ⟨b, off, hA, hbb, x0⟩ := ints_at hr (j := k) (by rw [I.out.ls]; omega)
              obtain ⟨b', off', hA', _, y0⟩ := ints_at hr (j := i) (by rw [I.out.ls]; omega)
              rw [hA] at hA'
              injection hA' with hA'
              injection hA' with e1 e2 _
              subst e1 e2
              have hne2 : ((Sy[k]'(by rw [I.out.ls]; omega) : Nat) : Int) ≠ ((Sy[i]'(by rw [I.out.ls]; omega) : Nat) : Int) := by
                intro h
                have h2 := (List.getElem_inj I.out.nodup).1 (show Sy[k]'(by rw [I.out.ls]; omega) = Sy[i]'(by rw [I.out.ls]; omega) by omega)
                omega
              generalize Sy[k]'(by rw [I.out.ls]; omega) = u at *
              generalize Sy[i]'(by rw [I.out.ls]; omega) = v at *
              have d4 : ((u : Int) == (v : Int)) = false := beq_eq_false_iff_ne.2 hne2
              have hkq : k < q := by omega
              subst hA
              clear hr hne2
              go_wp2
              go_quiet (fail)
              go_wp2
              go_roundw
              case rel => exact ⟨k + 1, by omega, by go_num, hid (below_drewN D2.out _)⟩
              case measure => simp [intOf]; omega
            · have d3 : decide (k < i) = false := decide_eq_false hlt3
              go_wp2
              go_roundw
              case rel => exact ⟨i + 1, by omega, by go_num, D2⟩
              case measure => simp [intOf]; omega
        · have d2 : decide (i < q) = false := decide_eq_false hlt2
          have Sr := hid (own_rdi' (own_below T'.out.1 D.out (Nat.le_refl _)) (by simp [ints, I.out.ls]))
          have Zr := hid (own_rdi' (own_below T'.out.2.1 D.out (Nat.le_refl _)) (by simp [ints, I.out.lz]))
          have BB := hid (T'.out.2.2.2.trans (D.out.mono T'.out.2.2.2.size))
          have hfa := free_any A2 c2 (ints Zs) wr _ Zr.out (by simp [ints, I.out.lz]; omega) (fun s hs => by
            have hs' : s < Zs.length := by simpa [ints] using hs
            have := I.out.lens _ (List.getElem_mem hs')
            rw [List.getD_eq_getElem?_getD, List.getElem?_eq_getElem hs]
            simp [ints]
            omega)
          rw [show (ints Zs).length = q by simp [ints, I.out.lz]] at hfa
          obtain ⟨tot, htot⟩ : ∃ tot, tot = SN q (tk (ints Zs)) := ⟨_, rfl⟩
          rw [← htot] at hfa
          have hf1 := Hfr.out
          have hf2 := Hfr2.out
          rw [← htot] at hf1 hf2
          have d5 : decide ((tot : Int) ≤ 65536) = true := decide_eq_true (by omega)
          rw [d5] at hfa
          have Fa := hid hfa
          clear hfa htot
          go_wp2_with fail
          refine (Fa.out).mono ?_
          rintro e w5 ⟨rfl, rfl⟩
          have hla := list_any A1 A2 c1 c2 q Sy Zs wr Sr.out Zr.out I.out.ls I.out.lz I.out.sorted (fun x hx => (I.out.lens x hx).2) (by omega)
          have La := hid hla
          clear hla
          go_wp2_with fail
          refine (La.out).mono ?_
          rintro e w6 ⟨A6, c6, X, rfl, hx1, hx2, hx3⟩
          have RR := hid (show COwn w6 W A6 q c6 X from ⟨hx3.len, own_base hx3.row BB.out.size, fun x hx => by have h := hx3.sym x hx; unfold SOwn at h ⊢; exact own_base h BB.out.size, BB.out.trans (hx3.old.mono BB.out.size)⟩)
          have X1 := hid hx1
          have X2 := hid hx2
          clear hx1 hx2 hx3
          by_cases hq0 : 0 < q
          · have d6 : decide (0 < q) = true := decide_eq_true hq0
            have d7 : ((65536 - (tot : Int)) == 0) = false := beq_eq_false_iff_ne.2 (by have := hf2 hq0; omega)
            clear hf1 hf2
            go_wp2
            go_ret2
            exact ⟨A6, c6, X, rfl, X1.out, X2.out, RR.out⟩
          · have d6 : decide (0 < q) = false := decide_eq_false hq0
            clear hf1 hf2
            go_wp2
            go_ret2
            exact ⟨A6, c6, X, rfl, X1.out, X2.out, RR.out⟩
end Go.Proofs.Ytlekobompjehdaa
