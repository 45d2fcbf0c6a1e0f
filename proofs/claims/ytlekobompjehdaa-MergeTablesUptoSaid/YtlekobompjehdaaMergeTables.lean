/-
  MergeTables: for every counts of a bulk up to 2^20 the law returns true: the best JPEG's codes are in form, with a code just for each symbol that stands, and none of lengths up to 16 cost less; counts out of form are refused.
-/
import Derived.Test.YtlekobompjehdaaMgWa
import Derived.Test.YtlekobompjehdaaMgWb
import Derived.Test.YtlekobompjehdaaCost5
import Derived.Test.YtlekobompjehdaaKeptI
import Derived.Test.YtlekobompjehdaaUpLaw
import Derived.Deep.WholeRow
namespace Go.Proofs.Ytlekobompjehdaa.MergeTables
open Go.ChangeShapes Go.WideShapes Go.ChangeAt Go.RowKit Go.Proofs.Ytlekobompjehdaa Mg

theorem mtable_any (A : Option Addr) (c N : Nat) (l : List Int) (W : World) (h : RdI W W.heap.size A l) (hN : l.length = N) (hl : N ≤ 256) (hg : goodc l 256 = true) :
    Calls Try.prog 25 #[.slice A N c] W fun e w' => ∃ A' c' M, e = .returned (.tuple #[.agg (codesC (fun k => (grp (codeL l) (k + 1) N).length) A' M c'), .nilIface]) ∧ M = (syTo (codeL l) N 16).length ∧ Rd w' w'.heap.size 1 A' M (bytesV (ints (syTo (codeL l) N 16))) ∧ Below W.heap.size W w' := by
  by_cases h0 : (itemsOf l).length = 0
  · exact mtable_single A c N l W h hN hl hg h0
  · exact mtable_many A c N l W h hN hl hg h0
theorem codes_one (f : Nat → Nat) (A : Option Addr) (m c : Nat) : (codesC f A m c).all (·.oneCell') = true := by simp [codesC, Value.oneCell']
/-- the codes, stored in a new box -/
theorem codes_store (W : World) (z : Array Value) (hz : z.size = 17) (f : Nat → Nat) (A : Option Addr) (m c : Nat) :
    (storeCells ⟨W.heap.size, 0, none⟩ (codesC f A m c).toList 0).run Try.prog (W.alloc (.cells z 43)) = .ok () (W.alloc (.cells (codesC f A m c) 43)) :=
  run_storeCells_new W 43 z (codesC f A m c) codes_size (by rw [hz]; rfl) (codes_one f A m c)
set_option maxRecDepth 100000 in
set_option maxHeartbeats 2000000 in
theorem law_idle (A : Option Addr) (c : Nat) (l : List Int) (W : World) (h : RdI W W.heap.size A l) (hm : l.length ≤ 256) (hu : 40 < (itemsOf l).length) :
    Calls Try.prog 7 #[.slice A l.length c] W fun e w' => e = .returned (.bool true) ∧ Below W.heap.size W w' := by
  have H := hid h
  obtain ⟨n, hne⟩ : ∃ n, n = (itemsOf l).length := ⟨_, rfl⟩
  rw [← hne] at hu
  have Hn := hid hne
  clear h hne
  go_enter Try.func7, Try.ntmps7
  go_wp2_with fail
  refine (alive_any _).mono ?_
  rintro e w1 ⟨rfl, hb1⟩
  have H1 := hid ((H.out.below hb1 (Nat.le_refl _)).more hb1.size)
  have B1 := hid hb1
  clear hb1
  go_wp2_with fail
  refine (used_any A c l _ w1.heap.size H1.out (by omega)).mono ?_
  rintro e w2 ⟨rfl, rfl⟩
  rw [← Hn.out]
  have d1 : decide (40 < n) = true := decide_eq_true hu
  have d2 : decide ((40 : Int) < (n : Int)) = true := decide_eq_true (by omega)
  have d3 : decide (l.length ≤ 256) = true := decide_eq_true hm
  have d4 : decide ((l.length : Int) ≤ 256) = true := decide_eq_true (by omega)
  clear hu hm
  go_wp2
  go_ret
  exact ⟨rfl, B1.out⟩
set_option maxRecDepth 100000 in
set_option maxHeartbeats 2000000 in
theorem law_form (A : Option Addr) (c : Nat) (l : List Int) (W : World) (h : RdI W W.heap.size A l) (hm : l.length ≤ 1048576) (hg : goodc l 256 = false) (hu : (itemsOf l).length ≤ 40 ∨ 256 < l.length) :
    Calls Try.prog 7 #[.slice A l.length c] W fun e w' => e = .returned (.bool true) ∧ Below W.heap.size W w' := by
  have H := hid h
  have Hg := hid hg
  obtain ⟨n, hne⟩ : ∃ n, n = (itemsOf l).length := ⟨_, rfl⟩
  rw [← hne] at hu
  have Hn := hid hne
  have Hu := hid hu
  have hnil : A = none → l.length = 0 := fun hA => by
    rcases Nat.eq_zero_or_pos l.length with h0 | h0
    · exact h0
    · obtain ⟨b, off, e, _⟩ := int_at h h0
      rw [hA] at e
      cases e
  have Hnil := hid hnil
  clear h hne hg hu hnil
  go_enter Try.func7, Try.ntmps7
  go_wp2_with fail
  refine (alive_any _).mono ?_
  rintro e w1 ⟨rfl, hb1⟩
  have H1 := hid ((H.out.below hb1 (Nat.le_refl _)).more hb1.size)
  have B1 := hid hb1
  clear hb1 H
  go_upto_region 3 with (fail)
  go_cut [20] from 13 to 20 (fun v wq => v = .bool false ∧ w1 = wq)
  case first =>
    go_wp2_with fail
    refine (used_any A c l _ w1.heap.size H1.out (by omega)).mono ?_
    rintro e w2 ⟨rfl, rfl⟩
    rw [← Hn.out]
    have hu := Hu.out
    by_cases h1 : 40 < n
    · have d1 : decide (40 < n) = true := decide_eq_true h1
      have d2 : decide ((40 : Int) < (n : Int)) = true := decide_eq_true (by omega)
      have d3 : decide (l.length ≤ 256) = false := decide_eq_false (by omega)
      have d4 : decide ((l.length : Int) ≤ 256) = false := decide_eq_false (by omega)
      clear hu h1
      go_wp2
      go_meet
      exact ⟨rfl, rfl⟩
    · have d1 : decide (40 < n) = false := decide_eq_false h1
      have d2 : decide ((40 : Int) < (n : Int)) = false := decide_eq_false (by omega)
      clear hu h1
      go_wp2
      go_meet
      exact ⟨rfl, rfl⟩
  case rest =>
  obtain ⟨rfl, rfl⟩ := hcut
  go_wp2_with fail
  refine (copyInts_any A c l _ H1.out Hnil.out (by omega)).mono ?_
  rintro e w2 ⟨rfl, hC, hb2⟩
  obtain ⟨gc, hgc⟩ : ∃ gc, gc = w1.heap.size := ⟨_, rfl⟩
  rw [← hgc] at hC ⊢
  have C2 := hid hC
  have R2 := hid ((copied_rdi hC).more (B' := w2.heap.size) (by have := hC.lt; omega))
  have H2 := hid ((H1.out.below hb2 (Nat.le_refl _)).more hb2.size)
  have B2 := hid (B1.out.trans (hb2.mono B1.out.size))
  clear hC hb2 B1 H1 hgc
  obtain ⟨cs, hcs⟩ : ∃ cs, cs = zeroC := ⟨_, rfl⟩
  have hcl := mtable_form (some ⟨gc, 0, none⟩) (l.length + 1) l w2 R2.out (by simp only [maxLen]; omega) Hg.out
  rw [← hcs] at hcl
  have Hcl := hid hcl
  have hst : ∀ W : World, (storeCells ⟨W.heap.size, 0, none⟩ cs.toList 0).run Try.prog (W.alloc (.cells #[.int .i64 0, .int .i64 0, .int .i64 0, .int .i64 0, .int .i64 0, .int .i64 0, .int .i64 0, .int .i64 0, .int .i64 0, .int .i64 0, .int .i64 0, .int .i64 0, .int .i64 0, .int .i64 0, .int .i64 0, .int .i64 0, .slice none 0 0] 43)) = .ok () (W.alloc (.cells cs 43)) := fun W => by
    rw [hcs]
    exact codes_store W _ rfl (fun _ => 0) none 0 0
  have hsz : cs.size = 17 := by rw [hcs]; rfl
  have Hcs := hid hcs
  clear hcl hcs
  go_wp2_with fail
  refine (Hcl.out).mono ?_
  rintro e w3 ⟨rfl, hb3⟩
  have C3 := hid (C2.out.below hb3 C2.out.lt)
  have H3 := hid ((H2.out.below hb3 (Nat.le_refl _)).more hb3.size)
  have B3 := hid (B2.out.trans (hb3.mono B2.out.size))
  clear hb3 C2 H2 B2 R2
  go_upto_region 7 with (fail)
  clear hst hsz
  have T4 := hid (Blk.new w3 43 cs)
  have C4 := hid (C3.out.alloc (.cells cs 43))
  have H4 := hid (H3.out.below ((Below.refl _ _).alloc (Nat.le_refl _) (.cells cs 43)) (Nat.le_refl _))
  have B4 := hid (B3.out.alloc B3.out.size (.cells cs 43))
  obtain ⟨gt, hgt⟩ : ∃ gt, gt = w3.heap.size := ⟨_, rfl⟩
  rw [← hgt] at T4 H4 ⊢
  generalize w3.alloc (.cells cs 43) = w4 at *
  clear C3 H3 B3 hgt
  go_wp2_with fail
  refine (keptInts_any A c gc l _ _ C4.out H4.out (by omega)).mono ?_
  rintro e w5 ⟨rfl, nq, rfl⟩
  have H5 := hid (H4.out.drewN nq)
  have T5 := hid (T4.out.drewN nq)
  have B5 := hid (below_drewN B4.out nq)
  generalize w4.drewN nq = w5 at *
  clear C4 H4 T4 B4
  go_wp2_with fail
  refine (good_any A c l 256 _ _ H5.out (by simp only [maxLen]; omega) _ Hg.out).mono ?_
  rintro e w6 ⟨rfl, rfl⟩
  go_wp2_with fail
  refine (is_no 6 6 (by omega) _).mono ?_
  rintro e w6 ⟨rfl, rfl⟩
  have x16 : w5.cell? ⟨gt, 16, none⟩ = some (.slice none 0 0) := by rw [T5.out.cell 16, Hcs.out]; rfl
  go_wp2
  go_ret
  exact ⟨rfl, B5.out⟩
theorem int_getD {w : World} {B : Nat} {A : Option Addr} {l : List Int} (h : RdI w B A l) {j : Nat} (hj : j < l.length) : ∃ b off, A = some ⟨b, off, none⟩ ∧ b < B ∧ w.cell? ⟨b, off + j, none⟩ = some (.int .i64 (l.getD j 0)) := by
  have e : l.getD j 0 = l[j] := by rw [List.getD_eq_getElem?_getD, List.getElem?_eq_getElem hj]; rfl
  rw [e]
  exact int_at h hj
theorem psum_step (S : List Nat) (g : Nat → Int) {k : Nat} (hk : k < S.length) : ((S.take (k + 1)).map g).sum = ((S.take k).map g).sum + g S[k] := by
  rw [List.take_succ_eq_append_getElem hk, List.map_append, List.sum_append]
  simp
theorem psum_in (S : List Nat) (g : Nat → Int) (b : Int) (h : ∀ s ∈ S, 0 ≤ g s ∧ g s ≤ b) : ∀ k, k ≤ S.length → 0 ≤ ((S.take k).map g).sum ∧ ((S.take k).map g).sum ≤ k * b
  | 0, _ => by simp
  | k + 1, hk => by
    rw [psum_step S g (by omega)]
    have h1 := psum_in S g b h k (by omega)
    have h2 := h S[k] (List.getElem_mem (by omega))
    have : ((k + 1 : Nat) : Int) * b = k * b + b := by rw [Int.natCast_succ, Int.add_mul, Int.one_mul]
    omega
/-- what a round of the law's sum knows -/
structure SumIn (l : List Int) (n : Nat) (X : List IR) (S : Nat → Int) : Prop where
  z0 : S 0 = 0
  len : X.length = n
  bnd : ∀ k, k ≤ n → 0 ≤ S k ∧ S k ≤ 4503599627370496
  rnd : ∀ k (h : k < X.length), ∃ s z : Nat, X[k].it.w = (s : Int) ∧ X[k].it.s.length = z ∧ s < l.length ∧ 0 < l.getD s 0 ∧ l.getD s 0 ≤ 1099511627776 ∧ z ≤ 16 ∧ 0 ≤ l.getD s 0 * (z : Int) ∧ l.getD s 0 * (z : Int) ≤ 17592186044416 ∧ S (k + 1) = S k + l.getD s 0 * (z : Int)
theorem sum_in {l : List Int} {n : Nat} {X : List IR} {Sy Zs : List Nat} (hg : goodc l 256 = true) (hl : l.length ≤ 256) (hSy : Sy = syTo (codeL l) l.length 16) (hZs : Zs = szTo (codeL l) l.length 16) (hn : Sy.length = n) (h1 : X.map (·.it.w) = ints Sy) (h2 : X.map (·.it.s.length) = Zs) (hn2 : n ≤ 256) :
    SumIn l n X (fun k => ((Sy.take k).map fun s => l.getD s 0 * (codeL l s : Int)).sum) := by
  have hmem : ∀ s ∈ Sy, s < l.length ∧ 0 < l.getD s 0 ∧ l.getD s 0 ≤ 1099511627776 ∧ codeL l s ≤ 16 := fun s hs => by
    rw [hSy, syTo_mem] at hs
    have h3 := codeL_at hg hl hs.1
    have h4 := good_at hg hs.1
    exact ⟨hs.1, by omega, h4.2, h3.1⟩
  have hpr : ∀ s ∈ Sy, 0 ≤ l.getD s 0 * (codeL l s : Int) ∧ l.getD s 0 * (codeL l s : Int) ≤ 17592186044416 := fun s hs => by
    obtain ⟨_, h3, h4, h5⟩ := hmem s hs
    refine ⟨Int.mul_nonneg (by omega) (by omega), ?_⟩
    have := Int.mul_le_mul h4 (show (codeL l s : Int) ≤ 16 by omega) (by omega) (by omega)
    omega
  have hXl : X.length = n := by rw [← hn, ← List.length_map (f := (·.it.w)), h1, ints, List.length_map]
  have hmap : Sy.map (codeL l) = Zs := by rw [hSy, hZs, szTo_map]
  refine ⟨by simp, hXl, fun k hk => ?_, fun k hk => ?_⟩
  · have := psum_in Sy _ 17592186044416 hpr k (by omega)
    have h7 : (k : Int) * 17592186044416 ≤ 256 * 17592186044416 := by omega
    exact ⟨this.1, by omega⟩
  · have hkS : k < Sy.length := by omega
    obtain ⟨h3, h4, h5, h6⟩ := hmem Sy[k] (List.getElem_mem hkS)
    have h7 := hpr Sy[k] (List.getElem_mem hkS)
    have e1 : X[k].it.w = (Sy[k] : Int) := by
      have : (X.map (·.it.w))[k]? = (ints Sy)[k]? := by rw [h1]
      simpa [ints, hk, hkS] using this
    have e2 : X[k].it.s.length = codeL l Sy[k] := by
      have : (X.map (·.it.s.length))[k]? = (Sy.map (codeL l))[k]? := by rw [h2, hmap]
      simpa [hk, hkS] using this
    exact ⟨Sy[k], codeL l Sy[k], e1, e2, h3, h4, h5, h6, h7.1, h7.2, psum_step Sy _ hkS⟩
set_option maxRecDepth 100000 in
set_option maxHeartbeats 4000000 in
theorem law_good (A : Option Addr) (c : Nat) (l : List Int) (W : World) (h : RdI W W.heap.size A l) (hg : goodc l 256 = true) (hu : (itemsOf l).length ≤ 40) :
    Calls Try.prog 7 #[.slice A l.length c] W fun e w' => e = .returned (.bool true) ∧ Below W.heap.size W w' := by
  have H := hid h
  have Hg := hid hg
  have hm : l.length ≤ 256 := by have := (goodc_true.1 hg).1; omega
  obtain ⟨i0, hi0, hz0, hz1, hz2⟩ := info_parts int_info
  have Hi0 := hid hi0
  have Hz0 := hid hz0
  have Hz1 := hid hz1
  have Hz2 := hid hz2
  obtain ⟨n, hne⟩ : ∃ n, n = (itemsOf l).length := ⟨_, rfl⟩
  rw [← hne] at hu
  have Hn := hid hne
  have Hcost := hid (fun h1 => code_cost hg hm h1)
  have Hin := hid (code_in hg hm)
  have Hfree := hid (code_free hg hm)
  have Hcnt := hid (code_count hg hm)
  obtain ⟨Sy, hSy⟩ : ∃ Sy, Sy = syTo (codeL l) l.length 16 := ⟨_, rfl⟩
  obtain ⟨Zs, hZs⟩ : ∃ Zs, Zs = szTo (codeL l) l.length 16 := ⟨_, rfl⟩
  obtain ⟨f, hf⟩ : ∃ f : Nat → Nat, f = fun k => (grp (codeL l) (k + 1) l.length).length := ⟨_, rfl⟩
  obtain ⟨Q, hQ⟩ : ∃ Q : Nat → Nat, Q = fun n => (syTo (codeL l) l.length n).length := ⟨_, rfl⟩
  have Hsum := hid (fun (X : List IR) (h1 : X.map (·.it.w) = ints Sy) (h2 : X.map (·.it.s.length) = Zs) => sum_in (n := n) hg hm hSy hZs (by rw [hSy, Hcnt.out, ← hne]) h1 h2 (by omega))
  have Hmt := hid (fun (A : Option Addr) (c : Nat) (W : World) h => mtable_any A c l.length l W h rfl hm hg)
  rw [← hSy, ← hf] at Hmt
  rw [← hSy, ← hZs, ← hf, ← hQ] at Hin
  rw [← hSy] at Hcnt Hcost
  rw [← hZs] at Hfree
  have hnil : A = none → l.length = 0 := fun hA => by
    rcases Nat.eq_zero_or_pos l.length with h0 | h0
    · exact h0
    · obtain ⟨b, off, e, _⟩ := int_at h h0
      rw [hA] at e
      cases e
  have Hnil := hid hnil
  have Hzl := hid (show Zs.length = n by rw [hZs, szTo_len, ← hSy, Hcnt.out, hne])
  clear hi0 hz0 hz1 hz2 h hne hg hnil hSy hZs hf hQ
  go_enter Try.func7, Try.ntmps7
  go_wp2_with fail
  refine (alive_any _).mono ?_
  rintro e w1 ⟨rfl, hb1⟩
  have H1 := hid ((H.out.below hb1 (Nat.le_refl _)).more hb1.size)
  have B1 := hid hb1
  clear hb1 H
  go_wp2_with fail
  refine (used_any A c l _ w1.heap.size H1.out (by omega)).mono ?_
  rintro e w2 ⟨rfl, rfl⟩
  rw [← Hn.out]
  have d1 : decide (40 < n) = false := decide_eq_false (by omega)
  have d2 : decide ((40 : Int) < (n : Int)) = false := decide_eq_false (by omega)
  go_wp2_with fail
  refine (copyInts_any A c l _ H1.out Hnil.out (by omega)).mono ?_
  rintro e w2 ⟨rfl, hC, hb2⟩
  clear d1 d2
  obtain ⟨gc, hgc⟩ : ∃ gc, gc = w1.heap.size := ⟨_, rfl⟩
  rw [← hgc] at hC ⊢
  have C2 := hid hC
  have R2 := hid ((copied_rdi hC).more (B' := w2.heap.size) (by have := hC.lt; omega))
  have H2 := hid ((H1.out.below hb2 (Nat.le_refl _)).more hb2.size)
  have B2 := hid (B1.out.trans (hb2.mono B1.out.size))
  clear hC hb2 B1 H1 hgc
  go_wp2_with fail
  refine (Hmt.out (some ⟨gc, 0, none⟩) (l.length + 1) w2 R2.out).mono ?_
  rintro e w3 ⟨At, ct, M, rfl, hM, hR, hb3⟩
  obtain rfl : M = n := by rw [hM, Hcnt.out, Hn.out]
  have R3 := hid hR
  have C3 := hid (C2.out.below hb3 C2.out.lt)
  have H3 := hid ((H2.out.below hb3 (Nat.le_refl _)).more hb3.size)
  have B3 := hid (B2.out.trans (hb3.mono B2.out.size))
  clear hb3 C2 H2 B2 R2 hR hM
  obtain ⟨cs, hcs⟩ : ∃ cs, cs = codesC f At M ct := ⟨_, rfl⟩
  have hst : ∀ W : World, (storeCells ⟨W.heap.size, 0, none⟩ cs.toList 0).run Try.prog (W.alloc (.cells #[.int .i64 0, .int .i64 0, .int .i64 0, .int .i64 0, .int .i64 0, .int .i64 0, .int .i64 0, .int .i64 0, .int .i64 0, .int .i64 0, .int .i64 0, .int .i64 0, .int .i64 0, .int .i64 0, .int .i64 0, .int .i64 0, .slice none 0 0] 43)) = .ok () (W.alloc (.cells cs 43)) := fun W => by
    rw [hcs]
    exact codes_store W _ rfl f At M ct
  have hsz : cs.size = 17 := by rw [hcs]; rfl
  rw [← hcs]
  have Hcs := hid hcs
  clear hcs
  go_upto_region 7 with (fail)
  clear hst hsz
  have T4 := hid (Blk.new w3 43 cs)
  have hbb := (Below.refl w3.heap.size w3).alloc (Nat.le_refl _) (.cells cs 43)
  have C4 := hid (C3.out.alloc (.cells cs 43))
  have H4 := hid ((H3.out.below hbb (Nat.le_refl _)).more hbb.size)
  have R4 := hid ((R3.out.below hbb (Nat.le_refl _)).more hbb.size)
  have B4 := hid (B3.out.alloc B3.out.size (.cells cs 43))
  obtain ⟨gt, hgt⟩ : ∃ gt, gt = w3.heap.size := ⟨_, rfl⟩
  clear hbb
  rw [← hgt] at T4 ⊢
  generalize w3.alloc (.cells cs 43) = w4 at *
  clear C3 H3 B3 R3 hgt
  go_wp2_with fail
  refine (keptInts_any A c gc l _ _ C4.out H4.out (by omega)).mono ?_
  rintro e w5 ⟨rfl, nq, rfl⟩
  have H5 := hid (H4.out.drewN nq)
  have R5 := hid (R4.out.drewN nq)
  have T5 := hid (T4.out.drewN nq)
  have B5 := hid (below_drewN B4.out nq)
  have hs5 : (w4.drewN nq).heap.size = w4.heap.size := rfl
  rw [← hs5] at H5 R5
  generalize w4.drewN nq = w5 at *
  clear C4 H4 T4 B4 R4 hs5
  go_wp2_with fail
  refine (good_any A c l 256 _ _ H5.out (by simp only [maxLen]; omega) _ Hg.out).mono ?_
  rintro e w6 ⟨rfl, rfl⟩
  have HR := hid (show w5.rangeAt gt 0 (codesL f At M ct) from fun j v hv => by
    rw [Nat.zero_add, T5.out.cell j, Hcs.out, ← codesL_arr]
    simpa using hv)
  have hSl : Sy.length = M := by rw [Hcnt.out, Hn.out]
  rw [hSl] at Hin
  rw [Hzl.out] at Hfree
  have Hrt := hid (reftable_any At M ct Sy Zs f Q w5 Hin.out R5.out (codesL f At M ct).toArray rfl (Nat.le_of_lt Hfree.out) (fun _ => Hfree.out))
  go_wp2_with (refine wpList_load_mid rfl 43 _ rfl gt 0 rfl (codesL f At M ct) _ HR.out Try.underlying43 rfl codes_size ?_)
  refine (Hrt.out).mono ?_
  rintro e w6 ⟨A6, c6, X, rfl, hX1, hX2, hO⟩
  have SI := hid (Hsum.out X hX1 hX2)
  have O := hid hO
  have H6 := hid ((H5.out.below hO.old (Nat.le_refl _)).more hO.old.size)
  have B6 := hid (B5.out.trans (hO.old.mono B5.out.size))
  clear hX1 hX2 hO HR Hrt T5 R5 Hin Hsum Hmt Hcs H5 B5 hSl
  go_wp2_with fail
  refine (used_any A c l _ w6.heap.size H6.out (by omega)).mono ?_
  rintro e w7 ⟨rfl, rfl⟩
  rw [← Hn.out]
  go_upto_region 16 with (fail)
  obtain ⟨S, hS⟩ : ∃ S : Nat → Int, S = fun k => ((Sy.take k).map fun s => l.getD s 0 * (codeL l s : Int)).sum := ⟨_, rfl⟩
  rw [← hS] at SI
  have HS := hid hS
  clear hS
  go_loopw [8, 63] (fun sv iv wr => ∃ k : Nat, k ≤ M ∧ iv = .int .i64 (k : Int) ∧ sv = .int .i64 (S k) ∧ Hid (Below w6.heap.size w6 wr)) (fun _ i _ => M - (intOf i).toNat)
  case atStart => exact ⟨0, by omega, rfl, by rw [SI.out.z0], hid (Below.refl _ _)⟩
  case round =>
    obtain ⟨k, hk, rfl, rfl, B⟩ := hrel
    by_cases hlt : k < M
    · have d1 : decide (k < M) = true := decide_eq_true hlt
      have hkX : k < X.length := by rw [SI.out.len]; exact hlt
      have hR := ((own_rd O.out.row).below B.out (Nat.le_refl _))
      obtain ⟨b, off, rfl, hb, hcl⟩ := hR.at_ (k := k) hlt (by omega)
      have c0 : wr.cell? ⟨b, off + k * 2, none⟩ = some (.int .i64 X[k].it.w) := hcl (k * 2 + 0) _ ((flat_at encR 2 X (fun _ _ => rfl) k 0 X[k] (List.getElem?_eq_getElem hkX) (by omega)).trans rfl)
      have c1 : wr.cell? ⟨b, off + k * 2 + 1, none⟩ = some (.slice X[k].A X[k].it.s.length X[k].c) := hcl (k * 2 + 1) _ ((flat_at encR 2 X (fun _ _ => rfl) k 1 X[k] (List.getElem?_eq_getElem hkX) (by omega)).trans rfl)
      obtain ⟨s, z, hw, hz, hsl, hp, hp2, hz16, hm0, hm1, hst⟩ := SI.out.rnd k hkX
      have hbS := (SI.out.bnd (k + 1) (by omega))
      rw [hw] at c0
      rw [hz] at c1
      generalize X[k].A = xA at *
      generalize X[k].c = xc at *
      have y0 := int_getD (H6.out.below B.out (Nat.le_refl _)) hsl
      obtain ⟨b2, off2, rfl, hb2, y0⟩ := y0
      obtain ⟨v, hv⟩ : ∃ v, v = l.getD s 0 := ⟨_, rfl⟩
      rw [← hv] at y0 hp hp2 hm0 hm1 hst
      have d2 : decide ((l.length : Int) ≤ (s : Int)) = false := decide_eq_false (by omega)
      have d3 : decide (l.length ≤ s) = false := decide_eq_false (by omega)
      have d4 : (v == 0) = false := beq_eq_false_iff_ne.2 (by omega)
      have tm : IntKind.i64.wrap (v * (z : Int)) = v * (z : Int) := IntWalk.i64_in _ (by omega)
      have ts : IntKind.i64.wrap (S k + v * (z : Int)) = S (k + 1) := by rw [hst]; exact IntWalk.i64_in _ (by omega)
      have hbw : b < wr.heap.size := by have := B.out.size; omega
      have hbw2 : b2 < wr.heap.size := by have := B.out.size; omega
      have BA := hid (B.out.alloc B.out.size (.cells #[.int .i64 (s : Int), .slice xA z xc] 50))
      clear hR hcl hw hz hp hp2 hz16 hm0 hm1 hst hbS hkX hv
      go_upto_region 20 with (fail)
      have Z := hid (Blk.new wr 50 #[.int .i64 (s : Int), .slice xA z xc])
      have y1 := (((Below.refl _ wr).alloc (Nat.le_refl _) (.cells #[.int .i64 (s : Int), .slice xA z xc] 50)).cell (p := ⟨b2, off2 + s, none⟩) hbw2).trans y0
      generalize wr.alloc (.cells #[.int .i64 (s : Int), .slice xA z xc] 50) = wv at *
      generalize wr.heap.size = gx at *
      have z0 : wv.cell? ⟨gx, 0, none⟩ = some (.int .i64 (s : Int)) := (Z.out.cell 0).trans rfl
      have z1 : wv.cell? ⟨gx, 1, none⟩ = some (.slice xA z xc) := (Z.out.cell 1).trans rfl
      clear c0 c1 y0 Z
      go_quiet (fail)
      go_wp2
      go_roundw
      case rel => exact ⟨k + 1, by omega, by go_num, rfl, hid (below_drewN BA.out _)⟩
      case measure => simp [intOf]; omega
    · have d1 : decide (k < M) = false := decide_eq_false hlt
      obtain rfl : k = M := by omega
      have H7 := hid ((H6.out.below B.out (Nat.le_refl _)).more B.out.size)
      have B7 := hid (B6.out.trans (B.out.mono B6.out.size))
      have hSf : S k = ((Sy.map fun s => l.getD s 0 * (codeL l s : Int))).sum := by
        rw [HS.out]
        show ((Sy.take k).map fun s => l.getD s 0 * (codeL l s : Int)).sum = _
        rw [List.take_of_length_le (Nat.le_of_eq (by rw [Hcnt.out, ← Hn.out]))]
      have Hfin := hid (show 1 ≤ k → S k = bestFn (dsc (itemsOf l) ++ [0]) 16 from fun h1 => hSf.trans (Hcost.out (by rw [← Hn.out]; exact h1)))
      have Hzero := hid (show k = 0 → S k = 0 from fun h0 => by rw [h0]; exact SI.out.z0)
      clear hSf HS Hcost Hcnt B O B6 H6 SI Hzl Hfree
      go_upto_region 22 with (fail)
      go_wp2_with fail
      refine (usedref_any A c l _ H7.out (by omega)).mono ?_
      rintro e w8 ⟨A8, c8, rfl, ho8, hb8⟩
      have B8 := hid (B7.out.trans (hb8.mono B7.out.size))
      have H8 := hid (H7.out.below hb8 (Nat.le_refl _))
      have HsW := hid B7.out.size
      have hdn : (dsc (itemsOf l)).length = k := by rw [dsc_len, ← Hn.out]
      have Hdb := hid (show ∀ x ∈ dsc (itemsOf l) ++ [0], 0 ≤ x ∧ x ≤ 1099511627776 from fun x hx => by
        rcases List.mem_append.1 hx with hx | hx
        · unfold dsc at hx
          obtain ⟨y, hy, rfl⟩ := List.mem_map.1 (List.mem_reverse.1 hx)
          obtain ⟨s, h1, _, rfl⟩ := items_mem l _ y ((isort_perm (itemsTo l l.length)).mem_iff.1 hy)
          exact good_at Hg.out h1
        · rw [List.mem_singleton.1 hx]; omega)
      rw [hdn] at ho8 ⊢
      generalize dsc (itemsOf l) = dd at *
      have O8 := hid ho8
      have Hdn := hid hdn
      have Hs8 := hid hb8.size
      clear ho8 hb8 hdn H7 B7
      go_wp2_with (at_builtin; refine wpList_app _ rfl _ _ _ rfl wr.heap.size 3 i0 (.int .i64 0) 1 8 Try.underlying22 Hi0.out Hz0.out Hz1.out Hz2.out rfl (by omega) A8 k c8 (intsV dd) rfl (own_below O8.out ((Below.refl _ _).alloc (Nat.le_refl _) _) (Nat.le_refl _)) _ _ 1 1 [.int .i64 0] rfl (rd_one _ _ _ _ (Blk.new _ _ _)) (by simp) (by simp [Value.oneCell']) (by simp only [maxLen]; omega) (by omega) (by have := Hs8.out; simp; omega) ?_; intro A9 c9 w9 ha9; have Ha9 := hid ha9; clear ha9)
      have hlen : (dd ++ [0]).length = k + 1 := by rw [List.length_append, Hdn.out]; rfl
      have ha1 := Ha9.out.1
      have e1 : intsV dd ++ [Value.int .i64 0] = intsV (dd ++ [0]) := by simp [intsV]
      rw [e1] at ha1
      have hb89 := ((Below.refl wr.heap.size w8).alloc Hs8.out (.cells #[.int .i64 0] 3)).trans Ha9.out.2.2.1
      have B9 := hid (B8.out.trans (hb89.mono HsW.out))
      have H9 := hid (H8.out.below hb89 (Nat.le_refl _))
      have hbr := bestref_all A9 c9 16 (dd ++ [0]) w9 (own_rdi' ha1 hlen.symm) (by rw [hlen]; omega) (Nat.le_refl _) Hdb.out
      rw [hlen, show ((16 : Nat) : Int) = 16 from rfl] at hbr
      have Hbr := hid hbr
      generalize bestFn (dd ++ [0]) 16 = z at *
      clear hlen ha1 e1 hbr Ha9 O8 H8 B8
      go_wp2_with fail
      refine (Hbr.out).mono ?_
      rintro e w10 ⟨rfl, hb10⟩
      have B10 := hid (B9.out.trans (hb10.mono (by have := B9.out.size; omega)))
      have H10 := hid (H9.out.below hb10 (by have := hb89.size; have := Hs8.out; omega))
      clear hb10 H9 B9
      by_cases hz : S k = z
      · have g1 : (S k == z) = true := beq_iff_eq.2 hz
        go_wp2
        go_ret
        exact ⟨rfl, B10.out⟩
      · have g1 : (S k == z) = false := beq_eq_false_iff_ne.2 hz
        have hk0 : k = 0 := by
          rcases Nat.eq_zero_or_pos k with h0 | h0
          · exact h0
          · exact (hz (Hfin.out h0)).elim
        have g2 : ((k : Int) == 0) = true := by rw [hk0]; rfl
        have g3 : (S k == 0) = true := by rw [Hzero.out hk0]; rfl
        clear hz hk0
        go_wp2_with fail
        refine (used_any A c l _ wr.heap.size H10.out (by omega)).mono ?_
        rintro e w11 ⟨rfl, rfl⟩
        rw [← Hn.out]
        go_wp2
        go_ret
        exact ⟨rfl, B10.out⟩
theorem law_any (A : Option Addr) (c : Nat) (l : List Int) (W : World) (h : RdI W W.heap.size A l) (hm : l.length ≤ 1048576) :
    Calls Try.prog 7 #[.slice A l.length c] W fun e w' => e = .returned (.bool true) ∧ Below W.heap.size W w' := by
  by_cases hu : 40 < (itemsOf l).length ∧ l.length ≤ 256
  · exact law_idle A c l W h hu.2 hu.1
  · cases hg : goodc l 256
    · exact law_form A c l W h hm hg (by omega)
    · exact law_good A c l W h hg (by have := (goodc_true.1 hg).1; omega)
set_option maxRecDepth 100000 in
theorem lifted (os : Os) (started : os.Started) (H : Type) (enc : TypeId × Value → H) (F : Stop.Interp) :
    ReturnsInHanded {} Try.checked os 7 .any ((Rows.OpenSpec.upto Rows.mergeTablesSpec).pre6 enc Try.prog Try.f7 Rows.mergeTablesUptoRow.domain false) (((Rows.OpenSpec.upto Rows.mergeTablesSpec).at F).post enc Try.prog Try.f7 false true false false) :=
  law_lifted_upto (C := Try.checked) (s := Rows.mergeTablesSpec) own laidOut started (by kernel_rfl) Try.func7 rfl rfl Try.underlying4
    (by rw [Try.params7]; intro t ht; simp at ht; rcases ht with rfl <;> exact ⟨by kernel_rfl, of_decide_eq_true (by kernel_rfl)⟩)
    (by
      intro ds h
      match ds, h with
      | [_], _ => exact ⟨rfl, rfl, rfl⟩)
    (OpenSpec.witness (enc := enc) (C := Try.checked) (s := Rows.OpenSpec.upto Rows.mergeTablesSpec) (k := Rows.uptoSmall) rfl false ⟨#[], #[.slice none 0 0], []⟩ 8 (by kernel_rfl) (by kernel_rfl) (by kernel_rfl)
      (x := ([.nil], [], [])) (by kernel_rfl) rfl (by kernel_rfl))
    (by
      intro W base args ds ps hval0 hA0 hk
      have hval : ∀ (j : Nat) t v, Try.f7.params[j]? = some t → args[j]? = some v → Value.okWide Try.prog W .any base t v := hval0
      have hA : DataW.TrodAll enc Try.prog W 0 (fun _ => true) true Try.f7.params.toList args.toList ds ps := hA0
      clear hval0 hA0
      rw [Try.params7] at hA hval
      obtain ⟨v0, vs0, d0, ds0, p0, q0, hargs, rfl, rfl, h0, r0⟩ := trodAll_cons hA
      obtain ⟨rfl, rfl, rfl⟩ := trodAll_nil r0
      obtain rfl : args = #[v0] := by cases args; simp_all
      simp only [Rows.uptoBulkAll] at hk
      have bk0 : ∀ (A : Option Addr) (n c : Nat), v0 = .slice A n c → n ≤ Rows.uptoBulk d0 := fun A n c e => by rw [e] at h0; exact bulk_slice Try.underlying22 h0
      obtain ⟨A0, c0, l0, rfl, hc0, hm0, hok0, hr0⟩ := open_ints' (hval 0 22 v0 rfl rfl) h0
      exact law_any A0 c0 l0 _ hr0 (by have := bk0 A0 l0.length c0 rfl; omega))

theorem proved : Rows.MergeTablesUptoSaid :=
  OpenClaim.holds_of_cond 7 Try.f7 rfl rfl rfl rfl rfl rfl rfl ⟨rfl, rfl, rfl, rfl, rfl⟩ rfl rfl rfl rfl rfl (by kernel_rfl) Try.func7 (by kernel_rfl)
    (of_decide_eq_true (by kernel_rfl)) (by unfold Func.isWrapper; first | (rw [if_pos (by decide +kernel)]; kernel_rfl) | (rw [if_neg (by decide +kernel)]; exact ⟨rfl, rfl⟩))
    (fun os started H enc _ F => lifted os started H enc F)
#print axioms proved
end Go.Proofs.Ytlekobompjehdaa.MergeTables
