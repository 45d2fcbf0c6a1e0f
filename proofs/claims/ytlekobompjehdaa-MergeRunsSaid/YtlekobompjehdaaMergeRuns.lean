/-
  MergeRuns: for every number, count and longest length the law returns true: the best lengths of what stands equally often are two neighbours at most, and come out even for powers of two. No condition.
-/
import Derived.Test.YtlekobompjehdaaMgL
import Derived.Test.YtlekobompjehdaaMgI
import Derived.Test.YtlekobompjehdaaOpens
namespace Go.Proofs.Ytlekobompjehdaa.MergeRuns
open Go.ChangeShapes Go.WideShapes Go.ChangeAt Go.RowKit Go.Proofs.Ytlekobompjehdaa Mg

theorem and_pow : ∀ h : Fin 8, bits .and .i64 ((2 ^ h.val : Nat) : Int) ((2 ^ h.val : Nat) - 1 : Int) = 0 := by decide +kernel
theorem and_mid : ∀ lo : Fin 8, ∀ n : Fin 252, 2 ^ lo.val < n.val → n.val < 2 ^ (lo.val + 1) → bits .and .i64 (n.val : Int) ((n.val : Int) - 1) ≠ 0 := by decide +kernel
theorem runs_items (n : Nat) (cnt : Int) : ∀ s, s < n → (List.replicate n cnt).getD s 0 = cnt := by
  intro s hs
  rw [List.getD_eq_getElem?_getD, List.getElem?_replicate, if_pos hs]
  rfl
theorem runs_len (n : Nat) (cnt : Int) (h : 0 < cnt) : (itemsOf (List.replicate n cnt)).length = n := by
  rw [itemsOf_len, List.length_replicate]
  have : ∀ j, j ≤ n → (itemsTo (List.replicate n cnt) j).length = j := by
    intro j
    induction j with
    | zero => intro _; rfl
    | succ j ih =>
      intro hj
      rw [used_step, ih (by omega), runs_items n cnt j (by omega), if_pos h]
  exact this n (Nat.le_refl _)
/-- the lengths of what stands equally often -/
structure RunsOf (f : Nat → Nat) (n hi lo : Nat) : Prop where
  all : ∀ s, s < n → lo ≤ f s ∧ f s ≤ hi
  high : ∃ s, s < n ∧ f s = hi
  low : ∃ s, s < n ∧ f s = lo
  most : hi ≤ 16
  even : (hi = lo ∧ n = 2 ^ hi) ∨ (hi = lo + 1 ∧ 2 ^ lo < n ∧ n < 2 ^ hi)
theorem runs_of {n K : Nat} {cnt : Int} (hn : 2 ≤ n) (hc : 0 < cnt) (hK : n ≤ 2 ^ (K + 1)) (hk : K ≤ 15) : ∃ hi lo, RunsOf (bestAt (itemsOf (List.replicate n cnt)) K) n hi lo := by
  have hlen := runs_len n cnt hc
  have hl := items_gl (List.replicate n cnt)
  obtain ⟨cs, L⟩ := best_levels (K := K) hl (by omega) (by rw [hlen]; exact hK)
  have hw : ∀ i, i < (itemsOf (List.replicate n cnt)).length → wt (itemsOf (List.replicate n cnt)) i = cnt := by
    intro i hi
    unfold wt
    rw [List.getD_eq_getElem?_getD, List.getElem?_eq_getElem hi]
    obtain ⟨s, h1, _, e⟩ := items_mem _ _ _ ((isort_perm (itemsTo (List.replicate n cnt) (List.replicate n cnt).length)).mem_iff.1 (List.getElem_mem hi))
    have e : (itemsOf (List.replicate n cnt))[i] = ⟨(List.replicate n cnt).getD s 0, [s]⟩ := e
    rw [e]
    rw [List.length_replicate] at h1
    exact runs_items n cnt s h1
  have near := runs_near hl (by omega) L hc hw
  have cn := runs_count (f := ln cs) (m := (itemsOf (List.replicate n cnt)).length) (K1 := K + 1) (by omega) (fun i k h => ln_anti cs h) L.each L.kraft near
  rw [hlen] at cn near
  have pos : ∀ s, s < n → ∃ i, i < n ∧ bestAt (itemsOf (List.replicate n cnt)) K s = ln cs i := by
    intro s hs
    have hm := (itemsOf_sy (List.replicate n cnt) s).2 ⟨by rw [List.length_replicate]; exact hs, by rw [runs_items n cnt s hs]; exact hc⟩
    obtain ⟨i, hi, he, _⟩ := sOf_ex hl hm
    exact ⟨i, by omega, by rw [← he]; exact L.at_ i hi⟩
  have back : ∀ i, i < n → ∃ s, s < n ∧ bestAt (itemsOf (List.replicate n cnt)) K s = ln cs i := by
    intro i hi
    have hm := sOf_mem hl (i := i) (by omega)
    have := (itemsOf_sy (List.replicate n cnt) _).1 hm
    rw [List.length_replicate] at this
    exact ⟨_, this.1, L.at_ i (by omega)⟩
  refine ⟨ln cs 0, ln cs (n - 1), fun s hs => ?_, back 0 (by omega), back (n - 1) (by omega), ?_, cn⟩
  · obtain ⟨i, hi, e⟩ := pos s hs
    rw [e]
    exact ⟨ln_anti cs (by omega), ln_anti cs (by omega)⟩
  · have := (L.each 0 (by omega)).2
    omega
theorem mod_any (a m k : Int) (hm : 0 < m) (hm2 : m ≤ 1073741824) (hk : 0 ≤ k ∧ k ≤ 8) : ∃ r : Nat, (r : Int) < m ∧ wrap64 (k + wrap64 ((IntKind.u64.wrap a).tmod m)) = k + r := by
  have h0 : 0 ≤ IntKind.u64.wrap a := by rw [IntKind.wrap_u64]; omega
  rw [Int.tmod_eq_emod_of_nonneg h0]
  have h1 := Int.emod_nonneg (IntKind.u64.wrap a) (by omega : m ≠ 0)
  have h2 := Int.emod_lt_of_pos (IntKind.u64.wrap a) hm
  generalize IntKind.u64.wrap a % m = r at *
  refine ⟨r.toNat, by omega, ?_⟩
  unfold wrap64
  omega
set_option maxRecDepth 100000 in
set_option maxHeartbeats 4000000 in
theorem law_any (a b c : Int) (W : World) :
    Calls Try.prog 6 #[.int .i64 a, .int .i64 b, .int .i64 c] W fun e w' => e = .returned (.bool true) ∧ Below W.heap.size W w' := by
  go_enter Try.func6, Try.ntmps6
  go_wp2_with fail
  refine (alive_any _).mono ?_
  rintro e w1 ⟨rfl, hb1⟩
  have B1 := hid hb1
  clear hb1
  go_upto_region 6 with (fail)
  obtain ⟨r1, hr1, e1⟩ := mod_any a 250 2 (by omega) (by omega) (by omega)
  obtain ⟨r2, hr2, e2⟩ := mod_any b 1073741824 1 (by omega) (by omega) (by omega)
  obtain ⟨r3, hr3, e3⟩ := mod_any c 9 8 (by omega) (by omega) (by omega)
  obtain ⟨n, hn, hn1, hn2⟩ : ∃ n : Nat, (2 : Int) + r1 = (n : Int) ∧ 2 ≤ n ∧ n ≤ 251 := ⟨2 + r1, by omega, by omega, by omega⟩
  obtain ⟨cnt, hc, hc1, hc2⟩ : ∃ cnt : Int, (1 : Int) + r2 = cnt ∧ 0 < cnt ∧ cnt ≤ 1073741824 := ⟨1 + r2, rfl, by omega, by omega⟩
  obtain ⟨K1, hK, hK1, hK2⟩ : ∃ K1 : Nat, (8 : Int) + r3 = (K1 : Int) ∧ 8 ≤ K1 ∧ K1 ≤ 16 := ⟨8 + r3, by omega, by omega, by omega⟩
  rw [hn] at e1
  rw [hc] at e2
  rw [hK] at e3
  rw [e1, e2, e3]
  generalize wrap64 ((IntKind.u64.wrap a).tmod 250) = q1
  generalize wrap64 ((IntKind.u64.wrap b).tmod 1073741824) = q2
  generalize wrap64 ((IntKind.u64.wrap c).tmod 9) = q3
  generalize (IntKind.u64.wrap a).tmod 250 = q4
  generalize (IntKind.u64.wrap b).tmod 1073741824 = q5
  generalize (IntKind.u64.wrap c).tmod 9 = q6
  generalize IntKind.u64.wrap a = q7
  generalize IntKind.u64.wrap b = q8
  generalize IntKind.u64.wrap c = q9
  clear hn hc hK e1 e2 e3 hr1 hr2 hr3
  obtain ⟨i0, hi0, hz0, hz1, hz2⟩ := info_parts int_info
  have Hi0 := hid hi0
  have Hz0 := hid hz0
  have Hz1 := hid hz1
  have Hz2 := hid hz2
  clear hi0 hz0 hz1 hz2
  go_upto_region 8 with (fail)
  go_loopw [7, 33] (fun o i wr => ∃ (j : Nat) (A : Option Addr) (d : Nat), j ≤ n ∧ i = .int .i64 j ∧ o = .slice A j d ∧ wr.ownsRow w1.heap.size 3 1 (.slice A j d) j (intsV (List.replicate j cnt)) ∧ Below w1.heap.size w1 wr) (fun _ i _ => n - (intOf i).toNat)
  case atStart => exact ⟨0, some ⟨w1.heap.size, 0, none⟩, 0, by omega, rfl, rfl, ⟨rfl, .inr ⟨w1.heap.size, 0, #[], rfl, Nat.le_refl _, Blk.new w1 _ #[], Nat.le_refl _, by simp [maxLen], rfl, rfl⟩⟩, (Below.refl _ _).alloc (Nat.le_refl _) _⟩
  case round =>
    obtain ⟨j, A, d, hj, rfl, rfl, hO, hB⟩ := hrel
    have O := hid hO
    have B := hid hB
    have hsz := hB.size
    clear hO hB
    by_cases hlt : j < n
    · have d1 : decide (j < n) = true := decide_eq_true hlt
      have OA := hid (own_below O.out ((Below.refl _ _).alloc (Nat.le_refl _) (.cells #[.int .i64 cnt] 3)) (Nat.le_refl _))
      have BA := hid (B.out.alloc hsz (.cells #[.int .i64 cnt] 3))
      go_wp2_with (at_builtin; refine wpList_app _ rfl _ _ _ rfl w1.heap.size 3 i0 (.int .i64 0) 1 8 Try.underlying22 Hi0.out Hz0.out Hz1.out Hz2.out rfl (by omega) A j d _ rfl OA.out _ _ 1 1 [.int .i64 cnt] rfl (rd_one _ _ _ _ (Blk.new _ _ _)) (by simp) (by simp [Value.oneCell']) (by simp only [maxLen]; omega) (by omega) (by simp; omega) ?_; intro A3 c3 w3 ha3; have Ha3 := hid ha3; clear ha3)
      go_roundw
      case rel =>
        refine ⟨j + 1, A3, c3, by omega, by go_num, rfl, ?_, BA.out.trans Ha3.out.2.2.1⟩
        have h := Ha3.out.1
        rw [List.replicate_succ']
        simpa [intsV] using h
      case measure => simp [intOf]; omega
    · have d1 : decide (j < n) = false := decide_eq_false hlt
      obtain rfl : j = n := by omega
      obtain ⟨K, hK⟩ : ∃ K, K1 = K + 1 := ⟨K1 - 1, by omega⟩
      have hp8 : j ≤ 2 ^ (K + 1) := by
        rw [← hK]
        have := Nat.pow_le_pow_right (n := 2) (by omega) hK1
        omega
      have HL : Hid (∀ w, RdI w w.heap.size A (List.replicate j cnt) → Calls Try.prog 18 #[.slice A j d, .int .i64 (K1 : Int)] w fun e w' => ∃ A' c', e = .returned (.tuple #[.slice A' j c', .nilIface]) ∧ w'.ownsRow w.heap.size 3 1 (.slice A' j c') j (intsV (bestLs (itemsOf (List.replicate j cnt)) K j)) ∧ Below w.heap.size w w') := hid (fun w hw => by
        have h := lengths_best A d (List.replicate j cnt) w K hw (goodc_true.2 ⟨by rw [List.length_replicate]; omega, List.any_eq_false.2 (fun x hx => by
          obtain rfl := List.eq_of_mem_replicate hx
          have := (badc_false (n := x)).2 ⟨by omega, by omega⟩
          simp [this])⟩) (by omega) (by rw [runs_len j cnt hc1]; exact hp8)
        rw [List.length_replicate, ← hK] at h
        exact h)
      obtain ⟨hi, lo, hR⟩ := runs_of hn1 hc1 hp8 (by omega : K ≤ 15)
      have R := hid hR
      have Hex : Hid (∀ s, s < j → (bestLs (itemsOf (List.replicate j cnt)) K j).getD s 0 = (bestAt (itemsOf (List.replicate j cnt)) K s : Int)) := hid (fun s hs => bestLs_at _ _ _ hs)
      have Hln := hid (bestLs_len (itemsOf (List.replicate j cnt)) K j)
      generalize bestLs (itemsOf (List.replicate j cnt)) K j = M at *
      generalize bestAt (itemsOf (List.replicate j cnt)) K = f at *
      have B2 := hid (B1.out.trans (B.out.mono B1.out.size))
      have HA := hid (own_rdi' O.out (by simp))
      have hhi := hR.most
      clear hK hp8 hR B1 B O hsz
      go_wp2_with fail
      refine (HL.out _ HA.out).mono ?_
      rintro e w2 ⟨A2, c2, rfl, ho2, hb2⟩
      have B3 := hid (B2.out.trans (hb2.mono B2.out.size))
      have O2 := hid (own_rdi' ho2 Hln.out.symm)
      clear hb2 ho2 HA B2
      go_upto_region 16 with (fail)
      go_loop [10, 11, 56] (fun lv hv i => ∃ k lo' hi' : Nat, k ≤ j ∧ i = .int .i64 k ∧ lv = .int .i64 lo' ∧ hv = .int .i64 hi' ∧ lo ≤ lo' ∧ hi' ≤ hi ∧ lo' ≤ 16 ∧ (∀ s, s < k → lo' ≤ f s ∧ f s ≤ hi')) (fun _ _ i => j - (intOf i).toNat)
      case atStart => exact ⟨0, 16, 0, by omega, rfl, rfl, rfl, by have := R.out.even; omega, by omega, by omega, fun s hs => by omega⟩
      case round =>
        obtain ⟨k, lo', hi', hk, rfl, rfl, rfl, h1, h2, h3, h4⟩ := hrel
        have H4 := hid h4
        clear h4
        by_cases hlt2 : k < j
        · have d2 : decide (k < j) = true := decide_eq_true hlt2
          have hMk : k < M.length := by rw [Hln.out]; exact hlt2
          obtain ⟨g, og, rfl, hgb, u0⟩ := int_at O2.out hMk
          have eu := Hex.out k hlt2
          rw [List.getD_eq_getElem?_getD, List.getElem?_eq_getElem hMk] at eu
          simp only [Option.getD_some] at eu
          rw [eu] at u0
          have hv := R.out.all k hlt2
          have H5 := hid (show ∀ s, s < k + 1 → min lo' (f k) ≤ f s ∧ f s ≤ max hi' (f k) from fun s hs => by
            by_cases e : s = k
            · subst e
              omega
            · have := H4.out s (by omega)
              omega)
          generalize f k = v at *
          have m1 : (if (v : Int) < (lo' : Int) then (v : Int) else (lo' : Int)) = ((min lo' v : Nat) : Int) := by split <;> omega
          have m2 : (if (hi' : Int) < (v : Int) then (v : Int) else (hi' : Int)) = ((max hi' v : Nat) : Int) := by split <;> omega
          clear eu hMk
          go_wp2
          go_round
          case rel => exact ⟨k + 1, min lo' v, max hi' v, by omega, by go_num, by first | rw [m1] | (congr 1; omega), by first | rw [m2] | (congr 1; omega), by omega, by omega, by omega, H5.out⟩
          case measure => simp [intOf]; omega
        · have d2 : decide (k < j) = false := decide_eq_false hlt2
          obtain rfl : k = j := by omega
          obtain ⟨s1, hs1, e1⟩ := R.out.high
          obtain ⟨s2, hs2, e2⟩ := R.out.low
          have q1 := H4.out s1 hs1
          have q2 := H4.out s2 hs2
          obtain rfl : hi' = hi := by omega
          obtain rfl : lo' = lo := by omega
          clear hs1 e1 hs2 e2 q1 q2 hk h1 h2
          rcases R.out.even with ⟨e1, e2⟩ | ⟨e1, e2, e3⟩
          · subst e1
            have hh : hi' < 8 := by
              apply Decidable.byContradiction
              intro hn
              have := Nat.pow_le_pow_right (n := 2) (by omega) (show 8 ≤ hi' by omega)
              omega
            have s1 := shl_w (d := hi') (by omega)
            have a1 := and_pow ⟨hi', hh⟩
            simp only [← e2] at a1 s1
            have E2 := hid e2
            clear e2
            go_wp2
            go_ret
            exact ⟨ret_bool (by simp), B3.out⟩
          · have hh : lo' < 8 := by
              apply Decidable.byContradiction
              intro hn
              have := Nat.pow_le_pow_right (n := 2) (by omega) (show 8 ≤ lo' by omega)
              omega
            have t1 := shl_w (d := lo') (by omega)
            have t2 := shl_w (d := hi') (by omega)
            have a1 := and_mid ⟨lo', hh⟩ ⟨k, by omega⟩ e2 (by show k < 2 ^ (lo' + 1); rw [← e1]; exact e3)
            have hn : ((hi' : Int)) - lo' = 1 := by omega
            have t3 : ((lo' : Int) == hi') = false := beq_eq_false_iff_ne.2 (by omega)
            have b1 := pow_le16 (d := lo') (by omega)
            have b2 := pow_le16 (d := hi') (by omega)
            simp only at a1
            generalize 2 ^ lo' = pl at *
            generalize 2 ^ hi' = ph at *
            have a2 : (bits .and .i64 (k : Int) ((k : Int) - 1) == 0) = false := beq_eq_false_iff_ne.2 a1
            have g1 : IntKind.i64.wrap ((hi' : Int) - lo') = 1 := by rw [hn]; decide
            have A2' := hid a2
            clear a1 e1 a2
            go_wp2
            go_ret
            exact ⟨ret_bool (by rw [A2'.out]; rfl), B3.out⟩
set_option maxRecDepth 100000 in
theorem lifted (os : Os) (started : os.Started) (H : Type) (enc : TypeId × Value → H) :
    ReturnsInHanded {} Try.checked os 6 .any (Rows.mergeRunsSpec.pre6 enc Try.prog Try.f6 Rows.mergeRunsRow.domain false) (Rows.mergeRunsSpec.post enc Try.prog Try.f6 false true false false) :=
  law_lifted own laidOut started (by kernel_rfl) Try.func6 rfl rfl Try.underlying4
    (by rw [Try.params6]; intro t ht; simp at ht; rcases ht with rfl | rfl | rfl <;> exact ⟨by kernel_rfl, of_decide_eq_true (by kernel_rfl)⟩)
    (by
      intro ds h
      match ds, h with
      | [_, _, _], _ => exact ⟨rfl, rfl, rfl⟩)
    (ChangeSpec.witness6 (enc := enc) (C := Try.checked) false ⟨#[], #[.int .i64 0, .int .i64 0, .int .i64 0], []⟩ 8 (by kernel_rfl) (by kernel_rfl) (by kernel_rfl) (by kernel_rfl))
    (by
      intro W base args ds ps hval0 hA0
      have hval : ∀ (j : Nat) t v, Try.f6.params[j]? = some t → args[j]? = some v → Value.okWide Try.prog W .any base t v := hval0
      have hA : DataW.TrodAll enc Try.prog W 0 (fun _ => true) true Try.f6.params.toList args.toList ds ps := hA0
      clear hval0 hA0
      rw [Try.params6] at hA hval
      obtain ⟨v0, vs0, d0, ds0, p0, q0, hargs, rfl, rfl, h0, r0⟩ := trodAll_cons hA
      obtain ⟨v1, vs1, d1, ds1, p1, q1, rfl, rfl, rfl, h1, r1⟩ := trodAll_cons r0
      obtain ⟨v2, vs2, d2, ds2, p2, q2, rfl, rfl, rfl, h2, r2⟩ := trodAll_cons r1
      obtain ⟨rfl, rfl, rfl⟩ := trodAll_nil r2
      obtain rfl : args = #[v0, v1, v2] := by cases args; simp_all
      obtain ⟨a0, rfl, rfl, rfl, w0⟩ := open_int Try.underlying3 (hval 0 3 v0 rfl rfl) h0
      obtain ⟨a1, rfl, rfl, rfl, w1⟩ := open_int Try.underlying3 (hval 1 3 v1 rfl rfl) h1
      obtain ⟨a2, rfl, rfl, rfl, w2⟩ := open_int Try.underlying3 (hval 2 3 v2 rfl rfl) h2
      exact law_any a0 a1 a2 _)

theorem over : Rows.mergeRunsRow.holds Try.pinned (OpenSpec.ofChange Rows.mergeRunsSpec) :=
  OpenClaim.holds_of_wide 6 Try.f6 rfl rfl rfl rfl rfl rfl rfl ⟨rfl, rfl, rfl, rfl, rfl⟩ rfl rfl rfl rfl rfl (by kernel_rfl) Try.func6 (by kernel_rfl)
    (of_decide_eq_true (by kernel_rfl)) (by unfold Func.isWrapper; first | (rw [if_pos (by decide +kernel)]; kernel_rfl) | (rw [if_neg (by decide +kernel)]; exact ⟨rfl, rfl⟩))
    (fun os started H enc _ => lifted os started H enc)

theorem proved : Rows.MergeRunsSaid := over
#print axioms proved
end Go.Proofs.Ytlekobompjehdaa.MergeRuns
