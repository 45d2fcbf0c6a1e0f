/-
  MergeOrder: for every counts and longest length the law returns true: of the best lengths a symbol that stands more often has no greater length. No condition.
-/
import Derived.Test.YtlekobompjehdaaMgL
import Derived.Test.YtlekobompjehdaaOpens
namespace Go.Proofs.Ytlekobompjehdaa.MergeOrder
open Go.ChangeShapes Go.WideShapes Go.ChangeAt Go.RowKit Go.Proofs.Ytlekobompjehdaa Mg

set_option maxRecDepth 100000 in
set_option maxHeartbeats 2000000 in
theorem law_form (A : Option Addr) (c : Nat) (l : List Int) (high : Int) (W : World) (h : RdI W W.heap.size A l) (hm : l.length ≤ maxLen) (hg : goodc l 300 = false) :
    Calls Try.prog 5 #[.slice A l.length c, .int .i64 high] W fun e w' => e = .returned (.bool true) ∧ Below W.heap.size W w' := by
  have H := hid h
  have Hg := hid hg
  clear h hg
  go_enter Try.func5, Try.ntmps5
  go_wp2_with fail
  refine (alive_any _).mono ?_
  rintro e w1 ⟨rfl, hb1⟩
  have H1 := hid ((H.out.below hb1 (Nat.le_refl _)).more hb1.size)
  have B1 := hid hb1
  clear hb1
  go_wp2_with fail
  refine (lengths_form A c l high _ H1.out hm Hg.out).mono ?_
  rintro e w2 ⟨rfl, rfl⟩
  go_wp2
  go_ret
  exact ⟨rfl, B1.out⟩
set_option maxRecDepth 100000 in
set_option maxHeartbeats 2000000 in
theorem law_range (A : Option Addr) (c : Nat) (l : List Int) (high : Int) (W : World) (h : RdI W W.heap.size A l) (hg : goodc l 300 = true) (hb : high < 1 ∨ 16 < high ∨ ∃ d : Nat, high = (d : Int) ∧ 1 ≤ d ∧ d ≤ 16 ∧ 2 ^ d < (itemsOf l).length) :
    Calls Try.prog 5 #[.slice A l.length c, .int .i64 high] W fun e w' => e = .returned (.bool true) ∧ Below W.heap.size W w' := by
  have H := hid h
  have Hg := hid hg
  have Hb := hid hb
  clear h hg hb
  go_enter Try.func5, Try.ntmps5
  go_wp2_with fail
  refine (alive_any _).mono ?_
  rintro e w1 ⟨rfl, hb1⟩
  have H1 := hid ((H.out.below hb1 (Nat.le_refl _)).more hb1.size)
  have B1 := hid hb1
  clear hb1
  go_wp2_with fail
  refine (lengths_range A c l high _ H1.out Hg.out Hb.out).mono ?_
  rintro e w2 ⟨rfl, hb2⟩
  have B2 := hid (B1.out.trans (hb2.mono B1.out.size))
  clear hb2
  go_wp2
  go_ret
  exact ⟨rfl, B2.out⟩
set_option maxRecDepth 100000 in
set_option maxHeartbeats 4000000 in
theorem law_good (A : Option Addr) (c K : Nat) (l : List Int) (W : World) (h : RdI W W.heap.size A l) (hg : goodc l 300 = true) (hk : K ≤ 15) (hK : (itemsOf l).length ≤ 2 ^ (K + 1)) :
    Calls Try.prog 5 #[.slice A l.length c, .int .i64 ((K + 1 : Nat) : Int)] W fun e w' => e = .returned (.bool true) ∧ Below W.heap.size W w' := by
  have hm := (goodc_true.1 hg).1
  obtain ⟨K1, hK1⟩ : ∃ K1, K1 = K + 1 := ⟨_, rfl⟩
  have Hor : Hid (∀ s t, s < l.length → t < l.length → 0 < l.getD t 0 → l.getD t 0 < l.getD s 0 → bestAt (itemsOf l) K s ≤ bestAt (itemsOf l) K t) := hid (fun s t hs ht h0 hlt => order_at hK hs ht h0 hlt)
  have Hex : Hid (∀ s, s < l.length → (bestLs (itemsOf l) K l.length).getD s 0 = (bestAt (itemsOf l) K s : Int)) := hid (fun s hs => bestLs_at _ _ _ hs)
  have Hln := hid (bestLs_len (itemsOf l) K l.length)
  have HL : Hid (∀ w, RdI w w.heap.size A l → Calls Try.prog 18 #[.slice A l.length c, .int .i64 (K1 : Int)] w fun e w' => ∃ A' c', e = .returned (.tuple #[.slice A' l.length c', .nilIface]) ∧ w'.ownsRow w.heap.size 3 1 (.slice A' l.length c') l.length (intsV (bestLs (itemsOf l) K l.length)) ∧ Below w.heap.size w w') := hid (fun w hw => by
    rw [hK1]
    exact lengths_best A c l w K hw hg hk hK)
  have H := hid h
  rw [← hK1]
  generalize bestLs (itemsOf l) K l.length = M at *
  generalize bestAt (itemsOf l) K = f at *
  clear h hg hk hK hK1
  go_enter Try.func5, Try.ntmps5
  go_wp2_with fail
  refine (alive_any _).mono ?_
  rintro e w1 ⟨rfl, hb1⟩
  have H1 := hid ((H.out.below hb1 (Nat.le_refl _)).more hb1.size)
  have B1 := hid hb1
  clear hb1
  go_wp2_with fail
  refine (HL.out _ H1.out).mono ?_
  rintro e w2 ⟨A2, c2, rfl, ho2, hb2⟩
  have H2 := hid ((H1.out.below hb2 (Nat.le_refl _)).more hb2.size)
  have B2 := hid (B1.out.trans (hb2.mono B1.out.size))
  have O2 := hid (own_rdi' ho2 Hln.out.symm)
  clear hb2 ho2
  go_upto_region 7 with (fail)
  go_loopw [23] (fun i wr => ∃ j : Nat, j ≤ l.length ∧ i = .int .i64 j ∧ Below w2.heap.size w2 wr) (fun i _ => l.length - (intOf i).toNat)
  case atStart => exact ⟨0, by omega, rfl, Below.refl _ _⟩
  case round =>
    obtain ⟨j, hj, rfl, hb⟩ := hrel
    have Bw := hid hb
    clear hb
    by_cases hlt : j < l.length
    · have d1 : decide (j < l.length) = true := decide_eq_true hlt
      obtain ⟨b, off, rfl, hb, x0⟩ := int_at (H2.out.below Bw.out (Nat.le_refl _)) hlt
      have hbs : b < wr.heap.size := by have := Bw.out.size; omega
      have Hj := hid hlt
      have hx : l.getD j 0 = l[j] := by rw [List.getD_eq_getElem?_getD, List.getElem?_eq_getElem hlt]; rfl
      generalize l[j] = x at *
      have Hx := hid hx
      clear hlt hx
      clear hb
      go_upto_region 10 with (fail)
      clear x0 hbs
      go_loopw [30] (fun i wr => ∃ k : Nat, k ≤ l.length ∧ i = .int .i64 k ∧ Below w2.heap.size w2 wr) (fun i _ => l.length - (intOf i).toNat)
      case atStart => exact ⟨0, by omega, rfl, Bw.out⟩
      case round =>
        obtain ⟨k, hk, rfl, hb⟩ := hrel
        have Bv := hid hb
        clear hb
        by_cases hlt2 : k < l.length
        · have d2 : decide (k < l.length) = true := decide_eq_true hlt2
          obtain ⟨b', off', hA, hb, y0⟩ := int_at (H2.out.below Bv.out (Nat.le_refl _)) hlt2
          injection hA with hA
          injection hA with e1 e2 _
          subst e1 e2
          have hMj : j < M.length := by rw [Hln.out]; exact Hj.out
          have hMk : k < M.length := by rw [Hln.out]; exact hlt2
          obtain ⟨g, og, rfl, hgb, u0⟩ := int_at (O2.out.below Bv.out (Nat.le_refl _)) hMj
          obtain ⟨g', og', hG', hgb', v0⟩ := int_at (O2.out.below Bv.out (Nat.le_refl _)) hMk
          injection hG' with hG'
          injection hG' with e1 e2 _
          subst e1 e2
          have eu := Hex.out j Hj.out
          have ev := Hex.out k hlt2
          rw [List.getD_eq_getElem?_getD, List.getElem?_eq_getElem hMj] at eu
          rw [List.getD_eq_getElem?_getD, List.getElem?_eq_getElem hMk] at ev
          simp only [Option.getD_some] at eu ev
          rw [eu] at u0
          rw [ev] at v0
          have hy : l.getD k 0 = l[k] := by rw [List.getD_eq_getElem?_getD, List.getElem?_eq_getElem hlt2]; rfl
          have hor := Hor.out j k Hj.out hlt2
          rw [Hx.out, hy] at hor
          have hbs : b < wr.heap.size := by have := Bv.out.size; omega
          have hgs : g < wr.heap.size := by have := Bv.out.size; omega
          have Hlt2 := hid hlt2
          generalize l[k] = y at *
          generalize f j = u at *
          generalize f k = v at *
          have hjl := Hj.out
          clear eu ev hy hlt2 hb hgb hgb' hMj hMk
          by_cases c1 : y < x
          · have f1 : decide (y < x) = true := decide_eq_true c1
            by_cases c2 : 0 < y
            · have f2 : decide (0 < y) = true := decide_eq_true c2
              have f3 : decide (v < u) = false := decide_eq_false (by have := hor c2 c1; omega)
              clear hor c1 c2
              go_wp2
              go_quiet (fail)
              go_wp2
              go_roundw
              case rel => exact ⟨k + 1, by have := Hlt2.out; omega, by go_num, below_drewN Bv.out _⟩
              case measure => have := Hlt2.out; simp [intOf]; omega
            · have f2 : decide (0 < y) = false := decide_eq_false c2
              clear hor c1 c2
              go_wp2
              go_quiet (fail)
              go_wp2
              go_roundw
              case rel => exact ⟨k + 1, by have := Hlt2.out; omega, by go_num, below_drewN Bv.out _⟩
              case measure => have := Hlt2.out; simp [intOf]; omega
          · have f1 : decide (y < x) = false := decide_eq_false c1
            clear hor c1
            go_wp2
            go_quiet (fail)
            go_wp2
            go_roundw
            case rel => exact ⟨k + 1, by have := Hlt2.out; omega, by go_num, below_drewN Bv.out _⟩
            case measure => have := Hlt2.out; simp [intOf]; omega
        · have d2 : decide (k < l.length) = false := decide_eq_false hlt2
          have hjl := Hj.out
          go_wp2
          go_roundw
          case rel => exact ⟨j + 1, by omega, by go_num, Bv.out⟩
          case measure => simp [intOf]; omega
    · have d1 : decide (j < l.length) = false := decide_eq_false hlt
      have B3 := hid (B2.out.trans (Bw.out.mono B2.out.size))
      go_wp2
      go_ret
      exact ⟨rfl, B3.out⟩
theorem law_any (A : Option Addr) (c : Nat) (l : List Int) (high : Int) (W : World) (h : RdI W W.heap.size A l) (hm : l.length ≤ maxLen) :
    Calls Try.prog 5 #[.slice A l.length c, .int .i64 high] W fun e w' => e = .returned (.bool true) ∧ Below W.heap.size W w' := by
  cases hg : goodc l 300
  · exact law_form A c l high W h hm hg
  · by_cases hb : high < 1 ∨ 16 < high ∨ ∃ d : Nat, high = (d : Int) ∧ 1 ≤ d ∧ d ≤ 16 ∧ 2 ^ d < (itemsOf l).length
    · exact law_range A c l high W h hg hb
    · obtain ⟨K, hK⟩ : ∃ K : Nat, high = ((K + 1 : Nat) : Int) := ⟨(high - 1).toNat, by omega⟩
      have hk : K ≤ 15 := by omega
      have hp : (itemsOf l).length ≤ 2 ^ (K + 1) := by
        apply Decidable.byContradiction
        intro hn
        exact hb (.inr (.inr ⟨K + 1, hK, by omega, by omega, by omega⟩))
      rw [hK]
      exact law_good A c K l W h hg hk hp
set_option maxRecDepth 100000 in
theorem lifted (os : Os) (started : os.Started) (H : Type) (enc : TypeId × Value → H) :
    ReturnsInHanded {} Try.checked os 5 .any (Rows.mergeOrderSpec.pre6 enc Try.prog Try.f5 Rows.mergeOrderRow.domain false) (Rows.mergeOrderSpec.post enc Try.prog Try.f5 false true false false) :=
  law_lifted own laidOut started (by kernel_rfl) Try.func5 rfl rfl Try.underlying4
    (by rw [Try.params5]; intro t ht; simp at ht; rcases ht with rfl | rfl <;> exact ⟨by kernel_rfl, of_decide_eq_true (by kernel_rfl)⟩)
    (by
      intro ds h
      match ds, h with
      | [_, _], _ => exact ⟨rfl, rfl, rfl⟩)
    (ChangeSpec.witness6 (enc := enc) (C := Try.checked) false ⟨#[], #[.slice none 0 0, .int .i64 0], []⟩ 8 (by kernel_rfl) (by kernel_rfl) (by kernel_rfl) (by kernel_rfl))
    (by
      intro W base args ds ps hval0 hA0
      have hval : ∀ (j : Nat) t v, Try.f5.params[j]? = some t → args[j]? = some v → Value.okWide Try.prog W .any base t v := hval0
      have hA : DataW.TrodAll enc Try.prog W 0 (fun _ => true) true Try.f5.params.toList args.toList ds ps := hA0
      clear hval0 hA0
      rw [Try.params5] at hA hval
      obtain ⟨v0, vs0, d0, ds0, p0, q0, hargs, rfl, rfl, h0, r0⟩ := trodAll_cons hA
      obtain ⟨v1, vs1, d1, ds1, p1, q1, rfl, rfl, rfl, h1, r1⟩ := trodAll_cons r0
      obtain ⟨rfl, rfl, rfl⟩ := trodAll_nil r1
      obtain rfl : args = #[v0, v1] := by cases args; simp_all
      obtain ⟨A0, c0, l0, rfl, hc0, hm0, hok0, hr0⟩ := open_ints' (hval 0 22 v0 rfl rfl) h0
      obtain ⟨a1, rfl, rfl, rfl, w1⟩ := open_int Try.underlying3 (hval 1 3 v1 rfl rfl) h1
      exact law_any A0 c0 l0 a1 _ hr0 (Nat.le_trans hc0 hm0))

theorem over : Rows.mergeOrderRow.holds Try.pinned (OpenSpec.ofChange Rows.mergeOrderSpec) :=
  OpenClaim.holds_of_wide 5 Try.f5 rfl rfl rfl rfl rfl rfl rfl ⟨rfl, rfl, rfl, rfl, rfl⟩ rfl rfl rfl rfl rfl (by kernel_rfl) Try.func5 (by kernel_rfl)
    (of_decide_eq_true (by kernel_rfl)) (by unfold Func.isWrapper; first | (rw [if_pos (by decide +kernel)]; kernel_rfl) | (rw [if_neg (by decide +kernel)]; exact ⟨rfl, rfl⟩))
    (fun os started H enc _ => lifted os started H enc)

theorem proved : Rows.MergeOrderSaid := over
#print axioms proved
end Go.Proofs.Ytlekobompjehdaa.MergeOrder
