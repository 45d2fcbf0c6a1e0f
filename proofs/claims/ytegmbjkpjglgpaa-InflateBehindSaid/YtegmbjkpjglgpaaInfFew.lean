/-
  inflate: are lengths full, few; how many.
-/
import Derived.Test.YtegmbjkpjglgpaaInfBnd
namespace Go.Proofs.Ytegmbjkpjglgpaa
open Go.RowKit

theorem full_any (A : Option Addr) (c : Nat) (l : List Int) (W : World) (h : RdI W W.heap.size A l) (hm : l.length ≤ maxLen) : Calls Try.prog 136 #[.slice A l.length c] W fun e w' => e = .returned (.bool (fullB l)) ∧ W = w' := by
  have F := hid (free_any A c l W h hm)
  obtain ⟨L, hL⟩ : ∃ L, L = l.length := ⟨_, rfl⟩
  rw [← hL] at F ⊢
  clear h hL hm
  go_enter Try.func136, Try.ntmps136
  go_wp2_with fail
  refine F.out.mono ?_
  rintro e w1 ⟨rfl, ⟨hl, rfl⟩ | ⟨hl, rfl⟩⟩
  · obtain ⟨k, hk⟩ : ∃ k, k = 65536 - kraft l := ⟨_, rfl⟩
    have hb : fullB l = (k == 0) := by
      unfold fullB
      rw [hl, Bool.true_and, Bool.eq_iff_iff, decide_eq_true_eq, beq_iff_eq]
      omega
    rw [← hk]
    have Hb := hid hb
    clear hb hl hk F
    go_wp2_with fail
    go_ret
    exact ⟨by rw [Hb.out]; rfl, rfl⟩
  · have Hb := hid (show fullB l = false by unfold fullB; rw [hl]; rfl)
    clear hl F
    go_wp2_with fail
    go_ret
    exact ⟨by rw [Hb.out]; rfl, rfl⟩
theorem sum_take_bd {l : List Int} (hb : ∀ x ∈ l, 0 ≤ x ∧ x ≤ 100) (j : Nat) : 0 ≤ (l.take j).sum ∧ (l.take j).sum ≤ 100 * j := by
  induction l generalizing j with
  | nil => simp; omega
  | cons x l ih =>
    cases j with
    | zero => simp
    | succ j =>
      have h1 := hb x (by simp)
      have h2 := ih (fun y hy => hb y (by simp [hy])) j
      rw [List.take_succ_cons, List.sum_cons]
      omega
set_option maxRecDepth 100000 in
set_option maxHeartbeats 2000000 in
theorem few_any (A : Option Addr) (c : Nat) (l : List Int) (W : World) (h : RdI W W.heap.size A l) (hm : l.length ≤ 1000) (hb : ∀ x ∈ l, 0 ≤ x ∧ x ≤ 100) : Calls Try.prog 139 #[.slice A l.length c] W fun e w' => e = .returned (.bool (decide (l.sum ≤ 1))) ∧ W = w' := by
  have H := hid h
  have Hb := hid hb
  obtain ⟨L, hL⟩ : ∃ L, L = l.length := ⟨_, rfl⟩
  have HL := hid hL
  rw [← hL] at hm ⊢
  clear h hL hb
  go_enter Try.func139, Try.ntmps139
  go_wp2_with fail
  go_loop [3, 8] (fun v3 v8 => ∃ (j : Nat) (x : Int), j ≤ L ∧ v3 = .int .i64 x ∧ v8 = .int .i64 (j : Int) ∧ Hid (x = (l.take j).sum)) (fun _ i => L - (intOf i).toNat)
  case atStart => exact ⟨0, 0, by omega, rfl, rfl, hid rfl⟩
  case round =>
    obtain ⟨j, x, hj, rfl, rfl, Hx⟩ := hrel
    by_cases hlt : j < L
    · have d1 : decide (j < L) = true := decide_eq_true hlt
      have hjl : j < l.length := by rw [← HL.out]; exact hlt
      obtain ⟨b, off, rfl, hbb, q0⟩ := int_at H.out hjl
      obtain ⟨y, hy⟩ : ∃ y, y = l[j] := ⟨_, rfl⟩
      rw [← hy] at q0
      have hs : (l.take (j + 1)).sum = x + y := by rw [List.take_succ_eq_append_getElem hjl, List.sum_append, hy, Hx.out]; simp
      have hbd := sum_take_bd Hb.out (j + 1)
      rw [hs] at hbd
      have tw : IntKind.i64.wrap (x + y) = x + y := IntWalk.i64_in _ (by omega)
      have Hs := hid hs
      clear hy hs hjl
      go_wp2_with fail
      go_round
      case rel => exact ⟨j + 1, x + y, by omega, rfl, by go_num, hid Hs.out.symm⟩
      case measure => simp [intOf]; omega
    · have d1 : decide (j < L) = false := decide_eq_false hlt
      have Hs := hid (show l.sum = x by rw [Hx.out, List.take_of_length_le (by rw [← HL.out]; omega)])
      go_wp2_with fail
      go_ret
      exact ⟨by rw [Hs.out]; rfl, rfl⟩
/-- how a count's reading ends -/
def CntEnd (v : Ev) (s : Sk) (lp dp : Value) (bs : List (Nat × BM)) (least most : Int) (e : Ending) (w' : World) : Prop :=
  match tkM (bitsL v.bl) s.k 5 with
  | none => e = .returned (.tuple #[.int .i64 least, .iface 40 (.int .i64 8)]) ∧ Below v.B v.W0 w'
  | some n => if most < least + n then e = .returned (.tuple #[.int .i64 (least + n), .iface 40 (.int .i64 2)]) ∧ Below v.B v.W0 w'
    else e = .returned (.tuple #[.int .i64 (least + n), .nilIface]) ∧ St v w' ⟨s.k + 5, s.size, s.toks⟩ lp dp bs
theorem count_any (v : Ev) (s : Sk) (lp dp : Value) (bs : List (Nat × BM)) (least most : Int) (h0 : 0 ≤ least ∧ least ≤ 1000) (W : World) (h : St v W s lp dp bs) :
    Calls Try.prog 134 #[.pointer (some ⟨v.g, 0, none⟩), .int .i64 least, .int .i64 most] W (CntEnd v s lp dp bs least most) := by
  have H := hid h
  obtain ⟨T, tc, hk, _⟩ := h.tok
  unfold workCs at hk
  have c0 := hk.cell 0
  simp only [List.getElem?_toArray, List.getElem?_cons_zero] at c0
  have hgw := hk.lt
  clear h hk
  cases ht : tkM (bitsL v.bl) s.k 5 with
  | none =>
    have Ht := hid ht
    clear ht
    go_enter Try.func134, Try.ntmps134
    go_wp2_with fail
    refine (takeSt_none v s _ _ bs 5 (by decide) _ H.out Ht.out).mono ?_
    rintro e w2 ⟨rfl, hS2, _⟩
    have S2 := hid hS2
    have tw : IntKind.i64.wrap least = least := IntWalk.i64_in _ (by omega)
    clear hS2
    go_wp2_with fail
    go_ret2
    unfold CntEnd
    rw [Ht.out]
    exact ⟨rfl, S2.out.fr⟩
  | some n =>
    have hn := tkM_bd (bitsL_bit v.bl) ht
    have hn2 : 0 ≤ n ∧ n < 32 := by have : (2 : Int) ^ 5 = 32 := by decide
                                    omega
    have Ht := hid ht
    have tw : IntKind.i64.wrap (least + n) = least + n := IntWalk.i64_in _ (by omega)
    clear ht hn
    by_cases hm : most < least + n
    · have d0 : decide (most < least + n) = true := decide_eq_true hm
      have Hm := hid hm
      clear hm
      go_enter Try.func134, Try.ntmps134
      go_wp2_with fail
      refine (takeSt_some v s _ _ bs 5 (by decide) n _ H.out Ht.out).mono ?_
      rintro e w2 ⟨rfl, hS2, _⟩
      have S2 := hid hS2
      clear hS2
      go_wp2_with fail
      go_ret2
      unfold CntEnd
      rw [Ht.out]
      dsimp only
      rw [if_pos Hm.out]
      exact ⟨rfl, S2.out.fr⟩
    · have d0 : decide (most < least + n) = false := decide_eq_false hm
      have Hm := hid hm
      clear hm
      go_enter Try.func134, Try.ntmps134
      go_wp2_with fail
      refine (takeSt_some v s _ _ bs 5 (by decide) n _ H.out Ht.out).mono ?_
      rintro e w2 ⟨rfl, hS2, _⟩
      have S2 := hid hS2
      clear hS2
      go_wp2_with fail
      go_ret2
      unfold CntEnd
      rw [Ht.out]
      dsimp only
      rw [if_neg (Int.not_lt.2 Hm.out)]
      exact ⟨rfl, S2.out⟩
end Go.Proofs.Ytegmbjkpjglgpaa
