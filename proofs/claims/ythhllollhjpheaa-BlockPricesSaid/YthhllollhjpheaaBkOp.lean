/-
  The laws of layer 10: a case that came in; tokens that came in.
  The same tokens, side by side.
-/
import Derived.Test.YthhllollhjpheaaOpensB
import Derived.Test.YthhllollhjpheaaBase
import Derived.Test.YthhllollhjpheaaExpPlain
namespace Go.Proofs.Ythhllollhjpheaa
open Go.ChangeShapes Go.WideShapes Go.ChangeAt Go.RowKit

theorem tok_ofB {H : Type} {enc : TypeId × Value → H} {w : World} {base : Nat} {spare : Nat → Bool} {held : Bool} (n : Nat) (cs : List Value) (y : DataW H × List MemPlace) (hl : cs.length = 2)
    (h : DataW.trod enc Try.prog w base spare held n 54 cs = some y) : ∃ t : Int × Int, cs = encTok t ∧ okTok t := by
  have L := leaf_at 1 54 n cs y (by kernel_rfl) (by rw [hl]; kernel_rfl) h
  obtain ⟨_, _, v0, e0, t0⟩ := L 0 3 (by kernel_rfl)
  obtain ⟨_, _, v1, e1, t1⟩ := L 1 3 (by kernel_rfl)
  obtain ⟨a, rfl, wa⟩ := leaf_int Try.underlying3 t0
  obtain ⟨b, rfl, wb⟩ := leaf_int Try.underlying3 t1
  match cs, hl with
  | [_, _], _ =>
    simp at e0 e1
    subst e0 e1
    exact ⟨(a, b), rfl, wa, wb⟩
theorem leaf_none {H : Type} {enc : TypeId × Value → H} {w : World} {base fuel : Nat} {spare : Nat → Bool} {held : Bool} {t e : TypeId} {A : Option Addr} {n c : Nat} {y : DataW H × List MemPlace} (ht : Try.prog.underlying t = some (.slice e))
    (h : DataW.trod enc Try.prog w base spare held fuel t [.slice A n c] = some y) (hA : A = none) : c = 0 := by
  rcases Go.Deep.open_slice ht h with ⟨hc, _⟩ | ⟨a, len, cap, m, n, D, Pl, hc, _⟩
  · simp at hc
    exact hc.2.2
  · simp at hc
    rw [hA] at hc
    cases hc.1
theorem list4C {α : Type} {l : List α} (h : l.length = 4) : ∃ a b c d, l = [a, b, c, d] := by
  match l, h with
  | [a, b, c, d], _ => exact ⟨a, b, c, d, rfl⟩
set_option maxRecDepth 100000 in
theorem open_toks {H : Type} {enc : TypeId × Value → H} {w : World} {v : Value} {x : DataW H} {ps : List MemPlace} {r : Reach} {b0 : Nat}
    (hv : Value.okWide Try.prog w r b0 23 v) (h : DataW.Trod enc Try.prog w 0 (fun _ => true) true 23 v x ps) :
    ∃ (A : Option Addr) (c : Nat) (l : List (Int × Int)), v = .slice A l.length c ∧ (∀ t ∈ l, okTok t) ∧ Rd w w.heap.size 2 A l.length (l.flatMap encTok) ∧ (A = none → c = 0) := by
  obtain ⟨fuel, hf⟩ := h
  obtain ⟨A, n, m, rfl⟩ := okWide_slice Try.underlying23 hv
  have hf2 : DataW.trod enc Try.prog w 0 (fun _ => true) true fuel 23 [.slice A n m] = some (x, ps) := by simpa [Value.cells] using hf
  obtain ⟨A', c, l, e, hlc, hcm, hok, hr⟩ := open_slice_of encTok okTok 2 (by omega) Try.underlying23 (by kernel_rfl) tok_ofB (fun _ => rfl) hf2
  rw [e] at hf2
  exact ⟨A', c, l, e, hok, hr, leaf_none Try.underlying23 hf2⟩
set_option maxRecDepth 100000 in
theorem open_case {H : Type} {enc : TypeId × Value → H} {w : World} {v : Value} {x : DataW H} {ps : List MemPlace} {r : Reach} {b0 : Nat}
    (hv : Value.okWide Try.prog w r b0 25 v) (h : DataW.Trod enc Try.prog w 0 (fun _ => true) true 25 v x ps) :
    ∃ (A : Option Addr) (ca : Nat) (b : List Int) (X : Option Addr) (cx : Nat) (l : List (Int × Int)) (kind : Int) (last : Bool), v = .agg #[.slice A b.length ca, .slice X l.length cx, .int .i64 kind, .bool last] ∧
      (∀ x ∈ b, isB x) ∧ Rd w w.heap.size 1 A b.length (bytesV b) ∧ (A = none → ca = 0) ∧ (∀ t ∈ l, okTok t) ∧ Rd w w.heap.size 2 X l.length (l.flatMap encTok) ∧ (X = none → cx = 0) ∧ (Lit.int .i64 kind).wf = true := by
  obtain ⟨cs, e, hl, L⟩ := open_agg 1 Try.underlying25 (by kernel_rfl) hv h
  obtain ⟨_, _, u0, e0, t0⟩ := L 0 22 (by kernel_rfl)
  obtain ⟨A, ca, b, f0, _, _, hB, hr⟩ := open_slice_of encB isB 1 (by omega) Try.underlying22 (by kernel_rfl) byte_of (fun _ => rfl) t0
  rw [f0] at t0
  rw [encB_eq] at hr
  obtain ⟨_, _, u1, e1, t1⟩ := L 1 23 (by kernel_rfl)
  obtain ⟨X, cx, l, f1, _, _, hok, hx⟩ := open_slice_of encTok okTok 2 (by omega) Try.underlying23 (by kernel_rfl) tok_ofB (fun _ => rfl) t1
  rw [f1] at t1
  obtain ⟨_, _, u2, e2, t2⟩ := L 2 3 (by kernel_rfl)
  obtain ⟨kind, rfl, hk⟩ := leaf_int Try.underlying3 t2
  obtain ⟨_, _, u3, e3, t3⟩ := L 3 4 (by kernel_rfl)
  obtain ⟨last, rfl⟩ := leaf_bool Try.underlying4 t3
  rw [show (leaves Try.prog (1 + 1) 25).length = 4 by kernel_rfl] at hl
  obtain ⟨c0, c1, c2, c3, rfl⟩ := list4C hl
  simp at e0 e1 e2 e3
  subst e0 e1 e2 e3 f0 f1
  exact ⟨A, ca, b, X, cx, l, kind, last, e, hB, hr, leaf_none Try.underlying22 t0, hok, hx, leaf_none Try.underlying23 t1, hk⟩
end Go.Proofs.Ythhllollhjpheaa

namespace Go.Proofs.Ythhllollhjpheaa
open Go.RowKit

set_option maxHeartbeats 1000000 in
theorem tokens_reflK (A B : Option Addr) (c d : Nat) (l : List (Int × Int)) (W : World) (K : Nat) (h1 : Rd W K 2 A l.length (l.flatMap encTok)) (h2 : Rd W K 2 B l.length (l.flatMap encTok)) (hm : l.length ≤ 20000) :
    Calls Try.prog 15 #[.slice A l.length c, .slice B l.length d] W fun e w' => e = .returned (.bool true) ∧ ∃ n, w' = W.drewN n := by
  have H1 := hid h1
  have H2 := hid h2
  clear h1 h2
  go_enter Try.func15, Try.ntmps15
  go_wp2
  go_loopw [13] (fun i wr => ∃ j n : Nat, j ≤ l.length ∧ i = .int .i64 j ∧ wr = W.drewN n) (fun i _ => l.length - (intOf i).toNat)
  case atStart => exact ⟨0, 0, by omega, rfl, rfl⟩
  case round =>
    obtain ⟨j, n, hj, rfl, rfl⟩ := hrel
    by_cases hlt : j < l.length
    · obtain ⟨b, off, rfl, hbb, q0, q1⟩ := tok_at H1.out hlt
      obtain ⟨b', off', rfl, hbb', p0, p1⟩ := tok_at H2.out hlt
      generalize l[j] = t at *
      obtain ⟨tl, td⟩ := t
      go_wp2
      go_quiet (fail)
      go_wp2
      go_roundw
      case rel => exact ⟨j + 1, n + nq, by omega, by go_num, by simp⟩
      case measure => simp [intOf]; omega
    · go_wp2
      go_ret
      exact ⟨rfl, n, rfl⟩
end Go.Proofs.Ythhllollhjpheaa
