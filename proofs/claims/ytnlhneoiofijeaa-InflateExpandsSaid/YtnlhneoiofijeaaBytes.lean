/-
  Bytes as strings; burnishnum.Same and Tokens where both sides say the same; an error value's number.
-/
import Derived.Test.YtnlhneoiofijeaaExpProg
import Derived.Laws.BytesArg
namespace Go.Proofs.Ytnlhneoiofijeaa
open Go.RowKit

theorem conv_bytes {w : World} {B : Nat} {A : Option Addr} {l : List Int} {c : Nat} (h : Rd w B 1 A l.length (bytesV l)) :
    (Go.convert 68 9 (.slice A l.length c)).run Try.prog w = .ok (.string (strOfNums l)) w := by
  by_cases hl : l = []
  · subst hl
    cases A with
    | none => exact run_convert_bytes_nil w _ _ Try.underlying68 Try.underlying5 0 c _ Try.underlying9
    | some a =>
      rw [run_convert_bytes_string w _ _ _ _ _ _ Try.underlying68 Try.underlying5 Try.underlying9]
      rfl
  · have hpos : 0 < l.length := List.length_pos_iff.2 hl
    obtain ⟨b, off, rfl, _, hc⟩ := Rd.at_ h hpos (by omega)
    exact run_convert_bytes_arg w _ _ Try.underlying68 Try.underlying5 b off _ c l rfl (fun i hi => hc i _ (by simp [bytesV, List.getD, List.getElem?_eq_getElem hi])) _ Try.underlying9

theorem same_any (A B : Option Addr) (c d : Nat) (l m : List Int) (W : World) (K : Nat) (h1 : Rd W K 1 A l.length (bytesV l)) (h2 : Rd W K 1 B m.length (bytesV m)) :
    Calls Try.prog 37 #[.slice A l.length c, .slice B m.length d] W fun e w' => e = .returned (.bool ((strOfNums l).toList == (strOfNums m).toList)) ∧ W = w' := by
  have k1 := conv_bytes (c := c) h1
  have k2 := conv_bytes (c := d) h2
  clear h1 h2
  generalize strOfNums l = x at *
  generalize strOfNums m = y at *
  go_enter Try.func37, Try.ntmps37
  go_wp2
  go_ret
  exact ⟨rfl, rfl⟩
theorem same_refl (A B : Option Addr) (c d : Nat) (l : List Int) (W : World) (K : Nat) (h1 : Rd W K 1 A l.length (bytesV l)) (h2 : Rd W K 1 B l.length (bytesV l)) :
    Calls Try.prog 37 #[.slice A l.length c, .slice B l.length d] W fun e w' => e = .returned (.bool true) ∧ W = w' :=
  (same_any A B c d l l W K h1 h2).mono fun e w' ⟨he, hw⟩ => ⟨by rw [he]; simp, hw⟩

theorem num_errv (k : Int) (hk : 0 ≤ k) (w : World) : Calls Try.prog 38 #[errv k] w fun e w' => e = .returned (.int .i64 k) ∧ w = w' := by
  unfold errv
  split
  · rename_i h; subst h; exact num_nil w
  · exact num_no k (by omega) w

set_option maxHeartbeats 1000000 in
theorem tokens_refl (A B : Option Addr) (c d : Nat) (l : List (Int × Int)) (W : World) (K : Nat) (h1 : Rd W K 2 A l.length (l.flatMap encTok)) (h2 : Rd W K 2 B l.length (l.flatMap encTok)) (hm : l.length ≤ 2000) :
    Calls Try.prog 39 #[.slice A l.length c, .slice B l.length d] W fun e w' => e = .returned (.bool true) ∧ ∃ n, w' = W.drewN n := by
  have H1 := hid h1
  have H2 := hid h2
  clear h1 h2
  go_enter Try.func39, Try.ntmps39
  go_wp2
  go_loopw [13] (fun i wr => ∃ j n : Nat, j ≤ l.length ∧ i = .int .i64 j ∧ wr = W.drewN n) (fun i _ => l.length - (intOf i).toNat)
  case atStart => exact ⟨0, 0, by omega, rfl, rfl⟩
  case round =>
    obtain ⟨j, n, hj, rfl, rfl⟩ := hrel
    by_cases hlt : j < l.length
    · obtain ⟨b, off, rfl, hbb, q0, q1⟩ := tok_at H1.out hlt
      obtain ⟨b', off', rfl, hbb', p0, p1⟩ := tok_at H2.out hlt
      generalize l[j] = t at *
      obtain ⟨tl, td⟩ := t
      go_wp2
      go_quiet (fail)
      go_wp2
      go_roundw
      case rel => exact ⟨j + 1, n + nq, by omega, by go_num, by simp⟩
      case measure => simp [intOf]; omega
    · go_wp2
      go_ret
      exact ⟨rfl, n, rfl⟩

end Go.Proofs.Ytnlhneoiofijeaa
