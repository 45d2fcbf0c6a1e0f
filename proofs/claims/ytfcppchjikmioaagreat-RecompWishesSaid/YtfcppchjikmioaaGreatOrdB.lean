/-
  Orders as plain data; recomp.set.
-/
import Derived.Test.YtfcppchjikmioaaGreatOrdA
import Derived.Deep.RegionWith
import Derived.BigRegion
namespace Go.Proofs.YtfcppchjikmioaaGreat
open Go.RowKit Go.Lib

structure Od where
  t : Int
  p : Bool
  cr : Bool
  x : Int
  y : Int
  w : Int
  h : Int
  ba : Bool
  fo : Int
  re : Int
  la : Int
def odC (o : Od) : Array Value := #[.int .i64 o.t, .bool o.p, .bool o.cr, .int .i64 o.x, .int .i64 o.y, .int .i64 o.w, .int .i64 o.h, .bool o.ba, .int .i64 o.fo, .int .i64 o.re, .int .i64 o.la]
def turnsW : List ByteArray := [⟨#[107, 101, 101, 112]⟩, ⟨#[102, 108, 105, 112]⟩, ⟨#[102, 108, 111, 112]⟩, ⟨#[104, 97, 108, 102]⟩, ⟨#[99, 114, 111, 115, 115]⟩, ⟨#[113, 117, 97, 114, 116, 101, 114]⟩, ⟨#[98, 97, 99, 107]⟩, ⟨#[116, 114, 97, 110, 115, 118, 101, 114, 115, 101]⟩]
def formsW : List ByteArray := [⟨#[101, 105, 116, 104, 101, 114]⟩, ⟨#[112, 108, 97, 105, 110]⟩, ⟨#[115, 116, 101, 112, 115]⟩]
def lacesW : List ByteArray := [⟨#[115, 97, 109, 101]⟩, ⟨#[110, 111, 110, 101]⟩, ⟨#[97, 108, 108]⟩]
def litN : Nat → List UInt8
  | 0 => [116, 117, 114, 110]
  | 1 => [112, 101, 114, 102, 101, 99, 116]
  | 2 => [98, 97, 114, 101]
  | 3 => [120]
  | 4 => [121]
  | 5 => [119]
  | 6 => [104]
  | 7 => [102, 111, 114, 109]
  | 8 => [114, 101, 115, 116, 97, 114, 116]
  | 9 => [108, 97, 99, 101]
  | _ => []
def nmK (nm : ByteArray) : Nat := if nm.toList == litN 0 then 0 else if nm.toList == litN 1 then 1 else if nm.toList == litN 2 then 2 else if nm.toList == litN 3 then 3 else if nm.toList == litN 4 then 4 else if nm.toList == litN 5 then 5 else if nm.toList == litN 6 then 6 else if nm.toList == litN 7 then 7 else if nm.toList == litN 8 then 8 else if nm.toList == litN 9 then 9 else 10
theorem nmK_of {nm : ByteArray} {j : Nat} (hj : j < 10) (h : (nm.toList == litN j) = true) : nmK nm = j := by
  have e : nm.toList = litN j := beq_iff_eq.1 h
  unfold nmK
  rw [e]
  rcases (show j = 0 ∨ j = 1 ∨ j = 2 ∨ j = 3 ∨ j = 4 ∨ j = 5 ∨ j = 6 ∨ j = 7 ∨ j = 8 ∨ j = 9 by omega) with rfl | rfl | rfl | rfl | rfl | rfl | rfl | rfl | rfl | rfl <;> rfl
theorem nmK_at {nm : ByteArray} {k : Nat} (hk : k < 10) (h : nmK nm = k) : (nm.toList == litN k) = true := by
  unfold nmK at h
  repeat' split at h
  all_goals first
    | (subst h; assumption)
    | omega
theorem nmK_facts (nm : ByteArray) (j : Nat) (hj : j < 10) : (nm.toList == litN j) = decide (j = nmK nm) := by
  cases h : (nm.toList == litN j) with
  | true => exact (decide_eq_true (nmK_of hj h).symm).symm
  | false =>
    refine (decide_eq_false fun e => ?_).symm
    rw [nmK_at hj e.symm] at h
    cases h
theorem nmK_le (nm : ByteArray) : nmK nm ≤ 10 := by
  unfold nmK
  repeat' split
  all_goals omega
def setK (k : Nat) (o : Od) (v : WV) : Option Od :=
  if k = 0 then (if amgV turnsW v < 0 then none else some { o with t := amgV turnsW v })
  else if k = 1 then (if kdV v ≠ 3 then none else some { o with p := blV v })
  else if k = 2 then (if kdV v ≠ 3 then none else some { o with ba := blV v })
  else if k = 3 then (if numV v 0 < 0 then none else some { o with x := numV v 0, cr := true })
  else if k = 4 then (if numV v 0 < 0 then none else some { o with y := numV v 0, cr := true })
  else if k = 5 then (if numV v 1 < 0 then none else some { o with w := numV v 1, cr := true })
  else if k = 6 then (if numV v 1 < 0 then none else some { o with h := numV v 1, cr := true })
  else if k = 7 then (if amgV formsW v < 0 then none else some { o with fo := amgV formsW v })
  else if k = 8 then (if numV v 0 < 0 then none else some { o with re := numV v 0 })
  else if k = 9 then (if amgV lacesW v < 0 then none else some { o with la := amgV lacesW v - 1 })
  else none
def setO (o : Od) (x : Wsh) : Option Od := setK (nmK x.1) o x.2
theorem isS_kd (v : WV) : isS v = decide (kdV v = 2) := by cases v <;> rfl
theorem isT_kd (v : WV) : isT v = decide (kdV v = 3) := by cases v <;> rfl
theorem isN_kd (v : WV) : isN v = decide (kdV v = 1) := by cases v <;> rfl
theorem amg_ok (ws : List ByteArray) (v : WV) : (isS v && decide (0 ≤ idxW ws (sxV v))) = decide (0 ≤ amgV ws v) ∧ (0 ≤ amgV ws v → idxW ws (sxV v) = amgV ws v) := by
  unfold amgV
  rw [isS_kd]
  by_cases h : kdV v = 2
  · rw [if_pos h, decide_eq_true h, Bool.true_and]
    exact ⟨rfl, fun _ => rfl⟩
  · rw [if_neg h, decide_eq_false h, Bool.false_and]
    exact ⟨(decide_eq_false (by omega)).symm, fun h => by omega⟩
theorem num_ok (v : WV) (l : Int) (hl : 0 ≤ l) : numOk v l = decide (0 ≤ numV v l) ∧ (0 ≤ numV v l → nuV v = numV v l) := by
  unfold numV numOk
  rw [isN_kd]
  by_cases h : kdV v = 1
  · rw [decide_eq_true h, Bool.true_and]
    by_cases h2 : l ≤ nuV v
    · by_cases h3 : nuV v ≤ 65535
      · rw [if_pos ⟨h, h2, h3⟩, decide_eq_true h2, decide_eq_true h3]
        exact ⟨(decide_eq_true (by omega)).symm, fun _ => rfl⟩
      · rw [if_neg (fun q => h3 q.2.2), decide_eq_false h3, Bool.and_false]
        exact ⟨(decide_eq_false (by omega)).symm, fun h => by omega⟩
    · rw [if_neg (fun q => h2 q.2.1), decide_eq_false h2, Bool.false_and]
      exact ⟨(decide_eq_false (by omega)).symm, fun h => by omega⟩
  · rw [if_neg (fun q => h q.1), decide_eq_false h, Bool.false_and]
    exact ⟨(decide_eq_false (by omega)).symm, fun h => by omega⟩
/-- what setting ends in -/
def SetEnd (r : Option Od) (g : Nat) (W : World) (e : Ending) (w' : World) : Prop := W.grownBy w' (some g) ∧ match r with
  | none => e = .returned (.bool false)
  | some p => e = .returned (.bool true) ∧ Blk w' g 50 (odC p)
def WordsEnd (ws : List ByteArray) (W : World) (e : Ending) (w' : World) : Prop := W.alloc (.cells (strV ws).toArray 9) = w' ∧ e = .returned (.slice (some ⟨W.heap.size, 0, none⟩) ws.length ws.length)
theorem recomp_turns_any (W : World) : Calls Tryz.prog 40 #[] W (WordsEnd turnsW W) := by
  go_enter Tryz.func40, Tryz.ntmps40
  go_wp2
  go_ret
  exact ⟨rfl, rfl⟩
theorem recomp_forms_any (W : World) : Calls Tryz.prog 41 #[] W (WordsEnd formsW W) := by
  go_enter Tryz.func41, Tryz.ntmps41
  go_wp2
  go_ret
  exact ⟨rfl, rfl⟩
theorem recomp_laces_any (W : World) : Calls Tryz.prog 42 #[] W (WordsEnd lacesW W) := by
  go_enter Tryz.func42, Tryz.ntmps42
  go_wp2
  go_ret
  exact ⟨rfl, rfl⟩
theorem ref_Turns_any (W : World) : Calls Tryz.prog 43 #[] W (WordsEnd turnsW W) := by
  go_enter Tryz.func43, Tryz.ntmps43
  go_wp2
  go_ret
  exact ⟨rfl, rfl⟩
theorem ref_Forms_any (W : World) : Calls Tryz.prog 44 #[] W (WordsEnd formsW W) := by
  go_enter Tryz.func44, Tryz.ntmps44
  go_wp2
  go_ret
  exact ⟨rfl, rfl⟩
theorem ref_Laces_any (W : World) : Calls Tryz.prog 45 #[] W (WordsEnd lacesW W) := by
  go_enter Tryz.func45, Tryz.ntmps45
  go_wp2
  go_ret
  exact ⟨rfl, rfl⟩
end Go.Proofs.YtfcppchjikmioaaGreat
