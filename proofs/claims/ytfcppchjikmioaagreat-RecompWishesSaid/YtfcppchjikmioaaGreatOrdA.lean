/-
  Words among words; recomp.word, number.
-/
import Derived.Test.YtfcppchjikmioaaGreatWpTk
namespace Go.Proofs.YtfcppchjikmioaaGreat
open Go.RowKit Go.Lib

def idxF : List ByteArray → ByteArray → Nat → Int
  | [], _, _ => -1
  | w :: t, b, i => if b.toList == w.toList then (i : Int) else idxF t b (i + 1)
def idxW (ws : List ByteArray) (b : ByteArray) : Int := idxF ws b 0
theorem idxF_bd : ∀ (ws : List ByteArray) (b : ByteArray) (i : Nat), -1 ≤ idxF ws b i ∧ idxF ws b i < (i : Int) + ws.length ∧ (0 ≤ idxF ws b i → (i : Int) ≤ idxF ws b i)
  | [], b, i => by unfold idxF; simp only [List.length_nil]; omega
  | w :: t, b, i => by
    unfold idxF
    have := idxF_bd t b (i + 1)
    rw [List.length_cons]
    split
    · omega
    · omega
theorem idxW_bd (ws : List ByteArray) (b : ByteArray) : -1 ≤ idxW ws b ∧ idxW ws b < ws.length := by
  have := idxF_bd ws b 0
  unfold idxW
  omega
theorem idxF_at {ws : List ByteArray} {b : ByteArray} {j : Nat} (hj : j < ws.length) (h : idxW ws b = idxF (ws.drop j) b j) : (if b.toList == ws[j].toList then idxW ws b = (j : Int) else idxW ws b = idxF (ws.drop (j + 1)) b (j + 1)) := by
  rw [List.drop_eq_getElem_cons hj, idxF] at h
  cases he : (b.toList == ws[j].toList) with
  | true => rw [he] at h; exact h
  | false => rw [he] at h; exact h
def strV (ws : List ByteArray) : List Value := ws.map Value.string
theorem strV_at {w : World} {g : Nat} {ws : List ByteArray} (h : Blk w g 9 (strV ws).toArray) {j : Nat} (hj : j < ws.length) : w.cell? ⟨g, j, none⟩ = some (.string ws[j]) := by
  rw [h.cell j]
  simp [strV, List.getElem?_eq_getElem hj]
theorem below_allocW (w : World) (o : Obj) : Below w.heap.size w (w.alloc o) := (Below.refl _ _).alloc (Nat.le_refl _) o
set_option maxRecDepth 100000 in
theorem indexS_any (ws : List ByteArray) (b : ByteArray) (g m : Nat) (W : World) (h : Blk W g 9 (strV ws).toArray) (hm : ws.length ≤ 100) :
    Calls Tryz.prog 81 #[.slice (some ⟨g, 0, none⟩) ws.length m, .string b] W fun e w' => e = .returned (.int .i64 (idxW ws b)) ∧ W = w' := by
  have H := hid h
  have hg := h.lt
  clear h
  go_enter Tryz.func81, Tryz.ntmps81
  go_wp2_with fail
  go_loop [8] (fun i => ∃ j : Nat, j ≤ ws.length ∧ i = .int .i64 (j : Int) ∧ Hid (idxW ws b = idxF (ws.drop j) b j)) (fun i => ws.length - (intOf i).toNat)
  case atStart => exact ⟨0, by omega, rfl, hid rfl⟩
  case round =>
    obtain ⟨j, hj, rfl, HI⟩ := hrel
    by_cases hlt : j < ws.length
    · have d1 : decide (j < ws.length) = true := decide_eq_true hlt
      have d2 : decide ((j : Int) < (ws.length : Int)) = true := decide_eq_true (by omega)
      have c0 := strV_at H.out hlt
      have HN := hid (idxF_at hlt HI.out)
      generalize ws[j] = x at *
      cases hq : (b.toList == x.toList) with
      | true =>
        have HE := hid (show idxW ws b = (j : Int) from by have := HN.out; rw [hq] at this; exact this)
        go_wp2
        go_ret
        exact ⟨ret_int HE.out.symm, rfl⟩
      | false =>
        have HE := hid (show idxW ws b = idxF (ws.drop (j + 1)) b (j + 1) from by have := HN.out; rw [hq] at this; exact this)
        go_wp2
        go_round
        case rel => exact ⟨j + 1, by omega, by go_num, HE⟩
        case measure => simp [intOf]; omega
    · have d1 : decide (j < ws.length) = false := decide_eq_false hlt
      have d2 : decide ((j : Int) < (ws.length : Int)) = false := decide_eq_false (by omega)
      have HE := hid (show idxW ws b = -1 from by rw [HI.out, List.drop_eq_nil_of_le (by omega)]; rfl)
      go_wp2
      go_ret
      exact ⟨ret_int HE.out.symm, rfl⟩
def isS : WV → Bool
  | .s _ => true
  | _ => false
def isN : WV → Bool
  | .n _ => true
  | _ => false
def isT : WV → Bool
  | .t _ => true
  | _ => false
theorem wordW_any (v : WV) (W : World) : Calls Tryz.prog 15 #[wvV v] W fun e w' => e = .returned (.tuple #[.string (sxV v), .bool (isS v)]) ∧ W = w' := by
  cases v with
  | n x =>
    have ta : ∀ w : World, (Instr.typeAssert (.iface 3 (.int .i64 x)) 39 9 true).run Tryz.prog w = .ok (.tuple #[.string ByteArray.empty, .bool false]) w := fun _ => by kernel_rfl
    unfold wvV
    go_enter Tryz.func15, Tryz.ntmps15
    go_wp2
    go_ret2
    exact ⟨rfl, rfl⟩
  | s x =>
    have ta : ∀ w : World, (Instr.typeAssert (.iface 9 (.string x)) 39 9 true).run Tryz.prog w = .ok (.tuple #[.string x, .bool true]) w := fun _ => by kernel_rfl
    unfold wvV
    go_enter Tryz.func15, Tryz.ntmps15
    go_wp2
    go_ret2
    exact ⟨rfl, rfl⟩
  | t x =>
    have ta : ∀ w : World, (Instr.typeAssert (.iface 4 (.bool x)) 39 9 true).run Tryz.prog w = .ok (.tuple #[.string ByteArray.empty, .bool false]) w := fun _ => by kernel_rfl
    unfold wvV
    go_enter Tryz.func15, Tryz.ntmps15
    go_wp2
    go_ret2
    exact ⟨rfl, rfl⟩
theorem numberW_any (v : WV) (W : World) : Calls Tryz.prog 14 #[wvV v] W fun e w' => e = .returned (.tuple #[.int .i64 (nuV v), .bool (isN v)]) ∧ W = w' := by
  cases v with
  | n x =>
    have ta : ∀ w : World, (Instr.typeAssert (.iface 3 (.int .i64 x)) 39 3 true).run Tryz.prog w = .ok (.tuple #[.int .i64 x, .bool true]) w := fun _ => by kernel_rfl
    unfold wvV
    go_enter Tryz.func14, Tryz.ntmps14
    go_wp2
    go_ret2
    exact ⟨rfl, rfl⟩
  | s x =>
    have ta : ∀ w : World, (Instr.typeAssert (.iface 9 (.string x)) 39 3 true).run Tryz.prog w = .ok (.tuple #[.int .i64 0, .bool false]) w := fun _ => by kernel_rfl
    unfold wvV
    go_enter Tryz.func14, Tryz.ntmps14
    go_wp2
    go_ret2
    exact ⟨rfl, rfl⟩
  | t x =>
    have ta : ∀ w : World, (Instr.typeAssert (.iface 4 (.bool x)) 39 3 true).run Tryz.prog w = .ok (.tuple #[.int .i64 0, .bool false]) w := fun _ => by kernel_rfl
    unfold wvV
    go_enter Tryz.func14, Tryz.ntmps14
    go_wp2
    go_ret2
    exact ⟨rfl, rfl⟩
theorem truthW_any (v : WV) (W : World) : Calls Tryz.prog 16 #[wvV v] W fun e w' => e = .returned (.tuple #[.bool (blV v), .bool (isT v)]) ∧ W = w' := by
  cases v with
  | n x =>
    have ta : ∀ w : World, (Instr.typeAssert (.iface 3 (.int .i64 x)) 39 4 true).run Tryz.prog w = .ok (.tuple #[.bool false, .bool false]) w := fun _ => by kernel_rfl
    unfold wvV
    go_enter Tryz.func16, Tryz.ntmps16
    go_wp2
    go_ret2
    exact ⟨rfl, rfl⟩
  | s x =>
    have ta : ∀ w : World, (Instr.typeAssert (.iface 9 (.string x)) 39 4 true).run Tryz.prog w = .ok (.tuple #[.bool false, .bool false]) w := fun _ => by kernel_rfl
    unfold wvV
    go_enter Tryz.func16, Tryz.ntmps16
    go_wp2
    go_ret2
    exact ⟨rfl, rfl⟩
  | t x =>
    have ta : ∀ w : World, (Instr.typeAssert (.iface 4 (.bool x)) 39 4 true).run Tryz.prog w = .ok (.tuple #[.bool x, .bool true]) w := fun _ => by kernel_rfl
    unfold wvV
    go_enter Tryz.func16, Tryz.ntmps16
    go_wp2
    go_ret2
    exact ⟨rfl, rfl⟩
/-- recomp.word -/
theorem wordO_any (v : WV) (ws : List ByteArray) (g m : Nat) (W : World) (h : Blk W g 9 (strV ws).toArray) (hm : ws.length ≤ 100) :
    Calls Tryz.prog 67 #[wvV v, .slice (some ⟨g, 0, none⟩) ws.length m] W fun e w' => e = .returned (.tuple #[.int .i64 (idxW ws (sxV v)), .bool (isS v && decide (0 ≤ idxW ws (sxV v)))]) ∧ W = w' := by
  have WW := hid (wordW_any v W)
  have IX := hid (indexS_any ws (sxV v) g m W h hm)
  generalize wvV v = vv at *
  generalize sxV v = sx at *
  generalize idxW ws sx = ix at *
  generalize ws.length = n at *
  clear h
  generalize isS v = iv at *
  cases iv with
  | true =>
    by_cases h0 : 0 ≤ ix
    · have d1 : decide (0 ≤ ix) = true := decide_eq_true h0
      go_enter Tryz.func67, Tryz.ntmps67
      go_wp2_with fail
      refine (WW.out).mono ?_
      rintro e w1 ⟨rfl, rfl⟩
      go_wp2_with fail
      refine (IX.out).mono ?_
      rintro e w1 ⟨rfl, rfl⟩
      go_wp2
      go_ret2
      exact ⟨by rw [d1]; rfl, rfl⟩
    · have d1 : decide (0 ≤ ix) = false := decide_eq_false h0
      go_enter Tryz.func67, Tryz.ntmps67
      go_wp2_with fail
      refine (WW.out).mono ?_
      rintro e w1 ⟨rfl, rfl⟩
      go_wp2_with fail
      refine (IX.out).mono ?_
      rintro e w1 ⟨rfl, rfl⟩
      go_wp2
      go_ret2
      exact ⟨by rw [d1]; rfl, rfl⟩
  | false =>
    go_enter Tryz.func67, Tryz.ntmps67
    go_wp2_with fail
    refine (WW.out).mono ?_
    rintro e w1 ⟨rfl, rfl⟩
    go_wp2_with fail
    refine (IX.out).mono ?_
    rintro e w1 ⟨rfl, rfl⟩
    go_wp2
    go_ret2
    exact ⟨rfl, rfl⟩
def numOk (v : WV) (least : Int) : Bool := isN v && (decide (least ≤ nuV v) && decide (nuV v ≤ 65535))
theorem numberO_any (v : WV) (least : Int) (W : World) : Calls Tryz.prog 68 #[wvV v, .int .i64 least] W fun e w' => e = .returned (.tuple #[.int .i64 (nuV v), .bool (numOk v least)]) ∧ W = w' := by
  have NN := hid (numberW_any v W)
  unfold numOk
  generalize wvV v = vv at *
  generalize nuV v = n at *
  generalize isN v = iv at *
  cases iv with
  | true =>
    by_cases h0 : least ≤ n
    · have d1 : decide (least ≤ n) = true := decide_eq_true h0
      by_cases h1 : n ≤ 65535
      · have d2 : decide (n ≤ 65535) = true := decide_eq_true h1
        go_enter Tryz.func68, Tryz.ntmps68
        go_wp2_with fail
        refine (NN.out).mono ?_
        rintro e w1 ⟨rfl, rfl⟩
        go_wp2
        go_ret2
        exact ⟨by rw [d1, d2]; rfl, rfl⟩
      · have d2 : decide (n ≤ 65535) = false := decide_eq_false h1
        go_enter Tryz.func68, Tryz.ntmps68
        go_wp2_with fail
        refine (NN.out).mono ?_
        rintro e w1 ⟨rfl, rfl⟩
        go_wp2
        go_ret2
        exact ⟨by rw [d1, d2]; rfl, rfl⟩
    · have d1 : decide (least ≤ n) = false := decide_eq_false h0
      go_enter Tryz.func68, Tryz.ntmps68
      go_wp2_with fail
      refine (NN.out).mono ?_
      rintro e w1 ⟨rfl, rfl⟩
      go_wp2
      go_ret2
      exact ⟨by rw [d1]; rfl, rfl⟩
  | false =>
    go_enter Tryz.func68, Tryz.ntmps68
    go_wp2_with fail
    refine (NN.out).mono ?_
    rintro e w1 ⟨rfl, rfl⟩
    go_wp2
    go_ret2
    exact ⟨rfl, rfl⟩
def amgV (ws : List ByteArray) (v : WV) : Int := if kdV v = 2 then idxW ws (sxV v) else -1
def numV (v : WV) (least : Int) : Int := if kdV v = 1 ∧ least ≤ nuV v ∧ nuV v ≤ 65535 then nuV v else -1
end Go.Proofs.YtfcppchjikmioaaGreat
