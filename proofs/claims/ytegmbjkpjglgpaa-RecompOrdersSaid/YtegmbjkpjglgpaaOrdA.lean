/-
  Words among words; recomp.word, number; burnishref26.among, number.
-/
import Derived.Test.YtegmbjkpjglgpaaWpU
namespace Go.Proofs.Ytegmbjkpjglgpaa
open Go.RowKit Go.Lib

def idxF : List ByteArray → ByteArray → Nat → Int
  | [], _, _ => -1
  | w :: t, b, i => if b.toList == w.toList then (i : Int) else idxF t b (i + 1)
def idxW (ws : List ByteArray) (b : ByteArray) : Int := idxF ws b 0
theorem idxF_bd : ∀ (ws : List ByteArray) (b : ByteArray) (i : Nat), -1 ≤ idxF ws b i ∧ idxF ws b i < (i : Int) + ws.length ∧ (0 ≤ idxF ws b i → (i : Int) ≤ idxF ws b i)
  | [], b, i => by unfold idxF; simp only [List.length_nil]; omega
  | w :: t, b, i => by
    unfold idxF
    have := idxF_bd t b (i + 1)
    rw [List.length_cons]
    split
    · omega
    · omega
theorem idxW_bd (ws : List ByteArray) (b : ByteArray) : -1 ≤ idxW ws b ∧ idxW ws b < ws.length := by
  have := idxF_bd ws b 0
  unfold idxW
  omega
theorem idxF_at {ws : List ByteArray} {b : ByteArray} {j : Nat} (hj : j < ws.length) (h : idxW ws b = idxF (ws.drop j) b j) : (if b.toList == ws[j].toList then idxW ws b = (j : Int) else idxW ws b = idxF (ws.drop (j + 1)) b (j + 1)) := by
  rw [List.drop_eq_getElem_cons hj, idxF] at h
  cases he : (b.toList == ws[j].toList) with
  | true => rw [he] at h; exact h
  | false => rw [he] at h; exact h
def strV (ws : List ByteArray) : List Value := ws.map Value.string
theorem strV_at {w : World} {g : Nat} {ws : List ByteArray} (h : Blk w g 9 (strV ws).toArray) {j : Nat} (hj : j < ws.length) : w.cell? ⟨g, j, none⟩ = some (.string ws[j]) := by
  rw [h.cell j]
  simp [strV, List.getElem?_eq_getElem hj]
theorem below_allocW (w : World) (o : Obj) : Below w.heap.size w (w.alloc o) := (Below.refl _ _).alloc (Nat.le_refl _) o
set_option maxRecDepth 100000 in
theorem indexS_any (ws : List ByteArray) (b : ByteArray) (g m : Nat) (W : World) (h : Blk W g 9 (strV ws).toArray) (hm : ws.length ≤ 100) :
    Calls Try.prog 111 #[.slice (some ⟨g, 0, none⟩) ws.length m, .string b] W fun e w' => e = .returned (.int .i64 (idxW ws b)) ∧ W = w' := by
  have H := hid h
  have hg := h.lt
  clear h
  go_enter Try.func111, Try.ntmps111
  go_wp2_with fail
  go_loop [8] (fun i => ∃ j : Nat, j ≤ ws.length ∧ i = .int .i64 (j : Int) ∧ Hid (idxW ws b = idxF (ws.drop j) b j)) (fun i => ws.length - (intOf i).toNat)
  case atStart => exact ⟨0, by omega, rfl, hid rfl⟩
  case round =>
    obtain ⟨j, hj, rfl, HI⟩ := hrel
    by_cases hlt : j < ws.length
    · have d1 : decide (j < ws.length) = true := decide_eq_true hlt
      have d2 : decide ((j : Int) < (ws.length : Int)) = true := decide_eq_true (by omega)
      have c0 := strV_at H.out hlt
      have HN := hid (idxF_at hlt HI.out)
      generalize ws[j] = x at *
      cases hq : (b.toList == x.toList) with
      | true =>
        have HE := hid (show idxW ws b = (j : Int) from by have := HN.out; rw [hq] at this; exact this)
        go_wp2
        go_ret
        exact ⟨ret_int HE.out.symm, rfl⟩
      | false =>
        have HE := hid (show idxW ws b = idxF (ws.drop (j + 1)) b (j + 1) from by have := HN.out; rw [hq] at this; exact this)
        go_wp2
        go_round
        case rel => exact ⟨j + 1, by omega, by go_num, HE⟩
        case measure => simp [intOf]; omega
    · have d1 : decide (j < ws.length) = false := decide_eq_false hlt
      have d2 : decide ((j : Int) < (ws.length : Int)) = false := decide_eq_false (by omega)
      have HE := hid (show idxW ws b = -1 from by rw [HI.out, List.drop_eq_nil_of_le (by omega)]; rfl)
      go_wp2
      go_ret
      exact ⟨ret_int HE.out.symm, rfl⟩
def isS : WV → Bool
  | .s _ => true
  | _ => false
def isN : WV → Bool
  | .n _ => true
  | _ => false
def isT : WV → Bool
  | .t _ => true
  | _ => false
theorem wordW_any (v : WV) (W : World) : Calls Try.prog 110 #[wvV v] W fun e w' => e = .returned (.tuple #[.string (sxV v), .bool (isS v)]) ∧ W = w' := by
  cases v with
  | n x =>
    have ta : ∀ w : World, (Instr.typeAssert (.iface 3 (.int .i64 x)) 73 9 true).run Try.prog w = .ok (.tuple #[.string ByteArray.empty, .bool false]) w := fun _ => by kernel_rfl
    unfold wvV
    go_enter Try.func110, Try.ntmps110
    go_wp2
    go_ret2
    exact ⟨rfl, rfl⟩
  | s x =>
    have ta : ∀ w : World, (Instr.typeAssert (.iface 9 (.string x)) 73 9 true).run Try.prog w = .ok (.tuple #[.string x, .bool true]) w := fun _ => by kernel_rfl
    unfold wvV
    go_enter Try.func110, Try.ntmps110
    go_wp2
    go_ret2
    exact ⟨rfl, rfl⟩
  | t x =>
    have ta : ∀ w : World, (Instr.typeAssert (.iface 4 (.bool x)) 73 9 true).run Try.prog w = .ok (.tuple #[.string ByteArray.empty, .bool false]) w := fun _ => by kernel_rfl
    unfold wvV
    go_enter Try.func110, Try.ntmps110
    go_wp2
    go_ret2
    exact ⟨rfl, rfl⟩
theorem numberW_any (v : WV) (W : World) : Calls Try.prog 112 #[wvV v] W fun e w' => e = .returned (.tuple #[.int .i64 (nuV v), .bool (isN v)]) ∧ W = w' := by
  cases v with
  | n x =>
    have ta : ∀ w : World, (Instr.typeAssert (.iface 3 (.int .i64 x)) 73 3 true).run Try.prog w = .ok (.tuple #[.int .i64 x, .bool true]) w := fun _ => by kernel_rfl
    unfold wvV
    go_enter Try.func112, Try.ntmps112
    go_wp2
    go_ret2
    exact ⟨rfl, rfl⟩
  | s x =>
    have ta : ∀ w : World, (Instr.typeAssert (.iface 9 (.string x)) 73 3 true).run Try.prog w = .ok (.tuple #[.int .i64 0, .bool false]) w := fun _ => by kernel_rfl
    unfold wvV
    go_enter Try.func112, Try.ntmps112
    go_wp2
    go_ret2
    exact ⟨rfl, rfl⟩
  | t x =>
    have ta : ∀ w : World, (Instr.typeAssert (.iface 4 (.bool x)) 73 3 true).run Try.prog w = .ok (.tuple #[.int .i64 0, .bool false]) w := fun _ => by kernel_rfl
    unfold wvV
    go_enter Try.func112, Try.ntmps112
    go_wp2
    go_ret2
    exact ⟨rfl, rfl⟩
theorem truthW_any (v : WV) (W : World) : Calls Try.prog 80 #[wvV v] W fun e w' => e = .returned (.tuple #[.bool (blV v), .bool (isT v)]) ∧ W = w' := by
  cases v with
  | n x =>
    have ta : ∀ w : World, (Instr.typeAssert (.iface 3 (.int .i64 x)) 73 4 true).run Try.prog w = .ok (.tuple #[.bool false, .bool false]) w := fun _ => by kernel_rfl
    unfold wvV
    go_enter Try.func80, Try.ntmps80
    go_wp2
    go_ret2
    exact ⟨rfl, rfl⟩
  | s x =>
    have ta : ∀ w : World, (Instr.typeAssert (.iface 9 (.string x)) 73 4 true).run Try.prog w = .ok (.tuple #[.bool false, .bool false]) w := fun _ => by kernel_rfl
    unfold wvV
    go_enter Try.func80, Try.ntmps80
    go_wp2
    go_ret2
    exact ⟨rfl, rfl⟩
  | t x =>
    have ta : ∀ w : World, (Instr.typeAssert (.iface 4 (.bool x)) 73 4 true).run Try.prog w = .ok (.tuple #[.bool x, .bool true]) w := fun _ => by kernel_rfl
    unfold wvV
    go_enter Try.func80, Try.ntmps80
    go_wp2
    go_ret2
    exact ⟨rfl, rfl⟩
/-- recomp.word -/
theorem wordO_any (v : WV) (ws : List ByteArray) (g m : Nat) (W : World) (h : Blk W g 9 (strV ws).toArray) (hm : ws.length ≤ 100) :
    Calls Try.prog 78 #[wvV v, .slice (some ⟨g, 0, none⟩) ws.length m] W fun e w' => e = .returned (.tuple #[.int .i64 (idxW ws (sxV v)), .bool (isS v && decide (0 ≤ idxW ws (sxV v)))]) ∧ W = w' := by
  have WW := hid (wordW_any v W)
  have IX := hid (indexS_any ws (sxV v) g m W h hm)
  generalize wvV v = vv at *
  generalize sxV v = sx at *
  generalize idxW ws sx = ix at *
  generalize ws.length = n at *
  clear h
  generalize isS v = iv at *
  cases iv with
  | true =>
    by_cases h0 : 0 ≤ ix
    · have d1 : decide (0 ≤ ix) = true := decide_eq_true h0
      go_enter Try.func78, Try.ntmps78
      go_wp2_with fail
      refine (WW.out).mono ?_
      rintro e w1 ⟨rfl, rfl⟩
      go_wp2_with fail
      refine (IX.out).mono ?_
      rintro e w1 ⟨rfl, rfl⟩
      go_wp2
      go_ret2
      exact ⟨by rw [d1]; rfl, rfl⟩
    · have d1 : decide (0 ≤ ix) = false := decide_eq_false h0
      go_enter Try.func78, Try.ntmps78
      go_wp2_with fail
      refine (WW.out).mono ?_
      rintro e w1 ⟨rfl, rfl⟩
      go_wp2_with fail
      refine (IX.out).mono ?_
      rintro e w1 ⟨rfl, rfl⟩
      go_wp2
      go_ret2
      exact ⟨by rw [d1]; rfl, rfl⟩
  | false =>
    go_enter Try.func78, Try.ntmps78
    go_wp2_with fail
    refine (WW.out).mono ?_
    rintro e w1 ⟨rfl, rfl⟩
    go_wp2_with fail
    refine (IX.out).mono ?_
    rintro e w1 ⟨rfl, rfl⟩
    go_wp2
    go_ret2
    exact ⟨rfl, rfl⟩
def numOk (v : WV) (least : Int) : Bool := isN v && (decide (least ≤ nuV v) && decide (nuV v ≤ 65535))
theorem numberO_any (v : WV) (least : Int) (W : World) : Calls Try.prog 81 #[wvV v, .int .i64 least] W fun e w' => e = .returned (.tuple #[.int .i64 (nuV v), .bool (numOk v least)]) ∧ W = w' := by
  have NN := hid (numberW_any v W)
  unfold numOk
  generalize wvV v = vv at *
  generalize nuV v = n at *
  generalize isN v = iv at *
  cases iv with
  | true =>
    by_cases h0 : least ≤ n
    · have d1 : decide (least ≤ n) = true := decide_eq_true h0
      by_cases h1 : n ≤ 65535
      · have d2 : decide (n ≤ 65535) = true := decide_eq_true h1
        go_enter Try.func81, Try.ntmps81
        go_wp2_with fail
        refine (NN.out).mono ?_
        rintro e w1 ⟨rfl, rfl⟩
        go_wp2
        go_ret2
        exact ⟨by rw [d1, d2]; rfl, rfl⟩
      · have d2 : decide (n ≤ 65535) = false := decide_eq_false h1
        go_enter Try.func81, Try.ntmps81
        go_wp2_with fail
        refine (NN.out).mono ?_
        rintro e w1 ⟨rfl, rfl⟩
        go_wp2
        go_ret2
        exact ⟨by rw [d1, d2]; rfl, rfl⟩
    · have d1 : decide (least ≤ n) = false := decide_eq_false h0
      go_enter Try.func81, Try.ntmps81
      go_wp2_with fail
      refine (NN.out).mono ?_
      rintro e w1 ⟨rfl, rfl⟩
      go_wp2
      go_ret2
      exact ⟨by rw [d1]; rfl, rfl⟩
  | false =>
    go_enter Try.func81, Try.ntmps81
    go_wp2_with fail
    refine (NN.out).mono ?_
    rintro e w1 ⟨rfl, rfl⟩
    go_wp2
    go_ret2
    exact ⟨rfl, rfl⟩
def amgV (ws : List ByteArray) (v : WV) : Int := if kdV v = 2 then idxW ws (sxV v) else -1
set_option maxRecDepth 100000 in
set_option maxHeartbeats 2000000 in
theorem among_any (x : Wsh) (ws : List ByteArray) (g m : Nat) (W : World) (h : Blk W g 9 (strV ws).toArray) (hm : ws.length ≤ 100) :
    Calls Try.prog 43 #[rwV x, .slice (some ⟨g, 0, none⟩) ws.length m] W fun e w' => e = .returned (.int .i64 (amgV ws x.2)) ∧ Below W.heap.size W w' := by
  obtain ⟨nm, v⟩ := x
  have HA := hid (show amgV ws v = if kdV v = 2 then idxW ws (sxV v) else -1 from rfl)
  unfold rwV
  dsimp only
  generalize amgV ws v = av at *
  generalize kdV v = kd at *
  generalize nuV v = nu at *
  generalize sxV v = sx at *
  generalize blV v = bl at *
  obtain ⟨w1, hw1⟩ : ∃ w1, w1 = W.alloc (.cells #[.string nm, .int .i64 kd, .int .i64 nu, .string sx, .bool bl] 77) := ⟨_, rfl⟩
  have hb1 : Below W.heap.size W w1 := hw1 ▸ below_allocW W _
  have HB := hid (h.below hb1 h.lt)
  have hz1 : w1.heap.size = W.heap.size + 1 := by rw [hw1]; simp
  have q1 : w1.cell? ⟨W.heap.size, 1, none⟩ = some (.int .i64 kd) := by rw [hw1]; simp
  have q3 : w1.cell? ⟨W.heap.size, 3, none⟩ = some (.string sx) := by rw [hw1]; simp
  have hg : g < W.heap.size := h.lt
  have hzw : W.heap.size < w1.heap.size := by omega
  have hgw : g < w1.heap.size := by omega
  have B1 := hid hb1
  clear h hb1 hz1
  go_enter Try.func43, Try.ntmps43
  go_upto_region 1 with (fail)
  rw [← hw1]
  clear hw1
  go_wp2_with fail
  by_cases hk : kd = 2
  · have e2 : (kd == 2) = true := by rw [beq_iff_eq]; exact hk
    have HAV := hid (HA.out.trans (if_pos hk))
    clear hk
    go_loopw [5] (fun i wr => ∃ j : Nat, j ≤ ws.length ∧ i = .int .i64 (j : Int) ∧ Hid (idxW ws sx = idxF (ws.drop j) sx j) ∧ ∃ nd, wr = w1.drewN nd) (fun i _ => ws.length - (intOf i).toNat)
    case atStart => exact ⟨0, by omega, rfl, hid rfl, 0, rfl⟩
    case round =>
      obtain ⟨j, hj, rfl, HI, nd, rfl⟩ := hrel
      by_cases hlt : j < ws.length
      · have d1 : decide (j < ws.length) = true := decide_eq_true hlt
        have d2 : decide ((j : Int) < (ws.length : Int)) = true := decide_eq_true (by omega)
        have c0 := strV_at HB.out hlt
        have HN := hid (idxF_at hlt HI.out)
        generalize ws[j] = y at *
        go_upto_region 4 with (fail)
        first | go_quiet (fail) | fail
        cases hq : (sx.toList == y.toList) with
        | true =>
          have HE := hid (show idxW ws sx = (j : Int) from by have := HN.out; rw [hq] at this; exact this)
          go_wp2
          go_ret
          exact ⟨ret_int (by rw [HAV.out, HE.out]), below_drewN (below_drewN B1.out _) _⟩
        | false =>
          have HE := hid (show idxW ws sx = idxF (ws.drop (j + 1)) sx (j + 1) from by have := HN.out; rw [hq] at this; exact this)
          go_wp2
          go_roundw
          case rel => exact ⟨j + 1, by omega, by go_num, HE, nd + nq, rfl⟩
          case measure => simp [intOf]; omega
      · have d1 : decide (j < ws.length) = false := decide_eq_false hlt
        have d2 : decide ((j : Int) < (ws.length : Int)) = false := decide_eq_false (by omega)
        have HE := hid (show idxW ws sx = -1 from by rw [HI.out, List.drop_eq_nil_of_le (by omega)]; rfl)
        go_wp2
        go_ret
        exact ⟨ret_int (by rw [HAV.out, HE.out]), below_drewN B1.out _⟩
  · have e2 : (kd == 2) = false := by rw [beq_eq_false_iff_ne]; exact hk
    have HAV := hid (HA.out.trans (if_neg hk))
    clear hk
    go_loopw [5] (fun i wr => ∃ j : Nat, j ≤ ws.length ∧ i = .int .i64 (j : Int) ∧ ∃ nd, wr = w1.drewN nd) (fun i _ => ws.length - (intOf i).toNat)
    case atStart => exact ⟨0, by omega, rfl, 0, rfl⟩
    case round =>
      obtain ⟨j, hj, rfl, nd, rfl⟩ := hrel
      by_cases hlt : j < ws.length
      · have d1 : decide (j < ws.length) = true := decide_eq_true hlt
        have d2 : decide ((j : Int) < (ws.length : Int)) = true := decide_eq_true (by omega)
        go_upto_region 4 with (fail)
        first | go_quiet (fail) | fail
        go_wp2
        go_roundw
        case rel => exact ⟨j + 1, by omega, by go_num, nd + nq, rfl⟩
        case measure => simp [intOf]; omega
      · have d1 : decide (j < ws.length) = false := decide_eq_false hlt
        have d2 : decide ((j : Int) < (ws.length : Int)) = false := decide_eq_false (by omega)
        go_wp2
        go_ret
        exact ⟨ret_int (by rw [HAV.out]), below_drewN B1.out _⟩
def numV (v : WV) (least : Int) : Int := if kdV v = 1 ∧ least ≤ nuV v ∧ nuV v ≤ 65535 then nuV v else -1
set_option maxRecDepth 100000 in
theorem numberR_any (x : Wsh) (least : Int) (W : World) : Calls Try.prog 45 #[rwV x, .int .i64 least] W fun e w' => e = .returned (.int .i64 (numV x.2 least)) ∧ Below W.heap.size W w' := by
  obtain ⟨nm, v⟩ := x
  have HA := hid (show numV v least = if kdV v = 1 ∧ least ≤ nuV v ∧ nuV v ≤ 65535 then nuV v else -1 from rfl)
  unfold rwV
  dsimp only
  generalize numV v least = av at *
  generalize kdV v = kd at *
  generalize nuV v = nu at *
  generalize sxV v = sx at *
  generalize blV v = bl at *
  by_cases h1 : kd = 1
  · have e1 : (kd != 1) = false := by rw [bne_eq_false_iff_eq]; exact h1
    by_cases h2 : nu < least
    · have e2 : decide (nu < least) = true := decide_eq_true h2
      have HV := hid (HA.out.trans (if_neg (by omega)))
      clear h1 h2
      go_enter Try.func45, Try.ntmps45
      go_wp2
      go_ret
      exact ⟨ret_int HV.out.symm, below_allocW _ _⟩
    · have e2 : decide (nu < least) = false := decide_eq_false h2
      by_cases h3 : 65535 < nu
      · have e3 : decide (65535 < nu) = true := decide_eq_true h3
        have HV := hid (HA.out.trans (if_neg (by omega)))
        clear h1 h2 h3
        go_enter Try.func45, Try.ntmps45
        go_wp2
        go_ret
        exact ⟨ret_int HV.out.symm, below_allocW _ _⟩
      · have e3 : decide (65535 < nu) = false := decide_eq_false h3
        have HV := hid (HA.out.trans (if_pos (by omega)))
        clear h1 h2 h3
        go_enter Try.func45, Try.ntmps45
        go_wp2
        go_ret
        exact ⟨ret_int HV.out.symm, below_allocW _ _⟩
  · have e1 : (kd != 1) = true := by rw [bne_iff_ne]; exact h1
    have HV := hid (HA.out.trans (if_neg (by omega)))
    clear h1
    go_enter Try.func45, Try.ntmps45
    go_wp2
    go_ret
    exact ⟨ret_int HV.out.symm, below_allocW _ _⟩
end Go.Proofs.Ytegmbjkpjglgpaa
