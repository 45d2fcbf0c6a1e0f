/-
  burnishref15.Pass and Size: the columns and rows of a pass, counted.
-/
import Derived.Test.YtphhoihhmphbdaaLaceA
import Derived.Deep.CutRange
import Derived.Deep.DeepCutAuto
namespace Go.Proofs.Ytphhoihhmphbdaa
open Go.RowKit

/-- in which pass a pixel stands -/
def passT : List (List Nat) := [[0, 5, 3, 5, 1, 5, 3, 5], [6, 6, 6, 6, 6, 6, 6, 6], [4, 5, 4, 5, 4, 5, 4, 5], [6, 6, 6, 6, 6, 6, 6, 6], [2, 5, 3, 5, 2, 5, 3, 5], [6, 6, 6, 6, 6, 6, 6, 6], [4, 5, 4, 5, 4, 5, 4, 5], [6, 6, 6, 6, 6, 6, 6, 6]]
def passOf (x y : Nat) : Nat := (passT.getD y []).getD (x % 8) 0
theorem nat8 {m : Nat} (h : m < 8) : m = 0 ∨ m = 1 ∨ m = 2 ∨ m = 3 ∨ m = 4 ∨ m = 5 ∨ m = 6 ∨ m = 7 := by omega
theorem pass_le (x y : Nat) (hy : y < 8) : passOf x y ≤ 6 := by
  unfold passOf
  have hm : x % 8 < 8 := Nat.mod_lt _ (by omega)
  rcases nat8 hy with rfl | rfl | rfl | rfl | rfl | rfl | rfl | rfl <;> rcases nat8 hm with h | h | h | h | h | h | h | h <;> rw [h] <;> decide
def passS : List ByteArray := [{ data := #[48, 53, 51, 53, 49, 53, 51, 53] }, { data := #[54, 54, 54, 54, 54, 54, 54, 54] }, { data := #[52, 53, 52, 53, 52, 53, 52, 53] }, { data := #[54, 54, 54, 54, 54, 54, 54, 54] }, { data := #[50, 53, 51, 53, 50, 53, 51, 53] }, { data := #[54, 54, 54, 54, 54, 54, 54, 54] }, { data := #[52, 53, 52, 53, 52, 53, 52, 53] }, { data := #[54, 54, 54, 54, 54, 54, 54, 54] }]
theorem pass_ix (y m : Nat) (hy : y < 8) (hm : m < 8) (W : World) : (Instr.index 9 (.string (passS.getD y ByteArray.empty)) (.int .i64 (m : Nat))).run Try.prog W = .ok (.int .u8 (((passT.getD y []).getD m 0 : Nat) + 48)) W := by
  rcases nat8 hy with rfl | rfl | rfl | rfl | rfl | rfl | rfl | rfl <;> rcases nat8 hm with rfl | rfl | rfl | rfl | rfl | rfl | rfl | rfl <;> kernel_rfl
set_option maxRecDepth 100000 in
set_option maxHeartbeats 4000000 in
theorem pass_any (x y : Nat) (hx : x ≤ 65535) (hy : y < 8) (W : World) :
    Calls Try.prog 91 #[.int .i64 (x : Nat), .int .i64 (y : Nat)] W fun e w' => e = .returned (.int .i64 (passOf x y : Nat)) ∧ Below W.heap.size W w' := by
  have hm : x % 8 < 8 := Nat.mod_lt _ (by omega)
  have hle := pass_le x y hy
  have ix := pass_ix y (x % 8) hy hm
  have Hd : Hid (passOf x y = (passT.getD y []).getD (x % 8) 0) := rfl
  have em : (x : Int).tmod 8 = ((x % 8 : Nat) : Int) := by rw [Int.tmod_eq_emod_of_nonneg (by omega)]; omega
  have em2 : (x : Int) % 8 = ((x % 8 : Nat) : Int) := by omega
  rw [← Hd.out] at ix
  clear Hd
  generalize passOf x y = v at *
  generalize x % 8 = m at *
  rcases nat8 hy with rfl | rfl | rfl | rfl | rfl | rfl | rfl | rfl
  all_goals
    have ix2 := ix
    clear ix
    unfold passS at ix2
    simp only [List.getD_cons_zero, List.getD_cons_succ] at ix2
    go_enter Try.func91, Try.ntmps91
    go_wp2
    go_ret
    exact ⟨ret_int (by omega), (Below.refl _ _).alloc (Nat.le_refl _) _⟩

/-- how many of the first n columns of row y stand in pass p -/
def colsR (p y : Nat) : Nat → Nat
  | 0 => 0
  | n + 1 => if passOf n y = p then colsR p y n + 1 else colsR p y n
theorem colsR_le (p y : Nat) : ∀ n : Nat, colsR p y n ≤ n
  | 0 => Nat.le_refl _
  | n + 1 => by
    have := colsR_le p y n
    unfold colsR
    split <;> omega
/-- how many of the rows y, y + 8, .. there are -/
def rowsR (h y : Nat) : Nat := (h + 7 - y) / 8
/-- the columns and rows behind y rows of the table -/
def stR (w h p : Nat) : Nat → Nat × Nat
  | 0 => (0, 0)
  | y + 1 => (if 0 < colsR p y w ∧ (stR w h p y).1 = 0 ∧ y < h then colsR p y w else (stR w h p y).1, if 0 < colsR p y w then (stR w h p y).2 + rowsR h y else (stR w h p y).2)
theorem stR_bd (w h p : Nat) (hh : h ≤ 65535) : ∀ y : Nat, y ≤ 8 → (stR w h p y).1 ≤ w ∧ (stR w h p y).2 ≤ 8193 * y
  | 0, _ => by simp [stR]
  | y + 1, hy => by
    obtain ⟨h1, h2⟩ := stR_bd w h p hh y (by omega)
    have h3 := colsR_le p y w
    have h4 : rowsR h y ≤ 8193 := by unfold rowsR; omega
    have e1 : (stR w h p (y + 1)).1 = if 0 < colsR p y w ∧ (stR w h p y).1 = 0 ∧ y < h then colsR p y w else (stR w h p y).1 := rfl
    have e2 : (stR w h p (y + 1)).2 = if 0 < colsR p y w then (stR w h p y).2 + rowsR h y else (stR w h p y).2 := rfl
    rw [e1, e2]
    generalize rowsR h y = r at *
    generalize colsR p y w = c at *
    generalize (stR w h p y).1 = sa at *
    generalize (stR w h p y).2 = sb at *
    clear e1 e2
    constructor <;> split <;> omega
/-- a pass's columns and rows, as they are counted -/
def passR (w h p : Nat) : Nat × Nat := if (stR w h p 8).1 = 0 ∨ (stR w h p 8).2 = 0 then (0, 0) else stR w h p 8

set_option maxRecDepth 100000 in
set_option maxHeartbeats 16000000 in
theorem rsize15_any (w h p : Nat) (w1 : 1 ≤ w) (w2 : w ≤ 65535) (h1 : 1 ≤ h) (h2 : h ≤ 65535) (hp : p < 7) (W : World) :
    Calls Try.prog 90 #[.int .i64 (w : Nat), .int .i64 (h : Nat), .int .i64 (p : Nat)] W fun e w' => e = .returned (.tuple #[.int .i64 ((passR w h p).1 : Nat), .int .i64 ((passR w h p).2 : Nat)]) ∧ Below W.heap.size W w' := by
  have d1 : decide ((w : Int) < 1) = false := decide_eq_false (by omega)
  have d2 : decide ((h : Int) < 1) = false := decide_eq_false (by omega)
  have d3 : decide (65535 < (w : Int)) = false := decide_eq_false (by omega)
  have d4 : decide (65535 < (h : Int)) = false := decide_eq_false (by omega)
  have d5 : decide ((p : Int) < 0) = false := decide_eq_false (by omega)
  have d6 : decide (6 < (p : Int)) = false := decide_eq_false (by omega)
  go_enter Try.func90, Try.ntmps90
  go_upto_region 6 with (fail)
  clear d1 d2 d3 d4 d5 d6
  go_loopw [8, 9, 10] (fun a b y wr => ∃ k : Nat, k ≤ 8 ∧ y = .int .i64 k ∧ a = .int .i64 ((stR w h p k).1 : Nat) ∧ b = .int .i64 ((stR w h p k).2 : Nat) ∧ Below W.heap.size W wr) (fun _ _ y _ => 8 - (intOf y).toNat)
  case atStart => exact ⟨0, by omega, rfl, rfl, rfl, Below.refl _ _⟩
  case round =>
    obtain ⟨y, hy, rfl, rfl, rfl, hb⟩ := hrel
    have Hb := hid hb
    clear hb
    obtain ⟨s1, s2⟩ := stR_bd w h p h2 y hy
    by_cases hlt : y < 8
    · have Hst := hid (show stR w h p (y + 1) = (if 0 < colsR p y w ∧ (stR w h p y).1 = 0 ∧ y < h then colsR p y w else (stR w h p y).1, if 0 < colsR p y w then (stR w h p y).2 + rowsR h y else (stR w h p y).2) from rfl)
      generalize (stR w h p y).1 = sa at *
      generalize (stR w h p y).2 = sb at *
      have d8 : decide ((y : Int) < 8) = true := decide_eq_true (by omega)
      go_upto_region 10 with (fail)
      go_loopw [11, 12] (fun c x wi => ∃ n : Nat, n ≤ w ∧ x = .int .i64 n ∧ c = .int .i64 (colsR p y n : Nat) ∧ Below W.heap.size W wi) (fun _ x _ => w - (intOf x).toNat)
      case atStart => exact ⟨0, by omega, rfl, rfl, Hb.out⟩
      case round =>
        obtain ⟨n, hn, rfl, rfl, hb⟩ := hrel
        have Hb := hid hb
        clear hb
        have hcl := colsR_le p y n
        by_cases hnl : n < w
        · have Hc := hid (show colsR p y (n + 1) = if passOf n y = p then colsR p y n + 1 else colsR p y n from rfl)
          generalize colsR p y n = cn at *
          go_wp2_with fail
          refine (pass_any n y (by omega) hlt _).mono ?_
          rintro e w3 ⟨rfl, hb⟩
          have Hb3 := hid (Hb.out.trans (hb.mono Hb.out.size))
          clear hb
          by_cases he : passOf n y = p
          · have hd : ((passOf n y : Int) == (p : Int)) = true := beq_iff_eq.2 (by omega)
            have Hc1 := hid (Hc.out.trans (if_pos he))
            clear he
            go_wp2
            go_roundw
            case rel => exact ⟨n + 1, by omega, by go_num, by rw [Hc1.out]; go_num, Hb3.out⟩
            case measure => simp [intOf]; omega
          · have hd : ((passOf n y : Int) == (p : Int)) = false := beq_eq_false_iff_ne.2 (by omega)
            have Hc1 := hid (Hc.out.trans (if_neg he))
            clear he
            go_wp2
            go_roundw
            case rel => exact ⟨n + 1, by omega, by go_num, by rw [Hc1.out], Hb3.out⟩
            case measure => simp [intOf]; omega
        · obtain rfl : w = n := by omega
          generalize colsR p y w = cn at *
          have Hsa := hid (show (stR w h p (y + 1)).1 = if 0 < cn ∧ sa = 0 ∧ y < h then cn else sa by rw [Hst.out])
          have Hsb := hid (show (stR w h p (y + 1)).2 = if 0 < cn then sb + rowsR h y else sb by rw [Hst.out])
          go_upto_region 14 with (fail)
          go_cut [62] from 52 to 62 (fun a wc => a = .bool (decide (0 < cn ∧ sa = 0 ∧ y < h)) ∧ wr = wc)
          case first =>
            by_cases hc0 : 0 < cn
            · have e1 : decide (0 < (cn : Int)) = true := decide_eq_true (by omega)
              have e1' : decide (0 < cn) = true := decide_eq_true hc0
              by_cases hs0 : sa = 0
              · subst hs0
                by_cases hyh : y < h
                · have e3' : decide (y < h) = true := decide_eq_true hyh
                  have Hx := hid (show decide (0 < cn ∧ 0 = 0 ∧ y < h) = true from decide_eq_true ⟨hc0, rfl, hyh⟩)
                  clear hc0 hyh
                  go_wp2
                  go_meet
                  exact ⟨by rw [Hx.out], rfl⟩
                · have e3' : decide (y < h) = false := decide_eq_false hyh
                  have Hx := hid (show decide (0 < cn ∧ 0 = 0 ∧ y < h) = false from decide_eq_false (fun hh => hyh hh.2.2))
                  clear hc0 hyh
                  go_wp2
                  go_meet
                  exact ⟨by rw [Hx.out], rfl⟩
              · have e2 : ((sa : Int) == 0) = false := beq_eq_false_iff_ne.2 (by omega)
                have Hx := hid (show decide (0 < cn ∧ sa = 0 ∧ y < h) = false from decide_eq_false (fun hh => hs0 hh.2.1))
                clear hc0 hs0
                go_wp2
                go_meet
                exact ⟨by rw [Hx.out], rfl⟩
            · obtain rfl : cn = 0 := by omega
              have Hx := hid (show decide (0 < 0 ∧ sa = 0 ∧ y < h) = false from decide_eq_false (fun hh => absurd hh.1 (by omega)))
              clear hc0
              go_wp2
              go_meet
              exact ⟨by rw [Hx.out], rfl⟩
          case rest =>
          obtain ⟨rfl, rfl⟩ := hcut
          go_upto_if 62 with (fail)
          go_cut [8] from 62 to 63 (fun a wc => a = .int .i64 ((stR w h p (y + 1)).1 : Nat) ∧ wr = wc)
          case first =>
            by_cases hall : 0 < cn ∧ sa = 0 ∧ y < h
            · have Hx := hid (Hsa.out.trans (if_pos hall))
              rw [decide_eq_true hall]
              clear hall
              go_wp2
              go_meet
              exact ⟨by rw [Hx.out], rfl⟩
            · have Hx := hid (Hsa.out.trans (if_neg hall))
              rw [decide_eq_false hall]
              clear hall
              go_wp2
              go_meet
              exact ⟨by rw [Hx.out], rfl⟩
          case rest =>
          obtain ⟨rfl, rfl⟩ := hcut
          clear Hsa Hst
          generalize hna : (stR w h p (y + 1)).1 = na at *
          have Hna := hid hna
          clear hna
          go_upto_region 17 with (fail)
          go_loopw [9, 13] (fun b k wi => ∃ t : Nat, t ≤ 8193 ∧ k = .int .i64 ((y + 8 * t : Nat) : Int) ∧ b = .int .i64 ((sb + t : Nat) : Int) ∧ (t = 0 ∨ (0 < cn ∧ y + 8 * t < h + 8)) ∧ Below W.heap.size W wi) (fun _ k _ => (h + 8) - (intOf k).toNat)
          case atStart => exact ⟨0, by omega, by simp, by simp, .inl rfl, Hb.out⟩
          case round =>
            obtain ⟨t, ht, rfl, rfl, hor, hb⟩ := hrel
            have Hb := hid hb
            clear hb
            by_cases hkh : y + 8 * t < h
            · have f1 : decide (((y + 8 * t : Nat) : Int) < (h : Int)) = true := decide_eq_true (by omega)
              have f1' : decide (y + 8 * t < h) = true := decide_eq_true hkh
              by_cases hc0 : 0 < cn
              · have e1 : decide (0 < (cn : Int)) = true := decide_eq_true (by omega)
                have e1' : decide (0 < cn) = true := decide_eq_true hc0
                have Hor := hid (show t + 1 = 0 ∨ (0 < cn ∧ y + 8 * (t + 1) < h + 8) from .inr ⟨hc0, by omega⟩)
                have ht2 : t + 1 ≤ 8193 := by omega
                clear hor
                generalize hkt : y + 8 * t = kk at *
                generalize hbt : sb + t = bb at *
                have hk3 : (kk : Int) ≤ 65535 := by omega
                have hb3 : (bb : Int) ≤ 200000 := by omega
                have Hkt := hid hkt
                have Hbt := hid hbt
                clear hkt hbt hc0
                go_wp2
                go_roundw
                case rel => exact ⟨t + 1, ht2, by rw [show y + 8 * (t + 1) = kk + 8 by have := Hkt.out; omega]; go_num, by rw [show sb + (t + 1) = bb + 1 by have := Hbt.out; omega]; go_num, Hor.out, Hb.out⟩
                case measure => simp [intOf]; omega
              · obtain rfl : cn = 0 := by omega
                obtain rfl : t = 0 := by omega
                have Hx := hid (Hsb.out.trans (if_neg (by omega)))
                clear hc0 hor
                simp only [Nat.mul_zero, Nat.add_zero] at *
                go_wp2
                go_roundw
                case rel => exact ⟨y + 1, by omega, by go_num, by rw [Hna.out], by rw [Hx.out], Hb.out⟩
                case measure => simp [intOf]; omega
            · have f1 : decide (((y + 8 * t : Nat) : Int) < (h : Int)) = false := decide_eq_false (by omega)
              have f1' : decide (y + 8 * t < h) = false := decide_eq_false hkh
              have Hx := hid (show (stR w h p (y + 1)).2 = sb + t by
                rw [Hsb.out]
                by_cases hc0 : 0 < cn
                · rw [if_pos hc0]
                  unfold rowsR
                  omega
                · rw [if_neg hc0]
                  omega)
              clear hor Hsb
              generalize hkt : y + 8 * t = kk at *
              generalize hbt : sb + t = bb at *
              have Hbt := hid hbt
              clear hkt hbt hkh
              go_wp2
              go_roundw
              case rel => exact ⟨y + 1, by omega, by go_num, by rw [Hna.out], by rw [Hx.out], Hb.out⟩
              case measure => simp [intOf]; omega
    · obtain rfl : y = 8 := by omega
      have Hpr : Hid (passR w h p = if (stR w h p 8).1 = 0 ∨ (stR w h p 8).2 = 0 then (0, 0) else stR w h p 8) := rfl
      have Hs : Hid (stR w h p 8 = ((stR w h p 8).1, (stR w h p 8).2)) := rfl
      generalize (stR w h p 8).1 = sa at *
      generalize (stR w h p 8).2 = sb at *
      by_cases ha : sa = 0
      · have Hp := hid (Hpr.out.trans (if_pos (.inl ha)))
        subst ha
        go_wp2
        go_ret2
        exact ⟨by rw [Hp.out]; rfl, Hb.out⟩
      · by_cases hb0 : sb = 0
        · have Hp := hid (Hpr.out.trans (if_pos (.inr hb0)))
          subst hb0
          have d1 : ((sa : Int) == 0) = false := beq_eq_false_iff_ne.2 (by omega)
          clear ha
          go_wp2
          go_ret2
          exact ⟨by rw [Hp.out]; rfl, Hb.out⟩
        · have Hp := hid (Hpr.out.trans (if_neg (by omega)))
          have d1 : ((sa : Int) == 0) = false := beq_eq_false_iff_ne.2 (by omega)
          have d2 : ((sb : Int) == 0) = false := beq_eq_false_iff_ne.2 (by omega)
          clear ha hb0
          go_wp2
          go_ret2
          exact ⟨by rw [Hp.out, Hs.out]; rfl, Hb.out⟩

end Go.Proofs.Ytphhoihhmphbdaa
