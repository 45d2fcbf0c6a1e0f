/-
  burnishref15.Pass and Size: the columns and rows of a pass, counted.
  burnishref13.RowSize, burnishref17.size and Data, burnishref18.Size.
-/
import Derived.Test.YtphhoihhmphbdaaLaceA
import Derived.Test.YtphhoihhmphbdaaLaceC
import Derived.Test.YtphhoihhmphbdaaPsumP
import Derived.Deep.CutRange
import Derived.Deep.DeepCutAuto
import Derived.Lib.QuietBelow
import Derived.BigQuiet
import Derived.IntWalk
namespace Go.Proofs.Ytphhoihhmphbdaa
open Go.RowKit

/-- in which pass a pixel stands -/
def passT : List (List Nat) := [[0, 5, 3, 5, 1, 5, 3, 5], [6, 6, 6, 6, 6, 6, 6, 6], [4, 5, 4, 5, 4, 5, 4, 5], [6, 6, 6, 6, 6, 6, 6, 6], [2, 5, 3, 5, 2, 5, 3, 5], [6, 6, 6, 6, 6, 6, 6, 6], [4, 5, 4, 5, 4, 5, 4, 5], [6, 6, 6, 6, 6, 6, 6, 6]]
def passOf (x y : Nat) : Nat := (passT.getD y []).getD (x % 8) 0
theorem nat8 {m : Nat} (h : m < 8) : m = 0 ∨ m = 1 ∨ m = 2 ∨ m = 3 ∨ m = 4 ∨ m = 5 ∨ m = 6 ∨ m = 7 := by omega
theorem pass_le (x y : Nat) (hy : y < 8) : passOf x y ≤ 6 := by
  unfold passOf
  have hm : x % 8 < 8 := Nat.mod_lt _ (by omega)
  rcases nat8 hy with rfl | rfl | rfl | rfl | rfl | rfl | rfl | rfl <;> rcases nat8 hm with h | h | h | h | h | h | h | h <;> rw [h] <;> decide
def passS : List ByteArray := [{ data := #[48, 53, 51, 53, 49, 53, 51, 53] }, { data := #[54, 54, 54, 54, 54, 54, 54, 54] }, { data := #[52, 53, 52, 53, 52, 53, 52, 53] }, { data := #[54, 54, 54, 54, 54, 54, 54, 54] }, { data := #[50, 53, 51, 53, 50, 53, 51, 53] }, { data := #[54, 54, 54, 54, 54, 54, 54, 54] }, { data := #[52, 53, 52, 53, 52, 53, 52, 53] }, { data := #[54, 54, 54, 54, 54, 54, 54, 54] }]
theorem pass_ix (y m : Nat) (hy : y < 8) (hm : m < 8) (W : World) : (Instr.index 9 (.string (passS.getD y ByteArray.empty)) (.int .i64 (m : Nat))).run Try.prog W = .ok (.int .u8 (((passT.getD y []).getD m 0 : Nat) + 48)) W := by
  rcases nat8 hy with rfl | rfl | rfl | rfl | rfl | rfl | rfl | rfl <;> rcases nat8 hm with rfl | rfl | rfl | rfl | rfl | rfl | rfl | rfl <;> kernel_rfl
set_option maxRecDepth 100000 in
set_option maxHeartbeats 4000000 in
theorem pass_any (x y : Nat) (hx : x ≤ 65535) (hy : y < 8) (W : World) :
    Calls Try.prog 91 #[.int .i64 (x : Nat), .int .i64 (y : Nat)] W fun e w' => e = .returned (.int .i64 (passOf x y : Nat)) ∧ Below W.heap.size W w' := by
  have hm : x % 8 < 8 := Nat.mod_lt _ (by omega)
  have hle := pass_le x y hy
  have ix := pass_ix y (x % 8) hy hm
  have Hd : Hid (passOf x y = (passT.getD y []).getD (x % 8) 0) := rfl
  have em : (x : Int).tmod 8 = ((x % 8 : Nat) : Int) := by rw [Int.tmod_eq_emod_of_nonneg (by omega)]; omega
  have em2 : (x : Int) % 8 = ((x % 8 : Nat) : Int) := by omega
  rw [← Hd.out] at ix
  clear Hd
  generalize passOf x y = v at *
  generalize x % 8 = m at *
  rcases nat8 hy with rfl | rfl | rfl | rfl | rfl | rfl | rfl | rfl
  all_goals
    have ix2 := ix
    clear ix
    unfold passS at ix2
    simp only [List.getD_cons_zero, List.getD_cons_succ] at ix2
    go_enter Try.func91, Try.ntmps91
    go_wp2
    go_ret
    exact ⟨ret_int (by omega), (Below.refl _ _).alloc (Nat.le_refl _) _⟩

/-- how many of the first n columns of row y stand in pass p -/
def colsR (p y : Nat) : Nat → Nat
  | 0 => 0
  | n + 1 => if passOf n y = p then colsR p y n + 1 else colsR p y n
theorem colsR_le (p y : Nat) : ∀ n : Nat, colsR p y n ≤ n
  | 0 => Nat.le_refl _
  | n + 1 => by
    have := colsR_le p y n
    unfold colsR
    split <;> omega
/-- how many of the rows y, y + 8, .. there are -/
def rowsR (h y : Nat) : Nat := (h + 7 - y) / 8
/-- the columns and rows behind y rows of the table -/
def stR (w h p : Nat) : Nat → Nat × Nat
  | 0 => (0, 0)
  | y + 1 => (if 0 < colsR p y w ∧ (stR w h p y).1 = 0 ∧ y < h then colsR p y w else (stR w h p y).1, if 0 < colsR p y w then (stR w h p y).2 + rowsR h y else (stR w h p y).2)
theorem stR_bd (w h p : Nat) (hh : h ≤ 65535) : ∀ y : Nat, y ≤ 8 → (stR w h p y).1 ≤ w ∧ (stR w h p y).2 ≤ 8193 * y
  | 0, _ => by simp [stR]
  | y + 1, hy => by
    obtain ⟨h1, h2⟩ := stR_bd w h p hh y (by omega)
    have h3 := colsR_le p y w
    have h4 : rowsR h y ≤ 8193 := by unfold rowsR; omega
    have e1 : (stR w h p (y + 1)).1 = if 0 < colsR p y w ∧ (stR w h p y).1 = 0 ∧ y < h then colsR p y w else (stR w h p y).1 := rfl
    have e2 : (stR w h p (y + 1)).2 = if 0 < colsR p y w then (stR w h p y).2 + rowsR h y else (stR w h p y).2 := rfl
    rw [e1, e2]
    generalize rowsR h y = r at *
    generalize colsR p y w = c at *
    generalize (stR w h p y).1 = sa at *
    generalize (stR w h p y).2 = sb at *
    clear e1 e2
    constructor <;> split <;> omega
/-- a pass's columns and rows, as they are counted -/
def passR (w h p : Nat) : Nat × Nat := if (stR w h p 8).1 = 0 ∨ (stR w h p 8).2 = 0 then (0, 0) else stR w h p 8

set_option maxRecDepth 100000 in
set_option maxHeartbeats 16000000 in
theorem rsize15_any (w h p : Nat) (w1 : 1 ≤ w) (w2 : w ≤ 65535) (h1 : 1 ≤ h) (h2 : h ≤ 65535) (hp : p < 7) (W : World) :
    Calls Try.prog 90 #[.int .i64 (w : Nat), .int .i64 (h : Nat), .int .i64 (p : Nat)] W fun e w' => e = .returned (.tuple #[.int .i64 ((passR w h p).1 : Nat), .int .i64 ((passR w h p).2 : Nat)]) ∧ Below W.heap.size W w' := by
  have d1 : decide ((w : Int) < 1) = false := decide_eq_false (by omega)
  have d2 : decide ((h : Int) < 1) = false := decide_eq_false (by omega)
  have d3 : decide (65535 < (w : Int)) = false := decide_eq_false (by omega)
  have d4 : decide (65535 < (h : Int)) = false := decide_eq_false (by omega)
  have d5 : decide ((p : Int) < 0) = false := decide_eq_false (by omega)
  have d6 : decide (6 < (p : Int)) = false := decide_eq_false (by omega)
  go_enter Try.func90, Try.ntmps90
  go_upto_region 6 with (fail)
  clear d1 d2 d3 d4 d5 d6
  go_loopw [8, 9, 10] (fun a b y wr => ∃ k : Nat, k ≤ 8 ∧ y = .int .i64 k ∧ a = .int .i64 ((stR w h p k).1 : Nat) ∧ b = .int .i64 ((stR w h p k).2 : Nat) ∧ Below W.heap.size W wr) (fun _ _ y _ => 8 - (intOf y).toNat)
  case atStart => exact ⟨0, by omega, rfl, rfl, rfl, Below.refl _ _⟩
  case round =>
    obtain ⟨y, hy, rfl, rfl, rfl, hb⟩ := hrel
    have Hb := hid hb
    clear hb
    obtain ⟨s1, s2⟩ := stR_bd w h p h2 y hy
    by_cases hlt : y < 8
    · have Hst := hid (show stR w h p (y + 1) = (if 0 < colsR p y w ∧ (stR w h p y).1 = 0 ∧ y < h then colsR p y w else (stR w h p y).1, if 0 < colsR p y w then (stR w h p y).2 + rowsR h y else (stR w h p y).2) from rfl)
      generalize (stR w h p y).1 = sa at *
      generalize (stR w h p y).2 = sb at *
      have d8 : decide ((y : Int) < 8) = true := decide_eq_true (by omega)
      go_upto_region 10 with (fail)
      go_loopw [11, 12] (fun c x wi => ∃ n : Nat, n ≤ w ∧ x = .int .i64 n ∧ c = .int .i64 (colsR p y n : Nat) ∧ Below W.heap.size W wi) (fun _ x _ => w - (intOf x).toNat)
      case atStart => exact ⟨0, by omega, rfl, rfl, Hb.out⟩
      case round =>
        obtain ⟨n, hn, rfl, rfl, hb⟩ := hrel
        have Hb := hid hb
        clear hb
        have hcl := colsR_le p y n
        by_cases hnl : n < w
        · have Hc := hid (show colsR p y (n + 1) = if passOf n y = p then colsR p y n + 1 else colsR p y n from rfl)
          generalize colsR p y n = cn at *
          go_wp2_with fail
          refine (pass_any n y (by omega) hlt _).mono ?_
          rintro e w3 ⟨rfl, hb⟩
          have Hb3 := hid (Hb.out.trans (hb.mono Hb.out.size))
          clear hb
          by_cases he : passOf n y = p
          · have hd : ((passOf n y : Int) == (p : Int)) = true := beq_iff_eq.2 (by omega)
            have Hc1 := hid (Hc.out.trans (if_pos he))
            clear he
            go_wp2
            go_roundw
            case rel => exact ⟨n + 1, by omega, by go_num, by rw [Hc1.out]; go_num, Hb3.out⟩
            case measure => simp [intOf]; omega
          · have hd : ((passOf n y : Int) == (p : Int)) = false := beq_eq_false_iff_ne.2 (by omega)
            have Hc1 := hid (Hc.out.trans (if_neg he))
            clear he
            go_wp2
            go_roundw
            case rel => exact ⟨n + 1, by omega, by go_num, by rw [Hc1.out], Hb3.out⟩
            case measure => simp [intOf]; omega
        · obtain rfl : w = n := by omega
          generalize colsR p y w = cn at *
          have Hsa := hid (show (stR w h p (y + 1)).1 = if 0 < cn ∧ sa = 0 ∧ y < h then cn else sa by rw [Hst.out])
          have Hsb := hid (show (stR w h p (y + 1)).2 = if 0 < cn then sb + rowsR h y else sb by rw [Hst.out])
          go_upto_region 14 with (fail)
          go_cut [62] from 52 to 62 (fun a wc => a = .bool (decide (0 < cn ∧ sa = 0 ∧ y < h)) ∧ wr = wc)
          case first =>
            by_cases hc0 : 0 < cn
            · have e1 : decide (0 < (cn : Int)) = true := decide_eq_true (by omega)
              have e1' : decide (0 < cn) = true := decide_eq_true hc0
              by_cases hs0 : sa = 0
              · subst hs0
                by_cases hyh : y < h
                · have e3' : decide (y < h) = true := decide_eq_true hyh
                  have Hx := hid (show decide (0 < cn ∧ 0 = 0 ∧ y < h) = true from decide_eq_true ⟨hc0, rfl, hyh⟩)
                  clear hc0 hyh
                  go_wp2
                  go_meet
                  exact ⟨by rw [Hx.out], rfl⟩
                · have e3' : decide (y < h) = false := decide_eq_false hyh
                  have Hx := hid (show decide (0 < cn ∧ 0 = 0 ∧ y < h) = false from decide_eq_false (fun hh => hyh hh.2.2))
                  clear hc0 hyh
                  go_wp2
                  go_meet
                  exact ⟨by rw [Hx.out], rfl⟩
              · have e2 : ((sa : Int) == 0) = false := beq_eq_false_iff_ne.2 (by omega)
                have Hx := hid (show decide (0 < cn ∧ sa = 0 ∧ y < h) = false from decide_eq_false (fun hh => hs0 hh.2.1))
                clear hc0 hs0
                go_wp2
                go_meet
                exact ⟨by rw [Hx.out], rfl⟩
            · obtain rfl : cn = 0 := by omega
              have Hx := hid (show decide (0 < 0 ∧ sa = 0 ∧ y < h) = false from decide_eq_false (fun hh => absurd hh.1 (by omega)))
              clear hc0
              go_wp2
              go_meet
              exact ⟨by rw [Hx.out], rfl⟩
          case rest =>
          obtain ⟨rfl, rfl⟩ := hcut
          go_upto_if 62 with (fail)
          go_cut [8] from 62 to 63 (fun a wc => a = .int .i64 ((stR w h p (y + 1)).1 : Nat) ∧ wr = wc)
          case first =>
            by_cases hall : 0 < cn ∧ sa = 0 ∧ y < h
            · have Hx := hid (Hsa.out.trans (if_pos hall))
              rw [decide_eq_true hall]
              clear hall
              go_wp2
              go_meet
              exact ⟨by rw [Hx.out], rfl⟩
            · have Hx := hid (Hsa.out.trans (if_neg hall))
              rw [decide_eq_false hall]
              clear hall
              go_wp2
              go_meet
              exact ⟨by rw [Hx.out], rfl⟩
          case rest =>
          obtain ⟨rfl, rfl⟩ := hcut
          clear Hsa Hst
          generalize hna : (stR w h p (y + 1)).1 = na at *
          have Hna := hid hna
          clear hna
          go_upto_region 17 with (fail)
          go_loopw [9, 13] (fun b k wi => ∃ t : Nat, t ≤ 8193 ∧ k = .int .i64 ((y + 8 * t : Nat) : Int) ∧ b = .int .i64 ((sb + t : Nat) : Int) ∧ (t = 0 ∨ (0 < cn ∧ y + 8 * t < h + 8)) ∧ Below W.heap.size W wi) (fun _ k _ => (h + 8) - (intOf k).toNat)
          case atStart => exact ⟨0, by omega, by simp, by simp, .inl rfl, Hb.out⟩
          case round =>
            obtain ⟨t, ht, rfl, rfl, hor, hb⟩ := hrel
            have Hb := hid hb
            clear hb
            by_cases hkh : y + 8 * t < h
            · have f1 : decide (((y + 8 * t : Nat) : Int) < (h : Int)) = true := decide_eq_true (by omega)
              have f1' : decide (y + 8 * t < h) = true := decide_eq_true hkh
              by_cases hc0 : 0 < cn
              · have e1 : decide (0 < (cn : Int)) = true := decide_eq_true (by omega)
                have e1' : decide (0 < cn) = true := decide_eq_true hc0
                have Hor := hid (show t + 1 = 0 ∨ (0 < cn ∧ y + 8 * (t + 1) < h + 8) from .inr ⟨hc0, by omega⟩)
                have ht2 : t + 1 ≤ 8193 := by omega
                clear hor
                generalize hkt : y + 8 * t = kk at *
                generalize hbt : sb + t = bb at *
                have hk3 : (kk : Int) ≤ 65535 := by omega
                have hb3 : (bb : Int) ≤ 200000 := by omega
                have Hkt := hid hkt
                have Hbt := hid hbt
                clear hkt hbt hc0
                go_wp2
                go_roundw
                case rel => exact ⟨t + 1, ht2, by rw [show y + 8 * (t + 1) = kk + 8 by have := Hkt.out; omega]; go_num, by rw [show sb + (t + 1) = bb + 1 by have := Hbt.out; omega]; go_num, Hor.out, Hb.out⟩
                case measure => simp [intOf]; omega
              · obtain rfl : cn = 0 := by omega
                obtain rfl : t = 0 := by omega
                have Hx := hid (Hsb.out.trans (if_neg (by omega)))
                clear hc0 hor
                simp only [Nat.mul_zero, Nat.add_zero] at *
                go_wp2
                go_roundw
                case rel => exact ⟨y + 1, by omega, by go_num, by rw [Hna.out], by rw [Hx.out], Hb.out⟩
                case measure => simp [intOf]; omega
            · have f1 : decide (((y + 8 * t : Nat) : Int) < (h : Int)) = false := decide_eq_false (by omega)
              have f1' : decide (y + 8 * t < h) = false := decide_eq_false hkh
              have Hx := hid (show (stR w h p (y + 1)).2 = sb + t by
                rw [Hsb.out]
                by_cases hc0 : 0 < cn
                · rw [if_pos hc0]
                  unfold rowsR
                  omega
                · rw [if_neg hc0]
                  omega)
              clear hor Hsb
              generalize hkt : y + 8 * t = kk at *
              generalize hbt : sb + t = bb at *
              have Hbt := hid hbt
              clear hkt hbt hkh
              go_wp2
              go_roundw
              case rel => exact ⟨y + 1, by omega, by go_num, by rw [Hna.out], by rw [Hx.out], Hb.out⟩
              case measure => simp [intOf]; omega
    · obtain rfl : y = 8 := by omega
      have Hpr : Hid (passR w h p = if (stR w h p 8).1 = 0 ∨ (stR w h p 8).2 = 0 then (0, 0) else stR w h p 8) := rfl
      have Hs : Hid (stR w h p 8 = ((stR w h p 8).1, (stR w h p 8).2)) := rfl
      generalize (stR w h p 8).1 = sa at *
      generalize (stR w h p 8).2 = sb at *
      by_cases ha : sa = 0
      · have Hp := hid (Hpr.out.trans (if_pos (.inl ha)))
        subst ha
        go_wp2
        go_ret2
        exact ⟨by rw [Hp.out]; rfl, Hb.out⟩
      · by_cases hb0 : sb = 0
        · have Hp := hid (Hpr.out.trans (if_pos (.inr hb0)))
          subst hb0
          have d1 : ((sa : Int) == 0) = false := beq_eq_false_iff_ne.2 (by omega)
          clear ha
          go_wp2
          go_ret2
          exact ⟨by rw [Hp.out]; rfl, Hb.out⟩
        · have Hp := hid (Hpr.out.trans (if_neg (by omega)))
          have d1 : ((sa : Int) == 0) = false := beq_eq_false_iff_ne.2 (by omega)
          have d2 : ((sb : Int) == 0) = false := beq_eq_false_iff_ne.2 (by omega)
          clear ha hb0
          go_wp2
          go_ret2
          exact ⟨by rw [Hp.out, Hs.out]; rfl, Hb.out⟩

end Go.Proofs.Ytphhoihhmphbdaa

namespace Go.Proofs.Ytphhoihhmphbdaa
open Go.RowKit Go.Shelf

theorem cols_rule (p y x0 dx : Nat) (hx : x0 < dx) (hy : y < 8) (h : ∀ m, m < 8 → ((passT.getD y []).getD m 0 = p ↔ m % dx = x0)) (h8 : 8 % dx = 0) : ∀ n : Nat, colsR p y n = (n + (dx - 1 - x0)) / dx
  | 0 => by
    show 0 = _
    rw [Nat.div_eq_of_lt (by omega)]
  | n + 1 => by
    have ih := cols_rule p y x0 dx hx hy h h8 n
    have hm : n % 8 < 8 := Nat.mod_lt _ (by omega)
    have hq : n % dx = n % 8 % dx := (Nat.mod_mod_of_dvd n (Nat.dvd_of_mod_eq_zero h8)).symm
    unfold colsR passOf
    rw [ih]
    have hk := h (n % 8) hm
    have hd : dx = 1 ∨ dx = 2 ∨ dx = 4 ∨ dx = 8 := by
      have : dx ≤ 8 := Nat.le_of_dvd (by omega) (Nat.dvd_of_mod_eq_zero h8)
      have hh : dx = 1 ∨ dx = 2 ∨ dx = 3 ∨ dx = 4 ∨ dx = 5 ∨ dx = 6 ∨ dx = 7 ∨ dx = 8 := by omega
      rcases hh with rfl | rfl | rfl | rfl | rfl | rfl | rfl | rfl <;> simp at h8 <;> simp
    by_cases he : (passT.getD y []).getD (n % 8) 0 = p
    · rw [if_pos he]
      have := hk.1 he
      rcases hd with rfl | rfl | rfl | rfl <;> omega
    · rw [if_neg he]
      have : ¬ n % 8 % dx = x0 := fun hh => he (hk.2 hh)
      rcases hd with rfl | rfl | rfl | rfl <;> omega
theorem cols_none (p y : Nat) (hy : y < 8) (h : ∀ m, m < 8 → (passT.getD y []).getD m 0 ≠ p) : ∀ n : Nat, colsR p y n = 0
  | 0 => rfl
  | n + 1 => by
    unfold colsR passOf
    rw [if_neg (h (n % 8) (Nat.mod_lt _ (by omega)))]
    exact cols_none p y hy h n
theorem stR_fst (w h p y : Nat) : (stR w h p (y + 1)).1 = if 0 < colsR p y w ∧ (stR w h p y).1 = 0 ∧ y < h then colsR p y w else (stR w h p y).1 := rfl
theorem stR_snd (w h p y : Nat) : (stR w h p (y + 1)).2 = if 0 < colsR p y w then (stR w h p y).2 + rowsR h y else (stR w h p y).2 := rfl
def sumR (h dy y0 : Nat) : Nat → Nat
  | 0 => 0
  | y + 1 => sumR h dy y0 y + if y % dy = y0 then rowsR h y else 0
theorem stR_run (w h p y0 dy C : Nat) (hC : 0 < C) (hd : y0 < dy) (hs : ∀ y, y < 8 → colsR p y w = if y % dy = y0 then C else 0) : ∀ y : Nat, y ≤ 8 → (stR w h p y).1 = (if y0 < y ∧ y0 < h then C else 0) ∧ (stR w h p y).2 = sumR h dy y0 y
  | 0, _ => by
    refine ⟨?_, rfl⟩
    rw [if_neg (by omega)]; rfl
  | y + 1, hy => by
    obtain ⟨h1, h2⟩ := stR_run w h p y0 dy C hC hd hs y (by omega)
    rw [stR_fst, stR_snd, hs y (by omega), h1, h2]
    show _ ∧ _ = sumR h dy y0 y + if y % dy = y0 then rowsR h y else 0
    by_cases hm : y % dy = y0
    · have hle : y0 ≤ y := by rw [← hm]; exact Nat.mod_le _ _
      rw [if_pos hm, if_pos hC, if_pos hm]
      refine ⟨?_, rfl⟩
      by_cases ha : y0 < y ∧ y0 < h
      · rw [if_pos ha, if_neg (by omega), if_pos (by omega)]
      · rw [if_neg ha]
        by_cases hyh : y < h
        · rw [if_pos ⟨hC, rfl, hyh⟩, if_pos (by omega)]
        · rw [if_neg (fun hh => hyh hh.2.2), if_neg (by omega)]
    · have hne : y ≠ y0 := fun he => hm (by rw [he]; exact Nat.mod_eq_of_lt hd)
      rw [if_neg hm, if_neg hm]
      refine ⟨?_, by simp⟩
      rw [if_neg (by omega)]
      by_cases ha : y0 < y ∧ y0 < h
      · rw [if_pos ha, if_pos (by omega)]
      · rw [if_neg ha, if_neg (by omega)]
theorem stR_zero (w h p : Nat) (hs : ∀ y, y < 8 → colsR p y w = 0) : ∀ y : Nat, y ≤ 8 → (stR w h p y).1 = 0 ∧ (stR w h p y).2 = 0
  | 0, _ => ⟨rfl, rfl⟩
  | y + 1, hy => by
    obtain ⟨h1, h2⟩ := stR_zero w h p hs y (by omega)
    rw [stR_fst, stR_snd, hs y (by omega), h1, h2]
    simp
theorem pass_of (p x0 dx y0 dy w h : Nat) (hx : x0 < dx) (hy0 : y0 < dy) (h8 : 8 % dx = 0)
    (hr : ∀ y, y < 8 → y % dy = y0 → ∀ m, m < 8 → ((passT.getD y []).getD m 0 = p ↔ m % dx = x0)) (hn : ∀ y, y < 8 → ¬ y % dy = y0 → ∀ m, m < 8 → (passT.getD y []).getD m 0 ≠ p)
    (hg : gridM p = ((x0 : Int), (dx : Int), (y0 : Int), (dy : Int))) (ha : (((w + (dx - 1 - x0)) / dx : Nat) : Int) = alongM w x0 dx) (hb : ((sumR h dy y0 8 : Nat) : Int) = alongM h y0 dy) :
    (((passR w h p).1 : Nat) : Int) = (passM w h p).1 ∧ (((passR w h p).2 : Nat) : Int) = (passM w h p).2 := by
  have hs : ∀ y, y < 8 → colsR p y w = if y % dy = y0 then (w + (dx - 1 - x0)) / dx else 0 := by
    intro y hy
    by_cases hm : y % dy = y0
    · rw [if_pos hm]
      exact cols_rule p y x0 dx hx hy (hr y hy hm) h8 w
    · rw [if_neg hm]
      exact cols_none p y hy (hn y hy hm) w
  generalize hC : (w + (dx - 1 - x0)) / dx = C at *
  have hM : passM w h p = if alongM w x0 dx = 0 ∨ alongM h y0 dy = 0 then (0, 0) else (alongM w x0 dx, alongM h y0 dy) := by unfold passM; rw [hg]
  by_cases h0 : 0 < C
  · obtain ⟨e1, e2⟩ := stR_run w h p y0 dy C h0 hy0 hs 8 (Nat.le_refl _)
    have hR : passR w h p = if (stR w h p 8).1 = 0 ∨ (stR w h p 8).2 = 0 then (0, 0) else ((stR w h p 8).1, (stR w h p 8).2) := rfl
    rw [e2] at hR
    by_cases hs0 : sumR h dy y0 8 = 0
    · rw [hR, if_pos (.inr hs0), hM, if_pos (.inr (by omega))]
      exact ⟨rfl, rfl⟩
    · by_cases hyh : y0 < h
      · by_cases hy8 : y0 < 8
        · rw [if_pos ⟨hy8, hyh⟩] at e1
          rw [e1] at hR
          rw [hR, if_neg (by omega), hM, if_neg (by omega)]
          exact ⟨ha, hb⟩
        · exfalso
          apply hs0
          have : ∀ y : Nat, y ≤ 8 → sumR h dy y0 y = 0 := by
            intro y
            induction y with
            | zero => intro _; rfl
            | succ y ih =>
              intro hy
              show sumR h dy y0 y + (if y % dy = y0 then rowsR h y else 0) = 0
              rw [ih (by omega), if_neg (fun he => by have := Nat.mod_le y dy; omega)]
          exact this 8 (Nat.le_refl _)
      · exfalso
        have : alongM h y0 dy = 0 := by unfold alongM; rw [if_pos (by omega)]
        omega
  · obtain ⟨e1, e2⟩ := stR_zero w h p (fun y hy => by rw [hs y hy]; split <;> omega) 8 (Nat.le_refl _)
    have hR : passR w h p = (0, 0) := by unfold passR; rw [if_pos (.inl e1)]
    rw [hR, hM, if_pos (.inl (by omega))]
    exact ⟨rfl, rfl⟩
theorem pass_same (w h p : Nat) (w1 : 1 ≤ w) (w2 : w ≤ 65535) (h1 : 1 ≤ h) (h2 : h ≤ 65535) (hp : p < 7) : (((passR w h p).1 : Nat) : Int) = (passM w h p).1 ∧ (((passR w h p).2 : Nat) : Int) = (passM w h p).2 := by
  have hpp : p = 0 ∨ p = 1 ∨ p = 2 ∨ p = 3 ∨ p = 4 ∨ p = 5 ∨ p = 6 := by omega
  rcases hpp with rfl | rfl | rfl | rfl | rfl | rfl | rfl
  · exact pass_of 0 0 8 0 8 w h (by omega) (by omega) (by decide) (by decide) (by decide) rfl (by unfold alongM; split <;> omega) (by unfold alongM; simp [sumR, rowsR]; split <;> omega)
  · exact pass_of 1 4 8 0 8 w h (by omega) (by omega) (by decide) (by decide) (by decide) rfl (by unfold alongM; split <;> omega) (by unfold alongM; simp [sumR, rowsR]; split <;> omega)
  · exact pass_of 2 0 4 4 8 w h (by omega) (by omega) (by decide) (by decide) (by decide) rfl (by unfold alongM; split <;> omega) (by unfold alongM; simp [sumR, rowsR]; split <;> omega)
  · exact pass_of 3 2 4 0 4 w h (by omega) (by omega) (by decide) (by decide) (by decide) rfl (by unfold alongM; split <;> omega) (by unfold alongM; simp [sumR, rowsR]; split <;> omega)
  · exact pass_of 4 0 2 2 4 w h (by omega) (by omega) (by decide) (by decide) (by decide) rfl (by unfold alongM; split <;> omega) (by unfold alongM; simp [sumR, rowsR]; split <;> omega)
  · exact pass_of 5 1 2 0 2 w h (by omega) (by omega) (by decide) (by decide) (by decide) rfl (by unfold alongM; split <;> omega) (by unfold alongM; simp [sumR, rowsR]; split <;> omega)
  · exact pass_of 6 0 1 1 2 w h (by omega) (by omega) (by decide) (by decide) (by decide) rfl (by unfold alongM; split <;> omega) (by unfold alongM; simp [sumR, rowsR]; split <;> omega)

/-- a row's bytes, as they are reckoned -/
theorem row_same (n : Int) : (n + 7) / 8 = if 0 < n % 8 then n / 8 + 1 else n / 8 := by split <;> omega
set_option maxRecDepth 100000 in
set_option maxHeartbeats 4000000 in
theorem rrow_any (w h d c l width : Int) (W : World) (w1 : 1 ≤ width) (w2 : width ≤ 65535) (hh : headErr w h d c l = 0) :
    Calls Try.prog 46 #[.agg #[.int .i64 w, .int .i64 h, .int .i64 d, .int .i64 c, .int .i64 l], .int .i64 width] W fun e w' => e = .returned (.int .i64 (rowM w h d c l width)) ∧ Below W.heap.size W w' := by
  have Hr := hid (show rowM w h d c l width = (width * chan c * d + 7) / 8 from if_pos ⟨hh, w1, w2⟩)
  obtain ⟨c1, c2⟩ := chan_bd c
  obtain ⟨dd1, dd2⟩ := deep_bd (headErr_deep hh).1
  have m1 : 0 ≤ width * chan c := Int.mul_nonneg (by omega) c1
  have m2 : width * chan c ≤ 65535 * 4 := Int.mul_le_mul w2 c2 c1 (by omega)
  have m3 : 0 ≤ width * chan c * d := Int.mul_nonneg m1 (by omega)
  have m4 : width * chan c * d ≤ 65535 * 4 * 16 := Int.mul_le_mul m2 dd2 (by omega) (by omega)
  have Hh := hid hh
  clear hh
  have Hx := hid (Blk.new W 23 #[.int .i64 w, .int .i64 h, .int .i64 d, .int .i64 c, .int .i64 l])
  have Hb0 := hid ((Below.refl W.heap.size W).alloc (Nat.le_refl _) (.cells #[.int .i64 w, .int .i64 h, .int .i64 d, .int .i64 c, .int .i64 l] 23))
  have g1 : decide (width < 1) = false := decide_eq_false (by omega)
  have g2 : decide (65535 < width) = false := decide_eq_false (by omega)
  go_enter Try.func46, Try.ntmps46
  go_wp2_with fail
  refine (refCheck_any w h d c l _).mono ?_
  rintro e w1 ⟨rfl, hb⟩
  rw [Hh.out]
  have Hx1 := hid (Hx.out.below hb (by simp))
  have Hb1 := hid (Hb0.out.trans (hb.mono (by simp)))
  clear hb Hx Hb0
  have q0 := Hx1.out.cell 0
  have q1 := Hx1.out.cell 1
  have q2 := Hx1.out.cell 2
  have q3 := Hx1.out.cell 3
  have q4 := Hx1.out.cell 4
  simp only [List.getElem?_toArray, List.getElem?_cons_zero, List.getElem?_cons_succ] at q0 q1 q2 q3 q4
  have k2 := cell_regrown q2
  have k3 := cell_regrown q3
  have cC : ∀ d' os, Calls Try.prog 48 #[.int .i64 c] (Sort.grow (redrawn w1 d') os) fun e w'' => e = .returned (.int .i64 (chan c)) ∧ ∃ p : Regrown, w'' = Sort.grow (redrawn w1 p.d) p.os := fun d' os => Calls.regrown_of (refChannels_any c _)
  go_upto_region 3 with (fail)
  refine wp_region_quiet_below (by kernel_rfl) (by kernel_rfl) ?_
  repeat (go_big_quiet_step (with_reducible exact cC _ _))
  refine wpQuiet_nil ?_
  intro w5 hw5
  obtain ⟨⟨dq, osq⟩, hw5⟩ := hw5
  have hb5 : Below w1.heap.size w1 w5 := by rw [hw5]; exact below_regrown w1 dq osq
  have Hb5 := hid (Hb1.out.trans (hb5.mono Hb1.out.size))
  clear hw5 hb5 k2 k3 cC
  generalize hbit : width * chan c * d = bits at *
  generalize width * chan c = wc at *
  have Hbit := hid hbit
  clear hbit
  have Hrs := hid (row_same bits)
  have hdv : 0 ≤ bits / 8 ∧ bits / 8 ≤ 600000 := by omega
  obtain ⟨hd1, hd2⟩ := hdv
  by_cases hm : 0 < bits % 8
  · have e1 : decide (0 < bits % 8) = true := decide_eq_true hm
    have Hf := hid (show rowM w h d c l width = bits / 8 + 1 by rw [Hr.out, Hrs.out, if_pos hm])
    clear hm
    go_wp2
    go_ret
    exact ⟨ret_int Hf.out.symm, Hb5.out⟩
  · have e1 : decide (0 < bits % 8) = false := decide_eq_false hm
    have Hf := hid (show rowM w h d c l width = bits / 8 by rw [Hr.out, Hrs.out, if_neg hm])
    clear hm
    go_wp2
    go_ret
    exact ⟨ret_int Hf.out.symm, Hb5.out⟩

/-- a pass's columns and rows in a head's lace -/
def sizeR (w h l : Int) (p : Nat) : Int × Int := if l = 0 then (if p = 0 then (w, h) else (0, 0)) else passM w h p
set_option maxRecDepth 100000 in
set_option maxHeartbeats 4000000 in
theorem rsize17_any (w h d c l : Int) (p : Nat) (hp : p < 7) (w1 : 1 ≤ w) (w2 : w ≤ 65535) (h1 : 1 ≤ h) (h2 : h ≤ 65535) (W : World) :
    Calls Try.prog 45 #[.agg #[.int .i64 w, .int .i64 h, .int .i64 d, .int .i64 c, .int .i64 l], .int .i64 (p : Nat)] W fun e w' => e = .returned (.tuple #[.int .i64 (sizeR w h l p).1, .int .i64 (sizeR w h l p).2]) ∧ Below W.heap.size W w' := by
  obtain ⟨wn, rfl⟩ := Int.eq_ofNat_of_zero_le (show 0 ≤ w by omega)
  obtain ⟨hn, rfl⟩ := Int.eq_ofNat_of_zero_le (show 0 ≤ h by omega)
  have Hb0 := hid ((Below.refl W.heap.size W).alloc (Nat.le_refl _) (.cells #[.int .i64 wn, .int .i64 hn, .int .i64 d, .int .i64 c, .int .i64 l] 23))
  have Hx := hid (Blk.new W 23 #[.int .i64 wn, .int .i64 hn, .int .i64 d, .int .i64 c, .int .i64 l])
  by_cases hl : l = 0
  · subst hl
    by_cases hp0 : p = 0
    · subst hp0
      have Hs : Hid (sizeR wn hn 0 0 = ((wn : Int), (hn : Int))) := rfl
      go_enter Try.func45, Try.ntmps45
      go_upto_region 4 with (fail)
      generalize W.alloc (.cells #[.int .i64 wn, .int .i64 hn, .int .i64 d, .int .i64 c, .int .i64 0] 23) = w0 at *
      have q0 := Hx.out.cell 0
      have q1 := Hx.out.cell 1
      simp only [List.getElem?_toArray, List.getElem?_cons_zero, List.getElem?_cons_succ] at q0 q1
      go_quiet (fail)
      go_wp2
      go_ret2
      exact ⟨by rw [Hs.out]; first | done | rfl, below_drewN Hb0.out _⟩
    · have Hs := hid (show sizeR wn hn 0 p = (0, 0) by unfold sizeR; rw [if_pos rfl, if_neg hp0])
      have d1 : decide (0 < (p : Int)) = true := decide_eq_true (by omega)
      have d1' : decide (0 < p) = true := decide_eq_true (by omega)
      clear hp0
      go_enter Try.func45, Try.ntmps45
      go_wp2
      go_ret2
      exact ⟨by rw [Hs.out]; first | done | rfl, Hb0.out⟩
  · have Hs := hid (show sizeR wn hn l p = passM wn hn p from if_neg hl)
    have e0 : (l == 0) = false := beq_eq_false_iff_ne.2 hl
    obtain ⟨e1, e2⟩ := pass_same wn hn p (by omega) (by omega) (by omega) (by omega) hp
    have E1 := hid e1
    have E2 := hid e2
    clear hl e1 e2
    go_enter Try.func45, Try.ntmps45
    go_wp2_with fail
    refine (rsize15_any wn hn p (by omega) (by omega) (by omega) (by omega) hp _).mono ?_
    rintro e w2 ⟨rfl, hb⟩
    have Hb2 := hid (Hb0.out.trans (hb.mono Hb0.out.size))
    clear hb
    go_wp2
    go_ret2
    exact ⟨by rw [Hs.out, ← E1.out, ← E2.out]; first | done | rfl, Hb2.out⟩

/-- the passes before pass p -/
def ppre (w h l : Int) (p : Nat) : List (Nat × Int × Int) := if l = 0 then (if p = 0 then [] else [(0, w, h)]) else (List.range p).flatMap (passAt w h)
theorem ppre_7 (w h l : Int) : ppre w h l 7 = passesM w h l := by
  unfold ppre passesM
  split
  · rfl
  · rfl
theorem ppre_next (w h l : Int) (p : Nat) (w1 : 1 ≤ w) : ppre w h l (p + 1) = ppre w h l p ++ (if 0 < (sizeR w h l p).1 then [(p, sizeR w h l p)] else []) := by
  unfold ppre sizeR
  by_cases hl : l = 0
  · rw [if_pos hl, if_pos hl, if_pos hl]
    by_cases hp : p = 0
    · subst hp
      rw [if_pos rfl, if_pos rfl, if_neg (by omega), if_pos (by show 0 < w; omega)]
      rfl
    · rw [if_neg hp, if_neg hp, if_neg (by omega), if_neg (by show ¬ (0 : Int) < 0; omega)]
      rfl
  · rw [if_neg hl, if_neg hl, if_neg hl, List.range_succ, List.flatMap_append]
    simp [passAt]
theorem ppre_len (w h l : Int) (p : Nat) : (ppre w h l p).length ≤ p := by
  unfold ppre
  split
  · split
    · simp
    · simp; omega
  · exact pass_len w h p
theorem ppre_in (w h l : Int) (w1 : 1 ≤ w) (w2 : w ≤ 65535) (h1 : 1 ≤ h) (h2 : h ≤ 65535) (p : Nat) : ∀ x ∈ ppre w h l p, 0 ≤ x.2.2 ∧ x.2.2 ≤ 65535 := by
  intro x hx
  unfold ppre at hx
  split at hx
  · split at hx
    · cases hx
    · rw [List.mem_singleton.1 hx]
      show 0 ≤ h ∧ h ≤ 65535
      omega
  · obtain ⟨p, _, hp⟩ := List.mem_flatMap.1 hx
    unfold passAt at hp
    split at hp
    · rw [List.mem_singleton.1 hp]
      exact ⟨(pass_bd w h p w1 w2 h1 h2).2.2.1, (pass_bd w h p w1 w2 h1 h2).2.2.2⟩
    · cases hp
theorem sizeR_bd (w h l : Int) (p : Nat) (w1 : 1 ≤ w) (w2 : w ≤ 65535) (h1 : 1 ≤ h) (h2 : h ≤ 65535) : 0 ≤ (sizeR w h l p).1 ∧ (sizeR w h l p).1 ≤ 65535 ∧ 0 ≤ (sizeR w h l p).2 ∧ (sizeR w h l p).2 ≤ 65535 := by
  unfold sizeR
  split
  · split
    · show 0 ≤ w ∧ w ≤ 65535 ∧ 0 ≤ h ∧ h ≤ 65535
      omega
    · simp
  · exact pass_bd w h p w1 w2 h1 h2
/-- a head, boxed -/
def HxW (wr W : World) (w h d c l : Int) : Prop := Blk wr W.heap.size 23 #[.int .i64 w, .int .i64 h, .int .i64 d, .int .i64 c, .int .i64 l] ∧ Below W.heap.size W wr
theorem HxW.below {w w' W : World} {a b c d e : Int} (h : HxW w W a b c d e) (hb : Below w.heap.size w w') : HxW w' W a b c d e := ⟨h.1.below hb h.1.lt, h.2.trans (hb.mono h.2.size)⟩
set_option maxRecDepth 100000 in
set_option maxHeartbeats 8000000 in
theorem rdata_any (w h d c l : Int) (hh : headErr w h d c l = 0) (W : World) :
    Calls Try.prog 14 #[.agg #[.int .i64 w, .int .i64 h, .int .i64 d, .int .i64 c, .int .i64 l]] W fun e w' => e = .returned (.int .i64 (dataM w h d c l)) ∧ Below W.heap.size W w' := by
  obtain ⟨b1, b2, b3, b4, b5, b6, b7⟩ := headErr_bnd hh
  have He := hid (dataM_eq hh).1
  have Hh := hid hh
  have H0 : Hid (HxW (W.alloc (.cells #[.int .i64 w, .int .i64 h, .int .i64 d, .int .i64 c, .int .i64 l] 23)) W w h d c l) := hid ⟨Blk.new _ _ _, (Below.refl _ _).alloc (Nat.le_refl _) _⟩
  clear hh b5
  go_enter Try.func14, Try.ntmps14
  go_upto_region 3 with (fail)
  go_loopw [3, 4] (fun n i wr => ∃ p : Nat, p ≤ 7 ∧ i = .int .i64 p ∧ n = .int .i64 (psum w h d c l (ppre w h l p)) ∧ HxW wr W w h d c l) (fun _ i _ => 7 - (intOf i).toNat)
  case atStart => exact ⟨0, by omega, rfl, by unfold ppre; split <;> rfl, H0.out⟩
  case round =>
    obtain ⟨p, hp, rfl, rfl, hx⟩ := hrel
    have Hx := hid hx
    clear hx H0
    by_cases hlt : p < 7
    · have d7 : decide ((p : Int) < 7) = true := decide_eq_true (by omega)
      obtain ⟨_, p1, p2⟩ := dsum_eq w h d c l _ (ppre w h l p) rfl (Nat.le_trans (ppre_len w h l p) (by omega)) (ppre_in w h l b1 b2 b3 b4 p)
      have hpl := ppre_len w h l p
      have p3 : psum w h d c l (ppre w h l p) ≤ 7 * 39321065535 := by
        have : (((ppre w h l p).length : Nat) : Int) ≤ 7 := by omega
        exact Int.le_trans p2 (Int.mul_le_mul_of_nonneg_right this (by omega))
      have Hyes := hid (fun (hc : 0 < (sizeR w h l p).1) => show psum w h d c l (ppre w h l (p + 1)) = psum w h d c l (ppre w h l p) + (sizeR w h l p).2 * (1 + rowM w h d c l (sizeR w h l p).1) by rw [ppre_next w h l p b1, if_pos hc, psum_snoc])
      have Hno := hid (fun (hc : ¬ 0 < (sizeR w h l p).1) => show psum w h d c l (ppre w h l (p + 1)) = psum w h d c l (ppre w h l p) by rw [ppre_next w h l p b1, if_neg hc, List.append_nil])
      obtain ⟨s1, s2, s3, s4⟩ := sizeR_bd w h l p b1 b2 b3 b4
      clear p2 hpl
      have q0 := Hx.out.1.cell 0
      have q1 := Hx.out.1.cell 1
      have q2 := Hx.out.1.cell 2
      have q3 := Hx.out.1.cell 3
      have q4 := Hx.out.1.cell 4
      simp only [List.getElem?_toArray, List.getElem?_cons_zero, List.getElem?_cons_succ] at q0 q1 q2 q3 q4
      go_wp2_with fail
      refine (rsize17_any w h d c l p hlt b1 b2 b3 b4 _).mono ?_
      rintro e w2 ⟨rfl, hb⟩
      have Hx2 := hid (Hx.out.below hb)
      generalize (sizeR w h l p).1 = cw at *
      generalize (sizeR w h l p).2 = ch at *
      generalize psum w h d c l (ppre w h l p) = ps at *
      clear q0 q1 q2 q3 q4
      have q0 := Hx2.out.1.cell 0
      have q1 := Hx2.out.1.cell 1
      have q2 := Hx2.out.1.cell 2
      have q3 := Hx2.out.1.cell 3
      have q4 := Hx2.out.1.cell 4
      simp only [List.getElem?_toArray, List.getElem?_cons_zero, List.getElem?_cons_succ] at q0 q1 q2 q3 q4
      clear hb Hx
      by_cases hc : 0 < cw
      · have d1 : decide (0 < cw) = true := decide_eq_true hc
        obtain ⟨r1, r2⟩ := rowM_bd w h d c l cw
        have Hn := hid (Hyes.out hc)
        have m1 : 0 ≤ ch * (1 + rowM w h d c l cw) := Int.mul_nonneg s3 (by omega)
        have m2 : ch * (1 + rowM w h d c l cw) ≤ 65535 * 600001 := Int.mul_le_mul s4 (by omega) (by omega) (by omega)
        go_wp2_with fail
        refine (rrow_any w h d c l cw _ (by omega) s2 Hh.out).mono ?_
        rintro e w3 ⟨rfl, hb⟩
        have Hx3 := hid (Hx2.out.below hb)
        generalize rowM w h d c l cw = rm at *
        generalize hmm : ch * (1 + rm) = mm at *
        clear hb hc
        clear q0 q1 q2 q3 q4
        go_wp2
        go_roundw
        case rel => exact ⟨p + 1, by omega, by go_num, by rw [Hn.out], Hx3.out⟩
        case measure => simp [intOf]; omega
      · have d1 : decide (0 < cw) = false := decide_eq_false hc
        have Hn := hid (Hno.out (by omega))
        clear hc
        clear q0 q1 q2 q3 q4
        go_wp2
        go_roundw
        case rel => exact ⟨p + 1, by omega, by go_num, by rw [Hn.out], Hx2.out⟩
        case measure => simp [intOf]; omega
    · obtain rfl : p = 7 := by omega
      have Hf := hid (show psum w h d c l (ppre w h l 7) = dataM w h d c l by rw [ppre_7, He.out])
      rw [Hf.out]
      go_wp2
      go_ret
      exact ⟨rfl, Hx.out.2⟩
end Go.Proofs.Ytphhoihhmphbdaa
