/-
  A pixel's numbers, in plain words.
  slices.Index of pixels.
-/
import Derived.Test.YtphhoihhmphbdaaPixel
import Derived.Deep.QuietTactic
import Derived.BigQuiet
import Derived.Outline
namespace Go.Proofs.Ytphhoihhmphbdaa
open Go.RowKit

/-- the parts of a pixel that a color names -/
def wideOf (c : Int) (p : Px) : List Int :=
  if c = 0 then [p.1] else if c = 2 then [p.1, p.2.1, p.2.2.1] else if c = 4 then [p.1, p.2.2.2] else [p.1, p.2.1, p.2.2.1, p.2.2.2]
/-- a pixel's numbers in a good form -/
def numsOf (f : Fm) (p : Px) : Option (List Int) :=
  if f.c = 3 then (if f.pal.findIdx (· == p) < f.pal.length then some [((f.pal.findIdx (· == p) : Nat) : Int)] else none)
  else if (wideOf f.c p).all (fun x => narrowOk x f.d) = true then
    (if pixOf f ((wideOf f.c p).map (· / stp f.d)) = some p then some ((wideOf f.c p).map (· / stp f.d)) else none)
  else none
theorem nums_back {f : Fm} {p : Px} {l : List Int} (hn : numsOf f p = some l) : pixOf f l = some p := by
  unfold numsOf at hn
  split at hn
  · rename_i h3
    split at hn
    · rename_i hlt
      injection hn with hn
      subst hn
      unfold pixOf
      rw [if_neg (by rw [h3]; exact fun h => h rfl), if_pos h3, if_pos (by simp)]
      have hp : (f.pal[f.pal.findIdx (· == p)] == p) = true := List.findIdx_getElem (p := (· == p)) (w := hlt)
      simp only [List.getD_cons_zero, Int.toNat_natCast]
      rw [List.getElem?_eq_getElem hlt]
      exact congrArg some (eq_of_beq hp)
    · cases hn
  · split at hn
    · split at hn
      · rename_i hp
        injection hn with hn
        subst hn
        exact hp
      · cases hn
    · cases hn

end Go.Proofs.Ytphhoihhmphbdaa

namespace Go.Proofs.Ytphhoihhmphbdaa
open Go.RowKit

theorem own_blk_full {w : World} {base g n size : Nat} {e : TypeId} {cs : Array Value} (h : Blk w g e cs) (hb : base ≤ g) (hm : n ≤ maxLen) (hs : cs.size = n * size) : w.ownsRow base e size (.slice (some ⟨g, 0, none⟩) n n) n cs.toList :=
  ⟨by simpa using hs, .inr ⟨g, n, cs, rfl, hb, h, Nat.le_refl _, hm, hs, List.take_of_length_le (by rw [Array.length_toList, hs]; exact Nat.le_refl _)⟩⟩

def idxV (l : List Px) (p : Px) : Int := if l.findIdx (· == p) < l.length then (l.findIdx (· == p) : Nat) else -1
def IdxPEnd (l : List Px) (p : Px) (W : World) (e : Ending) (w' : World) : Prop := e = .returned (.int .i64 (idxV l p)) ∧ Below W.heap.size W w'
theorem px_eql (a0 a1 a2 a3 x0 x1 x2 x3 : Int) (b : Bool) (hb : b = decide ((a0, a1, a2, a3) = (x0, x1, x2, x3))) (w : World) :
    (binOp .eql 62 (.agg #[.int .i64 a0, .int .i64 a1, .int .i64 a2, .int .i64 a3]) (.agg #[.int .i64 x0, .int .i64 x1, .int .i64 x2, .int .i64 x3])).run Try.prog w = .ok (.bool b) w := by
  subst hb
  by_cases h0 : a0 = x0
  · by_cases h1 : a1 = x1
    · by_cases h2 : a2 = x2
      · by_cases h3 : a3 = x3
        · subst h0 h1 h2 h3; go_simp
        · subst h0 h1 h2; have d : (a3 == x3) = false := beq_eq_false_iff_ne.2 h3
          rw [decide_eq_false (by simpa using h3)]; go_simp
      · subst h0 h1; have d : (a2 == x2) = false := beq_eq_false_iff_ne.2 h2
        rw [decide_eq_false (by simp [h2])]; go_simp
    · subst h0; have d : (a1 == x1) = false := beq_eq_false_iff_ne.2 h1
      rw [decide_eq_false (by simp [h1])]; go_simp
  · have d : (a0 == x0) = false := beq_eq_false_iff_ne.2 h0
    rw [decide_eq_false (by simp [h0])]; go_simp

theorem px_neq (a0 a1 a2 a3 x0 x1 x2 x3 : Int) (b : Bool) (hb : b = !decide ((a0, a1, a2, a3) = (x0, x1, x2, x3))) (w : World) :
    (binOp .neq 62 (.agg #[.int .i64 a0, .int .i64 a1, .int .i64 a2, .int .i64 a3]) (.agg #[.int .i64 x0, .int .i64 x1, .int .i64 x2, .int .i64 x3])).run Try.prog w = .ok (.bool b) w := by
  subst hb
  by_cases h0 : a0 = x0
  · by_cases h1 : a1 = x1
    · by_cases h2 : a2 = x2
      · by_cases h3 : a3 = x3
        · subst h0 h1 h2 h3; go_simp
        · subst h0 h1 h2; have d : (a3 == x3) = false := beq_eq_false_iff_ne.2 h3
          rw [decide_eq_false (by simpa using h3)]; go_simp
      · subst h0 h1; have d : (a2 == x2) = false := beq_eq_false_iff_ne.2 h2
        rw [decide_eq_false (by simp [h2])]; go_simp
    · subst h0; have d : (a1 == x1) = false := beq_eq_false_iff_ne.2 h1
      rw [decide_eq_false (by simp [h1])]; go_simp
  · have d : (a0 == x0) = false := beq_eq_false_iff_ne.2 h0
    rw [decide_eq_false (by simp [h0])]; go_simp

theorem idx_hit {l : List Px} {p : Px} {j : Nat} (hj : j < l.length) (hno : p ∉ l.take j) (h : l[j] = p) : idxV l p = j := by
  have e : l.findIdx (· == p) = j := by
    rw [List.findIdx_eq hj]
    refine ⟨by simp [h], fun i hi => ?_⟩
    rw [beq_eq_false_iff_ne]
    intro hh
    exact hno (hh ▸ by rw [List.mem_take_iff_getElem]; exact ⟨i, by omega, rfl⟩)
  unfold idxV
  rw [e, if_pos hj]
theorem idx_no {l : List Px} {p : Px} (hno : p ∉ l) : idxV l p = -1 := by
  unfold idxV
  rw [if_neg]
  rw [List.findIdx_lt_length]
  rintro ⟨x, hx, h⟩
  exact hno (eq_of_beq h ▸ hx)
theorem mem_take_px {l : List Px} {v : Px} {j : Nat} (hj : j < l.length) (h : v ∉ l.take j) (hv : l[j] ≠ v) : v ∉ l.take (j + 1) := by
  rw [List.take_succ_eq_append_getElem hj]
  intro hm
  rcases List.mem_append.1 hm with h1 | h1
  · exact h h1
  · simp at h1; exact hv h1.symm
set_option maxHeartbeats 1000000 in
theorem indexP_any (A : Option Addr) (c : Nat) (l : List Px) (a0 a1 a2 a3 : Int) (W : World) (hr : RdP W W.heap.size A l) (hm : l.length ≤ 1000000) :
    Calls Try.prog 129 #[.slice A l.length c, .agg #[.int .i64 a0, .int .i64 a1, .int .i64 a2, .int .i64 a3]] W (IdxPEnd l (a0, a1, a2, a3) W) := by
  have Hr := hid hr
  clear hr
  go_enter Try.func129, Try.ntmps129
  go_wp2
  go_loopw [8] (fun i wr => ∃ j : Nat, j ≤ l.length ∧ i = .int .i64 j ∧ (a0, a1, a2, a3) ∉ l.take j ∧ Blk wr W.heap.size 62 #[.int .i64 a0, .int .i64 a1, .int .i64 a2, .int .i64 a3] ∧ Below W.heap.size W wr) (fun i _ => l.length - (intOf i).toNat)
  case atStart => exact ⟨0, by omega, rfl, by simp, Blk.new _ _ _, (Below.refl _ _).alloc (Nat.le_refl _) _⟩
  case round =>
    obtain ⟨j, hj, rfl, hno, hblk, hb⟩ := hrel
    have Hno := hid hno
    have Hblk := hid hblk
    have Hb := hid hb
    have r0 := hblk.cell 0
    have r1 := hblk.cell 1
    have r2 := hblk.cell 2
    have r3 := hblk.cell 3
    simp only [List.getElem?_toArray, List.getElem?_cons_zero, List.getElem?_cons_succ] at r0 r1 r2 r3
    clear hno hblk hb
    by_cases hlt : j < l.length
    · obtain ⟨b, off, rfl, hbb, x0, x1, x2, x3⟩ := px_at (Rd.below Hr.out Hb.out (Nat.le_refl _)) hlt
      by_cases hv : l[j] = (a0, a1, a2, a3)
      · have Hm := hid (idx_hit hlt Hno.out hv)
        rw [hv] at x0 x1 x2 x3
        simp only at x0 x1 x2 x3
        have hq := px_eql a0 a1 a2 a3 a0 a1 a2 a3 true (decide_eq_true rfl).symm
        clear hv
        go_wp2
        go_quiet (fail)
        go_wp2
        go_ret
        exact ⟨ret_int (by rw [Hm.out]), below_drewN Hb.out _⟩
      · have Hm := hid (mem_take_px hlt Hno.out hv)
        generalize l[j] = x at *
        obtain ⟨xr, xg, xb, xa⟩ := x
        simp only at x0 x1 x2 x3
        have hq := px_eql a0 a1 a2 a3 xr xg xb xa false (decide_eq_false (fun h => hv h.symm)).symm
        clear hv
        go_wp2
        go_quiet (fail)
        go_wp2
        go_roundw
        case rel => exact ⟨j + 1, by omega, by go_num, Hm.out, Hblk.out, below_drewN Hb.out _⟩
        case measure => simp [intOf]; omega
    · go_wp2
      go_ret
      have e : j = l.length := by omega
      subst e
      exact ⟨ret_int (by rw [idx_no (by have := Hno.out; rwa [List.take_length] at this)]), Hb.out⟩

end Go.Proofs.Ytphhoihhmphbdaa
