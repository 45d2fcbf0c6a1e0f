/-
  burnishref13.Check: the same as head.Check.
-/
import Derived.Test.YtphhoihhmphbdaaHeadCheck
import Derived.Test.YtphhoihhmphbdaaBase
namespace Go.Proofs.Ytphhoihhmphbdaa
open Go.RowKit

/-- colors and depths that go together -/
def PL : List (Int × Int) := [(0, 1), (0, 2), (0, 4), (0, 8), (0, 16), (2, 8), (2, 16), (3, 1), (3, 2), (3, 4), (3, 8), (4, 8), (4, 16), (6, 8), (6, 16)]
def plB (c d : Int) (p : Int × Int) : Bool := p.1 == c && p.2 == d
theorem pl_dl (c d : Int) : PL.any (plB c d) = decide (d ∈ dl c) := by
  rw [Bool.eq_iff_iff]
  unfold PL dl plB
  by_cases h0 : c = 0
  · subst h0; simp; omega
  by_cases h3 : c = 3
  · subst h3; simp; omega
  by_cases h2 : c = 2
  · subst h2; simp; omega
  by_cases h4 : c = 4
  · subst h4; simp; omega
  by_cases h6 : c = 6
  · subst h6; simp; omega
  simp [h0, h3, h2, h4, h6]
  omega
theorem pl_take (c d : Int) (j : Nat) (hj : j < PL.length) : (PL.take (j + 1)).any (plB c d) = ((PL.take j).any (plB c d) || plB c d PL[j]) := by
  rw [List.take_succ_eq_append_getElem hj, List.any_append]; simp

def RcEnd (w h d c l : Int) (W : World) (e : Ending) (w' : World) : Prop := e = .returned (.int .i64 (headErr w h d c l)) ∧ Below W.heap.size W w'
theorem rcEnd {w h d c l k : Int} {W w' : World} (hh : headErr w h d c l = k) (hb : Below W.heap.size W w') : RcEnd w h d c l W (.returned (.int .i64 k)) w' := by unfold RcEnd; rw [hh]; exact ⟨rfl, hb⟩

/-- a head, boxed -/
def HC (wr : World) (g : Nat) (w h d c l : Int) : Prop := wr.cell? ⟨g, 0, none⟩ = some (.int .i64 w) ∧ wr.cell? ⟨g, 1, none⟩ = some (.int .i64 h) ∧ wr.cell? ⟨g, 2, none⟩ = some (.int .i64 d) ∧ wr.cell? ⟨g, 3, none⟩ = some (.int .i64 c) ∧ wr.cell? ⟨g, 4, none⟩ = some (.int .i64 l)

set_option maxRecDepth 100000 in
set_option maxHeartbeats 8000000 in
theorem refCheck_any (w h d c l : Int) (W : World) :
    Calls Try.prog 41 #[.agg #[.int .i64 w, .int .i64 h, .int .i64 d, .int .i64 c, .int .i64 l]] W (RcEnd w h d c l W) := by
  go_enter Try.func41, Try.ntmps41
  go_wp2_with fail
  have hp : Rd ((W.alloc (.cells #[.int .i64 w, .int .i64 h, .int .i64 d, .int .i64 c, .int .i64 l] 23)).alloc (.cells (PL.flatMap encTok).toArray 3)) (W.heap.size + 2) 2 (some ⟨W.heap.size + 1, 0, none⟩) PL.length (PL.flatMap encTok) := by
    refine ⟨rfl, fun _ => ⟨W.heap.size + 1, 0, rfl, by omega, fun j u hu => ?_⟩⟩
    have hb := (Blk.new (W.alloc (.cells #[.int .i64 w, .int .i64 h, .int .i64 d, .int .i64 c, .int .i64 l] 23)) 3 (PL.flatMap encTok).toArray).cell (0 + j)
    rw [World.size_alloc] at hb
    rw [hb, Nat.zero_add, List.getElem?_toArray]
    exact hu
  have hh : ∀ j u, #[Value.int .i64 w, .int .i64 h, .int .i64 d, .int .i64 c, .int .i64 l][j]? = some u → ((W.alloc (.cells #[.int .i64 w, .int .i64 h, .int .i64 d, .int .i64 c, .int .i64 l] 23)).alloc (.cells (PL.flatMap encTok).toArray 3)).cell? ⟨W.heap.size, j, none⟩ = some u := by
    intro j u hu
    rw [((Blk.new W 23 _).alloc _).cell j]
    exact hu
  have hb : Below W.heap.size W ((W.alloc (.cells #[.int .i64 w, .int .i64 h, .int .i64 d, .int .i64 c, .int .i64 l] 23)).alloc (.cells (PL.flatMap encTok).toArray 3)) := ((Below.refl _ _).alloc (Nat.le_refl _) _).alloc (by simp) _
  go_loopw [4, 5] (fun gv i wr => ∃ k m : Nat, m = k * 2 ∧ k ≤ 15 ∧ i = .int .i64 m ∧ gv = .bool ((PL.take k).any (plB c d)) ∧ Rd wr (W.heap.size + 2) 2 (some ⟨W.heap.size + 1, 0, none⟩) PL.length (PL.flatMap encTok) ∧ HC wr W.heap.size w h d c l ∧ Below W.heap.size W wr) (fun _ i _ => 30 - (intOf i).toNat)
  case atStart => exact ⟨0, 0, rfl, by omega, rfl, rfl, hp, ⟨hh 0 _ rfl, hh 1 _ rfl, hh 2 _ rfl, hh 3 _ rfl, hh 4 _ rfl⟩, hb⟩
  case round =>
    obtain ⟨k, m, hm, hk, rfl, rfl, hp, hh, hb⟩ := hrel
    have Hp := hid hp
    have Hh := hid hh
    have Hb := hid hb
    clear hp hh hb
    by_cases hlt : k < 15
    · obtain ⟨b, off, hA, _, p0, p1⟩ := tok_at Hp.out (show k < PL.length from hlt)
      obtain ⟨rfl, rfl⟩ : W.heap.size + 1 = b ∧ 0 = off := by simpa using hA
      clear hA
      obtain ⟨q0, q1, q2, q3, q4⟩ := Hh.out
      have Ht := hid (pl_take c d k hlt)
      rw [← hm, Nat.zero_add] at p0 p1
      have hkk : (m : Int) < 30 := by omega
      have hk1 : (m : Int) + 1 < 30 := by omega
      have Hm := hid hm
      clear hm
      generalize PL[k]'hlt = x at *
      obtain ⟨xc, xd⟩ := x
      simp only at p0 p1
      have hk0 : (0 : Int) ≤ (m : Int) + 1 := by omega
      have e1 : IntKind.i64.wrap ((m : Int) + 1) = (m : Int) + 1 := by rw [IntKind.wrap_i64]; omega
      have e2 : ((m : Int) + 1).toNat = m + 1 := by omega
      cases hgv : (PL.take k).any (plB c d)
      · by_cases hc : xc = c
        · have c1 : (xc == c) = true := beq_iff_eq.2 hc
          have Hn : Hid ((PL.take (k + 1)).any (plB c d) = (xd == d)) := by rw [Ht.out, hgv]; show (false || (xc == c && xd == d)) = _; rw [c1]; simp
          clear hc hgv
          go_wp2
          go_quiet (fail)
          clear e1 e2
          go_wp2
          go_roundw
          case rel => exact ⟨k + 1, m + 2, by have := Hm.out; omega, by omega, by go_num, by rw [Hn.out], Hp.out.drewN nq, Hh.out, below_drewN Hb.out nq⟩
          case measure => simp [intOf]; omega
        · have c1 : (xc == c) = false := beq_eq_false_iff_ne.2 hc
          have Hn : Hid ((PL.take (k + 1)).any (plB c d) = false) := by rw [Ht.out, hgv]; show (false || (xc == c && xd == d)) = _; rw [c1]; simp
          clear hc hgv
          go_wp2
          go_quiet (fail)
          clear e1 e2
          go_wp2
          go_roundw
          case rel => exact ⟨k + 1, m + 2, by have := Hm.out; omega, by omega, by go_num, by rw [Hn.out], Hp.out.drewN nq, Hh.out, below_drewN Hb.out nq⟩
          case measure => simp [intOf]; omega
      · have Hn : Hid ((PL.take (k + 1)).any (plB c d) = true) := by unfold Hid; rw [Ht.out, hgv]; rfl
        clear hgv
        go_wp2
        go_quiet (fail)
        clear e1 e2
        go_wp2
        go_roundw
        case rel => exact ⟨k + 1, m + 2, by have := Hm.out; omega, by omega, by go_num, by rw [Hn.out], Hp.out.drewN nq, Hh.out, below_drewN Hb.out nq⟩
        case measure => simp [intOf]; omega
    · have e : k = 15 := by omega
      subst e
      have Hg : Hid (decide (d ∈ dl c) = (PL.take 15).any (plB c d)) := (pl_dl c d).symm
      obtain ⟨q0, q1, q2, q3, q4⟩ := Hh.out
      cases hgv : (PL.take 15).any (plB c d)
      · have h3 : d ∉ dl c := of_decide_eq_false (Hg.out.trans hgv)
        have Hn := hid (show headErr w h d c l = 2 by unfold headErr; rw [if_pos (.inr (.inr (.inl h3)))])
        clear h3
        go_wp2
        go_ret
        exact rcEnd Hn.out Hb.out
      have h3 : d ∈ dl c := of_decide_eq_true (Hg.out.trans hgv)
      by_cases h1 : w < 1
      · have Hn := hid (show headErr w h d c l = 2 by unfold headErr; rw [if_pos (.inl h1)])
        have d1 : decide (w < 1) = true := decide_eq_true h1
        clear h3
        go_wp2
        go_ret
        exact rcEnd Hn.out Hb.out
      have d1 : decide (w < 1) = false := decide_eq_false h1
      by_cases h2 : h < 1
      · have Hn := hid (show headErr w h d c l = 2 by unfold headErr; rw [if_pos (.inr (.inl h2))])
        have d2 : decide (h < 1) = true := decide_eq_true h2
        clear h3
        go_wp2
        go_ret
        exact rcEnd Hn.out Hb.out
      have d2 : decide (h < 1) = false := decide_eq_false h2
      by_cases hl : l = 0 ∨ l = 1
      · by_cases h6 : 65535 < w
        · have Hn := hid (show headErr w h d c l = 4 by unfold headErr; rw [if_neg (by rintro (h | h | h | h | h) <;> first | omega | exact h h3), if_pos (.inl h6)])
          have d6 : decide (65535 < w) = true := decide_eq_true h6
          clear h3
          rcases hl with rfl | rfl
          all_goals
            go_wp2
            go_ret
            exact rcEnd Hn.out Hb.out
        have d6 : decide (65535 < w) = false := decide_eq_false h6
        by_cases h7 : 65535 < h
        · have Hn := hid (show headErr w h d c l = 4 by unfold headErr; rw [if_neg (by rintro (h | h | h | h | h) <;> first | omega | exact h h3), if_pos (.inr (.inl h7))])
          have d7 : decide (65535 < h) = true := decide_eq_true h7
          clear h3
          rcases hl with rfl | rfl
          all_goals
            go_wp2
            go_ret
            exact rcEnd Hn.out Hb.out
        have d7 : decide (65535 < h) = false := decide_eq_false h7
        have m0 : 0 ≤ w * h := Int.mul_nonneg (by omega) (by omega)
        have m1 : w * h ≤ 65535 * 65535 := Int.mul_le_mul (by omega) (by omega) (by omega) (by omega)
        by_cases h8 : 262144 < w * h
        · have Hn := hid (show headErr w h d c l = 4 by unfold headErr; rw [if_neg (by rintro (h | h | h | h | h) <;> first | omega | exact h h3), if_pos (.inr (.inr h8))])
          have d8 : decide (262144 < w * h) = true := decide_eq_true h8
          clear h3
          rcases hl with rfl | rfl
          all_goals
            go_wp2
            go_ret
            exact rcEnd Hn.out Hb.out
        · have Hn := hid (show headErr w h d c l = 0 by unfold headErr; rw [if_neg (by rintro (h | h | h | h | h) <;> first | omega | exact h h3), if_neg (by omega)])
          have d8 : decide (262144 < w * h) = false := decide_eq_false h8
          clear h3
          rcases hl with rfl | rfl
          all_goals
            go_wp2
            go_ret
            exact rcEnd Hn.out Hb.out
      · have Hn := hid (show headErr w h d c l = 2 by unfold headErr; rw [if_pos (by right; right; right; omega)])
        have l0 : (l != 0) = true := bne_iff_ne.2 (by omega)
        have l1 : (l != 1) = true := bne_iff_ne.2 (by omega)
        clear h3 hl
        go_wp2
        go_ret
        exact rcEnd Hn.out Hb.out

end Go.Proofs.Ytphhoihhmphbdaa
