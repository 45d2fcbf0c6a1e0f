/-
  inflate: the books of kind 1.
-/
import Derived.Test.YtegmbjkpjglgpaaInfRow
import Derived.Test.YtegmbjkpjglgpaaCatJ
namespace Go.Proofs.Ytegmbjkpjglgpaa
open Go.RowKit

theorem blkrow {w : World} {g n : Nat} {x : Int} (h : Blk w g 3 (intsV (List.replicate n x)).toArray) (hn : n ≤ 1000) : Rd w w.heap.size 1 (some ⟨g, 0, none⟩) n (intsV (List.replicate n x)) :=
  own_rd (own_of_blk (base := 0) (n := n) h (Nat.zero_le _) (by rw [intsV_length, List.length_replicate]) (by unfold maxLen; omega))
theorem repW (x : Int) (n : Nat) (h1 : 1 ≤ n) (h2 : n ≤ 1000) (W : World) : Calls Try.prog 132 #[.slice (some ⟨W.heap.size, 0, none⟩) 1 1, .int .i64 (n : Int)] (W.alloc (.cells #[.int .i64 x] 3)) fun e w' => ∃ g, e = .returned (.slice (some ⟨g, 0, none⟩) n n) ∧ Blk w' g 3 (intsV (List.replicate n x)).toArray ∧ Below W.heap.size W w' := by
  refine (repeat_any W.heap.size 1 x n _ h1 h2 (rdi_one W x)).mono ?_
  rintro e w1 ⟨g, rfl, _, hB, hb⟩
  exact ⟨g, rfl, hB, (below_alloc1 W _).trans (hb.mono (by simp))⟩
theorem fix_len : fixL.length = 288 ∧ fixD.length = 32 :=
  ⟨by unfold fixL; simp only [List.length_append, List.length_replicate], by unfold fixD; rw [List.length_replicate]⟩
theorem parts4 (w4 : World) (g1 g2 g3 g4 : Nat) (h : Blk w4 g1 3 (intsV (List.replicate 144 8)).toArray ∧ Blk w4 g2 3 (intsV (List.replicate 112 9)).toArray ∧ Blk w4 g3 3 (intsV (List.replicate 24 7)).toArray ∧ Blk w4 g4 3 (intsV (List.replicate 8 8)).toArray) :
    PartsCI (w4.alloc (.cells #[.slice (some ⟨g1, 0, none⟩) 144 144, .slice (some ⟨g2, 0, none⟩) 112 112, .slice (some ⟨g3, 0, none⟩) 24 24, .slice (some ⟨g4, 0, none⟩) 8 8] 53)) (w4.alloc (.cells #[.slice (some ⟨g1, 0, none⟩) 144 144, .slice (some ⟨g2, 0, none⟩) 112 112, .slice (some ⟨g3, 0, none⟩) 24 24, .slice (some ⟨g4, 0, none⟩) 8 8] 53)).heap.size w4.heap.size
      [(some ⟨g1, 0, none⟩, 144, 144), (some ⟨g2, 0, none⟩, 112, 112), (some ⟨g3, 0, none⟩, 24, 24), (some ⟨g4, 0, none⟩, 8, 8)] [intsV (List.replicate 144 8), intsV (List.replicate 112 9), intsV (List.replicate 24 7), intsV (List.replicate 8 8)] := by
  refine ⟨Blk.new _ _ _, rfl, ?_⟩
  intro k s l hs hl
  obtain ⟨h1, h2, h3, h4⟩ := h
  rcases k with _ | _ | _ | _ | k
  · injection hs with hs; injection hl with hl; subst hs hl; exact ⟨blkrow (h1.alloc _) (by simp), intsV_cells⟩
  · injection hs with hs; injection hl with hl; subst hs hl; exact ⟨blkrow (h2.alloc _) (by simp), intsV_cells⟩
  · injection hs with hs; injection hl with hl; subst hs hl; exact ⟨blkrow (h3.alloc _) (by simp), intsV_cells⟩
  · injection hs with hs; injection hl with hl; subst hs hl; exact ⟨blkrow (h4.alloc _) (by simp), intsV_cells⟩
  · simp at hs
theorem fix_row {w : World} {base : Nat} {A : Option Addr} {c : Nat} (h : w.ownsRow base 3 1 (.slice A 288 c) 288 [intsV (List.replicate 144 8), intsV (List.replicate 112 9), intsV (List.replicate 24 7), intsV (List.replicate 8 8)].flatten) : (A = none → c = 0) ∧ IRow w A fixL := by
  refine ⟨fun hA => ?_, IRow.own (base := base) (c := c) ?_⟩
  · rcases h.2 with ⟨h1, _⟩ | ⟨g, cap, cur, h1, _⟩
    · injection h1
    · injection h1 with h1
      rw [hA] at h1
      cases h1
  · rw [fix_len.1]
    have e : [intsV (List.replicate 144 8), intsV (List.replicate 112 9), intsV (List.replicate 24 7), intsV (List.replicate 8 8)].flatten = intsV fixL := by
      unfold fixL
      rw [intsV_app, intsV_app, intsV_app]
      simp only [List.flatten_cons, List.flatten_nil, List.append_nil]
    rw [e] at h
    exact h
set_option maxRecDepth 100000 in
set_option maxHeartbeats 4000000 in
theorem fixed_any (v : Ev) (s : Sk) (lp dp : Value) (bs : List (Nat × BM)) (W : World) (h : St v W s lp dp bs) :
    Calls Try.prog 117 #[.pointer (some ⟨v.g, 0, none⟩)] W (BndEnd v s fixL fixD) := by
  have H := hid h
  clear h
  go_enter Try.func117, Try.ntmps117
  go_wp2_with fail
  refine (repW 8 144 (by decide) (by decide) W).mono ?_
  rintro e w1 ⟨g1, rfl, hB1, hb1⟩
  go_wp2_with fail
  refine (repW 9 112 (by decide) (by decide) w1).mono ?_
  rintro e w2 ⟨g2, rfl, hB2, hb2⟩
  go_wp2_with fail
  refine (repW 7 24 (by decide) (by decide) w2).mono ?_
  rintro e w3 ⟨g3, rfl, hB3, hb3⟩
  go_wp2_with fail
  refine (repW 8 8 (by decide) (by decide) w3).mono ?_
  rintro e w4 ⟨g4, rfl, hB4, hb4⟩
  have b12 := hb1.size
  have b23 := hb2.size
  have b34 := hb3.size
  have b45 := hb4.size
  have hb24 := hb3.trans (hb4.mono b34)
  have hb14 := hb2.trans (hb24.mono b23)
  have hb04 := hb1.trans (hb14.mono b12)
  have S4 := hid (H.out.below hb04)
  have B4 := hid (And.intro (hB1.below hb14 hB1.lt) (And.intro (hB2.below hb24 hB2.lt) (And.intro (hB3.below hb4 hB3.lt) hB4)))
  clear hB1 hB2 hB3 hB4 hb1 hb2 hb3 hb4 hb24 hb14 hb04 b12 b23 b34 b45
  go_wp2_with fail
  have S5 := hid (S4.out.below (below_alloc1 w4 (.cells #[.slice (some ⟨g1, 0, none⟩) 144 144, .slice (some ⟨g2, 0, none⟩) 112 112, .slice (some ⟨g3, 0, none⟩) 24 24, .slice (some ⟨g4, 0, none⟩) 8 8] 53)))
  have hp := parts4 w4 g1 g2 g3 g4 B4.out
  have hcc := concatI_any w4.heap.size 4 288 _ _ _ hp (by simp) (by simp [intsV_length]) (by decide)
  refine hcc.mono ?_
  rintro e w5 ⟨A5, c5, rfl, hown5, hb5⟩
  have S6 := hid (S5.out.below hb5)
  have R6 := hid (fix_row hown5)
  clear S4 S5 B4 hp hcc hown5 hb5
  go_wp2_with fail
  refine (repW 5 32 (by decide) (by decide) w5).mono ?_
  rintro e w6 ⟨g6, rfl, hB6, hb6⟩
  have S7 := hid (S6.out.below hb6)
  have R7 := hid (And.intro R6.out.1 (R6.out.2.hold (HoldT.below hb6)))
  have Q7 : IRow w6 (some ⟨g6, 0, none⟩) fixD := IRow.own (base := 0) (c := 32) (by
    rw [fix_len.2]
    exact own_of_blk (base := 0) (n := 32) hB6 (Nat.zero_le _) (by rw [intsV_length]; exact fix_len.2) (by unfold maxLen; omega))
  have Q7 := hid Q7
  clear hB6 hb6 S6 R6
  go_wp2_with fail
  have hbw := bindW_any v s lp dp bs A5 (some ⟨g6, 0, none⟩) c5 32 fixL fixD (by rw [fix_len.1]; decide) (by rw [fix_len.2]; decide) R7.out.1 (fun h => by cases h) w6 S7.out R7.out.2 Q7.out
  rw [fix_len.1, fix_len.2] at hbw
  refine hbw.mono ?_
  intro e w7 hE
  have HE := hid hE
  have hz := hE
  unfold BndEnd at hz
  clear hbw hE S7 R7 Q7
  rcases hz with ⟨_, _, rfl, _⟩ | ⟨_, rfl, _⟩
  all_goals
    go_wp2_with fail
    go_ret
    exact HE.out
end Go.Proofs.Ytegmbjkpjglgpaa
