/-
  block.reach and block.Unruns.
-/
import Derived.Test.YtnlhneoiofijeaaRepeat
import Derived.Test.YtnlhneoiofijeaaWindow
import Derived.Test.YtnlhneoiofijeaaErr
namespace Go.Proofs.Ytnlhneoiofijeaa
open Go.RowKit

def rl (s : Int) : Int := if s = 16 ∨ s = 17 then 3 else if s = 18 then 11 else 1
def rb (s : Int) : Int := if s = 16 then 2 else if s = 17 then 3 else if s = 18 then 7 else 0
theorem reach_any (s : Int) (W : World) : Calls Try.prog 70 #[.int .i64 s] W fun e w' => e = .returned (.tuple #[.int .i64 (rl s), .int .i64 (rb s)]) ∧ w' = W := by
  by_cases h1 : s = 16
  · subst h1
    go_enter Try.func70, Try.ntmps70
    go_wp2
    go_ret2
    exact ⟨rfl, rfl⟩
  · by_cases h2 : s = 17
    · subst h2
      clear h1
      go_enter Try.func70, Try.ntmps70
      go_wp2
      go_ret2
      exact ⟨rfl, rfl⟩
    · by_cases h3 : s = 18
      · subst h3
        clear h1 h2
        go_enter Try.func70, Try.ntmps70
        go_wp2
        go_ret2
        exact ⟨rfl, rfl⟩
      · have e1 : (s == 16) = false := beq_eq_false_iff_ne.2 h1
        have e2 : (s == 17) = false := beq_eq_false_iff_ne.2 h2
        have e3 : (s == 18) = false := beq_eq_false_iff_ne.2 h3
        have hl : rl s = 1 := by unfold rl; rw [if_neg (by omega), if_neg h3]
        have hb : rb s = 0 := by unfold rb; rw [if_neg h1, if_neg h2, if_neg h3]
        rw [hl, hb]
        clear hl hb h1 h2 h3
        go_enter Try.func70, Try.ntmps70
        go_wp2
        go_ret2
        exact ⟨rfl, rfl⟩

theorem rd_block {w : World} {g n size : Nat} {t : TypeId} {xs : List Value} (h : Blk w g t xs.toArray) (hl : xs.length = n * size) : Rd w w.heap.size size (some ⟨g, 0, none⟩) n xs :=
  ⟨hl, fun _ => ⟨g, 0, rfl, h.lt, fun j u hu => by rw [h.cell (0 + j)]; simpa using hu⟩⟩
theorem rdi_one (w : World) (v : Int) : RdI (w.alloc (.cells #[.int .i64 v] 3)) (w.heap.size + 1) (some ⟨w.heap.size, 0, none⟩) [v] := RdI.new (by simp)

set_option maxRecDepth 100000 in
set_option maxHeartbeats 8000000 in
theorem unruns_any (A : Option Addr) (c : Nat) (l : List (Int × Int)) (W : World) (hr : Rd W W.heap.size 2 A l.length (l.flatMap encTok)) (hm : l.length ≤ 5000) :
    Calls Try.prog 50 #[.slice A l.length c] W (UnrEnd .nilIface (.iface 47 (.int .i64 6)) l W) := by
  have Hr := hid hr
  obtain ⟨i0, hi0, hz0, hz1, hz2⟩ := info_parts int_info
  have Hi0 := hid hi0
  have Hz0 := hid hz0
  have Hz1 := hid hz1
  have Hz2 := hid hz2
  clear hi0 hz0 hz1 hz2 hr
  go_enter Try.func50, Try.ntmps50
  go_wp2
  go_loopw [4, 12] (fun o i wr => ∃ (j : Nat) (out : List Int) (A' : Option Addr) (c' : Nat), j ≤ l.length ∧ i = .int .i64 j ∧ o = .slice A' out.length c' ∧ wr.ownsRow W.heap.size 3 1 (.slice A' out.length c') out.length (intsV out) ∧
      unr [] l = unr out (l.drop j) ∧ out.length ≤ 138 * j ∧ (out = [] ↔ j = 0) ∧ Below W.heap.size W wr) (fun _ i _ => l.length - (intOf i).toNat)
  case atStart => exact ⟨0, [], none, 0, by omega, rfl, rfl, World.ownsRow_nil _ _ _ _, rfl, by simp, by simp, Below.refl _ _⟩
  case round =>
    obtain ⟨j, out, A', c', hj, rfl, rfl, hown, hu, hol, h00, hb⟩ := hrel
    have Hown := hid hown
    have Hb := hid hb
    have hsz := hb.size
    by_cases hlt : j < l.length
    · obtain ⟨b, off, rfl, hbb, q0, q1⟩ := tok_at (Hr.out.below hb (Nat.le_refl _)) hlt
      rw [List.drop_eq_getElem_cons hlt] at hu
      have Hu := hid hu
      clear hu hown hb
      generalize l[j] = t at *
      obtain ⟨s, e⟩ := t
      simp only at q0 q1
      by_cases b1 : s < 0
      · have g1 : decide (s < 0) = true := decide_eq_true b1
        have Hn : Hid (unr [] l = none) := Hu.out.trans (unr_bad (by unfold rbad rtop; exact .inl b1))
        go_wp2_with fail
        refine (reach_any _ _).mono ?_
        rintro e2 w2 ⟨rfl, rfl⟩
        go_wp2_with fail
        all_goals
          go_ret2
          exact unrEnd_none Hn.out (Hb.out.alloc hsz _)
      by_cases b2 : 18 < s
      · have g1 : decide (s < 0) = false := decide_eq_false b1
        have g2 : decide (18 < s) = true := decide_eq_true b2
        have Hn : Hid (unr [] l = none) := Hu.out.trans (unr_bad (by unfold rbad rtop; exact .inr (.inl b2)))
        go_wp2_with fail
        refine (reach_any _ _).mono ?_
        rintro e2 w2 ⟨rfl, rfl⟩
        go_wp2_with fail
        all_goals
          go_ret2
          exact unrEnd_none Hn.out (Hb.out.alloc hsz _)
      by_cases b3 : e < 0
      · have g1 : decide (s < 0) = false := decide_eq_false b1
        have g2 : decide (18 < s) = false := decide_eq_false b2
        have g3 : decide (e < 0) = true := decide_eq_true b3
        have Hn : Hid (unr [] l = none) := Hu.out.trans (unr_bad (by unfold rbad rtop; exact .inr (.inr (.inl b3))))
        go_wp2_with fail
        refine (reach_any _ _).mono ?_
        rintro e2 w2 ⟨rfl, rfl⟩
        go_wp2_with fail
        all_goals
          go_ret2
          exact unrEnd_none Hn.out (Hb.out.alloc hsz _)
      obtain ⟨ne, rfl⟩ := Int.eq_ofNat_of_zero_le (show 0 ≤ e by omega)
      have g1 : decide (s < 0) = false := decide_eq_false b1
      have g2 : decide (18 < s) = false := decide_eq_false b2
      have g3 : decide ((ne : Int) < 0) = false := decide_eq_false b3
      have hjj : ((j : Int) = 0) = (j = 0) := by simp
      by_cases k16 : s = 16
      · subst k16
        clear g1 g2 b1 b2
        have hre : ∀ W : World, Calls Try.prog 70 #[.int .i64 16] W fun e w' => e = .returned (.tuple #[.int .i64 3, .int .i64 2]) ∧ w' = W := fun W => by
          have h := reach_any 16 W
          rw [show rl 16 = 3 by rfl, show rb 16 = 2 by rfl] at h
          exact h
        by_cases t1 : 3 < ne
        · have q2 : ¬ (ne : Int) / 4 = 0 := by omega
          have q3 : ((ne : Int) / 4 == 0) = false := beq_eq_false_iff_ne.2 q2
          have Hn : Hid (unr [] l = none) := Hu.out.trans (unr_bad (by unfold rbad rtop; exact .inr (.inr (.inr (.inr (by simp; omega))))))
          go_wp2_with fail
          refine (hre _).mono ?_
          rintro e2 w2 ⟨rfl, rfl⟩
          go_wp2_with fail
          all_goals
            go_ret2
            exact unrEnd_none Hn.out (Hb.out.alloc hsz _)
        · have q2 : (ne : Int) / 4 = 0 := by omega
          by_cases h0 : j = 0
          · have ho : out = [] := h00.2 h0
            subst h0
            simp only [Nat.zero_mul, Nat.add_zero] at q0 q1
            have Hn : Hid (unr [] l = none) := Hu.out.trans (unr_bad (by unfold rbad rtop; exact .inr (.inr (.inr (.inl ⟨rfl, ho⟩)))))
            go_wp2_with fail
            refine (hre _).mono ?_
            rintro e2 w2 ⟨rfl, rfl⟩
            go_wp2_with fail
            all_goals
              go_ret2
              exact unrEnd_none Hn.out (Hb.out.alloc hsz _)
          · have ho : ¬ out = [] := fun h => h0 (h00.1 h)
            have hpos : 0 < out.length := List.length_pos_iff.2 ho
            obtain ⟨g, u, rfl, hg1, hg2, hu, hcell⟩ := own_cell (j := out.length - 1) (Hown.out.alloc (.cells #[.int .i64 16, .int .i64 ne] 81)) (by omega)
            obtain ⟨x, hx⟩ : ∃ x, out.getLast? = some x := by cases hq : out.getLast? with | none => simp at hq; exact absurd hq ho | some x => exact ⟨x, rfl⟩
            obtain rfl : u = .int .i64 x := by
              rw [List.getLast?_eq_getElem?] at hx
              simp only [intsV, List.getElem?_map, hx] at hu
              simpa using hu.symm
            have Hx0 := hid hx
            clear hu hx
            have Hn : Hid (unr [] l = unr (out ++ List.replicate (3 + ne) (x)) (l.drop (j + 1))) := by
              have h := Hu.out
              rw [unr_step (by unfold rbad rtop; rintro (h | h | h | h | h) <;> first | omega | exact ho h.2 | (simp at h; omega))] at h
              have h2 : (rn 16 ne).toNat = 3 + ne := by unfold rn; simp; omega
              have h3 : rv out 16 = x := by unfold rv; rw [if_pos rfl, Hx0.out]; rfl
              rw [h2, h3] at h
              exact h
            have hrep : ∀ w : World, Calls Try.prog 77 #[.slice (some ⟨w.heap.size, 0, none⟩) 1 1, .int .i64 (3 + (ne : Int))] (w.alloc (.cells #[.int .i64 (x)] 3)) (RepEnd (x) (3 + ne) (w.alloc (.cells #[.int .i64 (x)] 3))) := fun w => by
              have h := repeat_any w.heap.size 1 (x) (3 + ne) (w.alloc (.cells #[.int .i64 (x)] 3)) (by omega) (by omega) (by have := rdi_one w (x); simpa using this)
              simpa using h
            have Hrep := hid (hrep (wr.alloc (.cells #[.int .i64 16, .int .i64 ne] 81)))
            have H2 := hid ((Hown.out.alloc (.cells #[.int .i64 16, .int .i64 ne] 81)).alloc (.cells #[.int .i64 (x)] 3))
            have B2 := hid ((Hb.out.alloc hsz (.cells #[.int .i64 16, .int .i64 ne] 81)).alloc (by simp; omega) (.cells #[.int .i64 (x)] 3))
            clear hrep
            go_wp2_with fail
            refine (hre _).mono ?_
            rintro e2 w2 ⟨rfl, rfl⟩
            clear hre
            go_wp2_with fail
            all_goals
              refine (show Calls _ _ _ _ (RepEnd (x) (3 + ne) _) by simpa using Hrep.out).mono ?_
              rintro e3 w3 ⟨g3, rfl, hg3, hblk, hb3⟩
              have H3 := hid (own_below H2.out (by simpa using hb3) (Nat.le_refl _))
              have hs3 : W.heap.size ≤ w3.heap.size := by have h := hb3.size; simp at h; omega
              have B3 := hid (B2.out.trans (hb3.mono (by simp; omega)))
              have Hblk := hid hblk
              clear hblk hb3 hg3
              go_wp2_with (at_builtin; refine wpList_app _ rfl _ _ _ rfl W.heap.size 3 i0 (.int .i64 0) 1 8 Try.underlying56 Hi0.out Hz0.out Hz1.out Hz2.out rfl (by omega) _ out.length c' _ rfl H3.out _ _ (3 + ne) (3 + ne) (intsV (List.replicate (3 + ne) (x))) rfl (rd_block Hblk.out (by simp [intsV])) (fun h => by cases h) (by intro u hu; obtain ⟨x, _, rfl⟩ := List.mem_map.1 hu; rfl) (by simp only [maxLen]; omega) (by omega) hs3 ?_; rintro A4 c4 w4 ⟨hown4, hgr4, hb4, _⟩)
              go_roundw
              case rel => exact ⟨j + 1, out ++ List.replicate (3 + ne) (x), A4, c4, by omega, by go_num, by simp, by simpa [intsV] using hown4, Hn.out, by simp; try omega, by simp; try omega, B3.out.trans hb4⟩
              case measure => simp [intOf]; omega
      by_cases k17 : s = 17
      · subst k17
        clear g1 g2 b1 b2
        have hre : ∀ W : World, Calls Try.prog 70 #[.int .i64 17] W fun e w' => e = .returned (.tuple #[.int .i64 3, .int .i64 3]) ∧ w' = W := fun W => by
          have h := reach_any 17 W
          rw [show rl 17 = 3 by rfl, show rb 17 = 3 by rfl] at h
          exact h
        by_cases t1 : 7 < ne
        · have q2 : ¬ (ne : Int) / 8 = 0 := by omega
          have q3 : ((ne : Int) / 8 == 0) = false := beq_eq_false_iff_ne.2 q2
          have Hn : Hid (unr [] l = none) := Hu.out.trans (unr_bad (by unfold rbad rtop; exact .inr (.inr (.inr (.inr (by simp; omega))))))
          go_wp2_with fail
          refine (hre _).mono ?_
          rintro e2 w2 ⟨rfl, rfl⟩
          go_wp2_with fail
          all_goals
            go_ret2
            exact unrEnd_none Hn.out (Hb.out.alloc hsz _)
        · have q2 : (ne : Int) / 8 = 0 := by omega
          have Hn : Hid (unr [] l = unr (out ++ List.replicate (3 + ne) (0)) (l.drop (j + 1))) := by
            have h := Hu.out
            rw [unr_step (by unfold rbad rtop; rintro (h | h | h | h | h) <;> first | omega | (simp at h; omega))] at h
            have h2 : (rn 17 ne).toNat = 3 + ne := by unfold rn; simp; omega
            have h3 : rv out 17 = 0 := by unfold rv; simp
            rw [h2, h3] at h
            exact h
          have hrep : ∀ w : World, Calls Try.prog 77 #[.slice (some ⟨w.heap.size, 0, none⟩) 1 1, .int .i64 (3 + (ne : Int))] (w.alloc (.cells #[.int .i64 (0)] 3)) (RepEnd (0) (3 + ne) (w.alloc (.cells #[.int .i64 (0)] 3))) := fun w => by
            have h := repeat_any w.heap.size 1 (0) (3 + ne) (w.alloc (.cells #[.int .i64 (0)] 3)) (by omega) (by omega) (by have := rdi_one w (0); simpa using this)
            simpa using h
          have Hrep := hid (hrep (wr.alloc (.cells #[.int .i64 17, .int .i64 ne] 81)))
          have H2 := hid ((Hown.out.alloc (.cells #[.int .i64 17, .int .i64 ne] 81)).alloc (.cells #[.int .i64 (0)] 3))
          have B2 := hid ((Hb.out.alloc hsz (.cells #[.int .i64 17, .int .i64 ne] 81)).alloc (by simp; omega) (.cells #[.int .i64 (0)] 3))
          clear hrep
          go_wp2_with fail
          refine (hre _).mono ?_
          rintro e2 w2 ⟨rfl, rfl⟩
          clear hre
          go_wp2_with fail
          all_goals
            refine (show Calls _ _ _ _ (RepEnd (0) (3 + ne) _) by simpa using Hrep.out).mono ?_
            rintro e3 w3 ⟨g3, rfl, hg3, hblk, hb3⟩
            have H3 := hid (own_below H2.out (by simpa using hb3) (Nat.le_refl _))
            have hs3 : W.heap.size ≤ w3.heap.size := by have h := hb3.size; simp at h; omega
            have B3 := hid (B2.out.trans (hb3.mono (by simp; omega)))
            have Hblk := hid hblk
            clear hblk hb3 hg3
            go_wp2_with (at_builtin; refine wpList_app _ rfl _ _ _ rfl W.heap.size 3 i0 (.int .i64 0) 1 8 Try.underlying56 Hi0.out Hz0.out Hz1.out Hz2.out rfl (by omega) _ out.length c' _ rfl H3.out _ _ (3 + ne) (3 + ne) (intsV (List.replicate (3 + ne) (0))) rfl (rd_block Hblk.out (by simp [intsV])) (fun h => by cases h) (by intro u hu; obtain ⟨x, _, rfl⟩ := List.mem_map.1 hu; rfl) (by simp only [maxLen]; omega) (by omega) hs3 ?_; rintro A4 c4 w4 ⟨hown4, hgr4, hb4, _⟩)
            go_roundw
            case rel => exact ⟨j + 1, out ++ List.replicate (3 + ne) (0), A4, c4, by omega, by go_num, by simp, by simpa [intsV] using hown4, Hn.out, by simp; try omega, by simp; try omega, B3.out.trans hb4⟩
            case measure => simp [intOf]; omega
      by_cases k18 : s = 18
      · subst k18
        clear g1 g2 b1 b2
        have hre : ∀ W : World, Calls Try.prog 70 #[.int .i64 18] W fun e w' => e = .returned (.tuple #[.int .i64 11, .int .i64 7]) ∧ w' = W := fun W => by
          have h := reach_any 18 W
          rw [show rl 18 = 11 by rfl, show rb 18 = 7 by rfl] at h
          exact h
        by_cases t1 : 127 < ne
        · have q2 : ¬ (ne : Int) / 128 = 0 := by omega
          have q3 : ((ne : Int) / 128 == 0) = false := beq_eq_false_iff_ne.2 q2
          have Hn : Hid (unr [] l = none) := Hu.out.trans (unr_bad (by unfold rbad rtop; exact .inr (.inr (.inr (.inr (by simp; omega))))))
          go_wp2_with fail
          refine (hre _).mono ?_
          rintro e2 w2 ⟨rfl, rfl⟩
          go_wp2_with fail
          all_goals
            go_ret2
            exact unrEnd_none Hn.out (Hb.out.alloc hsz _)
        · have q2 : (ne : Int) / 128 = 0 := by omega
          have Hn : Hid (unr [] l = unr (out ++ List.replicate (11 + ne) (0)) (l.drop (j + 1))) := by
            have h := Hu.out
            rw [unr_step (by unfold rbad rtop; rintro (h | h | h | h | h) <;> first | omega | (simp at h; omega))] at h
            have h2 : (rn 18 ne).toNat = 11 + ne := by unfold rn; simp; omega
            have h3 : rv out 18 = 0 := by unfold rv; simp
            rw [h2, h3] at h
            exact h
          have hrep : ∀ w : World, Calls Try.prog 77 #[.slice (some ⟨w.heap.size, 0, none⟩) 1 1, .int .i64 (11 + (ne : Int))] (w.alloc (.cells #[.int .i64 (0)] 3)) (RepEnd (0) (11 + ne) (w.alloc (.cells #[.int .i64 (0)] 3))) := fun w => by
            have h := repeat_any w.heap.size 1 (0) (11 + ne) (w.alloc (.cells #[.int .i64 (0)] 3)) (by omega) (by omega) (by have := rdi_one w (0); simpa using this)
            simpa using h
          have Hrep := hid (hrep (wr.alloc (.cells #[.int .i64 18, .int .i64 ne] 81)))
          have H2 := hid ((Hown.out.alloc (.cells #[.int .i64 18, .int .i64 ne] 81)).alloc (.cells #[.int .i64 (0)] 3))
          have B2 := hid ((Hb.out.alloc hsz (.cells #[.int .i64 18, .int .i64 ne] 81)).alloc (by simp; omega) (.cells #[.int .i64 (0)] 3))
          clear hrep
          go_wp2_with fail
          refine (hre _).mono ?_
          rintro e2 w2 ⟨rfl, rfl⟩
          clear hre
          go_wp2_with fail
          all_goals
            refine (show Calls _ _ _ _ (RepEnd (0) (11 + ne) _) by simpa using Hrep.out).mono ?_
            rintro e3 w3 ⟨g3, rfl, hg3, hblk, hb3⟩
            have H3 := hid (own_below H2.out (by simpa using hb3) (Nat.le_refl _))
            have hs3 : W.heap.size ≤ w3.heap.size := by have h := hb3.size; simp at h; omega
            have B3 := hid (B2.out.trans (hb3.mono (by simp; omega)))
            have Hblk := hid hblk
            clear hblk hb3 hg3
            go_wp2_with (at_builtin; refine wpList_app _ rfl _ _ _ rfl W.heap.size 3 i0 (.int .i64 0) 1 8 Try.underlying56 Hi0.out Hz0.out Hz1.out Hz2.out rfl (by omega) _ out.length c' _ rfl H3.out _ _ (11 + ne) (11 + ne) (intsV (List.replicate (11 + ne) (0))) rfl (rd_block Hblk.out (by simp [intsV])) (fun h => by cases h) (by intro u hu; obtain ⟨x, _, rfl⟩ := List.mem_map.1 hu; rfl) (by simp only [maxLen]; omega) (by omega) hs3 ?_; rintro A4 c4 w4 ⟨hown4, hgr4, hb4, _⟩)
            go_roundw
            case rel => exact ⟨j + 1, out ++ List.replicate (11 + ne) (0), A4, c4, by omega, by go_num, by simp, by simpa [intsV] using hown4, Hn.out, by simp; try omega, by simp; try omega, B3.out.trans hb4⟩
            case measure => simp [intOf]; omega
      have e16 : (s == 16) = false := by rw [beq_eq_false_iff_ne]; exact k16
      have e17 : (s == 17) = false := by rw [beq_eq_false_iff_ne]; exact k17
      have e18 : (s == 18) = false := by rw [beq_eq_false_iff_ne]; exact k18
      have hre : ∀ W : World, Calls Try.prog 70 #[.int .i64 s] W fun e w' => e = .returned (.tuple #[.int .i64 1, .int .i64 0]) ∧ w' = W := fun W => by
        have h := reach_any s W
        rw [show rl s = 1 by unfold rl; rw [if_neg (by omega), if_neg k18], show rb s = 0 by unfold rb; rw [if_neg k16, if_neg k17, if_neg k18]] at h
        exact h
      by_cases t1 : 0 < ne
      · have q2 : ¬ (ne : Int) = 0 := by omega
        have q3 : ((ne : Int) == 0) = false := beq_eq_false_iff_ne.2 q2
        have Hn : Hid (unr [] l = none) := Hu.out.trans (unr_bad (by unfold rbad rtop; exact .inr (.inr (.inr (.inr (by rw [if_neg k16, if_neg k17, if_neg k18]; omega))))))
        go_wp2_with fail
        refine (hre _).mono ?_
        rintro e2 w2 ⟨rfl, rfl⟩
        go_wp2_with fail
        all_goals
          go_ret2
          exact unrEnd_none Hn.out (Hb.out.alloc hsz _)
      · have hz : (ne : Int) = 0 := by omega
        rw [hz] at q1 Hu
        clear g3 b3 hz t1
        have Hn : Hid (unr [] l = unr (out ++ List.replicate (1) (s)) (l.drop (j + 1))) := by
          have h := Hu.out
          rw [unr_step (by unfold rbad rtop; rw [if_neg k16, if_neg k17, if_neg k18]; rintro (h | h | h | h | h) <;> first | omega | exact k16 h.1)] at h
          have h2 : (rn s 0).toNat = 1 := by unfold rn; rw [if_neg (by omega), if_neg k18]; rfl
          have h3 : rv out s = s := by unfold rv; rw [if_neg k16, if_neg (by omega)]
          rw [h2, h3] at h
          exact h
        have hrep : ∀ w : World, Calls Try.prog 77 #[.slice (some ⟨w.heap.size, 0, none⟩) 1 1, .int .i64 (1)] (w.alloc (.cells #[.int .i64 (s)] 3)) (RepEnd (s) (1) (w.alloc (.cells #[.int .i64 (s)] 3))) := fun w => by
          have h := repeat_any w.heap.size 1 (s) (1) (w.alloc (.cells #[.int .i64 (s)] 3)) (by omega) (by omega) (by have := rdi_one w (s); simpa using this)
          simpa using h
        have Hrep := hid (hrep (wr.alloc (.cells #[.int .i64 s, .int .i64 0] 81)))
        have H2 := hid ((Hown.out.alloc (.cells #[.int .i64 s, .int .i64 0] 81)).alloc (.cells #[.int .i64 (s)] 3))
        have B2 := hid ((Hb.out.alloc hsz (.cells #[.int .i64 s, .int .i64 0] 81)).alloc (by simp; omega) (.cells #[.int .i64 (s)] 3))
        clear hrep
        go_wp2_with fail
        refine (hre _).mono ?_
        rintro e2 w2 ⟨rfl, rfl⟩
        clear hre
        go_wp2_with fail
        all_goals
          refine (show Calls _ _ _ _ (RepEnd (s) (1) _) by simpa using Hrep.out).mono ?_
          rintro e3 w3 ⟨g3, rfl, hg3, hblk, hb3⟩
          have H3 := hid (own_below H2.out (by simpa using hb3) (Nat.le_refl _))
          have hs3 : W.heap.size ≤ w3.heap.size := by have h := hb3.size; simp at h; omega
          have B3 := hid (B2.out.trans (hb3.mono (by simp; omega)))
          have Hblk := hid hblk
          clear hblk hb3 hg3
          go_wp2_with (at_builtin; refine wpList_app _ rfl _ _ _ rfl W.heap.size 3 i0 (.int .i64 0) 1 8 Try.underlying56 Hi0.out Hz0.out Hz1.out Hz2.out rfl (by omega) _ out.length c' _ rfl H3.out _ _ (1) (1) (intsV (List.replicate (1) (s))) rfl (rd_block Hblk.out (by simp [intsV])) (fun h => by cases h) (by intro u hu; obtain ⟨x, _, rfl⟩ := List.mem_map.1 hu; rfl) (by simp only [maxLen]; omega) (by omega) hs3 ?_; rintro A4 c4 w4 ⟨hown4, hgr4, hb4, _⟩)
          go_roundw
          case rel => exact ⟨j + 1, out ++ List.replicate (1) (s), A4, c4, by omega, by go_num, by simp, by simpa [intsV] using hown4, Hn.out, by simp; try omega, by simp; try omega, B3.out.trans hb4⟩
          case measure => simp [intOf]; omega
    · go_wp2
      go_ret2
      have e : j = l.length := by omega
      subst e
      rw [List.drop_length] at hu
      exact unrEnd_some (hu.trans rfl) hown hol hb

end Go.Proofs.Ytnlhneoiofijeaa
