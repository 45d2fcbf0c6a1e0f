/-
  BlockRuns: for every lengths the law returns true: the program's runs come to the lengths by the document's answer, and are no more than these; lengths out of form are refused. No condition.
-/
import Derived.Test.YtnlhneoiofijeaaRunsC
import Derived.Test.YtnlhneoiofijeaaPair
namespace Go.Proofs.Ytnlhneoiofijeaa.BlockRuns
open Go.ChangeShapes Go.WideShapes Go.ChangeAt Go.RowKit Go.Proofs.Ytnlhneoiofijeaa

theorem first_val : runsOf 9 none [0, 0, 0, 0, 5, 5, 5, 5, 5] = [(17, 1), (5, 0), (16, 1)] := by decide
theorem first_any (W : World) : Calls Try.prog 40 #[.slice (some ⟨W.heap.size, 0, none⟩) 9 9] (W.alloc (.cells #[.int .i64 0, .int .i64 0, .int .i64 0, .int .i64 0, .int .i64 5, .int .i64 5, .int .i64 5, .int .i64 5, .int .i64 5] 3))
    fun e w' => ∃ g c, e = .returned (.tuple #[.slice (some ⟨g, 0, none⟩) 3 c, .nilIface]) ∧ w'.cell? ⟨g, 0, none⟩ = some (.int .i64 17) ∧ w'.cell? ⟨g, 1, none⟩ = some (.int .i64 1) ∧ w'.cell? ⟨g, 4, none⟩ = some (.int .i64 16) ∧ w'.cell? ⟨g, 5, none⟩ = some (.int .i64 1) ∧ g < w'.heap.size ∧ Below W.heap.size W w' := by
  have hr : RdI (W.alloc (.cells #[.int .i64 0, .int .i64 0, .int .i64 0, .int .i64 0, .int .i64 5, .int .i64 5, .int .i64 5, .int .i64 5, .int .i64 5] 3)) (W.heap.size + 1) (some ⟨W.heap.size, 0, none⟩) [0, 0, 0, 0, 5, 5, 5, 5, 5] := RdI.new (by simp)
  refine (runs_good _ 9 [0, 0, 0, 0, 5, 5, 5, 5, 5] _ (by simpa using hr) (by simp) (by decide)).mono fun e w' ⟨o, A, c, ho, he, hown, hb⟩ => ?_
  have ho2 : o = [(17, 1), (5, 0), (16, 1)] := ho.trans first_val
  subst ho2
  obtain ⟨g, rfl, _, hg⟩ := own_block hown (by simp)
  refine ⟨g, c, he, ?_, ?_, ?_, ?_, hg, ((Below.refl _ _).alloc (Nat.le_refl _) _).trans (hb.mono (by simp))⟩
  · rw [hown.cellAt 0 (by simp)]; rfl
  · rw [hown.cellAt 1 (by simp)]; rfl
  · rw [hown.cellAt 4 (by simp)]; rfl
  · rw [hown.cellAt 5 (by simp)]; rfl

set_option maxRecDepth 100000 in
theorem walk_far (A : Option Addr) (c : Nat) (l : List Int) (W : World) (hm : 3000 < l.length) :
    Calls Try.prog 10 #[.slice A l.length c] W fun e w' => e = .returned (.bool true) ∧ Below W.heap.size W w' := by
  go_enter Try.func10, Try.ntmps10
  go_wp2_with fail
  refine (first_any _).mono ?_
  rintro e w1 ⟨g, c1, rfl, q0, q1, q4, q5, hg, hb1⟩
  go_wp2_with fail
  go_ret
  exact ⟨rfl, hb1⟩

theorem rdi_nil {w : World} {B : Nat} {A : Option Addr} {l : List Int} (h : RdI w B A l) (hA : A = none) : l.length = 0 := by
  rcases Nat.eq_zero_or_pos l.length with h0 | h0
  · exact h0
  · obtain ⟨b, off, hA', _⟩ := int_at h h0
    rw [hA] at hA'; cases hA'
theorem any_false_at {l : List Int} (h : l.any badl = false) (j : Nat) (hj : j < l.length) : badl l[j] = false := by
  rw [List.any_eq_false] at h
  have := h l[j] (List.getElem_mem hj)
  simpa using this

theorem copy_rd {w : World} {g : Nat} {t : TypeId} {l : List Int} {r : List Value} (h : Blk w g t (intsV l ++ r).toArray) : RdI w w.heap.size (some ⟨g, 0, none⟩) l :=
  RdI.of_cells h.lt (fun j hj => by rw [h.cell j]; simp [intsV, hj, List.getElem?_append_left])

set_option maxRecDepth 100000 in
set_option maxHeartbeats 4000000 in
theorem walk_bad (A : Option Addr) (c : Nat) (l : List Int) (W : World) (hr : RdI W W.heap.size A l) (hm : l.length ≤ 3000) (hbad : l.any badl = true) :
    Calls Try.prog 10 #[.slice A l.length c] W fun e w' => e = .returned (.bool true) ∧ Below W.heap.size W w' := by
  obtain ⟨i0, hi0, hz0, hz1, hz2⟩ := info_parts int_info
  have Hi0 := hid hi0
  have Hz0 := hid hz0
  have Hz1 := hid hz1
  have Hz2 := hid hz2
  clear hi0 hz0 hz1 hz2
  have Hr := hid hr
  have Hbad := hid hbad
  have d1 : decide ((3000 : Int) < (l.length : Int)) = false := decide_eq_false (by omega)
  clear hr hbad
  go_enter Try.func10, Try.ntmps10
  go_wp2_with fail
  refine (first_any _).mono ?_
  rintro e w1 ⟨g, c1, rfl, q0, q1, q4, q5, hg, hb1⟩
  have hz1 := hb1.size
  have Hb1 := hid hb1
  clear hb1
  go_wp2_with fail
  refine (copyInts_any A c l w1 ((Hr.out.below Hb1.out (Nat.le_refl _)).more hz1) (rdi_nil Hr.out) (by omega)).mono ?_
  rintro e w2 ⟨rfl, hg2, hb2⟩
  have hz2 : w1.heap.size < w2.heap.size := hg2.lt
  have Hb2 := hid (Hb1.out.trans (hb2.mono hz1))
  have Hg2 := hid hg2
  clear hg2 hb2 q0 q1 q4 q5
  go_wp2_with fail
  refine (runs_bad (some ⟨w1.heap.size, 0, none⟩) (l.length + 1) l w2 (copy_rd Hg2.out) (by omega) Hbad.out).mono ?_
  rintro e w3 ⟨rfl, hb3⟩
  have Hb3 := hid (Hb2.out.trans (hb3.mono (by omega)))
  have Hb3r := hid hb3
  have hz3 := hb3.size
  clear hb3
  go_wp2_with fail
  refine (keptInts_any A c w1.heap.size l _ w3.heap.size (Hg2.out.below (Hb3r.out) hz2) ((Hr.out.below Hb3.out (Nat.le_refl _)).more (by omega)) (by omega)).mono ?_
  rintro e w4 ⟨rfl, n4, rfl⟩
  have Hb4 := hid (below_drewN Hb3.out n4)
  go_wp2_with fail
  generalize w3.drewN n4 = w5 at *
  go_loop [58] (fun i => ∃ j : Nat, j ≤ l.length ∧ i = .int .i64 j ∧ (l.take j).any badl = false) (fun i => l.length - (intOf i).toNat)
  case atStart => exact ⟨0, by omega, rfl, rfl⟩
  case round =>
    obtain ⟨j, hj, rfl, hno⟩ := hrel
    have Hno := hid hno
    clear hno
    by_cases hlt : j < l.length
    · have Hs := hid (anyl_take badl l j hlt)
      obtain ⟨b, off, rfl, hbb, p0⟩ := int_at (Hr.out.below Hb4.out (Nat.le_refl _)) hlt
      cases hb : badl l[j]
      · obtain ⟨v0, v15⟩ := badl_false.1 hb
        have Hb := hid hb
        generalize l[j] = v at *
        have f1 : decide (v < 0) = false := decide_eq_false (by omega)
        have f2 : decide (15 < v) = false := decide_eq_false (by omega)
        clear hb
        go_wp2_with fail
        go_round
        case rel => exact ⟨j + 1, by omega, by go_num, by rw [Hs.out, Hno.out, Hb.out]; rfl⟩
        case measure => simp [intOf]; omega
      · have hbv := badl_true.1 hb
        generalize l[j] = v at *
        clear hb
        by_cases v0 : v < 0
        · have f1 : decide (v < 0) = true := decide_eq_true v0
          clear hbv
          go_wp2_with fail
          refine (is_no 6 6 (by omega) _).mono ?_
          rintro e6 w6 ⟨rfl, rfl⟩
          go_wp2_with fail
          go_ret
          exact ⟨rfl, Hb4.out⟩
        · have f1 : decide (v < 0) = false := decide_eq_false v0
          have f2 : decide (15 < v) = true := decide_eq_true (by omega)
          clear hbv
          go_wp2_with fail
          refine (is_no 6 6 (by omega) _).mono ?_
          rintro e6 w6 ⟨rfl, rfl⟩
          go_wp2_with fail
          go_ret
          exact ⟨rfl, Hb4.out⟩
    · have e : j = l.length := by omega
      subst e
      have h1 := Hno.out
      rw [List.take_length, Hbad.out] at h1
      cases h1

theorem zip_back (o : List (Int × Int)) : (o.map (·.1)).zip (o.map (·.2)) = o := by
  induction o with
  | nil => rfl
  | cons x r ih => simp [ih]
theorem take_fst {o : List (Int × Int)} {j : Nat} {hj : j < o.length} {a b : Int} (h : o[j] = (a, b)) : intsV ((o.take (j + 1)).map (·.1)) = intsV ((o.take j).map (·.1)) ++ [.int .i64 a] := by
  rw [List.take_succ_eq_append_getElem hj, h]; simp [intsV]
theorem take_snd {o : List (Int × Int)} {j : Nat} {hj : j < o.length} {a b : Int} (h : o[j] = (a, b)) : intsV ((o.take (j + 1)).map (·.2)) = intsV ((o.take j).map (·.2)) ++ [.int .i64 b] := by
  rw [List.take_succ_eq_append_getElem hj, h]; simp [intsV]

set_option maxRecDepth 100000 in
set_option maxHeartbeats 8000000 in
theorem walk_good (A : Option Addr) (c : Nat) (l : List Int) (W : World) (hr : RdI W W.heap.size A l) (hm : l.length ≤ 3000) (hbad : l.any badl = false) :
    Calls Try.prog 10 #[.slice A l.length c] W fun e w' => e = .returned (.bool true) ∧ Below W.heap.size W w' := by
  obtain ⟨i0, hi0, hz0, hz1, hz2⟩ := info_parts int_info
  have Hi0 := hid hi0
  have Hz0 := hid hz0
  have Hz1 := hid hz1
  have Hz2 := hid hz2
  clear hi0 hz0 hz1 hz2
  have Hr := hid hr
  have Hbad := hid hbad
  have d1 : decide ((3000 : Int) < (l.length : Int)) = false := decide_eq_false (by omega)
  clear hr hbad
  go_enter Try.func10, Try.ntmps10
  go_wp2_with fail
  refine (first_any _).mono ?_
  rintro e w1 ⟨g, c1, rfl, q0, q1, q4, q5, hg, hb1⟩
  have hz1 := hb1.size
  have Hb1 := hid hb1
  clear hb1
  go_wp2_with fail
  refine (copyInts_any A c l w1 ((Hr.out.below Hb1.out (Nat.le_refl _)).more hz1) (rdi_nil Hr.out) (by omega)).mono ?_
  rintro e w2 ⟨rfl, hg2, hb2⟩
  have hz2 : w1.heap.size < w2.heap.size := hg2.lt
  have Hb2 := hid (Hb1.out.trans (hb2.mono hz1))
  have Hg2 := hid hg2
  clear hg2 hb2 q0 q1 q4 q5
  go_wp2_with fail
  refine (runs_good (some ⟨w1.heap.size, 0, none⟩) (l.length + 1) l w2 (copy_rd Hg2.out) (by omega) Hbad.out).mono ?_
  rintro e w3 ⟨o, A3, c3, ho, rfl, hown3, hb3⟩
  have Hb3 := hid (Hb2.out.trans (hb3.mono (by omega)))
  have Hb3r := hid hb3
  have hz3 := hb3.size
  have Hrow := hid (own_rd hown3)
  have Ho := hid ho
  have hol : o.length ≤ 3000 := by
    have h := (runs_back l.length [] l (Nat.le_refl _) (fun x hx => by
      obtain ⟨j, hj, rfl⟩ := List.getElem_of_mem hx
      exact badl_false.1 (any_false_at Hbad.out j hj))).2
    rw [show ([] : List Int).getLast? = none from rfl, ← ho] at h
    omega
  clear hb3 hown3 ho
  go_wp2_with fail
  refine (keptInts_any A c w1.heap.size l _ w3.heap.size (Hg2.out.below (Hb3r.out) hz2) ((Hr.out.below Hb3.out (Nat.le_refl _)).more (by omega)) (by omega)).mono ?_
  rintro e w4 ⟨rfl, n4, rfl⟩
  have Hb4 := hid (below_drewN Hb3.out n4)
  have Hrow4 := hid (Hrow.out.drewN n4)
  go_wp2_with fail
  generalize hw5 : w3.drewN n4 = w5 at *
  have hz5 : w5.heap.size = w3.heap.size := by rw [← hw5]; rfl
  rw [← hz5] at Hrow4
  clear hw5 Hrow
  go_loop [58] (fun i => ∃ j : Nat, j ≤ l.length ∧ i = .int .i64 j) (fun i => l.length - (intOf i).toNat)
  case atStart => exact ⟨0, by omega, rfl⟩
  case round =>
    obtain ⟨j, hj, rfl⟩ := hrel
    by_cases hlt : j < l.length
    · obtain ⟨b, off, rfl, hbb, p0⟩ := int_at (Hr.out.below Hb4.out (Nat.le_refl _)) hlt
      obtain ⟨v0, v15⟩ := badl_false.1 (any_false_at Hbad.out j hlt)
      generalize l[j] = v at *
      have f1 : decide (v < 0) = false := decide_eq_false (by omega)
      have f2 : decide (15 < v) = false := decide_eq_false (by omega)
      go_wp2_with fail
      go_round
      case rel => exact ⟨j + 1, by omega, by go_num⟩
      case measure => simp [intOf]; omega
    · have e : j = l.length := by omega
      subst e
      go_wp2_with fail
      go_loopw [10, 11, 80] (fun sv ev i wr => ∃ (j : Nat) (S E : Option Addr) (sc ec : Nat), j ≤ o.length ∧ i = .int .i64 j ∧ sv = .slice S j sc ∧ ev = .slice E j ec ∧ Two w5 wr 3 1 S j sc (intsV ((o.take j).map (·.1))) E j ec (intsV ((o.take j).map (·.2)))) (fun _ _ i _ => o.length - (intOf i).toNat)
      case atStart => exact ⟨0, _, _, _, _, by omega, rfl, rfl, rfl, by have h := two_empty w5 3 1; rw [hz5] at h; exact h⟩
      case round =>
        obtain ⟨j, S, E, sc, ec, hj, rfl, rfl, rfl, ht⟩ := hrel
        have Ht := hid ht
        clear ht
        by_cases hlt : j < o.length
        · obtain ⟨b, off, rfl, hbb, p0, p1⟩ := tok_at (Hrow4.out.below Ht.out.2.2.2 (Nat.le_refl _)) hlt
          generalize hx : o[j] = x at *
          have Hx := hid hx
          clear hx
          obtain ⟨xs, xe⟩ := x
          simp only at p0 p1
          have HT0 := hid (Ht.out.alloc (.cells #[.int .i64 xs, .int .i64 xe] 81))
          have HP0 := hid (Pend.newp Ht.out 81 [.int .i64 xs, .int .i64 xe] rfl)
          have Hs1 := hid (take_fst Hx.out)
          have Hs2 := hid (take_snd Hx.out)
          have k0 := (Blk.new wr 81 #[.int .i64 xs, .int .i64 xe]).cell 0
          have k1 := (Blk.new wr 81 #[.int .i64 xs, .int .i64 xe]).cell 1
          simp only [List.getElem?_toArray, List.getElem?_cons_zero, List.getElem?_cons_succ] at k0 k1
          go_upto_region 20 with (fail)
          go_region_held3 (fun w' => w'.cell? ⟨wr.heap.size, 0, none⟩ = some (.int .i64 xs) ∧ w'.cell? ⟨wr.heap.size, 1, none⟩ = some (.int .i64 xe)) (first | go_keep | exact K6.out | exact K7.out) (first
            | ((refine step_two (W := w5) (A := S) (n := j) (c := sc) (xs := intsV ((o.take j).map (·.1))) (B := E) (m := j) (d := ec) (ys := intsV ((o.take j).map (·.2))) (us := [.int .i64 xs]) (by rfl) (.tmp 84) (.tmp 87) _ (by rfl) i0 (.int .i64 0) 8 Try.underlying56 Hi0.out Hz0.out Hz1.out Hz2.out rfl (by omega) (by rfl) ?_ _ (by rfl) ?_ rfl (by simp [Value.oneCell']) (by simp only [maxLen]; omega) (by omega) ?_; (first | exact HT0.out.drew | exact (HT0.out.alloc _).drew | exact ((HT0.out.alloc _).alloc _).drew); (first | (refine (Pend.newp HT0.out _ [_] ?_).drew; simp) | (refine ((Pend.newp HT0.out _ [_] ?_).alloc _).drew; simp) | (refine (Pend.newp (HT0.out.alloc _) _ [_] ?_).drew; simp)); intro SA sc' w6 h6 p6 g6; have q6 := p6 81 wr.heap.size [.int .i64 xs, .int .i64 xe] (by first | exact (HP0.out.alloc _).drew | exact ((HP0.out.alloc _).alloc _).drew); have K6 : Hid (w6.cell? ⟨wr.heap.size, 0, none⟩ = some (.int .i64 xs) ∧ w6.cell? ⟨wr.heap.size, 1, none⟩ = some (.int .i64 xe)) := ⟨q6.1.cell 0, q6.1.cell 1⟩; have Q6 := hid q6; have H6 := hid h6; have P6 := hid p6; clear h6 p6 g6 q6))
            | ((refine step_two (W := w5) (A := E) (n := j) (c := ec) (xs := intsV ((o.take j).map (·.2))) (B := SA) (m := j + 1) (d := sc') (ys := intsV ((o.take j).map (·.1)) ++ [.int .i64 xs]) (us := [.int .i64 xe]) (by rfl) (.tmp 89) (.tmp 92) _ (by rfl) i0 (.int .i64 0) 8 Try.underlying56 Hi0.out Hz0.out Hz1.out Hz2.out rfl (by omega) (by rfl) ?_ _ (by rfl) ?_ rfl (by simp [Value.oneCell']) (by simp only [maxLen]; omega) (by omega) ?_; (first | exact H6.out.swap | exact (H6.out.alloc _).swap); (first | (refine (Pend.newp H6.out _ [_] ?_).swap; simp) | (refine (P6.out _ _ _ (Pend.newp (HT0.out.alloc _) _ [_] ?_).drew).swap; simp) | (refine (P6.out _ _ _ ((Pend.newp HT0.out _ [_] ?_).alloc _).drew).swap; simp)); intro SB ec' w7 h7 p7 g7; have q7 := p7 81 wr.heap.size [.int .i64 xs, .int .i64 xe] (by first | exact Q6.out.swap | exact (Q6.out.alloc _).swap); have K7 : Hid (w7.cell? ⟨wr.heap.size, 0, none⟩ = some (.int .i64 xs) ∧ w7.cell? ⟨wr.heap.size, 1, none⟩ = some (.int .i64 xe)) := ⟨q7.1.cell 0, q7.1.cell 1⟩; have H7 := hid h7; clear h7 p7 g7 q7)))
          all_goals
            go_wp2
            go_roundw
            case rel => exact ⟨j + 1, SA, SB, sc', ec', by omega, by go_num, rfl, rfl, by rw [Hs1.out, Hs2.out]; exact H7.out.swap⟩
            case measure => simp [intOf]; omega
        · have e2 : j = o.length := by omega
          subst e2
          have ht := Ht.out
          rw [List.take_length] at ht
          have Hb6 := hid (Hb4.out.trans (ht.2.2.2.mono (by omega)))
          have hz6 := ht.2.2.2.size
          have R1 : RdI wr wr.heap.size S (o.map (·.1)) := own_rdi (by simpa using ht.1)
          have R2 : RdI wr wr.heap.size E (o.map (·.2)) := own_rdi (by simpa using ht.2.1)
          have hback := runs_back l.length [] l (Nat.le_refl _) (fun x hx => by
            obtain ⟨j, hj, rfl⟩ := List.getElem_of_mem hx
            exact badl_false.1 (any_false_at Hbad.out j hj))
          rw [show ([] : List Int).getLast? = none from rfl, ← Ho.out, List.nil_append] at hback
          have href := refUnruns_any S E sc ec (o.map (·.1)) (o.map (·.2)) wr R1 R2 (by simp; omega) (by simp)
          rw [show (o.map (·.1)).zip (o.map (·.2)) = o from zip_back o] at href
          unfold UnrEnd at href
          rw [hback.1] at href
          have Href := hid href
          have hle := hback.2
          have dle : decide (o.length ≤ l.length) = true := decide_eq_true hle
          clear ht R1 R2 hback href hle
          go_wp2_with fail
          refine (show Calls _ _ #[.slice S o.length sc, .slice E o.length ec] _ _ by simpa using Href.out).mono ?_
          rintro e7 w7 ⟨⟨A7, c7, rfl, hown7, _⟩, hb7⟩
          have Hb7 := hid (Hb6.out.trans (hb7.mono (by omega)))
          have H7 := hid (own_rdi hown7)
          have hz7 := hb7.size
          clear hb7 hown7
          go_wp2_with fail
          refine (ints_refl A7 A c7 c l _ w7.heap.size H7.out ((Hr.out.below Hb7.out (Nat.le_refl _)).more (by omega)) (by omega)).mono ?_
          rintro e8 w8 ⟨rfl, n8, rfl⟩
          go_wp2
          go_ret
          exact ⟨rfl, below_drewN Hb7.out n8⟩

theorem walk (A : Option Addr) (c : Nat) (l : List Int) (W : World) (hr : RdI W W.heap.size A l) :
    Calls Try.prog 10 #[.slice A l.length c] W fun e w' => e = .returned (.bool true) ∧ Below W.heap.size W w' := by
  by_cases h : l.length ≤ 3000
  · cases hb : l.any badl
    · exact walk_good A c l W hr h hb
    · exact walk_bad A c l W hr h hb
  · exact walk_far A c l W (by omega)

set_option maxRecDepth 100000 in
theorem lifted (os : Os) (started : os.Started) (H : Type) (enc : TypeId × Value → H) :
    ReturnsInHanded {} Try.checked os 10 .any (Rows.blockRunsSpec.pre6 enc Try.prog Try.f10 Rows.blockRunsRow.domain false) (Rows.blockRunsSpec.post enc Try.prog Try.f10 false true false false) :=
  law_lifted own laidOut started (by kernel_rfl) Try.func10 rfl rfl Try.underlying4
    (by rw [Try.params10]; intro t ht; simp at ht; rcases ht with rfl <;> exact ⟨by kernel_rfl, of_decide_eq_true (by kernel_rfl)⟩)
    (by
      intro ds h
      match ds, h with
      | [_], _ => exact ⟨rfl, rfl, rfl⟩)
    (ChangeSpec.witness6 (enc := enc) (C := Try.checked) false ⟨#[], #[.slice none 0 0], []⟩ 8 (by kernel_rfl) (by kernel_rfl) (by kernel_rfl) (by kernel_rfl))
    (by
      intro W base args ds ps hval0 hA0
      have hval : ∀ (j : Nat) t v, Try.f10.params[j]? = some t → args[j]? = some v → Value.okWide Try.prog W .any base t v := hval0
      have hA : DataW.TrodAll enc Try.prog W 0 (fun _ => true) true Try.f10.params.toList args.toList ds ps := hA0
      clear hval0 hA0
      rw [Try.params10] at hA hval
      obtain ⟨v0, vs0, d0, ds0, p0, q0, hargs, rfl, rfl, h0, r0⟩ := trodAll_cons hA
      obtain ⟨rfl, rfl, rfl⟩ := trodAll_nil r0
      obtain rfl : args = #[v0] := by cases args; simp_all
      obtain ⟨A0, n0, m0, rfl⟩ := okWide_slice Try.underlying56 (hval 0 56 v0 rfl rfl)
      obtain ⟨fuel0, hf0⟩ := h0
      obtain ⟨A0, c0, l0, e0, hlc0, hcm0, hok0, hr0⟩ := open_slice_of encI okI 1 (by omega) Try.underlying56 (by kernel_rfl) int_of (fun _ => rfl) (by simpa [Value.cells] using hf0)
      rw [e0]
      exact walk A0 c0 l0 W hr0)

theorem over : Rows.blockRunsRow.holds Try.pinned (OpenSpec.ofChange Rows.blockRunsSpec) :=
  OpenClaim.holds_of_wide 10 Try.f10 rfl rfl rfl rfl rfl rfl rfl ⟨rfl, rfl, rfl, rfl, rfl⟩ rfl rfl rfl rfl rfl (by kernel_rfl) Try.func10 (by kernel_rfl)
    (of_decide_eq_true (by kernel_rfl)) (by unfold Func.isWrapper; first | (rw [if_pos (by decide +kernel)]; kernel_rfl) | (rw [if_neg (by decide +kernel)]; exact ⟨rfl, rfl⟩))
    (fun os started H enc _ => lifted os started H enc)

theorem proved : Rows.BlockRunsSaid := over
#print axioms proved

end Go.Proofs.Ytnlhneoiofijeaa.BlockRuns
