/-
  Neighbours out of order exchanged, one pair after the other: what stays true (Bub); slices.rotateCmpFunc.
-/
import Derived.Test.YtlekobompjehdaaSrtB
namespace Go.Proofs.Ytlekobompjehdaa
open Go.RowKit Mg

def LeR (a b : IR) : Prop := Le a.it b.it
theorem LeR.tr {a b c : IR} (h : LeR a b) (k : LeR b c) : LeR a c := by
  unfold LeR Le at *
  omega
theorem LeR.tot (a b : IR) : LeR a b ∨ LeR b a := by
  unfold LeR Le
  omega
/-- l' is l, with neighbours exchanged that stood out of order -/
inductive Bub : List IR → List IR → Prop
  | refl (l) : Bub l l
  | step {l u v x y} : Bub l (u ++ x :: y :: v) → ¬ LeR x y → Bub l (u ++ y :: x :: v)
theorem Bub.tr {a b c : List IR} (h : Bub a b) (k : Bub b c) : Bub a c := by
  induction k with
  | refl => exact h
  | step _ hx ih => exact .step ih hx
theorem Bub.len {a b : List IR} (h : Bub a b) : b.length = a.length := by
  induction h with
  | refl => rfl
  | step _ _ ih => rw [← ih]; simp
theorem Bub.ctx {a b : List IR} (p q : List IR) (h : Bub a b) : Bub (p ++ a ++ q) (p ++ b ++ q) := by
  induction h with
  | refl => exact .refl _
  | @step u v x y _ hx ih =>
    have e := @Bub.step _ (p ++ u) (v ++ q) x y (by simpa using ih) hx
    simpa using e
theorem Bub.both {a b c d : List IR} (h : Bub a b) (k : Bub c d) : Bub (a ++ c) (b ++ d) := by
  have h1 := h.ctx [] c
  have h2 := k.ctx b []
  simp only [List.nil_append, List.append_nil] at h1 h2
  exact h1.tr h2
theorem Bub.one (x : IR) : ∀ Y : List IR, (∀ y ∈ Y, ¬ LeR x y) → Bub (x :: Y) (Y ++ [x])
  | [], _ => .refl _
  | y :: Y, h => by
    have h1 : Bub (x :: y :: Y) (y :: x :: Y) := @Bub.step _ [] Y x y (.refl _) (h y (by simp))
    have h2 := (Bub.one x Y (fun z hz => h z (List.mem_cons_of_mem _ hz))).ctx [y] []
    simp only [List.cons_append, List.nil_append, List.append_nil] at h2
    exact h1.tr h2
theorem Bub.turn : ∀ (X Y : List IR), (∀ x ∈ X, ∀ y ∈ Y, ¬ LeR x y) → Bub (X ++ Y) (Y ++ X)
  | [], Y, _ => by rw [List.append_nil]; exact .refl _
  | x :: X, Y, h => by
    have h1 := (Bub.turn X Y (fun z hz => h z (List.mem_cons_of_mem _ hz))).ctx [x] []
    have h2 := (Bub.one x Y (h x (by simp))).ctx [] X
    simp only [List.cons_append, List.nil_append, List.append_nil, List.append_assoc] at h1 h2 ⊢
    exact h1.tr h2
theorem Bub.perm {a b : List IR} (h : Bub a b) : b.Perm a := by
  induction h with
  | refl => exact .refl _
  | @step u v x y _ _ ih => exact (List.Perm.append_left _ (List.Perm.swap x y v)).trans ih
/-- what stood in order stands in order -/
theorem Bub.stable {a b : List IR} (h : Bub a b) : ∀ c : List It, c.Pairwise Le → c.Sublist (a.map (·.it)) → c.Sublist (b.map (·.it)) := by
  induction h with
  | refl => exact fun c _ h => h
  | @step u v x y _ hx ih =>
    intro c hc hs
    have hs := ih c hc hs
    simp only [List.map_append, List.map_cons] at hs ⊢
    obtain ⟨c1, c2, rfl, s1, s2⟩ := List.sublist_append_iff.1 hs
    refine s1.append ?_
    rcases s2 with _ | s2 | s2
    · rename_i s2
      cases s2 with
      | cons _ s3 => exact (s3.cons _).cons _
      | cons_cons _ s3 => exact (s3.cons _).cons_cons _
    · rename_i c3 s2
      cases s2 with
      | cons _ s3 => exact (s3.cons_cons _).cons _
      | cons_cons _ s3 =>
        have := (List.pairwise_append.1 hc).2.1
        exact absurd ((List.pairwise_cons.1 this).1 _ (by simp)) hx
theorem Bub.st {a b : List IR} (h : Bub a b) (hs : b.Pairwise LeR) : St (a.map (·.it)) (b.map (·.it)) :=
  ⟨h.perm.map _, List.pairwise_map.2 hs, h.stable⟩

set_option maxRecDepth 100000 in
theorem swapRange_at (g cap N a b n : Nat) (p X M Y q : List IR) (tl : List Value) (w0 W : World) (h : SW W w0 g (p ++ X ++ M ++ Y ++ q) tl) (hx : X.length = n) (hy : Y.length = n) (ha : a = p.length) (hb : b = p.length + X.length + M.length) (hN : N = (p ++ X ++ M ++ Y ++ q).length) (hm : N ≤ 1000000) (fv : Value) :
    Calls Try.prog 170 #[.slice (some ⟨g, 0, none⟩) N cap, .int .i64 (a : Nat), .int .i64 (b : Nat), .int .i64 (n : Nat), fv] W (RowEnd (p ++ Y ++ M ++ X ++ q) w0 g tl) := by
  have e := swr_all p X M Y q (hx.trans hy.symm)
  rw [← hb, ← ha, hx] at e
  rw [← e, hN]
  simp only [List.length_append] at hN
  exact swapRange_any g cap a b n _ tl w0 W h (by omega) (by simp only [List.length_append]; omega) (by simp only [List.length_append]; omega) fv

set_option maxRecDepth 100000 in
set_option maxHeartbeats 8000000 in
theorem rotate_any (g cap N a m b : Nat) (p X Y q : List IR) (tl : List Value) (w0 W : World) (h : SW W w0 g (p ++ X ++ Y ++ q) tl) (hx : X.length ≠ 0) (hy : Y.length ≠ 0) (ha : a = p.length) (hm : m = a + X.length) (hb : b = m + Y.length) (hN : N = (p ++ X ++ Y ++ q).length) (hN2 : N ≤ 1000000) (fv : Value) :
    Calls Try.prog 158 #[.slice (some ⟨g, 0, none⟩) N cap, .int .i64 (a : Nat), .int .i64 (m : Nat), .int .i64 (b : Nat), fv] W (RowEnd (p ++ Y ++ X ++ q) w0 g tl) := by
  have H := hid h
  have HN := hid hN
  clear h
  have s1 : IntKind.i64.wrap ((m : Int) - (a : Int)) = (X.length : Int) := (IntWalk.i64_in _ (by simp only [List.length_append] at hN; omega)).trans (by omega)
  have s2 : IntKind.i64.wrap ((b : Int) - (m : Int)) = (Y.length : Int) := (IntWalk.i64_in _ (by simp only [List.length_append] at hN; omega)).trans (by omega)
  have hma : m = p.length + X.length := by omega
  have hm2 : m ≤ 1000000 := by simp only [List.length_append] at hN; omega
  have Hma := hid hma
  clear hN hma ha hm hb
  go_enter Try.func158, Try.ntmps158
  go_upto_region 2 with (fail)
  generalize hi : X.length = i0 at *
  generalize hj : Y.length = j0 at *
  go_loopw [10, 11] (fun iv jv wr => ∃ (i j : Nat) (p' X' Y' q' : List IR), iv = .int .i64 i ∧ jv = .int .i64 j ∧ X'.length = i ∧ Y'.length = j ∧ i ≠ 0 ∧ j ≠ 0 ∧ m = p'.length + i ∧ p' ++ Y' ++ X' ++ q' = p ++ Y ++ X ++ q ∧ N = (p' ++ X' ++ Y' ++ q').length ∧ SW wr w0 g (p' ++ X' ++ Y' ++ q') tl) (fun iv jv _ => (intOf iv).toNat + (intOf jv).toNat)
  case atStart => exact ⟨i0, j0, p, X, Y, q, rfl, rfl, hi, hj, hx, hy, (by have := Hma.out; omega), rfl, HN.out, H.out⟩
  case round =>
    obtain ⟨i, j, p', X', Y', q', rfl, rfl, hX, hY, hi0, hj0, hm', he, hN', hs⟩ := hrel
    have S := hid hs
    have HN' := hid hN'
    have He := hid he
    have HX := hid hX
    have HY := hid hY
    simp only [List.length_append] at hN'
    clear hs he
    have t1 : IntKind.i64.wrap ((m : Int) - (i : Int)) = (p'.length : Int) := (IntWalk.i64_in _ (by omega)).trans (by omega)
    rcases Nat.lt_trichotomy i j with hlt | heq | hgt
    · have d1 : ((i : Int) != (j : Int)) = true := bne_iff_ne.2 (by omega)
      have d2 : decide ((j : Int) < (i : Int)) = false := decide_eq_false (by omega)
      have t2 : IntKind.i64.wrap ((m : Int) + (j : Int)) = (m : Int) + (j : Int) := IntWalk.i64_in _ (by omega)
      obtain ⟨k, hk⟩ : ∃ k, k = j - i := ⟨_, rfl⟩
      obtain ⟨r, hr⟩ : ∃ r, r = m + k := ⟨_, rfl⟩
      have t3 : IntKind.i64.wrap ((m : Int) + (j : Int) - (i : Int)) = (r : Int) := (IntWalk.i64_in _ (by omega)).trans (by omega)
      have t4 : IntKind.i64.wrap ((j : Int) - (i : Int)) = (k : Int) := (IntWalk.i64_in _ (by omega)).trans (by omega)
      have e1 : (Y'.take k).length = k := by rw [List.length_take, Nat.min_eq_left (by omega)]
      have e2 : (Y'.drop k).length = i := by rw [List.length_drop]; omega
      have S2 := hid (show SW wr w0 g (p' ++ X' ++ Y'.take k ++ Y'.drop k ++ q') tl by rw [List.append_assoc (p' ++ X'), List.take_append_drop]; exact S.out)
      have Hn := hid (show N = (p' ++ X' ++ Y'.take k ++ Y'.drop k ++ q').length by rw [List.append_assoc (p' ++ X'), List.take_append_drop]; exact HN'.out)
      have hq : r = p'.length + X'.length + (Y'.take k).length := by omega
      have Hk := hid hk
      clear hN' hX hY hk hr d2
      have d2 : decide ((j : Int) < (i : Int)) = false := decide_eq_false (by omega)
      have Hq := hid hq
      have E1 := hid e1
      have E2 := hid e2
      have Hm := hid hm'
      clear hq e1 e2 hm'
      go_wp2_with fail
      refine (swapRange_at g cap N p'.length r i p' X' (Y'.take k) (Y'.drop k) q' tl w0 _ (by first | exact S2.out | exact S2.out.drew) HX.out E2.out rfl Hq.out Hn.out hN2 fv).mono ?_
      rintro e w1 ⟨rfl, R⟩
      have R := hid R
      go_wp2
      go_round
      case rel => exact ⟨i, k, p', Y'.drop k, Y'.take k, X' ++ q', rfl, rfl, E2.out, E1.out, hi0, by have := Hk.out; omega, by have := Hm.out; omega, by rw [← He.out, ← List.append_assoc, List.append_assoc p', List.take_append_drop], by rw [Hn.out]; simp only [List.length_append]; omega, by rw [← List.append_assoc]; exact R.out⟩
      case measure => have := Hk.out; simp [intOf]; omega
    · subst heq
      have d1 : ((i : Int) != (i : Int)) = false := bne_self_eq_false _
      clear hN' hX hY
      have S2 := hid (show SW wr w0 g (p' ++ X' ++ [] ++ Y' ++ q') tl by rw [List.append_nil]; exact S.out)
      have Hn := hid (show N = (p' ++ X' ++ [] ++ Y' ++ q').length by rw [List.append_nil]; exact HN'.out)
      have hq := hid (show m = p'.length + X'.length + ([] : List IR).length by rw [HX.out]; exact hm')
      clear hm'
      go_wp2_with fail
      refine (swapRange_at g cap N p'.length m i p' X' [] Y' q' tl w0 _ (by first | exact S2.out | exact S2.out.drew) HX.out HY.out rfl hq.out Hn.out hN2 fv).mono ?_
      rintro e w1 ⟨rfl, R⟩
      have R := hid R
      go_wp2
      go_end0
      exact ⟨rfl, by have R := R.out; rw [List.append_nil, He.out] at R; exact R⟩
    · have d1 : ((i : Int) != (j : Int)) = true := bne_iff_ne.2 (by omega)
      have d2 : decide ((j : Int) < (i : Int)) = true := decide_eq_true (by omega)
      obtain ⟨k, hk⟩ : ∃ k, k = i - j := ⟨_, rfl⟩
      have t4 : IntKind.i64.wrap ((i : Int) - (j : Int)) = (k : Int) := (IntWalk.i64_in _ (by omega)).trans (by omega)
      have e1 : (X'.take j).length = j := by rw [List.length_take, Nat.min_eq_left (by omega)]
      have e2 : (X'.drop j).length = k := by rw [List.length_drop]; omega
      have S2 := hid (show SW wr w0 g (p' ++ X'.take j ++ X'.drop j ++ Y' ++ q') tl by rw [List.append_assoc p', List.take_append_drop]; exact S.out)
      have Hn := hid (show N = (p' ++ X'.take j ++ X'.drop j ++ Y' ++ q').length by rw [List.append_assoc p', List.take_append_drop]; exact HN'.out)
      have hq : m = p'.length + (X'.take j).length + (X'.drop j).length := by omega
      have Hk := hid hk
      have Hq := hid hq
      have E1 := hid e1
      have E2 := hid e2
      have Hm := hid hm'
      clear hN' hX hY hk hq e1 e2 hm'
      go_wp2_with fail
      refine (swapRange_at g cap N p'.length m j p' (X'.take j) (X'.drop j) Y' q' tl w0 _ (by first | exact S2.out | exact S2.out.drew) E1.out HY.out rfl Hq.out Hn.out hN2 fv).mono ?_
      rintro e w1 ⟨rfl, R⟩
      have R := hid R
      go_wp2
      go_round
      case rel => exact ⟨k, j, p' ++ Y', X'.drop j, X'.take j, q', rfl, rfl, E2.out, E1.out, by have := Hk.out; omega, hj0, by have := Hm.out; have := Hk.out; rw [List.length_append, HY.out]; omega, by rw [← He.out, List.append_assoc (p' ++ Y'), List.take_append_drop], by rw [Hn.out]; simp only [List.length_append]; omega, R.out⟩
      case measure => have := Hk.out; simp [intOf]; omega

end Go.Proofs.Ytlekobompjehdaa
