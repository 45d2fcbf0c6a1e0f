/-
  block.Best: the block of fewest bits.
-/
import Derived.Test.YthhllollhjpheaaBkV
import Derived.Test.YthhllollhjpheaaBkQ
import Derived.Test.YthhllollhjpheaaPut
import Derived.Test.YthhllollhjpheaaReg
namespace Go.Proofs.Ythhllollhjpheaa
open Go.RowKit

def ClonedT (l : List (Int × Int)) (W : World) (e : Ending) (w' : World) : Prop :=
  ∃ A' c', e = .returned (.slice A' l.length c') ∧ w'.ownsRow W.heap.size 54 2 (.slice A' l.length c') l.length (l.flatMap encTok) ∧ Below W.heap.size W w'
theorem empty_tokrow (w : World) (t : TypeId) : (w.alloc (.cells #[] t)).ownsRow w.heap.size t 2 (.slice (some ⟨w.heap.size, 0, none⟩) 0 0) 0 [] :=
  ⟨rfl, .inr ⟨w.heap.size, 0, #[], rfl, Nat.le_refl _, Blk.new w t #[], Nat.le_refl _, by simp [maxLen], rfl, rfl⟩⟩
theorem encTok_cells {l : List (Int × Int)} : ∀ u ∈ l.flatMap encTok, u.oneCell' = true := by
  intro u hu
  obtain ⟨t, _, ht⟩ := List.mem_flatMap.1 hu
  simp [encTok] at ht
  rcases ht with rfl | rfl <;> rfl
set_option maxRecDepth 100000 in
theorem cloneT_any (A : Option Addr) (c : Nat) (l : List (Int × Int)) (W : World) (hr : Rd W W.heap.size 2 A l.length (l.flatMap encTok)) (hc : A = none → c = 0) (hm : l.length ≤ 1000000) :
    Calls Try.prog 35 #[.slice A l.length c] W (ClonedT l W) := by
  cases A with
  | none =>
    obtain rfl := hc rfl
    have hl := rd_nil hr (by omega) rfl
    obtain rfl := List.eq_nil_of_length_eq_zero hl
    have hq := fun w => Lib.run_eql_slice_nil (P := Try.prog) w 23 54 none 0 0 0 0 Try.underlying23
    go_enter Try.func35, Try.ntmps35
    go_wp2
    go_ret
    exact ⟨none, 0, rfl, World.ownsRow_nil _ _ _ _, Below.refl _ _⟩
  | some ad =>
    obtain ⟨i0, hi0, hz0, hz1, hz2⟩ := info_parts tok_infoB
    have Hi0 := hid hi0
    have Hz0 := hid hz0
    have Hz1 := hid hz1
    have Hz2 := hid hz2
    have Hr := hid hr
    clear hi0 hz0 hz1 hz2 hr hc
    have hq := fun w => Lib.run_eql_slice_nil (P := Try.prog) w 23 54 ad l.length c 0 0 Try.underlying23
    go_enter Try.func35, Try.ntmps35
    go_wp2_with (at_builtin; refine wpList_app _ rfl _ _ _ rfl W.heap.size 54 i0 (.agg #[.int .i64 0, .int .i64 0]) 2 16 Try.underlying23 Hi0.out Hz0.out Hz1.out Hz2.out rfl (by omega) _ 0 0 [] rfl (empty_tokrow W _) W.heap.size _ l.length c (l.flatMap encTok) rfl (Hr.out.alloc (Nat.le_refl _) _) (by simp) encTok_cells (by simp only [maxLen]; omega) (by omega) (by simp) ?_; rintro A3 c3 w3 ⟨hown3, hgr3, hb3, _⟩)
    go_ret
    refine ⟨A3, c3, by simp, by simpa using hown3, ((Below.refl _ _).alloc (Nat.le_refl _) _).trans hb3⟩

/-- the best kind and its bits, of so many kinds -/
def bstep (l : List (Int × Int)) (text : List Int) (s : Int × Int) (k : Int) : Int × Int := if blkGood k l text = true ∧ (s.2 < 0 ∨ bitsM k l text < s.2) then (k, bitsM k l text) else s
def bestS (l : List (Int × Int)) (text : List Int) : Nat → Int × Int
  | 0 => (0, -1)
  | n + 1 => bstep l text (bestS l text n) (n : Int)
theorem bits_pos {kind : Int} {l : List (Int × Int)} {text : List Int} (h : blkGood kind l text = true) : 0 ≤ bitsM kind l text ∧ bitsM kind l text ≤ 100000000 + 100 * l.length + 100 * text.length := by
  obtain ⟨h0, h2, hf, _⟩ := good_parts h
  have hg := fit_good hf
  have hle := fit_le hf
  by_cases hk : kind = 0
  · subst hk
    have : bitsM 0 l text = 42 + 8 * text.length := rfl
    omega
  · have h1 := headK_bd (kind := kind) hg
    have h3 := body_bd (plan_good (kind := kind) hg) hg
    rw [bits_of hk]
    omega
theorem bestS_lo (l : List (Int × Int)) (text : List Int) : ∀ n, -1 ≤ (bestS l text n).2 ∧ (bestS l text n).2 ≤ 100000000 + 100 * l.length + 100 * text.length
  | 0 => ⟨Int.le_refl _, by show (-1 : Int) ≤ _; omega⟩
  | n + 1 => by
    have ih := bestS_lo l text n
    unfold bestS bstep
    split
    next h => have := bits_pos h.1; exact ⟨by show -1 ≤ bitsM _ _ _; omega, by show bitsM _ _ _ ≤ _; omega⟩
    next h => exact ih
/-- of tokens that fit: kind 1 is always in form -/
theorem bestS_ge {l : List (Int × Int)} {text : List Int} : ∀ n, 0 ≤ (bestS l text n).2 → 0 ≤ (bestS l text (n + 1)).2 := by
  intro n h
  rw [bestS]
  unfold bstep
  split
  next h1 => exact (bits_pos h1.1).1
  next h1 => exact h
theorem good_one {l : List (Int × Int)} {text : List Int} (h : fitM text 0 l = true) {k : Int} (h1 : 1 ≤ k) (h2 : k ≤ 2) : blkGood k l text = true := by
  unfold blkGood
  rw [h, Bool.true_and, Bool.and_eq_true, decide_eq_true_iff, decide_eq_true_iff]
  exact ⟨by omega, fun h3 => by omega⟩
theorem bestS_good {l : List (Int × Int)} {text : List Int} (h : fitM text 0 l = true) : 0 ≤ (bestS l text 3).2 := by
  refine bestS_ge 2 ?_
  rw [bestS]
  unfold bstep
  have hg := good_one h (k := 1) (by omega) (by omega)
  split
  next h1 => exact (bits_pos h1.1).1
  next h1 =>
    rcases Int.lt_or_le (bestS l text 1).2 0 with h2 | h2
    · exact absurd ⟨hg, .inl h2⟩ h1
    · exact h2
/-- the best kind's bits are no more than those of any kind -/
theorem bestS_min {l : List (Int × Int)} {text : List Int} : ∀ n, 0 ≤ (bestS l text n).2 → (∃ k : Nat, k < n ∧ (bestS l text n).1 = k ∧ blkGood k l text = true ∧ (bestS l text n).2 = bitsM k l text) ∧ ∀ k : Nat, k < n → blkGood k l text = true → (bestS l text n).2 < bitsM k l text ∨ ((bestS l text n).2 = bitsM k l text ∧ (bestS l text n).1 ≤ k)
  | 0, h => by exact absurd h (by show ¬ (0 : Int) ≤ -1; decide)
  | n + 1, h => by
    have ih := bestS_min (l := l) (text := text) n
    have hneg : ∀ m, (bestS l text m).2 < 0 → ∀ k : Nat, k < m → blkGood k l text = false := by
      intro m
      induction m with
      | zero => exact fun _ k hk => absurd hk (Nat.not_lt_zero _)
      | succ m ihm =>
        intro hm k hk
        rw [bestS] at hm
        unfold bstep at hm
        split at hm
        next h1 => have := bits_pos h1.1; simp only at hm; omega
        next h1 =>
          rcases Nat.lt_or_ge k m with h2 | h2
          · exact ihm hm k h2
          · obtain rfl : k = m := by omega
            cases hb : blkGood (k : Int) l text with
            | false => rfl
            | true => exact absurd ⟨hb, .inl hm⟩ h1
    have hneg := hneg n
    rw [bestS] at h ⊢
    unfold bstep at h ⊢
    by_cases h1 : blkGood (n : Int) l text = true ∧ ((bestS l text n).2 < 0 ∨ bitsM n l text < (bestS l text n).2)
    · rw [if_pos h1] at h ⊢
      simp only at h ⊢
      refine ⟨⟨n, by omega, rfl, h1.1, rfl⟩, fun k hk hg => ?_⟩
      rcases Nat.lt_or_ge k n with h2 | h2
      · rcases h1.2 with h3 | h3
        · rw [hneg h3 k h2] at hg; cases hg
        · have h0 : 0 ≤ (bestS l text n).2 := by have := bits_pos h1.1; omega
          rcases (ih h0).2 k h2 hg with h4 | h4 <;> left <;> omega
      · obtain rfl : k = n := by omega
        exact .inr ⟨rfl, Int.le_refl _⟩
    · rw [if_neg h1] at h ⊢
      obtain ⟨⟨k, e1, e2, e3, e4⟩, h5⟩ := ih h
      refine ⟨⟨k, by omega, e2, e3, e4⟩, fun k' hk hg => ?_⟩
      rcases Nat.lt_or_ge k' n with h2 | h2
      · exact h5 k' h2 hg
      · obtain rfl : k' = n := by omega
        have : ¬ bitsM k' l text < (bestS l text k').2 := fun h3 => h1 ⟨hg, .inr h3⟩
        omega
/-- what stands in the two boxes -/
def BeC (l : List (Int × Int)) (text : List Int) (W w : World) (g6 : Nat) (s : Int × Int) : Prop :=
  ∃ (A : Option Addr) (n c : Nat) (B : Option Addr) (m d : Nat), Blk w g6 28 #[.int .i64 s.1, .slice A n c, .slice B m d] ∧
    (s.2 < 0 ∧ s.1 = 0 ∧ A = none ∧ n = 0 ∧ c = 0 ∧ B = none ∧ m = 0 ∧ d = 0 ∨ 0 ≤ s.2 ∧ n = l.length ∧ m = text.length ∧
      w.ownsRow W.heap.size 54 2 (.slice A n c) n (l.flatMap encTok) ∧ w.ownsRow W.heap.size 5 1 (.slice B m d) m (bytesV text))
theorem BeC.below {l : List (Int × Int)} {text : List Int} {W w w' : World} {g6 : Nat} {s : Int × Int} (h : BeC l text W w g6 s) (hb : Below w.heap.size w w') : BeC l text W w' g6 s := by
  obtain ⟨A, n, c, B, m, d, h1, h2⟩ := h
  refine ⟨A, n, c, B, m, d, h1.below hb h1.lt, ?_⟩
  rcases h2 with h2 | ⟨a, b, e, o1, o2⟩
  · exact .inl h2
  · exact .inr ⟨a, b, e, own_below o1 hb (Nat.le_refl _), own_below o2 hb (Nat.le_refl _)⟩
theorem row_set3 {w : World} {base t sz n g : Nat} {v : Value} {xs : List Value} {cs : Array Value} (ho : w.ownsRow base t sz v n xs) (hz : Blk w g 28 cs) (ht : t ≠ 28) (u0 u1 u2 : Value) :
    (((w.setCell ⟨g, 0, none⟩ u0).setCell ⟨g, 1, none⟩ u1).setCell ⟨g, 2, none⟩ u2).ownsRow base t sz v n xs := by
  have h1 : ∀ {w : World} {cs : Array Value} (i : Nat) (u : Value), w.ownsRow base t sz v n xs → Blk w g 28 cs → (w.setCell ⟨g, i, none⟩ u).ownsRow base t sz v n xs := fun i u ho hz => ownsRow_setCell_other ho (fun e => own_blk_ne ho hz ht e.symm) u
  exact h1 2 u2 (h1 1 u1 (h1 0 u0 ho hz) (hz.set_ 0 u0)) ((hz.set_ 0 u0).set_ 1 u1)
def BestBE (l : List (Int × Int)) (text : List Int) (W : World) (e : Ending) (w' : World) : Prop :=
  (if fitM text 0 l = true then ∃ A' c' B' d', e = .returned (.tuple #[.agg #[.int .i64 (bestS l text 3).1, .slice A' l.length c', .slice B' text.length d'], .nilIface]) ∧
      w'.ownsRow W.heap.size 54 2 (.slice A' l.length c') l.length (l.flatMap encTok) ∧ w'.ownsRow W.heap.size 5 1 (.slice B' text.length d') text.length (bytesV text)
    else e = .returned (.tuple #[.agg #[.int .i64 0, .slice none 0 0, .slice none 0 0], .iface 40 (.int .i64 6)])) ∧ Below W.heap.size W w'
set_option maxRecDepth 100000 in
set_option maxHeartbeats 8000000 in
theorem best10_bad (A B : Option Addr) (c d : Nat) (l : List (Int × Int)) (text : List Int) (W : World) (hr : Rd W W.heap.size 2 A l.length (l.flatMap encTok)) (ht : Rd W W.heap.size 1 B text.length (bytesV text)) (hm : l.length ≤ 1000000) (hm2 : text.length ≤ 1000000) (hok : ∀ t ∈ l, okTok t) (hB : ∀ x ∈ text, isB x) (hf : fitM text 0 l = false) :
    Calls Try.prog 11 #[.slice A l.length c, .slice B text.length d] W (BestBE l text W) := by
  have hb1 := (Below.refl W.heap.size W).alloc (Nat.le_refl _) (.cells #[.int .i64 0, .slice none 0 0, .slice none 0 0] 28)
  have Hb := hid hb1
  have hck := sound10_any A B c d l text _ (rd_up hr hb1) (rd_up ht hb1) hm hm2 hok hB
  rw [hf] at hck
  have ZB := hid (Blk.new W 28 #[.int .i64 0, .slice none 0 0, .slice none 0 0])
  have Hf := hid hf
  clear hr ht hok hB hb1 hf
  go_enter Try.func11, Try.ntmps11
  go_upto_region 1 with (fail)
  generalize W.alloc (.cells #[.int .i64 0, .slice none 0 0, .slice none 0 0] 28) = w0 at *
  obtain ⟨gb, hgb⟩ : ∃ g, g = W.heap.size := ⟨_, rfl⟩
  have hgB : W.heap.size ≤ gb := by omega
  rw [← hgb] at ZB ⊢
  clear hgb
  go_wp2_with fail
  refine hck.mono ?_
  rintro e w1 ⟨rfl, hb⟩
  have Hb1 := hid (Hb.out.trans (hb.mono Hb.out.size))
  have Z1 := hid (ZB.out.below hb ZB.out.lt)
  have q0 := Z1.out.cell 0
  have q1 := Z1.out.cell 1
  have q2 := Z1.out.cell 2
  simp only [List.getElem?_toArray, List.getElem?_cons_zero, List.getElem?_cons_succ] at q0 q1 q2
  have hq := Z1.out.lt
  have fz := fun o => Z1.out.frozen o
  clear hck hb
  go_wp2_with fail
  have K := ((Z1.out.set_ 0 (.int .i64 0)).set_ 1 (.slice none 0 0)).set_ 2 (.slice none 0 0)
  have r0 := K.cell 0
  have r1 := K.cell 1
  have r2 := K.cell 2
  simp only [List.setIfInBounds_toArray, List.set_cons_zero, List.set_cons_succ, List.getElem?_toArray, List.getElem?_cons_zero, List.getElem?_cons_succ] at r0 r1 r2
  refine bodyPost_ret (v := .tuple #[.agg #[.int .i64 0, .slice none 0 0, .slice none 0 0], .iface 40 (.int .i64 6)]) (by simp [results, Try.results11, go_sem, r0, r1, r2]) rfl ?_
  refine ⟨?_, ((Hb1.out.setCell (p := ⟨gb, 0, none⟩) hgB _).setCell (p := ⟨gb, 1, none⟩) hgB _).setCell (p := ⟨gb, 2, none⟩) hgB _⟩
  rw [if_neg (by rw [Hf.out]; decide)]
set_option maxRecDepth 100000 in
set_option maxHeartbeats 8000000 in
theorem best10_good (A B : Option Addr) (c d : Nat) (l : List (Int × Int)) (text : List Int) (W : World) (hr : Rd W W.heap.size 2 A l.length (l.flatMap encTok)) (ht : Rd W W.heap.size 1 B text.length (bytesV text)) (hcA : A = none → c = 0) (hcB : B = none → d = 0) (hm : l.length ≤ 1000000) (hm2 : text.length ≤ 1000000) (hok : ∀ t ∈ l, okTok t) (hB : ∀ x ∈ text, isB x) (hf : fitM text 0 l = true) :
    Calls Try.prog 11 #[.slice A l.length c, .slice B text.length d] W (BestBE l text W) := by
  have hb1 := (Below.refl W.heap.size W).alloc (Nat.le_refl _) (.cells #[.int .i64 0, .slice none 0 0, .slice none 0 0] 28)
  have Hb := hid hb1
  have hck := sound10_any A B c d l text _ (rd_up hr hb1) (rd_up ht hb1) hm hm2 hok hB
  rw [hf] at hck
  have ZB := hid (Blk.new W 28 #[.int .i64 0, .slice none 0 0, .slice none 0 0])
  have Hf := hid hf
  have Hr := hid hr
  have Ht := hid ht
  have Hok := hid hok
  have HB := hid hB
  have HcA := hid hcA
  have HcB := hid hcB
  clear hr ht hok hB hb1 hf hcA hcB
  go_enter Try.func11, Try.ntmps11
  go_upto_region 1 with (fail)
  generalize W.alloc (.cells #[.int .i64 0, .slice none 0 0, .slice none 0 0] 28) = w0 at *
  obtain ⟨gb, hgb⟩ : ∃ g, g = W.heap.size := ⟨_, rfl⟩
  have hgB : W.heap.size ≤ gb := by omega
  rw [← hgb] at ZB ⊢
  clear hgb
  go_wp2_with fail
  refine hck.mono ?_
  rintro e w1 ⟨rfl, hb⟩
  have Hb1 := hid (Hb.out.trans (hb.mono Hb.out.size))
  have Z1 := hid (ZB.out.below hb ZB.out.lt)
  clear hck hb
  have hal := (Below.refl w1.heap.size w1).alloc (Nat.le_refl _) (.cells #[.int .i64 0, .slice none 0 0, .slice none 0 0] 28)
  have Hb2 := hid (Hb1.out.trans (hal.mono Hb1.out.size))
  have Z2 := hid (Z1.out.below hal Z1.out.lt)
  have Y2 := hid (Blk.new w1 28 #[.int .i64 0, .slice none 0 0, .slice none 0 0])
  clear hal
  go_upto_region 4 with (fail)
  generalize w1.alloc (.cells #[.int .i64 0, .slice none 0 0, .slice none 0 0] 28) = w2 at *
  obtain ⟨gx, hgx⟩ : ∃ g, g = w1.heap.size := ⟨_, rfl⟩
  have hne : gb ≠ gx := by have := Z1.out.lt; omega
  have hgX : W.heap.size ≤ gx := by have := Hb1.out.size; omega
  rw [← hgx] at Y2 ⊢
  clear hgx
  go_wp2
  go_loopw [7, 8] (fun le ki wr => ∃ j : Nat, j ≤ 3 ∧ ki = .int .i64 (j : Int) ∧ le = .int .i64 (bestS l text j).2 ∧ Hid (BeC l text W wr gx (bestS l text j)) ∧ Hid (Blk wr gb 28 #[.int .i64 0, .slice none 0 0, .slice none 0 0]) ∧ Hid (Below W.heap.size W wr)) (fun _ i _ => 3 - (intOf i).toNat)
  case atStart =>
    exact ⟨0, by omega, rfl, rfl, hid ⟨none, 0, 0, none, 0, 0, Y2.out, .inl ⟨by show (-1 : Int) < 0; decide, rfl, rfl, rfl, rfl, rfl, rfl, rfl⟩⟩, Z2, Hb2⟩
  case round =>
    obtain ⟨j, hj, rfl, rfl, HC, HZ, HW⟩ := hrel
    have hlo := bestS_lo l text j
    have HS := hid (show bestS l text (j + 1) = bstep l text (bestS l text j) (j : Int) from rfl)
    have hsz := HW.out.size
    have hgxl : gx < wr.heap.size := by obtain ⟨_, _, _, _, _, _, hXX, _⟩ := HC.out; exact hXX.lt
    by_cases hlt : j < 3
    · obtain ⟨s, hs⟩ : ∃ s, s = bestS l text j := ⟨_, rfl⟩
      rw [← hs] at hlo HS HC ⊢
      clear hs
      have C1 := hid (cloneT_any A c l wr (rd_up (Hr.out) HW.out) HcA.out hm)
      have R2 : Rd wr wr.heap.size 1 B text.length (bytesV text) := rd_up Ht.out HW.out
      have R2h := hid R2
      clear R2
      go_wp2_with fail
      refine C1.out.mono ?_
      rintro e w3 ⟨A3, c3, rfl, o3, b3⟩
      have O3 := hid o3
      have B3 := hid b3
      have hsz3 : W.heap.size ≤ w3.heap.size := Nat.le_trans hsz b3.size
      have C2 := hid (clone_any B d text w3 (rd_up R2h.out b3) HcB.out (by omega))
      clear o3 b3
      go_wp2_with fail
      refine C2.out.mono ?_
      rintro e w4 ⟨B4, d4, rfl, o4, b4⟩
      have O4 := hid o4
      have B4h := hid (B3.out.trans (b4.mono B3.out.size))
      have O3b := hid (own_below O3.out b4 (Nat.le_refl _))
      clear o4 b4 C1 C2 R2h
      have hsz4 := B4h.out.size
      have hal := (Below.refl w4.heap.size w4).alloc (Nat.le_refl _) (.cells #[.int .i64 (j : Int), .slice A3 l.length c3, .slice B4 text.length d4] 28)
      have T5 := hid (Blk.new w4 28 #[.int .i64 (j : Int), .slice A3 l.length c3, .slice B4 text.length d4])
      have B5 := hid (B4h.out.trans (hal.mono B4h.out.size))
      have O35 := hid (own_below O3b.out hal (Nat.le_refl _))
      have O45 := hid (own_below O4.out hal (Nat.le_refl _))
      clear hal O3 O4 B3
      go_upto_region 8 with (fail)
      generalize w4.alloc (.cells #[.int .i64 (j : Int), .slice A3 l.length c3, .slice B4 text.length d4] 28) = w5 at *
      obtain ⟨g9, hg9⟩ : ∃ g, g = w4.heap.size := ⟨_, rfl⟩
      have hgw : W.heap.size ≤ g9 := by omega
      have hgr : wr.heap.size ≤ g9 := by omega
      rw [← hg9] at T5 ⊢
      clear hg9
      obtain ⟨gg, hgg⟩ : ∃ g, g = blkGood (j : Int) l text := ⟨_, rfl⟩
      have BT := hid (bits10_any A3 B4 c3 d4 (j : Int) l text w5 (own_rd O35.out) (own_rd O45.out) hm hm2 Hok.out HB.out gg hgg.symm)
      have Hgg := hid hgg
      clear hgg
      have q0 := T5.out.cell 0
      have q1 := T5.out.cell 1
      have q2 := T5.out.cell 2
      simp only [List.getElem?_toArray, List.getElem?_cons_zero, List.getElem?_cons_succ] at q0 q1 q2
      have hq := T5.out.lt
      go_wp2_with fail
      refine BT.out.mono ?_
      rintro e w6 ⟨he, b6⟩
      have B6 := hid (B5.out.trans (b6.mono B5.out.size))
      have T6 := hid (T5.out.below b6 T5.out.lt)
      have O36 := hid (own_below O35.out b6 (Nat.le_refl _))
      have O46 := hid (own_below O45.out b6 (Nat.le_refl _))
      have HZ6 := hid (HZ.out.below B6.out HZ.out.lt)
      have HW6 := hid (HW.out.trans (B6.out.mono hsz))
      have HC6 := hid (BeC.below HC.out B6.out)
      clear b6 q0 q1 q2 hq B4h O3b B5 T5 O35 O45 BT HZ HC HW
      have p0 := T6.out.cell 0
      have p1 := T6.out.cell 1
      have p2 := T6.out.cell 2
      simp only [List.getElem?_toArray, List.getElem?_cons_zero, List.getElem?_cons_succ] at p0 p1 p2
      have hp := T6.out.lt
      cases gg with
      | false =>
        obtain rfl : e = _ := he
        have HS2 := hid (show bestS l text (j + 1) = s by rw [HS.out]; unfold bstep; rw [← Hgg.out, if_neg (by intro h; exact Bool.false_ne_true h.1)])
        clear HS Hgg
        go_wp2_with fail
        go_roundw
        case rel => exact ⟨j + 1, by omega, by go_num, by rw [HS2.out], hid (by rw [HS2.out]; exact HC6.out), HZ6, HW6⟩
        case measure => simp [intOf]; omega
      | true =>
        obtain rfl : e = _ := he
        have hbp := bits_pos (kind := (j : Int)) (l := l) (text := text) Hgg.out.symm
        obtain ⟨n, hn⟩ : ∃ n, n = bitsM (j : Int) l text := ⟨_, rfl⟩
        rw [← hn] at hbp ⊢
        have HS3 := hid (show bestS l text (j + 1) = if s.2 < 0 ∨ n < s.2 then ((j : Int), n) else s by rw [HS.out, hn]; unfold bstep; rw [← Hgg.out]; simp only [true_and])
        have HBX := hid (own_base O36.out (show W.heap.size ≤ wr.heap.size from hsz))
        have HBY := hid (own_base O46.out (show W.heap.size ≤ w3.heap.size from hsz3))
        clear HS Hgg hn
        obtain ⟨k0, k1⟩ := s
        simp only at hlo HS3 HC6 ⊢
        by_cases h1 : k1 < 0
        · have HS2 := hid (show bestS l text (j + 1) = ((j : Int), n) by rw [HS3.out, if_pos (Or.inl h1)])
          have d1 : decide (k1 < 0) = true := decide_eq_true h1
          obtain ⟨A7, n7, c7, B7, m7, d7, X7, _⟩ := HC6.out
          have X7h := hid X7
          have xl := X7.lt
          have fz := fun o => X7h.out.frozen o
          have x0 := X7.cell 0
          have x1 := X7.cell 1
          have x2 := X7.cell 2
          simp only [List.getElem?_toArray, List.getElem?_cons_zero, List.getElem?_cons_succ] at x0 x1 x2
          have hne9 : gx ≠ g9 := by omega
          have hne9' : g9 ≠ gx := by omega
          clear HS3 X7
          go_wp2_with fail
          go_roundw
          case rel =>
            refine ⟨j + 1, by omega, by go_num, by rw [HS2.out], ?_, ?_, ?_⟩
            · rw [HS2.out]
              exact hid ⟨A3, l.length, c3, B4, text.length, d4, ((X7h.out.set_ 0 _).set_ 1 _).set_ 2 _, .inr ⟨hbp.1, rfl, rfl, row_set3 HBX.out X7h.out (by decide) _ _ _, row_set3 HBY.out X7h.out (by decide) _ _ _⟩⟩
            · exact hid (((HZ6.out.far (p := ⟨gx, 0, none⟩) hne _).far (p := ⟨gx, 1, none⟩) hne _).far (p := ⟨gx, 2, none⟩) hne _)
            · exact hid (((HW6.out.setCell (p := ⟨gx, 0, none⟩) hgX _).setCell (p := ⟨gx, 1, none⟩) hgX _).setCell (p := ⟨gx, 2, none⟩) hgX _)
          case measure => simp [intOf]; omega
        · by_cases h2 : n < k1
          · have HS2 := hid (show bestS l text (j + 1) = ((j : Int), n) by rw [HS3.out, if_pos (Or.inr h2)])
            have d1 : decide (k1 < 0) = false := decide_eq_false h1
            have d2 : decide (n < k1) = true := decide_eq_true h2
            obtain ⟨A7, n7, c7, B7, m7, d7, X7, _⟩ := HC6.out
            have X7h := hid X7
            have xl := X7.lt
            have fz := fun o => X7h.out.frozen o
            have x0 := X7.cell 0
            have x1 := X7.cell 1
            have x2 := X7.cell 2
            simp only [List.getElem?_toArray, List.getElem?_cons_zero, List.getElem?_cons_succ] at x0 x1 x2
            have hne9 : gx ≠ g9 := by omega
            have hne9' : g9 ≠ gx := by omega
            clear HS3 X7
            go_wp2_with fail
            go_roundw
            case rel =>
              refine ⟨j + 1, by omega, by go_num, by rw [HS2.out], ?_, ?_, ?_⟩
              · rw [HS2.out]
                exact hid ⟨A3, l.length, c3, B4, text.length, d4, ((X7h.out.set_ 0 _).set_ 1 _).set_ 2 _, .inr ⟨hbp.1, rfl, rfl, row_set3 HBX.out X7h.out (by decide) _ _ _, row_set3 HBY.out X7h.out (by decide) _ _ _⟩⟩
              · exact hid (((HZ6.out.far (p := ⟨gx, 0, none⟩) hne _).far (p := ⟨gx, 1, none⟩) hne _).far (p := ⟨gx, 2, none⟩) hne _)
              · exact hid (((HW6.out.setCell (p := ⟨gx, 0, none⟩) hgX _).setCell (p := ⟨gx, 1, none⟩) hgX _).setCell (p := ⟨gx, 2, none⟩) hgX _)
            case measure => simp [intOf]; omega
          · have HS2 := hid (show bestS l text (j + 1) = (k0, k1) by rw [HS3.out, if_neg (by omega)])
            have d1 : decide (k1 < 0) = false := decide_eq_false h1
            have d2 : decide (n < k1) = false := decide_eq_false h2
            clear HS3
            go_wp2_with fail
            go_roundw
            case rel => exact ⟨j + 1, by omega, by go_num, by rw [HS2.out], hid (by rw [HS2.out]; exact HC6.out), HZ6, HW6⟩
            case measure => simp [intOf]; omega
    · obtain rfl : j = 3 := by omega
      have hfin := bestS_good Hf.out
      obtain ⟨A7, n7, c7, B7, m7, d7, X7, hx⟩ := HC.out
      have hx := hid (show n7 = l.length ∧ m7 = text.length ∧ wr.ownsRow W.heap.size 54 2 (.slice A7 n7 c7) n7 (l.flatMap encTok) ∧ wr.ownsRow W.heap.size 5 1 (.slice B7 m7 d7) m7 (bytesV text) by
        rcases hx with hx | hx
        · omega
        · exact hx.2)
      clear hfin HC
      obtain ⟨rfl, rfl, o1, o2⟩ := hx.out
      have O1 := hid o1
      have O2 := hid o2
      obtain ⟨k, hk⟩ : ∃ k, k = (bestS l text 3).1 := ⟨_, rfl⟩
      rw [← hk] at X7
      have Hk := hid hk
      clear hx o1 o2 HS hk
      have x0 := X7.cell 0
      have x1 := X7.cell 1
      have x2 := X7.cell 2
      simp only [List.getElem?_toArray, List.getElem?_cons_zero, List.getElem?_cons_succ] at x0 x1 x2
      have xl := X7.lt
      have z0 := HZ.out.cell 0
      have z1 := HZ.out.cell 1
      have z2 := HZ.out.cell 2
      simp only [List.getElem?_toArray, List.getElem?_cons_zero, List.getElem?_cons_succ] at z0 z1 z2
      have zl := HZ.out.lt
      have fz := fun o => HZ.out.frozen o
      have X7h := hid X7
      have hne' : gx ≠ gb := fun h => hne h.symm
      clear X7
      go_wp2_with fail
      have K := ((HZ.out.set_ 0 (.int .i64 k)).set_ 1 (.slice A7 l.length c7)).set_ 2 (.slice B7 text.length d7)
      have r0 := K.cell 0
      have r1 := K.cell 1
      have r2 := K.cell 2
      simp only [List.setIfInBounds_toArray, List.set_cons_zero, List.set_cons_succ, List.getElem?_toArray, List.getElem?_cons_zero, List.getElem?_cons_succ] at r0 r1 r2
      refine bodyPost_ret (v := .tuple #[.agg #[.int .i64 k, .slice A7 l.length c7, .slice B7 text.length d7], .nilIface]) (by simp [results, Try.results11, go_sem, r0, r1, r2]) rfl ?_
      refine ⟨?_, ((HW.out.setCell (p := ⟨gb, 0, none⟩) hgB _).setCell (p := ⟨gb, 1, none⟩) hgB _).setCell (p := ⟨gb, 2, none⟩) hgB _⟩
      rw [if_pos Hf.out, ← Hk.out]
      exact ⟨A7, c7, B7, d7, rfl, row_set3 O1.out HZ.out (by decide) _ _ _, row_set3 O2.out HZ.out (by decide) _ _ _⟩
theorem best10_any (A B : Option Addr) (c d : Nat) (l : List (Int × Int)) (text : List Int) (W : World) (hr : Rd W W.heap.size 2 A l.length (l.flatMap encTok)) (ht : Rd W W.heap.size 1 B text.length (bytesV text)) (hcA : A = none → c = 0) (hcB : B = none → d = 0) (hm : l.length ≤ 1000000) (hm2 : text.length ≤ 1000000) (hok : ∀ t ∈ l, okTok t) (hB : ∀ x ∈ text, isB x) :
    Calls Try.prog 11 #[.slice A l.length c, .slice B text.length d] W (BestBE l text W) := by
  cases hf : fitM text 0 l with
  | true => exact best10_good A B c d l text W hr ht hcA hcB hm hm2 hok hB hf
  | false => exact best10_bad A B c d l text W hr ht hm hm2 hok hB hf
end Go.Proofs.Ythhllollhjpheaa
