/-
  block: the order of the lengths of lengths, trimming, two symbols at least; parse.Count.
  parse.Count: how often symbols stand.
-/
import Derived.Test.YthhllollhjpheaaBkP
import Derived.Test.YthhllollhjpheaaCanA
import Derived.Test.YthhllollhjpheaaBkR
import Derived.BigQuiet
import Derived.Deep.DeepCutAuto
import Derived.Deep.CutRange
import Derived.BigRegion
namespace Go.Proofs.Ythhllollhjpheaa
open Go.RowKit

def ordI : List Int := [16, 17, 18, 0, 8, 7, 9, 6, 10, 5, 11, 4, 12, 3, 13, 2, 14, 1, 15]
theorem ordI_eq : ordI = ordT.map fun i => ((i : Nat) : Int) := rfl
theorem order10_any (W : World) : Calls Try.prog 56 #[] W fun e w' => ∃ g, e = .returned (.slice (some ⟨g, 0, none⟩) 19 19) ∧ W.heap.size ≤ g ∧ Blk w' g 3 (intsV ordI).toArray ∧ Below W.heap.size W w' := by
  go_enter Try.func56, Try.ntmps56
  go_wp2_with fail
  go_ret
  exact ⟨W.heap.size, rfl, Nat.le_refl _, Blk.new _ _ _, (Below.refl _ _).alloc (Nat.le_refl _) _⟩
/-- a row of ints in a block -/
theorem blkI_at {w : World} {g : Nat} {l : List Int} (h : Blk w g 3 (intsV l).toArray) {s : Nat} (hs : s < l.length) : w.cell? ⟨g, s, none⟩ = some (.int .i64 (l.getD s 0)) := by
  rw [h.cell s, List.getElem?_toArray, intsV, List.getElem?_map, List.getD_eq_getElem?_getD, List.getElem?_eq_getElem hs]
  rfl
theorem blkI_set {w : World} {g : Nat} {l : List Int} (h : Blk w g 3 (intsV l).toArray) (s : Nat) (x : Int) : Blk (w.setCell ⟨g, s, none⟩ (.int .i64 x)) g 3 (intsV (l.set s x)).toArray := by
  have := h.set_ s (.int .i64 x)
  have e : (intsV l).toArray.setIfInBounds s (Value.int .i64 x) = (intsV (l.set s x)).toArray := by simp [intsV, List.map_set]
  rw [e] at this
  exact this
theorem blkI_rd {w : World} {g : Nat} {l : List Int} {t : TypeId} (h : Blk w g t (intsV l).toArray) : RdI w w.heap.size (some ⟨g, 0, none⟩) l := by
  refine ⟨by rw [intsV_eq, intsV_length, Nat.mul_one], fun _ => ⟨g, 0, rfl, h.lt, fun j u hu => ?_⟩⟩
  rw [Nat.zero_add, h.cell j, List.getElem?_toArray]
  rw [intsV_eq] at hu
  exact hu
set_option maxRecDepth 100000 in
set_option maxHeartbeats 4000000 in
theorem trim10_any (A : Option Addr) (c k : Nat) (l : List Int) (W : World) (h : RdI W W.heap.size A l) (hm : l.length ≤ 1000) (hk : k ≤ 1000) (hcl : l.length ≤ c) :
    Calls Try.prog 66 #[.slice A l.length c, .int .i64 (k : Int)] W fun e w' => e = .returned (.slice A (trimM k l).length c) ∧ W = w' := by
  have H := hid h
  obtain ⟨n, hn⟩ : ∃ n, n = l.length := ⟨_, rfl⟩
  have Hn := hid hn
  rw [← hn] at hm hcl ⊢
  clear h hn
  go_enter Try.func66, Try.ntmps66
  go_wp2
  go_loop [0] (fun v => ∃ j : Nat, v = .slice A j c ∧ j ≤ n ∧ trimN k l n = trimN k l j) (fun v => match v with | .slice _ j _ => j | _ => 0)
  case atStart => exact ⟨n, rfl, Nat.le_refl _, rfl⟩
  case round =>
    obtain ⟨j, rfl, hj, ht⟩ := hrel
    have Ht := hid ht
    clear ht
    have hend : trimN k l j = j → (trimM k l).length = j := fun e => by
      unfold trimM
      rw [List.length_take, ← Hn.out, Ht.out, e]
      omega
    have Hend := hid hend
    clear hend
    by_cases h1 : k < j
    · obtain ⟨b, off, hA, hbb, hc⟩ := int_at H.out (j := j - 1) (by rw [← Hn.out]; omega)
      subst hA
      have hg : l[j - 1]'(by rw [← Hn.out]; omega) = l.getD (j - 1) 0 := by rw [List.getD_eq_getElem?_getD, List.getElem?_eq_getElem (by rw [← Hn.out]; omega)]; rfl
      rw [hg] at hc
      have Hun := hid (show trimN k l j = if k < j ∧ l.getD (j - 1) 0 = 0 then trimN k l (j - 1) else j by
        obtain ⟨q, rfl⟩ : ∃ q, j = q + 1 := ⟨j - 1, by omega⟩
        rfl)
      clear hg
      generalize l.getD (j - 1) 0 = x at *
      by_cases hx : x = 0
      · subst hx
        have E := hid (Ht.out.trans (Hun.out.trans (if_pos ⟨h1, rfl⟩)))
        go_wp2
        go_round
        case rel => exact ⟨j - 1, rfl, by omega, E.out⟩
        case measure => simp; omega
      · have E := hid (Hend.out (Hun.out.trans (if_neg fun h => hx h.2)))
        go_wp2
        go_ret
        exact ⟨by rw [E.out]; rfl, rfl⟩
    · have E := hid (Hend.out (by
        cases j with
        | zero => rfl
        | succ q => unfold trimN; rw [if_neg (by omega)]))
      go_wp2
      go_ret
      exact ⟨by rw [E.out]; rfl, rfl⟩
/-- only one block turns -/
structure One (g : Nat) (w w' : World) : Prop where
  os : w'.os = w.os
  tape : w'.tape = w.tape
  output : w'.output = w.output
  size : w'.heap.size = w.heap.size
  same : ∀ k, k ≠ g → w'.heap[k]? = w.heap[k]?
theorem One.refl (g : Nat) (w : World) : One g w w := ⟨rfl, rfl, rfl, rfl, fun _ _ => rfl⟩
theorem One.set {g : Nat} {w w' : World} (h : One g w w') (i : Nat) (u : Value) : One g w (w'.setCell ⟨g, i, none⟩ u) :=
  have b := Below.setCell (B := g) (Below.refl g w') (p := ⟨g, i, none⟩) (Nat.le_refl g) u
  ⟨b.os.trans h.os, b.tape.trans h.tape, b.output.trans h.output, (World.size_setCell _ _ _).trans h.size, fun k hk => (Below.heap_setCell w' ⟨g, i, none⟩ u k hk).trans (h.same k hk)⟩
theorem One.low {g base : Nat} {w w' : World} (h : One g w w') (hg : base ≤ g) : Below base w w' := ⟨h.os, h.tape, h.output, Nat.le_of_eq h.size.symm, fun k hk => h.same k (by omega)⟩
theorem One.blk {g k : Nat} {w w' : World} {t : TypeId} {cs : Array Value} (h : One g w w') (hb : Blk w k t cs) (hk : k ≠ g) : Blk w' k t cs := (h.same k hk).trans hb
theorem used_step {l : List Int} {j : Nat} (hj : j < l.length) : usedN (l.take (j + 1)) = usedN (l.take j) + (if 0 < l[j] then 1 else 0) := by
  unfold usedN
  rw [List.take_succ_eq_append_getElem hj, List.filter_append, List.length_append]
  by_cases h : 0 < l[j]
  · rw [List.filter_cons_of_pos (by simpa using h), if_pos h]; rfl
  · rw [List.filter_cons_of_neg (by simpa using h), if_neg h]; rfl
def zerN (l : List Int) : Nat := (l.filter fun x => decide (x = 0)).length
theorem zer_used : ∀ {l : List Int}, (∀ x ∈ l, 0 ≤ x) → usedN l + zerN l = l.length
  | [], _ => rfl
  | x :: l, h => by
    have ih := zer_used (l := l) fun y hy => h y (List.mem_cons_of_mem _ hy)
    have hx := h x List.mem_cons_self
    unfold usedN zerN at *
    by_cases h0 : x = 0
    · rw [List.filter_cons_of_neg (by simp; omega), List.filter_cons_of_pos (by simpa using h0), List.length_cons, List.length_cons]
      omega
    · rw [List.filter_cons_of_pos (by simp; omega), List.filter_cons_of_neg (by simpa using h0), List.length_cons, List.length_cons]
      omega
theorem zer_cons (x : Int) (l : List Int) : zerN (x :: l) = zerN l + (if x = 0 then 1 else 0) := by
  unfold zerN
  by_cases h0 : x = 0
  · rw [List.filter_cons_of_pos (by simpa using h0), if_pos h0]; rfl
  · rw [List.filter_cons_of_neg (by simpa using h0), if_neg h0]; rfl
set_option maxRecDepth 100000 in
set_option maxHeartbeats 8000000 in
theorem two10_any (g c : Nat) (l : List Int) (W : World) (h : Blk W g 3 (intsV l).toArray) (h2 : 2 ≤ l.length) (hm : l.length ≤ 1000) (h0 : ∀ x ∈ l, 0 ≤ x) :
    Calls Try.prog 65 #[.slice (some ⟨g, 0, none⟩) l.length c] W fun e w' => e = .returned (.slice (some ⟨g, 0, none⟩) l.length c) ∧ Blk w' g 3 (intsV (twoM l)).toArray ∧ One g W w' := by
  have H := hid h
  have H0 := hid h0
  have Hz := hid (zer_used h0)
  obtain ⟨n, hn⟩ : ∃ n, n = l.length := ⟨_, rfl⟩
  have Hn := hid hn
  rw [← hn] at h2 hm ⊢
  clear h h0 hn
  go_enter Try.func65, Try.ntmps65
  go_wp2
  go_loop [3, 9] (fun u i => ∃ j k : Nat, j ≤ n ∧ k ≤ j ∧ i = .int .i64 (j : Int) ∧ u = .int .i64 (k : Int) ∧ usedN (l.take j) = k) (fun _ i => n - (intOf i).toNat)
  case atStart => exact ⟨0, 0, by omega, by omega, rfl, rfl, rfl⟩
  case round =>
    obtain ⟨j, k, hj, hkj, rfl, rfl, hu⟩ := hrel
    have Hu := hid hu
    clear hu
    by_cases hlt : j < n
    · have hjl : j < l.length := by rw [← Hn.out]; exact hlt
      have q0 := blkI_at H.out hjl
      have Hs := hid (used_step hjl)
      have e0 : l[j] = l.getD j 0 := by rw [List.getD_eq_getElem?_getD, List.getElem?_eq_getElem hjl]; rfl
      rw [e0] at Hs
      clear e0
      generalize l.getD j 0 = x at *
      by_cases hx : 0 < x
      · have E := hid (show usedN (l.take (j + 1)) = k + 1 by rw [Hs.out, Hu.out, if_pos hx])
        go_wp2
        go_round
        case rel => exact ⟨j + 1, k + 1, by omega, by omega, by go_num, by go_num, E.out⟩
        case measure => simp [intOf]; omega
      · have E := hid (show usedN (l.take (j + 1)) = k by rw [Hs.out, Hu.out, if_neg hx]; rfl)
        go_wp2
        go_round
        case rel => exact ⟨j + 1, k, by omega, by omega, by go_num, rfl, E.out⟩
        case measure => simp [intOf]; omega
    · have e : j = n := by omega
      subst e
      have hul : usedN l = k := by have := Hu.out; rw [Hn.out, List.take_length] at this; exact this
      have Hul := hid hul
      have Hz2 := hid (show 2 - k ≤ zerN l by have := Hz.out; have := Hn.out; omega)
      clear hul
      go_wp2
      go_loopw [3, 6] (fun u i wr => ∃ (p k2 : Nat) (P : List Int), p ≤ j ∧ i = .int .i64 (p : Int) ∧ u = .int .i64 (k2 : Int) ∧ Hid (k ≤ k2) ∧ Hid (P.length = p) ∧ Hid (twoM l = P ++ twoN (2 - k2) (l.drop p)) ∧ Hid (2 - k2 ≤ zerN (l.drop p)) ∧ Hid (Blk wr g 3 (intsV (P ++ l.drop p)).toArray) ∧ Hid (One g W wr)) (fun _ i _ => j - (intOf i).toNat)
      case atStart => exact ⟨0, k, [], by omega, rfl, rfl, hid (Nat.le_refl _), hid rfl, hid (by rw [List.nil_append, List.drop_zero, ← Hul.out]; rfl), Hz2, H, hid (One.refl _ _)⟩
      case round =>
        obtain ⟨p, k2, P, hp, rfl, rfl, Hk, HP, Ht, Hzz, B, O⟩ := hrel
        by_cases hgo : k2 < 2
        · have hpl : p < l.length := by
            rcases Nat.lt_or_ge p l.length with h | h
            · exact h
            · exfalso
              have := Hzz.out
              rw [List.drop_eq_nil_of_le h] at this
              simp [zerN] at this
              omega
          have hpj : p < j := by rw [Hn.out]; exact hpl
          have hd : l.drop p = l[p] :: l.drop (p + 1) := List.drop_eq_getElem_cons hpl
          have q0 := blkI_at B.out (s := p) (by rw [List.length_append, HP.out, List.length_drop]; omega)
          have eg : (P ++ l.drop p).getD p 0 = l[p] := by
            rw [List.getD_eq_getElem?_getD, List.getElem?_append_right (by rw [HP.out]; exact Nat.le_refl _), HP.out, Nat.sub_self, hd]
            rfl
          rw [eg] at q0
          have Hd := hid hd
          have hgw := B.out.lt
          have fz := fun o => B.out.frozen o
          obtain ⟨x, hx⟩ : ∃ x, x = l[p] := ⟨_, rfl⟩
          rw [← hx] at q0 Hd
          clear eg hd hx
          by_cases h0 : x = 0
          · subst h0
            have E := hid (show twoM l = (P ++ [1]) ++ twoN (2 - (k2 + 1)) (l.drop (p + 1)) by
              rw [Ht.out, Hd.out, twoN, if_neg (by omega), if_pos rfl, List.append_assoc, show 2 - k2 - 1 = 2 - (k2 + 1) by omega]
              rfl)
            have E2 := hid (show 2 - (k2 + 1) ≤ zerN (l.drop (p + 1)) by
              have := Hzz.out
              rw [Hd.out, zer_cons, if_pos rfl] at this
              omega)
            have hset := blkI_set B.out p 1
            have es : (P ++ l.drop p).set p 1 = (P ++ [1]) ++ l.drop (p + 1) := by
              rw [List.set_append, if_neg (by rw [HP.out]; omega), HP.out, Nat.sub_self, Hd.out, List.append_assoc]
              rfl
            rw [es] at hset
            have Hset := hid hset
            clear hset es
            go_wp2
            go_roundw
            case rel => exact ⟨p + 1, k2 + 1, P ++ [1], by omega, by go_num, by go_num, hid (by have := Hk.out; omega), hid (by rw [List.length_append, HP.out]; rfl), E, E2, Hset, hid (O.out.set p _)⟩
            case measure => simp [intOf]; omega
          · have E := hid (show twoM l = (P ++ [x]) ++ twoN (2 - k2) (l.drop (p + 1)) by
              rw [Ht.out, Hd.out, twoN, if_neg (by omega), if_neg h0, List.append_assoc]
              rfl)
            have E2 := hid (show 2 - k2 ≤ zerN (l.drop (p + 1)) by
              have := Hzz.out
              rw [Hd.out, zer_cons, if_neg h0] at this
              exact this)
            have E3 := hid (show P ++ l.drop p = (P ++ [x]) ++ l.drop (p + 1) by rw [Hd.out, List.append_assoc]; rfl)
            go_wp2
            go_roundw
            case rel => exact ⟨p + 1, k2, P ++ [x], by omega, by go_num, rfl, Hk, hid (by rw [List.length_append, HP.out]; rfl), E, E2, hid (by rw [← E3.out]; exact B.out), O⟩
            case measure => simp [intOf]; omega
        · have E := hid (show twoM l = P ++ l.drop p by rw [Ht.out, show 2 - k2 = 0 by omega, twoN_zero])
          go_wp2
          go_ret
          exact ⟨rfl, by rw [E.out]; exact B.out, O.out⟩
end Go.Proofs.Ythhllollhjpheaa

namespace Go.Proofs.Ythhllollhjpheaa
open Go.RowKit

/-- DistSymbol at any number -/
theorem dsym_some (n : Int) (w : World) : Calls Try.prog 52 #[.int .i64 n] w fun e w' => ∃ s ok, e = .returned (.tuple #[.int .i64 s, .bool ok]) ∧ w = w' := by
  by_cases h : n < 1 ∨ 32768 < n
  · exact (dsym_no n h w).mono fun e w' h => ⟨0, false, h.1, h.2⟩
  · exact (dsym_yes n (by omega) (by omega) w).mono fun e w' h => by
      obtain ⟨s, _, h1, h2⟩ := h
      exact ⟨s, true, h1, h2⟩
theorem lsym_at (n : Int) (h1 : 3 ≤ n) (h2 : n ≤ 258) (w : World) : Calls Try.prog 46 #[.int .i64 n] w fun e w' => e = .returned (.tuple #[.int .i64 (lsN n : Nat), .bool true]) ∧ w = w' :=
  (lsym_yes n h1 h2 w).mono fun e w' h => by
    obtain ⟨s, hs, h1, h2⟩ := h
    rw [lsN_of hs]
    exact ⟨h1, h2⟩
theorem dsym_at (n : Int) (h1 : 1 ≤ n) (h2 : n ≤ 32768) (w : World) : Calls Try.prog 52 #[.int .i64 n] w fun e w' => e = .returned (.tuple #[.int .i64 (dsN n : Nat), .bool true]) ∧ w = w' :=
  (dsym_yes n h1 h2 w).mono fun e w' h => by
    obtain ⟨s, hs, h1, h2⟩ := h
    rw [dsN_of hs]
    exact ⟨h1, h2⟩
theorem lbase_at (n : Int) (w : World) : Calls Try.prog 47 #[.int .i64 (lsN n : Nat)] w fun e w' => e = .returned (.tuple #[.int .i64 (lbase (lsN n : Nat)), .int .i64 (lextra (lsN n : Nat)), .bool true]) ∧ w = w' :=
  lbase_yes _ (by have := lsN_bd n; omega) (by have := lsN_bd n; omega) w
theorem dbase_at (n : Int) (w : World) : Calls Try.prog 48 #[.int .i64 (dsN n : Nat)] w fun e w' => e = .returned (.tuple #[.int .i64 (dbase (dsN n : Nat)), .int .i64 (dextra (dsN n : Nat)), .bool true]) ∧ w = w' :=
  dbase_yes _ (by omega) (by have := dsN_bd n; omega) w
/-- counts stay small -/
def cntB (c : List Int) (b : Int) : Prop := ∀ x ∈ c, 0 ≤ x ∧ x ≤ b
theorem cntB_at {c : List Int} {b : Int} (h : cntB c b) (hb : 0 ≤ b) (s : Nat) : 0 ≤ c.getD s 0 ∧ c.getD s 0 ≤ b := by
  rw [List.getD_eq_getElem?_getD]
  rcases Nat.lt_or_ge s c.length with h1 | h1
  · rw [List.getElem?_eq_getElem h1]; exact h _ (List.getElem_mem h1)
  · rw [List.getElem?_eq_none h1]; exact ⟨Int.le_refl 0, hb⟩
theorem cntB_inc {c : List Int} {b : Int} (h : cntB c b) (hb : 0 ≤ b) (s : Nat) : cntB (incL c s) (b + 1) := by
  intro x hx
  have h2 := cntB_at h hb s
  rcases List.mem_or_eq_of_mem_set hx with h1 | h1
  · have := h x h1; omega
  · omega
theorem cntB_more {c : List Int} {b d : Int} (h : cntB c b) (hd : b ≤ d) : cntB c d := fun x hx => by have := h x hx; omega
theorem cnt0_B : cntB cnt0.1 1 ∧ cntB cnt0.2 1 := by
  constructor
  · intro x hx
    rcases List.mem_or_eq_of_mem_set hx with h1 | h1
    · have := List.eq_of_mem_replicate h1; omega
    · omega
  · intro x hx
    have := List.eq_of_mem_replicate hx
    omega
theorem cntStep_B {c : List Int × List Int} {b : Int} (t : Int × Int) (hb : 0 ≤ b) (h1 : cntB c.1 b) (h2 : cntB c.2 b) : cntB (cntStep c t).1 (b + 1) ∧ cntB (cntStep c t).2 (b + 1) := by
  unfold cntStep
  split
  · exact ⟨cntB_inc h1 hb _, cntB_more h2 (by omega)⟩
  · exact ⟨cntB_inc h1 hb _, cntB_inc h2 hb _⟩
theorem cnt_B : ∀ (l : List (Int × Int)) (c : List Int × List Int) (b : Int), 0 ≤ b → cntB c.1 b → cntB c.2 b → cntB (l.foldl cntStep c).1 (b + l.length) ∧ cntB (l.foldl cntStep c).2 (b + l.length)
  | [], c, b, _, h1, h2 => ⟨cntB_more h1 (by simp), cntB_more h2 (by simp)⟩
  | t :: l, c, b, hb, h1, h2 => by
    obtain ⟨h3, h4⟩ := cntStep_B t hb h1 h2
    obtain ⟨h5, h6⟩ := cnt_B l _ (b + 1) (by omega) h3 h4
    exact ⟨cntB_more h5 (by rw [List.length_cons]; push_cast; omega), cntB_more h6 (by rw [List.length_cons]; push_cast; omega)⟩
theorem cntM_B (l : List (Int × Int)) : cntB (cntM l).1 (1 + l.length) ∧ cntB (cntM l).2 (1 + l.length) := cnt_B l cnt0 1 (by omega) cnt0_B.1 cnt0_B.2
theorem cntM_take {l : List (Int × Int)} {j : Nat} (hj : j < l.length) : cntM (l.take (j + 1)) = cntStep (cntM (l.take j)) l[j] := by
  unfold cntM
  rw [List.take_succ_eq_append_getElem hj, List.foldl_append]
  rfl
/-- the rows of counts in memory -/
def CntW (w : World) (g1 g2 : Nat) (c : List Int × List Int) : Prop := Blk w g1 3 (intsV c.1).toArray ∧ Blk w g2 3 (intsV c.2).toArray
theorem CntW.below {w w' : World} {g1 g2 : Nat} {c : List Int × List Int} (h : CntW w g1 g2 c) (hb : Below w.heap.size w w') : CntW w' g1 g2 c := ⟨h.1.below hb h.1.lt, h.2.below hb h.2.lt⟩
theorem CntW.set1 {w : World} {g1 g2 : Nat} {c d : List Int} (h : CntW w g1 g2 (c, d)) (hne : g1 ≠ g2) (s : Nat) (x : Int) : CntW (w.setCell ⟨g1, s, none⟩ (.int .i64 x)) g1 g2 (c.set s x, d) :=
  ⟨blkI_set h.1 s x, h.2.far (p := ⟨g1, s, none⟩) (fun e => hne e.symm) _⟩
theorem CntW.set2 {w : World} {g1 g2 : Nat} {c d : List Int} (h : CntW w g1 g2 (c, d)) (hne : g1 ≠ g2) (s : Nat) (x : Int) : CntW (w.setCell ⟨g2, s, none⟩ (.int .i64 x)) g1 g2 (c, d.set s x) :=
  ⟨h.1.far (p := ⟨g2, s, none⟩) hne _, blkI_set h.2 s x⟩
def CntEnd10 (l : List (Int × Int)) (W : World) (e : Ending) (w' : World) : Prop :=
  ∃ g1 g2, e = .returned (.tuple #[.slice (some ⟨g1, 0, none⟩) 286 286, .slice (some ⟨g2, 0, none⟩) 30 30]) ∧ W.heap.size ≤ g1 ∧ W.heap.size ≤ g2 ∧ g1 ≠ g2 ∧ CntW w' g1 g2 (cntM l) ∧ Below W.heap.size W w'
theorem zrow (n : Nat) : (intsV (List.replicate n 0)).toArray = Array.replicate n (Value.int .i64 0) := by unfold intsV; rw [List.map_replicate, List.toArray_replicate]
set_option maxRecDepth 100000 in
set_option maxHeartbeats 8000000 in
theorem count10_any (A : Option Addr) (c : Nat) (l : List (Int × Int)) (W : World) (hr : Rd W W.heap.size 2 A l.length (l.flatMap encTok)) (hm : l.length ≤ 1000000) (hg : ∀ t ∈ l, tgood t = true) :
    Calls Try.prog 44 #[.slice A l.length c] W (CntEnd10 l W) := by
  have Hr := hid hr
  have Hg := hid hg
  obtain ⟨i0, hi0, hz0, hz1, hz2⟩ := info_parts int_info
  obtain ⟨Z1, hZ1⟩ : ∃ Z, Z = Array.replicate 286 (Value.int .i64 0) := ⟨_, rfl⟩
  obtain ⟨Z2, hZ2⟩ : ∃ Z, Z = Array.replicate 30 (Value.int .i64 0) := ⟨_, rfl⟩
  have mk1 : ∀ w : World, (Instr.makeSlice 48 (.int .i64 286) (.int .i64 286)).run Try.prog w = .ok (.slice (some ⟨w.heap.size, 0, none⟩) 286 286) (w.alloc (.cells Z1 3)) := by
    intro w
    have h := run_make (P := Try.prog) w 48 3 i0 (.int .i64 0) Try.underlying48 hi0 hz0 .i64 .i64 286 286 (by omega) (by omega) (by rw [hz2]; omega) (by omega)
    rw [hz1, made_list _ _ rfl, List.toArray_replicate] at h
    rw [hZ1]
    exact h
  have mk2 : ∀ w : World, (Instr.makeSlice 48 (.int .i64 30) (.int .i64 30)).run Try.prog w = .ok (.slice (some ⟨w.heap.size, 0, none⟩) 30 30) (w.alloc (.cells Z2 3)) := by
    intro w
    have h := run_make (P := Try.prog) w 48 3 i0 (.int .i64 0) Try.underlying48 hi0 hz0 .i64 .i64 30 30 (by omega) (by omega) (by rw [hz2]; omega) (by omega)
    rw [hz1, made_list _ _ rfl, List.toArray_replicate] at h
    rw [hZ2]
    exact h
  have HZ1 := hid (hZ1.trans (zrow 286).symm)
  have HZ2 := hid (hZ2.trans (zrow 30).symm)
  clear hr hg hi0 hz0 hz1 hz2 hZ1 hZ2
  go_enter Try.func44, Try.ntmps44
  go_upto_region 1 with (fail)
  go_cut [4, 5] from 12 to 13 (fun u v wq => ∃ g1 g2, u = .slice (some ⟨g1, 0, none⟩) 286 286 ∧ v = .slice (some ⟨g2, 0, none⟩) 30 30 ∧ W.heap.size ≤ g1 ∧ W.heap.size ≤ g2 ∧ g1 ≠ g2 ∧ Blk wq g1 3 Z1 ∧ Blk wq g2 3 Z2 ∧ Below W.heap.size W wq)
  case first =>
    have two := fun (Y1 Y2 : Array Value) => show Blk ((W.alloc (.cells Y1 3)).alloc (.cells Y2 3)).drew W.heap.size 3 Y1 ∧ Blk ((W.alloc (.cells Y1 3)).alloc (.cells Y2 3)).drew (W.heap.size + 1) 3 Y2 ∧ Below W.heap.size W ((W.alloc (.cells Y1 3)).alloc (.cells Y2 3)).drew from by
      have h := Blk.new (W.alloc (.cells Y1 3)) 3 Y2
      rw [World.size_alloc] at h
      exact ⟨((Blk.new W _ _).alloc _).drew, h.drew, (((Below.refl _ _).alloc (Nat.le_refl _) _).alloc (by simp) _).drew⟩
    have Two := hid two
    clear two
    go_region
    · go_wp2
      go_meet
      exact ⟨W.heap.size, W.heap.size + 1, rfl, rfl, by omega, by omega, by omega, (Two.out Z1 Z2).1, (Two.out Z1 Z2).2.1, (Two.out Z1 Z2).2.2⟩
    · go_wp2
      go_meet
      exact ⟨W.heap.size + 1, W.heap.size, rfl, rfl, by omega, by omega, by omega, (Two.out Z2 Z1).2.1, (Two.out Z2 Z1).1, (Two.out Z2 Z1).2.2⟩
  case rest =>
    obtain ⟨g1, g2, rfl, rfl, hg1, hg2, hne, B1, B2, hb0⟩ := hcut
    rw [HZ1.out] at B1
    rw [HZ2.out] at B2
    have C0 := hid (show CntW wc g1 g2 (List.replicate 286 0, List.replicate 30 0) from ⟨B1, B2⟩)
    have hb0' := hid hb0
    have C1 := hid (C0.out.set1 hne 256 1)
    have hgw := B1.lt
    have fz := fun o => B1.frozen o
    have q0 := blkI_at B1 (s := 256) (by rw [List.length_replicate]; omega)
    have Hb1 := hid (hb0.setCell (p := ⟨g1, 256, none⟩) hg1 (.int .i64 1))
    clear B1 B2 C0 hb0 HZ1 HZ2 mk1 mk2
    go_upto_region 3 with (fail)
    clear q0 fz
    generalize wc.setCell ⟨g1, 256, none⟩ (.int .i64 1) = w0 at *
    go_wp2
    go_loopw [18] (fun i wr => ∃ j : Nat, j ≤ l.length ∧ i = .int .i64 (j : Int) ∧ Hid (CntW wr g1 g2 (cntM (l.take j))) ∧ Hid (Below W.heap.size W wr)) (fun i _ => l.length - (intOf i).toNat)
    case atStart => exact ⟨0, by omega, rfl, hid (by rw [List.take_zero]; exact C1.out), Hb1⟩
    case round =>
      obtain ⟨j, hj, rfl, C, hb⟩ := hrel
      by_cases hlt : j < l.length
      · obtain ⟨b, off, rfl, hbb, h0, h1⟩ := tok_at (Hr.out.below hb.out (Nat.le_refl _)) hlt
        have hgt := Hg.out _ (List.getElem_mem hlt)
        have hstep := cntM_take hlt
        have hbd := cntM_B (l.take j)
        rw [List.length_take, Nat.min_eq_left (Nat.le_of_lt hlt)] at hbd
        have hlen := cnt_len (l.take j)
        obtain ⟨t, htj⟩ : ∃ t, l[j] = t := ⟨_, rfl⟩
        rw [htj] at h0 h1 hgt hstep
        obtain ⟨c1, c2, hc⟩ : ∃ c1 c2, cntM (l.take j) = (c1, c2) := ⟨_, _, rfl⟩
        rw [hc] at C hstep hbd hlen
        obtain ⟨a, dd⟩ := t
        have htg := tgood_true.1 hgt
        simp only at h0 h1 htg hbd hlen
        have Hbd := hid hbd
        have Hlen := hid hlen
        have Hst := hid hstep
        have hsz := hb.out.size
        have Ca := hid (C.out.below ((Below.refl wr.heap.size wr).alloc (Nat.le_refl _) (.cells #[.int .i64 a, .int .i64 dd] 54)))
        have Hba := hid (hb.out.alloc hsz (.cells #[.int .i64 a, .int .i64 dd] 54))
        have Zb := hid (Blk.new wr 54 #[.int .i64 a, .int .i64 dd])
        have g1w := C.out.1.lt
        have g2w := C.out.2.lt
        clear hbd hlen hstep htj hgt hc
        go_upto_region 6 with (fail)
        generalize wr.alloc (.cells #[.int .i64 a, .int .i64 dd] 54) = wz at *
        clear C hb h0 h1
        generalize wr.heap.size = gz at *
        have z0 := Zb.out.cell 0
        have z1 := Zb.out.cell 1
        have z3 := Zb.out.lt
        simp only [List.getElem?_toArray, List.getElem?_cons_zero, List.getElem?_cons_succ] at z0 z1
        have hg1w := Ca.out.1.lt
        have hg2w := Ca.out.2.lt
        have fz1 := fun o => Ca.out.1.frozen o
        have fz2 := fun o => Ca.out.2.frozen o
        by_cases ha : a = 0
        · subst ha
          obtain ⟨s, rfl⟩ : ∃ s : Nat, dd = (s : Int) := ⟨dd.toNat, by omega⟩
          have hs : s ≤ 255 := by omega
          have q0 := blkI_at Ca.out.1 (s := s) (by rw [Hlen.out.1]; omega)
          have hq := cntB_at Hbd.out.1 (by omega) s
          obtain ⟨x, hx⟩ : ∃ x, x = c1.getD s 0 := ⟨_, rfl⟩
          rw [← hx] at q0 hq
          have E := hid (show cntM (l.take (j + 1)) = (c1.set s (x + 1), c2) by
            rw [Hst.out]
            show (if (0 : Int) = 0 then (incL c1 (s : Int).toNat, c2) else _) = _
            rw [if_pos rfl, Int.toNat_natCast, hx]
            rfl)
          have C2 := hid (Ca.out.set1 hne s (x + 1))
          have Hb2 := hid (Hba.out.setCell (p := ⟨g1, s, none⟩) hg1 (.int .i64 (x + 1)))
          have hxx : x + 1 ≤ 2000000 := by omega
          have hne2 : gz ≠ g1 := by omega
          clear hx htg
          go_wp2_with fail
          refine (lsym_no 0 (by omega) _).mono ?_
          rintro e w1 ⟨rfl, rfl⟩
          go_wp2_with fail
          refine (dsym_some _ _).mono ?_
          rintro e w1 ⟨s2, ok, rfl, rfl⟩
          go_wp2
          go_roundw
          case rel => exact ⟨j + 1, by omega, by go_num, hid (by rw [E.out]; exact C2.out), Hb2⟩
          case measure => simp [intOf]; omega
        · have hb3 : 3 ≤ a ∧ a ≤ 258 ∧ 1 ≤ dd ∧ dd ≤ 32768 := by omega
          obtain ⟨b1, b2, b3, b4⟩ := hb3
          have hls := lsN_bd a
          have hds := dsN_bd dd
          have hE := lsym_at a b1 b2
          have hD := dsym_at dd b3 b4
          have q0 := blkI_at Ca.out.1 (s := lsN a) (by rw [Hlen.out.1]; omega)
          have q1 := blkI_at Ca.out.2 (s := dsN dd) (by rw [Hlen.out.2]; omega)
          have hq := cntB_at Hbd.out.1 (by omega) (lsN a)
          have hq2 := cntB_at Hbd.out.2 (by omega) (dsN dd)
          have hst : cntM (l.take (j + 1)) = (c1.set (lsN a) (c1.getD (lsN a) 0 + 1), c2.set (dsN dd) (c2.getD (dsN dd) 0 + 1)) := by
            rw [Hst.out]
            show (if a = 0 then _ else (incL c1 (lsN a), incL c2 (dsN dd))) = _
            rw [if_neg ha]
            rfl
          generalize lsN a = s at *
          generalize dsN dd = s2 at *
          generalize c1.getD s 0 = x at *
          generalize c2.getD s2 0 = y at *
          have E := hid hst
          have C2 := hid ((Ca.out.set1 hne s (x + 1)).set2 hne s2 (y + 1))
          have Hb2 := hid ((Hba.out.setCell (p := ⟨g1, s, none⟩) hg1 (.int .i64 (x + 1))).setCell (p := ⟨g2, s2, none⟩) hg2 (.int .i64 (y + 1)))
          have hxx : x + 1 ≤ 2000000 := by omega
          have hyy : y + 1 ≤ 2000000 := by omega
          have hne2 : gz ≠ g1 := by omega
          have hne3 : gz ≠ g2 := by omega
          have hne4 : g2 ≠ g1 := fun e => hne e.symm
          clear htg hst
          go_wp2_with fail
          refine (hE _).mono ?_
          rintro e w1 ⟨rfl, rfl⟩
          go_wp2_with fail
          refine (hD _).mono ?_
          rintro e w1 ⟨rfl, rfl⟩
          go_wp2
          go_roundw
          case rel => exact ⟨j + 1, by omega, by go_num, hid (by rw [E.out]; exact C2.out), Hb2⟩
          case measure => simp [intOf]; omega
      · have e : j = l.length := by omega
        subst e
        rw [List.take_length] at C
        go_wp2
        go_ret2
        exact ⟨g1, g2, rfl, hg1, hg2, hne, C.out, hb.out⟩
end Go.Proofs.Ythhllollhjpheaa
