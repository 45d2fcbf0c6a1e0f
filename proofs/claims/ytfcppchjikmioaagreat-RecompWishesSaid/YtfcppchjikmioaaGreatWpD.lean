/-
  wish's reader: a quoted text, a value.
-/
import Derived.Test.YtfcppchjikmioaaGreatWpC
namespace Go.Proofs.YtfcppchjikmioaaGreat
open Go.RowKit

def quGo : Nat → List Int → RS → List Int × RS
  | 0, o, r => (o, r)
  | f + 1, o, r => if r.peek = -1 then ([], r.next.fail r.next.k) else if r.peek = 34 then (o, r.next) else if r.peek = 126 then
      (if r.next.peek ≠ 34 ∧ r.next.peek ≠ 126 then ([], r.next.fail r.next.k) else quGo f (o ++ [r.next.peek]) r.next.next) else quGo f (o ++ [r.peek]) r.next
def quP (r : RS) : List Int × RS := quGo (r.l.length + 1) [] r.next
theorem quGo_eq (f : Nat) (o : List Int) (r : RS) : quGo (f + 1) o r = if r.peek = -1 then ([], r.next.fail r.next.k) else if r.peek = 34 then (o, r.next) else if r.peek = 126 then
      (if r.next.peek ≠ 34 ∧ r.next.peek ≠ 126 then ([], r.next.fail r.next.k) else quGo f (o ++ [r.next.peek]) r.next.next) else quGo f (o ++ [r.peek]) r.next := rfl
theorem quGo_end {f : Nat} {o : List Int} {r : RS} (h : r.peek = -1) : quGo (f + 1) o r = ([], r.next.fail r.next.k) := by rw [quGo_eq, if_pos h]
theorem quGo_quote {f : Nat} {o : List Int} {r : RS} (h : r.peek = 34) : quGo (f + 1) o r = (o, r.next) := by rw [quGo_eq, if_neg (by omega), if_pos h]
theorem quGo_bad {f : Nat} {o : List Int} {r : RS} (h : r.peek = 126) (h4 : r.next.peek ≠ 34 ∧ r.next.peek ≠ 126) : quGo (f + 1) o r = ([], r.next.fail r.next.k) := by rw [quGo_eq, if_neg (by omega), if_neg (by omega), if_pos h, if_pos h4]
theorem quGo_tilde {f : Nat} {o : List Int} {r : RS} (h : r.peek = 126) (h4 : ¬ (r.next.peek ≠ 34 ∧ r.next.peek ≠ 126)) : quGo (f + 1) o r = quGo f (o ++ [r.next.peek]) r.next.next := by rw [quGo_eq, if_neg (by omega), if_neg (by omega), if_pos h, if_neg h4]
theorem quGo_char {f : Nat} {o : List Int} {r : RS} (h1 : r.peek ≠ -1) (h2 : r.peek ≠ 34) (h3 : r.peek ≠ 126) : quGo (f + 1) o r = quGo f (o ++ [r.peek]) r.next := by rw [quGo_eq, if_neg h1, if_neg h2, if_neg h3]
theorem next_k {r : RS} (hok : ∀ x ∈ r.l, 0 ≤ x ∧ x ≤ 1114111) (h : r.peek ≠ -1) : r.next = ⟨r.l, r.cut, r.k + 1, r.bad⟩ ∧ r.k < r.l.length := by
  rcases RS.peek_ok hok with ⟨h2, _⟩ | ⟨_, _, _, hk, _, h3⟩
  · exact absurd h2 h
  · exact ⟨h3, hk⟩
theorem next_le {r : RS} : r.k ≤ r.next.k := by
  unfold RS.next
  split
  · omega
  · show r.k ≤ r.k + 1; omega
theorem own_rune_app {w w4 : World} {base n c c4 : Nat} {A A4 : Option Addr} {o : List Int} {x : Int} (ha : Apped w base 21 1 A n c (runesV o) 1 [.int .i32 x] A4 c4 w4) : w4.ownsRow base 21 1 (.slice A4 (n + 1) c4) (n + 1) (runesV (o ++ [x])) := by
  have h1 := ha.1
  have e1 : runesV o ++ [Value.int .i32 x] = runesV (o ++ [x]) := by simp [runesV]
  rw [e1] at h1
  exact h1
set_option maxRecDepth 100000 in
set_option maxHeartbeats 4000000 in
theorem quoted_any (g : Nat) (A : Option Addr) (c : Nat) (r : RS) (W : World) (h : RM W g A c r) : Calls Tryz.prog 77 #[.pointer (some ⟨g, 0, none⟩)] W fun e w' => e = .returned (.string (runesBytes (quP r).1)) ∧ RM w' g A c (quP r).2 ∧ W.grownBy w' (some g) := by
  obtain ⟨i0, hi0, hz0, hz1, hz2⟩ := info_parts rune_info
  have Hi0 := hid hi0
  have Hz0 := hid hz0
  have Hz1 := hid hz1
  have Hz2 := hid hz2
  have H := hid h
  obtain ⟨L, hL⟩ : ∃ L, L = r.l.length := ⟨_, rfl⟩
  have HL := hid hL
  have hLm : L ≤ 1000000 := by rw [hL]; exact h.len
  clear h hi0 hz0 hz1 hz2 hL
  go_enter Tryz.func77, Tryz.ntmps77
  go_wp2_with fail
  refine (next_any g A c r _ H.out).mono ?_
  rintro e w1 ⟨rfl, hM1, hg1⟩
  have M1 := hid hM1
  have G1 := hid hg1
  clear hM1 hg1
  go_upto_region 3 with (fail)
  go_loopw [3] (fun v wr => ∃ (n f : Nat) (A' : Option Addr) (c' : Nat) (o : List Int) (q : RS), v = .slice A' n c' ∧ n = o.length ∧ n ≤ q.k ∧ L - q.k < f ∧ Hid (q.l.length = L) ∧ Hid (quP r = quGo f o q) ∧ Hid (wr.ownsRow W.heap.size 21 1 (.slice A' n c') n (runesV o)) ∧ Hid (RM wr g A c q) ∧ Hid (W.grownBy wr (some g))) (fun _ wr => L - atW wr g)
  case atStart => exact ⟨0, L + 1, none, 0, [], r.next, rfl, rfl, by omega, by omega, hid (by rw [rs_next_l, HL.out]), hid (by unfold quP; rw [HL.out]), hid (World.ownsRow_nil _ _ _ _), M1, G1⟩
  clear M1 G1
  case round =>
    obtain ⟨n, f, A', c', o, q, rfl, hno, hnk, hf, HqL, HP, O, M, G⟩ := hrel
    have Hno := hid hno
    have Hf := hid hf
    have Hmz := hid (show atW wr g = q.k from M.out.atW)
    have hnL : n ≤ L := by have := M.out.at_; have := HqL.out; omega
    obtain ⟨f1, hf1⟩ : ∃ f1, f = f1 + 1 := ⟨f - 1, by omega⟩
    have Hf1 := hid hf1
    have hpq : quP r = quGo (f1 + 1) o q := by rw [HP.out, hf1]
    have HPQ := hid hpq
    have hkk := next_k (r := q) M.out.ok
    clear hno hf hf1 HP hpq
    go_wp2_with fail
    refine (next_any g A c q _ M.out).mono ?_
    rintro e w3 ⟨rfl, hM3, hg3⟩
    have hne := own_blk_ne O.out M.out.blk (by decide)
    have M3 := hid hM3
    have O3 := hid (own_step hne O.out hg3)
    have G3 := hid (grown_trans1 G.out hg3)
    have hW3 := G3.out.size
    clear hM3 hg3 M G O hne
    by_cases e1 : q.peek = -1
    · have d1 : (q.peek == -1) = true := beq_iff_eq.2 e1
      have HN := hid (show quP r = ([], q.next.fail q.next.k) by rw [HPQ.out, quGo_end e1])
      have q0 := M3.out.blk.cell 0
      have q1 := M3.out.blk.cell 1
      have q2 := M3.out.blk.cell 2
      have q3 := M3.out.blk.cell 3
      simp only [List.getElem?_toArray, List.getElem?_cons_zero, List.getElem?_cons_succ] at q0 q1 q2 q3
      have hgw := M3.out.blk.lt
      clear e1 hkk HPQ
      go_upto_region 7 with (fail)
      go_wp2_with fail
      refine (fail_any g q.next.k A c q.next _ M3.out M3.out.at_).mono ?_
      rintro e w4 ⟨rfl, hM4, hg4⟩
      have M4 := hid hM4
      have G4 := hid (grown_trans1 G3.out hg4)
      clear hM4 hg4 q0 q1 q2 q3
      go_wp2
      go_ret
      rw [HN.out]
      exact ⟨rfl, M4.out, G4.out⟩
    · have d1 : (q.peek == -1) = false := beq_eq_false_iff_ne.2 e1
      have hkk2 := hkk e1
      have Hkk := hid hkk2
      by_cases e2 : q.peek = 34
      · have d2 : (q.peek == 34) = true := beq_iff_eq.2 e2
        have HN := hid (show quP r = (o, q.next) by rw [HPQ.out, quGo_quote e2])
        have kc := conv_runes O3.out Hno.out
        clear e1 e2 hkk hkk2 HPQ
        go_wp2
        go_ret
        rw [HN.out]
        exact ⟨rfl, M3.out, G3.out⟩
      · have d2 : (q.peek == 34) = false := beq_eq_false_iff_ne.2 e2
        by_cases e3 : q.peek = 126
        · have d3 : (q.peek == 126) = true := beq_iff_eq.2 e3
          have E3 := hid e3
          clear e1 e2 e3 hkk hkk2
          go_upto_region 12 with (fail)
          go_wp2_with fail
          refine (peek_any g A c q.next _ M3.out).mono ?_
          rintro e w4 ⟨rfl, hM4, hb4⟩
          have M4 := hid hM4
          have O4 := hid (own_below O3.out hb4 (Nat.le_refl _))
          have G4 := hid (grown_below1 G3.out hb4)
          have hW4 := G4.out.size
          clear hM4 hb4 M3 O3 G3
          by_cases e4 : q.next.peek ≠ 34 ∧ q.next.peek ≠ 126
          · have d4 : (q.next.peek == 34) = false := beq_eq_false_iff_ne.2 e4.1
            have d5 : (q.next.peek == 126) = false := beq_eq_false_iff_ne.2 e4.2
            have d6 : (q.next.peek != 34) = true := by simp [bne, d4]
            have d7 : (q.next.peek != 126) = true := by simp [bne, d5]
            have d8 : ¬ q.next.peek = 34 := e4.1
            have d9 : ¬ q.next.peek = 126 := e4.2
            have HN := hid (show quP r = ([], q.next.fail q.next.k) by rw [HPQ.out, quGo_bad E3.out e4])
            have q0 := M4.out.blk.cell 0
            have q1 := M4.out.blk.cell 1
            have q2 := M4.out.blk.cell 2
            have q3 := M4.out.blk.cell 3
            simp only [List.getElem?_toArray, List.getElem?_cons_zero, List.getElem?_cons_succ] at q0 q1 q2 q3
            have hgw := M4.out.blk.lt
            clear e4 HPQ
            go_upto_region 14 with (fail)
            go_wp2_with fail
            refine (fail_any g q.next.k A c q.next _ M4.out M4.out.at_).mono ?_
            rintro e w5 ⟨rfl, hM5, hg5⟩
            have M5 := hid hM5
            have G5 := hid (grown_trans1 G4.out hg5)
            clear hM5 hg5 q0 q1 q2 q3
            go_wp2
            go_ret
            rw [HN.out]
            exact ⟨rfl, M5.out, G5.out⟩
          · have HN := hid (show quP r = quGo f1 (o ++ [q.next.peek]) q.next.next by rw [HPQ.out, quGo_tilde E3.out e4])
            have hdd : q.next.peek ≠ -1 := fun e => e4 (by rw [e]; exact ⟨by decide, by decide⟩)
            have hkn := next_k (r := q.next) M4.out.ok hdd
            have Hkn := hid hkn
            clear hkn hdd HPQ
            by_cases e5 : q.next.peek = 34
            · have d6 : (q.next.peek != 34) = false := by simp [e5]
              clear e5 e4
              go_upto_region 16 with (fail)
              go_wp2_with fail
              refine (next_any g A c q.next _ M4.out).mono ?_
              rintro e w5 ⟨rfl, hM5, hg5⟩
              have hne5 := own_blk_ne O4.out M4.out.blk (by decide)
              have M5 := hid hM5
              have O5 := hid (own_step hne5 O4.out hg5)
              have G5 := hid (grown_trans1 G4.out hg5)
              have hW5 := G5.out.size
              clear hM5 hg5 M4 G4 O4 hne5
              generalize hdd : q.next.peek = dd at *
              clear hdd
              go_wp2_with (at_builtin; refine wpList_app _ rfl _ _ _ rfl W.heap.size 21 i0 (.int .i32 0) 1 4 Tryz.underlying64 Hi0.out Hz0.out Hz1.out Hz2.out rfl (by omega) A' n c' _ rfl (own_below O5.out ((Below.refl _ _).alloc (Nat.le_refl _) _) (Nat.le_refl _)) _ _ 1 1 [.int .i32 dd] rfl (rd_one _ _ _ _ (Blk.new _ _ _)) (by simp) (by simp [Value.oneCell']) (by simp only [maxLen]; omega) (by omega) (by simp; omega) ?_; intro A4 c4 w6 ha4; have Ha4 := hid ha4; clear ha4)
              go_roundw
              case rel =>
                have ha := Ha4.out
                have hba := ((Below.refl W.heap.size w5).alloc hW5 (.cells #[.int .i32 dd] 21)).trans ha.2.2.1
                have h1 := Hkk.out
                have h2 : q.next.k = q.k + 1 := by rw [h1.1]
                have h3 := HqL.out
                have h4 := Hf.out
                have h5 := Hf1.out
                have h6 := Hkn.out
                have h7 : q.next.next.k = q.next.k + 1 := by rw [h6.1]
                exact ⟨n + 1, f1, A4, c4, o ++ [dd], q.next.next, rfl, by rw [List.length_append, Hno.out]; rfl, by omega, by omega, hid (by rw [rs_next_l, rs_next_l]; exact h3), HN, hid (own_rune_app ha), hid (H.out.low M5.out hba), hid (grown_low G5.out hba)⟩
              case measure =>
                have ha := Ha4.out
                have hba := ((Below.refl W.heap.size w5).alloc hW5 (.cells #[.int .i32 dd] 21)).trans ha.2.2.1
                have h1 := Hkk.out
                have h2 : q.next.k = q.k + 1 := by rw [h1.1]
                have h3 := HqL.out
                have h6 := Hkn.out
                have h7 : q.next.next.k = q.next.k + 1 := by rw [h6.1]
                rw [(H.out.low M5.out hba).atW, Hmz.out]
                omega
            · have e6 : q.next.peek = 126 := by omega
              have d6 : (q.next.peek != 34) = true := by simp [e5]
              have d7 : (q.next.peek != 126) = false := by simp [e6]
              clear e6
              clear e5 e4
              go_upto_region 16 with (fail)
              go_wp2_with fail
              refine (next_any g A c q.next _ M4.out).mono ?_
              rintro e w5 ⟨rfl, hM5, hg5⟩
              have hne5 := own_blk_ne O4.out M4.out.blk (by decide)
              have M5 := hid hM5
              have O5 := hid (own_step hne5 O4.out hg5)
              have G5 := hid (grown_trans1 G4.out hg5)
              have hW5 := G5.out.size
              clear hM5 hg5 M4 G4 O4 hne5
              generalize hdd : q.next.peek = dd at *
              clear hdd
              go_wp2_with (at_builtin; refine wpList_app _ rfl _ _ _ rfl W.heap.size 21 i0 (.int .i32 0) 1 4 Tryz.underlying64 Hi0.out Hz0.out Hz1.out Hz2.out rfl (by omega) A' n c' _ rfl (own_below O5.out ((Below.refl _ _).alloc (Nat.le_refl _) _) (Nat.le_refl _)) _ _ 1 1 [.int .i32 dd] rfl (rd_one _ _ _ _ (Blk.new _ _ _)) (by simp) (by simp [Value.oneCell']) (by simp only [maxLen]; omega) (by omega) (by simp; omega) ?_; intro A4 c4 w6 ha4; have Ha4 := hid ha4; clear ha4)
              go_roundw
              case rel =>
                have ha := Ha4.out
                have hba := ((Below.refl W.heap.size w5).alloc hW5 (.cells #[.int .i32 dd] 21)).trans ha.2.2.1
                have h1 := Hkk.out
                have h2 : q.next.k = q.k + 1 := by rw [h1.1]
                have h3 := HqL.out
                have h4 := Hf.out
                have h5 := Hf1.out
                have h6 := Hkn.out
                have h7 : q.next.next.k = q.next.k + 1 := by rw [h6.1]
                exact ⟨n + 1, f1, A4, c4, o ++ [dd], q.next.next, rfl, by rw [List.length_append, Hno.out]; rfl, by omega, by omega, hid (by rw [rs_next_l, rs_next_l]; exact h3), HN, hid (own_rune_app ha), hid (H.out.low M5.out hba), hid (grown_low G5.out hba)⟩
              case measure =>
                have ha := Ha4.out
                have hba := ((Below.refl W.heap.size w5).alloc hW5 (.cells #[.int .i32 dd] 21)).trans ha.2.2.1
                have h1 := Hkk.out
                have h2 : q.next.k = q.k + 1 := by rw [h1.1]
                have h3 := HqL.out
                have h6 := Hkn.out
                have h7 : q.next.next.k = q.next.k + 1 := by rw [h6.1]
                rw [(H.out.low M5.out hba).atW, Hmz.out]
                omega
        · have HN := hid (show quP r = quGo f1 (o ++ [q.peek]) q.next by rw [HPQ.out, quGo_char e1 e2 e3])
          have d3 : (q.peek == 126) = false := beq_eq_false_iff_ne.2 e3
          clear e1 e2 e3 hkk hkk2 HPQ
          generalize q.peek = ch at *
          go_wp2_with (at_builtin; refine wpList_app _ rfl _ _ _ rfl W.heap.size 21 i0 (.int .i32 0) 1 4 Tryz.underlying64 Hi0.out Hz0.out Hz1.out Hz2.out rfl (by omega) A' n c' _ rfl (own_below O3.out ((Below.refl _ _).alloc (Nat.le_refl _) _) (Nat.le_refl _)) _ _ 1 1 [.int .i32 ch] rfl (rd_one _ _ _ _ (Blk.new _ _ _)) (by simp) (by simp [Value.oneCell']) (by simp only [maxLen]; omega) (by omega) (by simp; omega) ?_; intro A4 c4 w4 ha4; have Ha4 := hid ha4; clear ha4)
          go_roundw
          case rel =>
            have ha := Ha4.out
            have hba := ((Below.refl W.heap.size w3).alloc hW3 (.cells #[.int .i32 ch] 21)).trans ha.2.2.1
            have h1 := Hkk.out
            have h2 : q.next.k = q.k + 1 := by rw [h1.1]
            have h3 := HqL.out
            have h4 := Hf.out
            have h5 := Hf1.out
            exact ⟨n + 1, f1, A4, c4, o ++ [ch], q.next, rfl, by rw [List.length_append, Hno.out]; rfl, by omega, by omega, hid (by rw [rs_next_l]; exact h3), HN, hid (own_rune_app ha), hid (H.out.low M3.out hba), hid (grown_low G3.out hba)⟩
          case measure =>
            have ha := Ha4.out
            have hba := ((Below.refl W.heap.size w3).alloc hW3 (.cells #[.int .i32 ch] 21)).trans ha.2.2.1
            have h1 := Hkk.out
            have h2 : q.next.k = q.k + 1 := by rw [h1.1]
            have h3 := HqL.out
            rw [(H.out.low M3.out hba).atW, Hmz.out]
            omega
end Go.Proofs.YtfcppchjikmioaaGreat
