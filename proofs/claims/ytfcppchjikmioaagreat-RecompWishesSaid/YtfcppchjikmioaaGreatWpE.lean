/-
  wish's reader: a value.
-/
import Derived.Test.YtfcppchjikmioaaGreatWpD
namespace Go.Proofs.YtfcppchjikmioaaGreat
open Go.RowKit

inductive WV where
  | n (x : Int)
  | s (x : ByteArray)
  | t (b : Bool)
def wvV : WV → Value
  | .n x => .iface 3 (.int .i64 x)
  | .s x => .iface 9 (.string x)
  | .t b => .iface 4 (.bool b)
def wordV (b : ByteArray) : WV := if b.toList == [116, 114, 117, 101] then .t true else if b.toList == [102, 97, 108, 115, 101] then .t false else .s b
def valP (r : RS) : WV × RS :=
  if r.peek = 34 then (.s (runesBytes (quP r).1), (quP r).2) else if r.peek = 45 ∨ isDg r.peek = true then (.n (numP r).1, (numP r).2) else (wordV (runesBytes (wordP r).1), (wordP r).2)
set_option maxRecDepth 100000 in
set_option maxHeartbeats 4000000 in
theorem rvalue_any (g : Nat) (A : Option Addr) (c : Nat) (r : RS) (W : World) (h : RM W g A c r) (h1 : 1 ≤ r.k) : Calls Tryz.prog 63 #[.pointer (some ⟨g, 0, none⟩)] W fun e w' => e = .returned (wvV (valP r).1) ∧ RM w' g A c (valP r).2 ∧ W.grownBy w' (some g) := by
  have H := hid h
  clear h
  by_cases e1 : r.peek = 34
  · have d1 : (r.peek == 34) = true := beq_iff_eq.2 e1
    have HP := hid (show valP r = (.s (runesBytes (quP r).1), (quP r).2) by unfold valP; rw [if_pos e1])
    clear e1
    go_enter Tryz.func63, Tryz.ntmps63
    go_wp2_with fail
    refine (peek_any g A c r _ H.out).mono ?_
    rintro e w1 ⟨rfl, hM1, hb1⟩
    have M1 := hid hM1
    have G1 := hid (grown_below1 (World.grownBy.refl W (some g)) hb1)
    clear hM1 hb1
    go_wp2_with fail
    refine (quoted_any g A c r _ M1.out).mono ?_
    rintro e w2 ⟨rfl, hM2, hg2⟩
    have M2 := hid hM2
    have G2 := hid (grown_trans1 G1.out hg2)
    clear hM2 hg2
    go_wp2
    go_ret
    rw [HP.out]
    exact ⟨rfl, M2.out, G2.out⟩
  · have d1 : (r.peek == 34) = false := beq_eq_false_iff_ne.2 e1
    by_cases e2 : r.peek = 45 ∨ isDg r.peek = true
    · have HP := hid (show valP r = (.n (numP r).1, (numP r).2) by unfold valP; rw [if_neg e1, if_pos e2])
      by_cases e3 : r.peek = 45
      · have d2 : (r.peek == 45) = true := beq_iff_eq.2 e3
        clear e1 e2 e3
        go_enter Tryz.func63, Tryz.ntmps63
        go_wp2_with fail
        refine (peek_any g A c r _ H.out).mono ?_
        rintro e w1 ⟨rfl, hM1, hb1⟩
        have M1 := hid hM1
        have G1 := hid (grown_below1 (World.grownBy.refl W (some g)) hb1)
        clear hM1 hb1
        go_wp2_with fail
        refine (number_any g A c r _ M1.out h1).mono ?_
        rintro e w2 ⟨rfl, hM2, hg2⟩
        have M2 := hid hM2
        have G2 := hid (grown_trans1 G1.out hg2)
        clear hM2 hg2
        go_wp2
        go_ret
        rw [HP.out]
        exact ⟨rfl, M2.out, G2.out⟩
      · have d2 : (r.peek == 45) = false := beq_eq_false_iff_ne.2 e3
        have e4 : isDg r.peek = true := e2.resolve_left e3
        have E4 := hid e4
        clear e1 e2 e3 e4
        go_enter Tryz.func63, Tryz.ntmps63
        go_wp2_with fail
        refine (peek_any g A c r _ H.out).mono ?_
        rintro e w1 ⟨rfl, hM1, hb1⟩
        have M1 := hid hM1
        have G1 := hid (grown_below1 (World.grownBy.refl W (some g)) hb1)
        clear hM1 hb1
        go_wp2_with fail
        refine (digit_any _ _).mono ?_
        rintro e w2 ⟨rfl, rfl⟩
        rw [E4.out]
        go_wp2_with fail
        refine (number_any g A c r _ M1.out h1).mono ?_
        rintro e w2 ⟨rfl, hM2, hg2⟩
        have M2 := hid hM2
        have G2 := hid (grown_trans1 G1.out hg2)
        clear hM2 hg2
        go_wp2
        go_ret
        rw [HP.out]
        exact ⟨rfl, M2.out, G2.out⟩
    · have HP := hid (show valP r = (wordV (runesBytes (wordP r).1), (wordP r).2) by unfold valP; rw [if_neg e1, if_neg e2])
      have d2 : (r.peek == 45) = false := beq_eq_false_iff_ne.2 (fun e => e2 (.inl e))
      have e4 : isDg r.peek = false := by
        cases e : isDg r.peek
        · rfl
        · exact absurd (.inr e) e2
      have E4 := hid e4
      clear e1 e2 e4
      go_enter Tryz.func63, Tryz.ntmps63
      go_wp2_with fail
      refine (peek_any g A c r _ H.out).mono ?_
      rintro e w1 ⟨rfl, hM1, hb1⟩
      have M1 := hid hM1
      have G1 := hid (grown_below1 (World.grownBy.refl W (some g)) hb1)
      clear hM1 hb1
      go_wp2_with fail
      refine (digit_any _ _).mono ?_
      rintro e w2 ⟨rfl, rfl⟩
      rw [E4.out]
      go_wp2_with fail
      refine (word_any g A c r _ M1.out).mono ?_
      rintro e w2 ⟨rfl, hM2, hg2⟩
      have M2 := hid hM2
      have G2 := hid (grown_trans1 G1.out hg2)
      clear hM2 hg2
      generalize hbb : runesBytes (wordP r).1 = bb at *
      cases f1 : (bb.toList == [116, 114, 117, 101])
      · cases f2 : (bb.toList == [102, 97, 108, 115, 101])
        · have HV := hid (show wordV bb = .s bb by unfold wordV; rw [f1, f2]; rfl)
          go_wp2
          go_ret
          rw [HP.out, HV.out]
          exact ⟨rfl, M2.out, G2.out⟩
        · have HV := hid (show wordV bb = .t false by unfold wordV; rw [f1, f2]; rfl)
          go_wp2
          go_ret
          rw [HP.out, HV.out]
          exact ⟨rfl, M2.out, G2.out⟩
      · have HV := hid (show wordV bb = .t true by unfold wordV; rw [f1]; rfl)
        go_wp2
        go_ret
        rw [HP.out, HV.out]
        exact ⟨rfl, M2.out, G2.out⟩
end Go.Proofs.YtfcppchjikmioaaGreat
