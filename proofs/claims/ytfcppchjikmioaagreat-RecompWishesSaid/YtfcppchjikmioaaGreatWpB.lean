/-
  wish's reader: a word.
-/
import Derived.Test.YtfcppchjikmioaaGreatWpA
import Derived.Laws.Cover4
namespace Go.Proofs.YtfcppchjikmioaaGreat
open Go.RowKit

def lenV : Value → Nat
  | .slice _ n _ => n
  | _ => 0
theorem rune_info : (Tryz.prog.info? 21).map (fun i => (i.zero, i.size, i.bytes)) = some (some (.int .i32 0), 1, 4) := by kernel_rfl
def wordGo : Nat → List Int → RS → List Int × RS × Bool
  | 0, out, r => (out, r, true)
  | n + 1, out, r => if isSm r.peek then (if out.length = 16 then ([], r.fail r.k, false) else wordGo n (out ++ [r.peek]) r.next) else (out, r, true)
def wordE (x : List Int × RS × Bool) : List Int × RS := if x.2.2 then (if x.1.length = 0 then ([], x.2.1.fail x.2.1.k) else (x.1, x.2.1)) else ([], x.2.1)
def wordP (r : RS) : List Int × RS := wordE (wordGo 17 [] r)
theorem wordGo_stop {m : Nat} {o : List Int} {q : RS} (h : isSm q.peek = false) : wordGo (m + 1) o q = (o, q, true) := by
  show (if isSm q.peek = true then (if o.length = 16 then ([], q.fail q.k, false) else wordGo m (o ++ [q.peek]) q.next) else (o, q, true)) = _
  rw [h, if_neg Bool.false_ne_true]
theorem wordGo_full {m : Nat} {o : List Int} {q : RS} (h : isSm q.peek = true) (h6 : o.length = 16) : wordGo (m + 1) o q = ([], q.fail q.k, false) := by
  show (if isSm q.peek = true then (if o.length = 16 then ([], q.fail q.k, false) else wordGo m (o ++ [q.peek]) q.next) else (o, q, true)) = _
  rw [h, if_pos rfl, if_pos h6]
theorem wordGo_more {m : Nat} {o : List Int} {q : RS} (h : isSm q.peek = true) (h6 : ¬ o.length = 16) : wordGo (m + 1) o q = wordGo m (o ++ [q.peek]) q.next := by
  show (if isSm q.peek = true then (if o.length = 16 then ([], q.fail q.k, false) else wordGo m (o ++ [q.peek]) q.next) else (o, q, true)) = _
  rw [h, if_pos rfl, if_neg h6]
theorem conv_runes {w : World} {base n c : Nat} {A : Option Addr} {o : List Int} (h : w.ownsRow base 21 1 (.slice A n c) n (runesV o)) (hn : n = o.length) :
    (Go.convert 64 9 (.slice A n c)).run Tryz.prog w = .ok (.string (runesBytes o)) w := by
  subst hn
  have hr := own_rd h
  cases A with
  | none =>
    have h0 := rd_nil hr (by omega) rfl
    obtain rfl := List.eq_nil_of_length_eq_zero h0
    exact run_convert_runes_nil w _ _ _ _ _ Tryz.underlying64 Tryz.underlying21 Tryz.underlying9
  | some a =>
    have h2 := run_convert_runes (P := Tryz.prog) w 64 9 21 a o.length c o (Nat.le_refl _) Tryz.underlying64 Tryz.underlying21 Tryz.underlying9 (fun j hj => by
      obtain ⟨b, off, e, _, hc⟩ := hr.at_ (k := j) hj (by omega)
      injection e with e
      subst e
      rw [show (⟨b, off, none⟩ : Addr).add j = ⟨b, off + j, none⟩ from Addr.add_mid b off j]
      exact hc j _ (by simp [runesV, hj]))
    rw [List.take_length] at h2
    exact h2
/-- the own row behind a step of the reader -/
theorem own_step {w w' : World} {g base : Nat} {n k : Nat} {B : Option Addr} {o : List Int} (hne : some g ≠ (Value.slice B n k).ownBlock) (h : w.ownsRow base 21 1 (.slice B n k) n (runesV o)) (hg : w.grownBy w' (some g)) : w'.ownsRow base 21 1 (.slice B n k) n (runesV o) :=
  h.kept hg (.inr (fun e => hne e.symm))
theorem rs_fail_l (r : RS) (p : Nat) : (r.fail p).l = r.l := by
  unfold RS.fail
  cases r.bad <;> rfl
theorem rs_next_l (r : RS) : r.next.l = r.l := by
  unfold RS.next
  split <;> rfl
set_option maxRecDepth 100000 in
set_option maxHeartbeats 4000000 in
theorem word_any (g : Nat) (A : Option Addr) (c : Nat) (r : RS) (W : World) (h : RM W g A c r) : Calls Tryz.prog 60 #[.pointer (some ⟨g, 0, none⟩)] W fun e w' => e = .returned (.string (runesBytes (wordP r).1)) ∧ RM w' g A c (wordP r).2 ∧ W.grownBy w' (some g) := by
  obtain ⟨i0, hi0, hz0, hz1, hz2⟩ := info_parts rune_info
  have Hi0 := hid hi0
  have Hz0 := hid hz0
  have Hz1 := hid hz1
  have Hz2 := hid hz2
  have H := hid h
  clear h hi0 hz0 hz1 hz2
  go_enter Tryz.func60, Tryz.ntmps60
  go_upto_region 2 with (fail)
  go_loopw [3] (fun v wr => ∃ (n : Nat) (A' : Option Addr) (c' : Nat) (o : List Int) (q : RS), v = .slice A' n c' ∧ n = o.length ∧ n ≤ 16 ∧ Hid (wordGo 17 [] r = wordGo (17 - n) o q) ∧ Hid (wr.ownsRow W.heap.size 21 1 (.slice A' n c') n (runesV o)) ∧ Hid (RM wr g A c q) ∧ Hid (W.grownBy wr (some g))) (fun v _ => 17 - lenV v)
  case atStart => exact ⟨0, none, 0, [], r, rfl, rfl, by omega, hid rfl, hid (World.ownsRow_nil _ _ _ _), H, hid (World.grownBy.refl _ _)⟩
  case round =>
    obtain ⟨n, A', c', o, q, rfl, hno, hn16, HG, O, M, G⟩ := hrel
    have Hno := hid hno
    clear hno
    go_wp2_with fail
    refine (peek_any g A c q _ M.out).mono ?_
    rintro e w1 ⟨rfl, hM1, hb1⟩
    have M1 := hid hM1
    have O1 := hid (own_below O.out hb1 (Nat.le_refl _))
    have G1 := hid (grown_below1 G.out hb1)
    clear hM1 hb1 M O G
    go_wp2_with fail
    refine (small_any _ _).mono ?_
    rintro e w2 ⟨rfl, rfl⟩
    have hne := own_blk_ne O1.out M1.out.blk (by decide)
    have Hne := hid hne
    clear hne
    cases hs : isSm q.peek
    · have HG2 := hid (show wordGo 17 [] r = (o, q, true) by
        rw [HG.out]
        obtain ⟨m, hm⟩ : ∃ m, 17 - n = m + 1 := ⟨16 - n, by omega⟩
        rw [hm, wordGo_stop hs])
      clear hs HG
      by_cases h0 : n = 0
      · have d1 : (((n : Nat) : Int) == 0) = true := by rw [h0]; rfl
        have HP := hid (show wordP r = ([], q.fail q.k) by
          unfold wordP wordE
          rw [HG2.out]
          show (if o.length = 0 then ([], q.fail q.k) else (o, q)) = _
          rw [if_pos (by rw [← Hno.out]; exact h0)])
        have q0 := M1.out.blk.cell 0
        have q1 := M1.out.blk.cell 1
        have q2 := M1.out.blk.cell 2
        have q3 := M1.out.blk.cell 3
        simp only [List.getElem?_toArray, List.getElem?_cons_zero, List.getElem?_cons_succ] at q0 q1 q2 q3
        have ho : o = [] := List.eq_nil_of_length_eq_zero (by rw [← Hno.out]; exact h0)
        have hgw := M1.out.blk.lt
        subst h0
        go_upto_region 8 with (fail)
        go_wp2_with fail
        refine (fail_any g q.k A c q _ M1.out M1.out.at_).mono ?_
        rintro e w3 ⟨rfl, hM3, hg3⟩
        have M3 := hid hM3
        have O3 := hid (own_step Hne.out O1.out hg3)
        have G3 := hid (grown_trans1 G1.out hg3)
        have kc := conv_runes O3.out Hno.out
        rw [ho] at kc
        clear hM3 hg3 q0 q1 q2 q3
        go_wp2
        go_ret
        rw [HP.out]
        exact ⟨rfl, M3.out, G3.out⟩
      · have d1 : (((n : Nat) : Int) == 0) = false := beq_eq_false_iff_ne.2 (by omega)
        have HP := hid (show wordP r = (o, q) by
          unfold wordP wordE
          rw [HG2.out]
          show (if o.length = 0 then ([], q.fail q.k) else (o, q)) = _
          rw [if_neg (by rw [← Hno.out]; exact h0)])
        have kc := conv_runes O1.out Hno.out
        clear h0
        go_wp2
        go_ret
        rw [HP.out]
        exact ⟨rfl, M1.out, G1.out⟩
    · by_cases h16 : n = 16
      · have d1 : ((n : Int) == 16) = true := by rw [h16]; rfl
        have HP := hid (show wordP r = ([], q.fail q.k) by
          unfold wordP wordE
          rw [HG.out, h16, show 17 - 16 = 0 + 1 from rfl, wordGo_full hs (by rw [← Hno.out]; exact h16)]
          rfl)
        have q0 := M1.out.blk.cell 0
        have q1 := M1.out.blk.cell 1
        have q2 := M1.out.blk.cell 2
        have q3 := M1.out.blk.cell 3
        simp only [List.getElem?_toArray, List.getElem?_cons_zero, List.getElem?_cons_succ] at q0 q1 q2 q3
        have hgw := M1.out.blk.lt
        subst h16
        clear hs HG
        go_upto_region 4 with (fail)
        go_wp2_with fail
        refine (fail_any g q.k A c q _ M1.out M1.out.at_).mono ?_
        rintro e w3 ⟨rfl, hM3, hg3⟩
        have M3 := hid hM3
        have G3 := hid (grown_trans1 G1.out hg3)
        clear hM3 hg3 q0 q1 q2 q3
        go_wp2
        go_ret
        rw [HP.out]
        exact ⟨rfl, M3.out, G3.out⟩
      · have d1 : ((n : Int) == 16) = false := beq_eq_false_iff_ne.2 (by omega)
        have HG2 := hid (show wordGo 17 [] r = wordGo (17 - (n + 1)) (o ++ [q.peek]) q.next by
          rw [HG.out]
          obtain ⟨m, hm⟩ : ∃ m, 17 - n = m + 1 := ⟨16 - n, by omega⟩
          rw [hm, show 17 - (n + 1) = m by omega, wordGo_more hs (by rw [← Hno.out]; exact h16)])
        clear hs HG
        go_upto_region 6 with (fail)
        go_wp2_with fail
        refine (next_any g A c q _ M1.out).mono ?_
        rintro e w3 ⟨rfl, hM3, hg3⟩
        have M3 := hid hM3
        have O3 := hid (own_step Hne.out O1.out hg3)
        have G3 := hid (grown_trans1 G1.out hg3)
        have hW3 := G3.out.size
        clear hM3 hg3
        generalize q.peek = ch at *
        go_wp2_with (at_builtin; refine wpList_app _ rfl _ _ _ rfl W.heap.size 21 i0 (.int .i32 0) 1 4 Tryz.underlying64 Hi0.out Hz0.out Hz1.out Hz2.out rfl (by omega) A' n c' _ rfl (own_below O3.out ((Below.refl _ _).alloc (Nat.le_refl _) _) (Nat.le_refl _)) _ _ 1 1 [.int .i32 ch] rfl (rd_one _ _ _ _ (Blk.new _ _ _)) (by simp) (by simp [Value.oneCell']) (by simp only [maxLen]; omega) (by omega) (by simp; omega) ?_; intro A4 c4 w4 ha4; have Ha4 := hid ha4; clear ha4)
        go_roundw
        case rel =>
          have ha := Ha4.out
          have hba := ((Below.refl W.heap.size w3).alloc hW3 (.cells #[.int .i32 ch] 21)).trans ha.2.2.1
          refine ⟨n + 1, A4, c4, o ++ [ch], q.next, rfl, by rw [List.length_append, Hno.out]; rfl, by omega, HG2, hid ?_, hid ?_, hid ?_⟩
          · have h1 := ha.1
            have e1 : runesV o ++ [Value.int .i32 ch] = runesV (o ++ [ch]) := by simp [runesV]
            rw [e1] at h1
            exact h1
          · exact H.out.low M3.out hba
          · exact grown_low G3.out hba
        case measure => simp [lenV]; omega
end Go.Proofs.YtfcppchjikmioaaGreat
