/-
  block.Write.
-/
import Derived.Test.YthhllollhjpheaaBkV
import Derived.Test.YthhllollhjpheaaBkQ
import Derived.Test.YthhllollhjpheaaBkZ
import Derived.Test.YthhllollhjpheaaBkL
namespace Go.Proofs.Ythhllollhjpheaa
open Go.RowKit

theorem high_any (s : Bool) (g : Nat) (A : Option Addr) (c base : Nat) (L : List Int) (W : World) (h : WrS W g s A c base L) : Calls Try.prog 53 #[.pointer (some ⟨g, 0, none⟩)] W fun e w' => e = .returned (.bool s) ∧ W = w' := by
  have q0 := (h.blk.cell 0).trans rfl
  have hg := h.blk.lt
  clear h
  go_enter Try.func53, Try.ntmps53
  go_wp2
  go_ret
  exact ⟨rfl, rfl⟩
theorem low_nil (W : World) : Calls Try.prog 29 #[.pointer none] W fun e w' => e = .returned (.bool false) ∧ W = w' := by
  go_enter Try.func29, Try.ntmps29
  go_wp2_with fail
  go_ret
  exact ⟨rfl, rfl⟩
theorem low_any (s : Bool) (g : Nat) (A : Option Addr) (c base : Nat) (L : List Int) (W : World) (h : WrS W g s A c base L) : Calls Try.prog 29 #[.pointer (some ⟨g, 0, none⟩)] W fun e w' => e = .returned (.bool (!s)) ∧ W = w' := by
  have hh := high_any s g A c base L W h
  clear h
  go_enter Try.func29, Try.ntmps29
  go_wp2_with fail
  refine hh.mono ?_
  rintro e w1 ⟨rfl, rfl⟩
  cases s
  all_goals
    go_wp2
    go_ret
    exact ⟨rfl, rfl⟩
/-- bytes that a writer does not turn -/
def TextS (w : World) (g : Nat) (A X : Option Addr) (xs : List Value) : Prop := xs = [] ∨ ∃ b off, X = some ⟨b, off, none⟩ ∧ b < w.heap.size ∧ b ≠ g ∧ (∀ a, A = some a → a.block ≠ b) ∧ ∀ j u, xs[j]? = some u → w.cell? ⟨b, off + j, none⟩ = some u
theorem TextS.rd {w : World} {g : Nat} {A X : Option Addr} {xs : List Value} (h : TextS w g A X xs) {size n : Nat} (hl : xs.length = n * size) : Rd w w.heap.size size X n xs := by
  refine ⟨hl, fun hp => ?_⟩
  rcases h with h | ⟨b, off, hA, hb, _, _, hc⟩
  · rw [h] at hp; exact absurd hp (Nat.lt_irrefl 0)
  · exact ⟨b, off, hA, hb, hc⟩
theorem TextS.pen {w w1 : World} {gp g : Nat} {A X : Option Addr} {xs : List Value} (h : TextS w g A X xs) (hb : Below w.heap.size w w1) (hgp : w.heap.size ≤ gp) : TextIn w1 gp g A X xs := by
  rcases h with h | ⟨b, off, hA, hlt, h1, h2, hc⟩
  · exact .inl h
  · exact .inr ⟨b, off, hA, Nat.lt_of_lt_of_le hlt hb.size, by omega, h1, h2, fun j u hu => cell_up (hc j u hu) hb hlt⟩
/-- a pen that was made anew is no more than a turned writer -/
theorem TwP.tw {gp g : Nat} {A A1 : Option Addr} {w0 w w1 : World} (hb : Below w0.heap.size w0 w) (h : TwP gp g A A1 w w1) (hgp : w0.heap.size ≤ gp) : Tw g A A1 w0 w1 :=
  ⟨h.os.trans hb.os, h.tape.trans hb.tape, h.output.trans hb.output, Nat.le_trans hb.size h.size, fun k hk hg ha => (h.same k (Nat.lt_of_lt_of_le hk hb.size) (by omega) hg ha).trans (hb.block k hk), fun a ha => by
    rcases h.new a ha with h1 | h1
    · exact .inl h1
    · exact .inr (Nat.le_trans hb.size h1)⟩
set_option maxRecDepth 100000 in
set_option maxHeartbeats 8000000 in
theorem write_bad (gv : Value) (sl : Bool) (A B : Option Addr) (c d : Nat) (kind : Int) (last : Bool) (l : List (Int × Int)) (text : List Int) (W : World) (hr : Rd W W.heap.size 2 A l.length (l.flatMap encTok)) (ht : Rd W W.heap.size 1 B text.length (bytesV text)) (hm : l.length ≤ 1000000) (hm2 : text.length ≤ 1000000) (hok : ∀ t ∈ l, okTok t) (hB : ∀ x ∈ text, isB x)
    (hlow : ∀ w, Below W.heap.size W w → Calls Try.prog 29 #[gv] w fun e w' => e = .returned (.bool sl) ∧ w = w') (hg : blkGood kind l text = false ∨ sl = false) :
    Calls Try.prog 10 #[gv, .agg #[.int .i64 kind, .slice A l.length c, .slice B text.length d], .bool last] W fun e w' => e = .returned (.iface 40 (.int .i64 6)) ∧ Below W.heap.size W w' := by
  have hb1 := (Below.refl W.heap.size W).alloc (Nat.le_refl _) (.cells #[.int .i64 kind, .slice A l.length c, .slice B text.length d] 28)
  have ZB := hid (Blk.new W 28 #[.int .i64 kind, .slice A l.length c, .slice B text.length d])
  have Hb := hid hb1
  obtain ⟨g, hgg⟩ : ∃ g, g = blkGood kind l text := ⟨_, rfl⟩
  have hck := check10_any A B c d kind l text _ (rd_up hr hb1) (rd_up ht hb1) hm hm2 hok hB g hgg.symm
  have HL := hid hlow
  rw [← hgg] at hg
  clear hr ht hok hB hb1 hgg hlow
  go_enter Try.func10, Try.ntmps10
  go_upto_region 1 with (fail)
  generalize W.alloc (.cells #[.int .i64 kind, .slice A l.length c, .slice B text.length d] 28) = w0 at *
  obtain ⟨gb, hgb⟩ : ∃ g, g = W.heap.size := ⟨_, rfl⟩
  rw [← hgb] at ZB ⊢
  clear hgb
  have q0 := ZB.out.cell 0
  have q1 := ZB.out.cell 1
  have q2 := ZB.out.cell 2
  simp only [List.getElem?_toArray, List.getElem?_cons_zero, List.getElem?_cons_succ] at q0 q1 q2
  have hq := ZB.out.lt
  have hS0 := Hb.out.size
  cases g with
  | false =>
    clear hg
    go_wp2_with fail
    refine hck.mono ?_
    rintro e w1 ⟨rfl, hb⟩
    go_wp2_with fail
    go_ret
    exact ⟨rfl, Hb.out.trans (hb.mono hS0)⟩
  | true =>
    have hs : sl = false := by rcases hg with h | h; cases h; exact h
    subst hs
    clear hg
    go_wp2_with fail
    refine hck.mono ?_
    rintro e w1 ⟨rfl, hb⟩
    have Hb1 := hid (Hb.out.trans (hb.mono hS0))
    have hl := HL.out w1 Hb1.out
    go_wp2_with fail
    refine hl.mono ?_
    rintro e w2 ⟨rfl, rfl⟩
    go_wp2_with fail
    go_ret
    exact ⟨rfl, Hb1.out⟩
theorem headB_le {l : List (Int × Int)} (hg : ∀ t ∈ l, tgood t = true) : (headB (ownM l).L (ownM l).D (ownM l).R (ownM l).O).length ≤ 10000 := by
  obtain ⟨h1, h2, _⟩ := own_runs hg
  have := runs_le h1.l (ownM l).R
  have := List.length_take_le (wrN (ownM l).O 19) ordT
  have := (wrN_bd (ownM l).O 19 (by omega)).2
  unfold headB
  simp only [List.length_append, dgS_len, onesB_len]
  omega
theorem penLen_own (a4 : Value) (gp g : Nat) (XL XD XR XO : Option Addr) (Lc Dc Rc Oc : Nat) (PL PD : List Int) (R : List (Int × Int)) (O : List Int) (A : Option Addr) (c base : Nat) (LB : List Int) (l : List (Int × Int)) (W : World)
    (hg : ∀ t ∈ l, tgood t = true) (e : PL = (ownM l).L ∧ PD = (ownM l).D ∧ R = (ownM l).R ∧ O = (ownM l).O)
    (hXR : W.ownsRow 0 107 2 (.slice XR R.length Rc) R.length (R.flatMap encTok)) (hXO : W.ownsRow 0 3 1 (.slice XO O.length Oc) O.length (intsV O)) (hLB : LB.length ≤ 20000000) (hp : PenS W gp g A c base LB) :
    Calls Try.prog 32 #[.pointer (some ⟨gp, 0, none⟩), .agg #[.slice XL PL.length Lc, .slice XD PD.length Dc, .slice XR R.length Rc, .slice XO O.length Oc, a4]] W fun e w' => e = .returned (.tuple #[]) ∧ ∃ A' c', PenS w' gp g A' c' base (LB ++ headB PL PD R O) ∧ TwP gp g A A' W w' := by
  obtain ⟨e1, e2, e3, e4⟩ := e
  subst e1 e2 e3 e4
  obtain ⟨h1, h2, _⟩ := own_runs hg
  have hG := own_good hg
  have hL := own_lens l
  have key : ∀ n, n = 19 → Calls Try.prog 32 #[.pointer (some ⟨gp, 0, none⟩), .agg #[.slice XL (ownM l).L.length Lc, .slice XD (ownM l).D.length Dc, .slice XR (ownM l).R.length Rc, .slice XO n Oc, a4]] W fun e w' => e = .returned (.tuple #[]) ∧ ∃ A' c', PenS w' gp g A' c' base (LB ++ headB (ownM l).L (ownM l).D (ownM l).R (ownM l).O) ∧ TwP gp g A A' W w' := by
    rintro _ rfl
    exact penLen_any a4 gp g XL XD XR XO _ _ Lc Dc Rc Oc _ _ _ _ A c base LB W (TRow.own hXR) (TRow.own hXO) (own_czS hXO) rfl rfl hL ⟨hG.n3, hG.n2⟩ h1.n h1.b7 h1.l h1.r (by omega) hLB hp
  exact key _ h1.n
set_option maxRecDepth 100000 in
set_option maxHeartbeats 8000000 in
theorem write_good (gw : Nat) (WA : Option Addr) (wc base : Nat) (L : List Int) (A B : Option Addr) (c d : Nat) (kind : Int) (last : Bool) (l : List (Int × Int)) (text : List Int) (W : World) (hr : TextS W gw WA A (l.flatMap encTok)) (ht : TextS W gw WA B (bytesV text)) (hm : l.length ≤ 1000000) (hm2 : text.length ≤ 1000000) (hok : ∀ t ∈ l, okTok t) (hB : ∀ x ∈ text, isB x)
    (hw : WrS W gw false WA wc base L) (hbs : base ≤ W.heap.size) (hL : L.length ≤ 10000000) (hg : blkGood kind l text = true) :
    Calls Try.prog 10 #[.pointer (some ⟨gw, 0, none⟩), .agg #[.int .i64 kind, .slice A l.length c, .slice B text.length d], .bool last] W fun e w' => e = .returned .nilIface ∧ ∃ A' c', WrS w' gw false A' c' base (L ++ wrB L.length last kind l text) ∧ Tw gw WA A' W w' := by
  have hb1 := (Below.refl W.heap.size W).alloc (Nat.le_refl _) (.cells #[.int .i64 kind, .slice A l.length c, .slice B text.length d] 28)
  have ZB := hid (Blk.new W 28 #[.int .i64 kind, .slice A l.length c, .slice B text.length d])
  have Hb := hid hb1
  have hrd : Rd W W.heap.size 2 A l.length (l.flatMap encTok) := hr.rd (by rw [flat_length encTok 2 l (fun _ _ => rfl)])
  have htd : Rd W W.heap.size 1 B text.length (bytesV text) := ht.rd (by simp [bytesV])
  have hck := check10_any A B c d kind l text _ (rd_up hrd hb1) (rd_up htd hb1) hm hm2 hok hB true hg
  have Hr := hid hr
  have Ht := hid ht
  have Hw := hid hw
  have HB := hid hB
  obtain ⟨k0, k2, hfit, hk0⟩ := good_parts hg
  have Hgt := hid (fit_good hfit)
  have hbsz := hbs
  clear hr ht hok hB hb1 hrd htd hw hfit hg
  go_enter Try.func10, Try.ntmps10
  go_upto_region 1 with (fail)
  generalize W.alloc (.cells #[.int .i64 kind, .slice A l.length c, .slice B text.length d] 28) = w0 at *
  obtain ⟨gb, hgb⟩ : ∃ g, g = W.heap.size := ⟨_, rfl⟩
  rw [← hgb] at ZB ⊢
  clear hgb
  have q0 := ZB.out.cell 0
  have q1 := ZB.out.cell 1
  have q2 := ZB.out.cell 2
  simp only [List.getElem?_toArray, List.getElem?_cons_zero, List.getElem?_cons_succ] at q0 q1 q2
  have hq := ZB.out.lt
  have hS0 := Hb.out.size
  go_wp2_with fail
  refine hck.mono ?_
  rintro e w1 ⟨rfl, hb⟩
  have Hb1 := hid (Hb.out.trans (hb.mono hS0))
  have Z1 := hid (ZB.out.below hb ZB.out.lt)
  have hlow := low_any false gw WA wc base L w1 (Hw.out.below' Hb1.out)
  clear hck hb q0 q1 q2 hq ZB Hb
  go_wp2_with fail
  refine hlow.mono ?_
  rintro e w2 ⟨rfl, rfl⟩
  have hS1 := Hb1.out.size
  have hpa := (Below.refl w1.heap.size w1).alloc (Nat.le_refl _) (.cells #[.pointer (some ⟨gw, 0, none⟩), .nilIface] 77)
  have Hb2 := hid (Hb1.out.trans (hpa.mono hS1))
  have P2 := hid (show PenS (w1.alloc (.cells #[.pointer (some ⟨gw, 0, none⟩), .nilIface] 77)) w1.heap.size gw WA wc base L from ⟨Blk.new _ _ _, (Hw.out.below' Hb1.out).below' hpa, by have := hpa.size; omega⟩)
  have Z2 := hid (Z1.out.below hpa Z1.out.lt)
  clear hlow hpa
  go_upto_region 5 with (fail)
  generalize w1.alloc (.cells #[.pointer (some ⟨gw, 0, none⟩), .nilIface] 77) = w2 at *
  obtain ⟨gp, hgp⟩ : ∃ g, g = w1.heap.size := ⟨_, rfl⟩
  have hgpW : W.heap.size ≤ gp := by omega
  rw [← hgp] at P2 ⊢
  clear hgp hS1 Z1 Hb1
  have q0 := Z2.out.cell 0
  simp only [List.getElem?_toArray, List.getElem?_cons_zero] at q0
  have hq := Z2.out.lt
  obtain ⟨n, hn⟩ : ∃ n : Int, n = 2 * kind + (if last then 1 else 0) := ⟨_, rfl⟩
  have hn8 : 0 ≤ n ∧ n < 8 := by rw [hn]; split <;> omega
  have Hn := hid hn
  have HO := hid (show bits .or .i64 (2 * kind) 1 = 2 * kind + 1 by
    rcases (show kind = 0 ∨ kind = 1 ∨ kind = 2 by omega) with h | h | h <;> subst h <;> decide +kernel)
  go_cut [9] from 25 to 27 (fun v wq => v = .int .i64 (2 * kind) ∧ w2 = wq)
  case first =>
    rcases (show kind = 0 ∨ kind = 1 ∨ kind = 2 by omega) with h | h | h
    all_goals
      subst h
      clear Hn hn8 HO
      go_wp2
      go_meet
      exact ⟨rfl, rfl⟩
  case rest =>
    obtain ⟨rfl, rfl⟩ := hcut
    have hmm : 2 * kind ≤ 4 := by omega
    obtain ⟨m, hme⟩ : ∃ m, m = 2 * kind := ⟨_, rfl⟩
    have hm0 : 0 ≤ m ∧ m ≤ 4 := by omega
    have HnN := hid hn
    rw [← hme] at HO hn Hn ⊢
    clear hme hmm
    have E1 := hid (show last = true → n = m + 1 by intro h; rw [hn, h]; rfl)
    have E0 := hid (show last = false → n = m by intro h; rw [hn, h]; simp)
    clear hn
    clear q0 hq
    have hput := penPut_any gp gw WA wc base L n 3 hn8.1 (by have e3 : (2 : Int) ^ 3 = 8 := (by decide); omega) (by omega) w2 P2.out (by omega)
    have TXT := hid (Ht.out.pen Hb2.out hgpW)
    have TR2 := hid (Hr.out.pen Hb2.out hgpW)
    cases last
    · have hn0 := E0.out rfl
      go_upto_region 8 with (fail)
      rw [← hn0] at hm0 ⊢
      clear hn0
      go_wp2_with fail
      refine hput.mono ?_
      rintro e w3 ⟨rfl, A3, c3, M3, T3⟩
      have Z3 := hid (T3.blk P2.out Z2.out (by decide) (by decide) (by decide))
      have TX3 := hid (TXT.out.twp T3)
      have TR3 := hid (TR2.out.twp T3)
      have T03 := hid T3
      have M3h := hid M3
      have e3 : (L ++ dgS false n 3).length = L.length + 3 := by rw [List.length_append, dgS_len]
      have q0 := Z3.out.cell 0
      have q1 := Z3.out.cell 1
      have q2 := Z3.out.cell 2
      simp only [List.getElem?_toArray, List.getElem?_cons_zero, List.getElem?_cons_succ] at q0 q1 q2
      have hq := Z3.out.lt
      clear hput T3 M3 TXT TR2 Z2
      by_cases hk : kind = 0
      · subst hk
        have hst := penStored_any gp gw B d text A3 c3 base _ w3 TX3.out HB.out (hk0 rfl) (by rw [e3]; omega) M3h.out
        rw [e3] at hst
        go_wp2_with fail
        refine hst.mono ?_
        rintro e w4 ⟨rfl, A4, c4, M4, T4⟩
        have TT := hid ((T03.out.trans T4).tw Hb2.out hgpW)
        have r1 := M4.pen.cell 1
        simp only [List.getElem?_toArray, List.getElem?_cons_zero, List.getElem?_cons_succ] at r1
        have hr1 := M4.pen.lt
        have E := hid (show WrS w4 gw false A4 c4 base (L ++ wrB L.length false 0 l text) by
          unfold wrB
          rw [← HnN.out, if_pos rfl, ← List.append_assoc]
          exact M4.wr)
        clear hst M4 T4 q0 q1 q2 hq
        go_wp2
        go_ret
        exact ⟨rfl, A4, c4, E.out, TT.out⟩
      · have cTr : Rd w3 w3.heap.size 2 A l.length (l.flatMap encTok) := TR3.out.rd (by rw [flat_length encTok 2 l (fun _ _ => rfl)])
        have hpl := planned10_any A B c d text.length kind l w3 cTr hm Hgt.out
        clear cTr
        go_wp2_with fail
        refine hpl.mono ?_
        rintro e w4 ⟨v, rfl, p, rfl, x1, x2, x3, x4, x5, hR, hb⟩
        clear x5
        have P4 := hid (M3h.out.below hb)
        have Z4 := hid (Z3.out.below hb Z3.out.lt)
        have TR4 := hid (TR3.out.below hb)
        have T04 := hid (T03.out.below hb)
        have PR := hid hR
        have PG := hid (plan_good (kind := kind) Hgt.out)
        rw [← x1, ← x2] at PG
        have E5 := hid (And.intro x1 (And.intro x2 (And.intro x3 x4)))
        have y0 := Z4.out.cell 0
        have y1 := Z4.out.cell 1
        simp only [List.getElem?_toArray, List.getElem?_cons_zero, List.getElem?_cons_succ] at y0 y1
        have hy := Z4.out.lt
        clear hpl hR hb q0 q1 q2 hq x1 x2 x3 x4 Z3 TR3 T03 M3h TX3
        obtain ⟨PL, XL, Lc, PD, XD, Dc, R, XR, Rc, O, XO, Oc, h⟩ := p
        unfold PlV.cs
        simp only at PR PG E5 ⊢
        have hal := (Below.refl w4.heap.size w4).alloc (Nat.le_refl _) (.cells #[.slice XL PL.length Lc, .slice XD PD.length Dc, .slice XR R.length Rc, .slice XO O.length Oc, .int .i64 h] 70)
        have P5 := hid (P4.out.below hal)
        have Z5 := hid (Z4.out.below hal Z4.out.lt)
        have TR5 := hid (TR4.out.below hal)
        have T05 := hid (T04.out.below hal)
        have PR5 := hid (PR.out.below hal)
        have ZP := hid (Blk.new w4 70 #[.slice XL PL.length Lc, .slice XD PD.length Dc, .slice XR R.length Rc, .slice XO O.length Oc, .int .i64 h])
        clear hal
        go_upto_region 13 with (fail)
        generalize w4.alloc (.cells #[.slice XL PL.length Lc, .slice XD PD.length Dc, .slice XR R.length Rc, .slice XO O.length Oc, .int .i64 h] 70) = w5 at *
        obtain ⟨gpl, hgpl⟩ : ∃ g, g = w4.heap.size := ⟨_, rfl⟩
        rw [← hgpl] at ZP ⊢
        clear hgpl y0 y1 hy P4 Z4 TR4 T04 PR
        have y0 := Z5.out.cell 0
        have y1 := Z5.out.cell 1
        have z0 := ZP.out.cell 0
        have z1 := ZP.out.cell 1
        have z2 := ZP.out.cell 2
        have z3 := ZP.out.cell 3
        have z4 := ZP.out.cell 4
        simp only [List.getElem?_toArray, List.getElem?_cons_zero, List.getElem?_cons_succ] at y0 y1 z0 z1 z2 z3 z4
        have hy := Z5.out.lt
        have hz := ZP.out.lt
        by_cases hk1 : kind = 1
        · subst hk1
          have htok := penTok_any (.slice XR R.length Rc) (.slice XO O.length Oc) (.int .i64 h) gp gw XL XD A Lc Dc c PL PD l A3 c3 base _ w5 (TRow.own PR5.out.ol) (TRow.own PR5.out.od) TR5.out (own_czS PR5.out.ol) (own_czS PR5.out.od) PG.out.lL PG.out.lD PG.out.p (fun t ht => ⟨Hgt.out t ht, PG.out.has t ht⟩) hm (by rw [e3]; omega) P5.out
          go_wp2_with fail
          refine htok.mono ?_
          rintro e w6 ⟨rfl, A6, c6, M6, T6⟩
          have TT := hid ((T05.out.trans T6).tw Hb2.out hgpW)
          have r1 := M6.pen.cell 1
          simp only [List.getElem?_toArray, List.getElem?_cons_zero, List.getElem?_cons_succ] at r1
          have hr1 := M6.pen.lt
          have E := hid (show WrS w6 gw false A6 c6 base (L ++ wrB L.length false 1 l text) by
            unfold wrB
            rw [← HnN.out, if_neg (by decide), if_neg (by decide), List.nil_append]
            rw [← E5.out.1, ← E5.out.2.1, ← List.append_assoc]
            exact M6.wr)
          clear htok M6 T6 y0 y1 z0 z1 z2 z3 z4 hy hz
          go_wp2
          go_ret
          exact ⟨rfl, A6, c6, E.out, TT.out⟩
        · have hk22 : kind = 2 := by omega
          subst hk22
          have hlen := penLen_own (.int .i64 h) gp gw XL XD XR XO Lc Dc Rc Oc PL PD R O A3 c3 base _ l w5 Hgt.out E5.out PR5.out.or_ PR5.out.oo (by rw [e3]; omega) P5.out
          have hHB := headB_le Hgt.out
          have e33 := e3
          go_wp2_with fail
          refine hlen.mono ?_
          rintro e w6 ⟨rfl, A6, c6, M6, T6⟩
          have Z6 := hid (T6.blk P5.out Z5.out (by decide) (by decide) (by decide))
          have ZP6 := hid (T6.blk P5.out ZP.out (by decide) (by decide) (by decide))
          have htok := penTok_any (.slice XR R.length Rc) (.slice XO O.length Oc) (.int .i64 h) gp gw XL XD A Lc Dc c PL PD l A6 c6 base _ w6 (T6.row P5.out (TRow.own PR5.out.ol) (by decide) (by decide) (by decide)) (T6.row P5.out (TRow.own PR5.out.od) (by decide) (by decide) (by decide)) (TR5.out.twp T6) (own_czS PR5.out.ol) (own_czS PR5.out.od) PG.out.lL PG.out.lD PG.out.p (fun t ht => ⟨Hgt.out t ht, PG.out.has t ht⟩) hm (by rw [List.length_append, e33]; have e5 := E5.out; rw [e5.1, e5.2.1, e5.2.2.1, e5.2.2.2]; exact Nat.le_trans (Nat.add_le_add (Nat.add_le_add hL (Nat.le_refl 3)) hHB) (by decide)) M6
          have T06 := hid (T05.out.trans T6)
          have y0 := Z6.out.cell 0
          have y1 := Z6.out.cell 1
          have z0 := ZP6.out.cell 0
          have z1 := ZP6.out.cell 1
          have z2 := ZP6.out.cell 2
          have z3 := ZP6.out.cell 3
          have z4 := ZP6.out.cell 4
          simp only [List.getElem?_toArray, List.getElem?_cons_zero, List.getElem?_cons_succ] at y0 y1 z0 z1 z2 z3 z4
          have hy := Z6.out.lt
          have hz := ZP6.out.lt
          clear hlen M6 T6 hHB e33
          go_wp2_with fail
          refine htok.mono ?_
          rintro e w7 ⟨rfl, A7, c7, M7, T7⟩
          have TT := hid ((T06.out.trans T7).tw Hb2.out hgpW)
          have r1 := M7.pen.cell 1
          simp only [List.getElem?_toArray, List.getElem?_cons_zero, List.getElem?_cons_succ] at r1
          have hr1 := M7.pen.lt
          have E := hid (show WrS w7 gw false A7 c7 base (L ++ wrB L.length false 2 l text) by
            unfold wrB
            rw [← HnN.out, if_neg (by decide), if_pos rfl]
            rw [← E5.out.1, ← E5.out.2.1]
            have hh := M7.wr
            rw [List.append_assoc, List.append_assoc] at hh
            have e1 : PL = (ownM l).L := E5.out.1
            have e2 : PD = (ownM l).D := E5.out.2.1
            have e3 : R = (ownM l).R := E5.out.2.2.1
            have e4 : O = (ownM l).O := E5.out.2.2.2
            rw [← e1, ← e2, ← e3, ← e4]
            exact hh)
          clear htok M7 T7 y0 y1 z0 z1 z2 z3 z4 hy hz
          go_wp2
          go_ret
          exact ⟨rfl, A7, c7, E.out, TT.out⟩
    · have hn1 := E1.out rfl
      have HnT := hid (show n = 2 * kind + 1 from HnN.out)
      go_upto_region 8 with (fail)
      rw [HO.out, ← hn1]
      clear hn1
      go_wp2_with fail
      refine hput.mono ?_
      rintro e w3 ⟨rfl, A3, c3, M3, T3⟩
      have Z3 := hid (T3.blk P2.out Z2.out (by decide) (by decide) (by decide))
      have TX3 := hid (TXT.out.twp T3)
      have TR3 := hid (TR2.out.twp T3)
      have T03 := hid T3
      have M3h := hid M3
      have e3 : (L ++ dgS false n 3).length = L.length + 3 := by rw [List.length_append, dgS_len]
      have q0 := Z3.out.cell 0
      have q1 := Z3.out.cell 1
      have q2 := Z3.out.cell 2
      simp only [List.getElem?_toArray, List.getElem?_cons_zero, List.getElem?_cons_succ] at q0 q1 q2
      have hq := Z3.out.lt
      clear hput T3 M3 TXT TR2 Z2
      by_cases hk : kind = 0
      · subst hk
        have hst := penStored_any gp gw B d text A3 c3 base _ w3 TX3.out HB.out (hk0 rfl) (by rw [e3]; omega) M3h.out
        rw [e3] at hst
        go_wp2_with fail
        refine hst.mono ?_
        rintro e w4 ⟨rfl, A4, c4, M4, T4⟩
        have TT := hid ((T03.out.trans T4).tw Hb2.out hgpW)
        have r1 := M4.pen.cell 1
        simp only [List.getElem?_toArray, List.getElem?_cons_zero, List.getElem?_cons_succ] at r1
        have hr1 := M4.pen.lt
        have E := hid (show WrS w4 gw false A4 c4 base (L ++ wrB L.length true 0 l text) by
          unfold wrB
          rw [if_pos rfl, if_pos rfl, ← HnT.out, ← List.append_assoc]
          exact M4.wr)
        clear hst M4 T4 q0 q1 q2 hq
        go_wp2
        go_ret
        exact ⟨rfl, A4, c4, E.out, TT.out⟩
      · have cTr : Rd w3 w3.heap.size 2 A l.length (l.flatMap encTok) := TR3.out.rd (by rw [flat_length encTok 2 l (fun _ _ => rfl)])
        have hpl := planned10_any A B c d text.length kind l w3 cTr hm Hgt.out
        clear cTr
        go_wp2_with fail
        refine hpl.mono ?_
        rintro e w4 ⟨v, rfl, p, rfl, x1, x2, x3, x4, x5, hR, hb⟩
        clear x5
        have P4 := hid (M3h.out.below hb)
        have Z4 := hid (Z3.out.below hb Z3.out.lt)
        have TR4 := hid (TR3.out.below hb)
        have T04 := hid (T03.out.below hb)
        have PR := hid hR
        have PG := hid (plan_good (kind := kind) Hgt.out)
        rw [← x1, ← x2] at PG
        have E5 := hid (And.intro x1 (And.intro x2 (And.intro x3 x4)))
        have y0 := Z4.out.cell 0
        have y1 := Z4.out.cell 1
        simp only [List.getElem?_toArray, List.getElem?_cons_zero, List.getElem?_cons_succ] at y0 y1
        have hy := Z4.out.lt
        clear hpl hR hb q0 q1 q2 hq x1 x2 x3 x4 Z3 TR3 T03 M3h TX3
        obtain ⟨PL, XL, Lc, PD, XD, Dc, R, XR, Rc, O, XO, Oc, h⟩ := p
        unfold PlV.cs
        simp only at PR PG E5 ⊢
        have hal := (Below.refl w4.heap.size w4).alloc (Nat.le_refl _) (.cells #[.slice XL PL.length Lc, .slice XD PD.length Dc, .slice XR R.length Rc, .slice XO O.length Oc, .int .i64 h] 70)
        have P5 := hid (P4.out.below hal)
        have Z5 := hid (Z4.out.below hal Z4.out.lt)
        have TR5 := hid (TR4.out.below hal)
        have T05 := hid (T04.out.below hal)
        have PR5 := hid (PR.out.below hal)
        have ZP := hid (Blk.new w4 70 #[.slice XL PL.length Lc, .slice XD PD.length Dc, .slice XR R.length Rc, .slice XO O.length Oc, .int .i64 h])
        clear hal
        go_upto_region 13 with (fail)
        generalize w4.alloc (.cells #[.slice XL PL.length Lc, .slice XD PD.length Dc, .slice XR R.length Rc, .slice XO O.length Oc, .int .i64 h] 70) = w5 at *
        obtain ⟨gpl, hgpl⟩ : ∃ g, g = w4.heap.size := ⟨_, rfl⟩
        rw [← hgpl] at ZP ⊢
        clear hgpl y0 y1 hy P4 Z4 TR4 T04 PR
        have y0 := Z5.out.cell 0
        have y1 := Z5.out.cell 1
        have z0 := ZP.out.cell 0
        have z1 := ZP.out.cell 1
        have z2 := ZP.out.cell 2
        have z3 := ZP.out.cell 3
        have z4 := ZP.out.cell 4
        simp only [List.getElem?_toArray, List.getElem?_cons_zero, List.getElem?_cons_succ] at y0 y1 z0 z1 z2 z3 z4
        have hy := Z5.out.lt
        have hz := ZP.out.lt
        by_cases hk1 : kind = 1
        · subst hk1
          have htok := penTok_any (.slice XR R.length Rc) (.slice XO O.length Oc) (.int .i64 h) gp gw XL XD A Lc Dc c PL PD l A3 c3 base _ w5 (TRow.own PR5.out.ol) (TRow.own PR5.out.od) TR5.out (own_czS PR5.out.ol) (own_czS PR5.out.od) PG.out.lL PG.out.lD PG.out.p (fun t ht => ⟨Hgt.out t ht, PG.out.has t ht⟩) hm (by rw [e3]; omega) P5.out
          go_wp2_with fail
          refine htok.mono ?_
          rintro e w6 ⟨rfl, A6, c6, M6, T6⟩
          have TT := hid ((T05.out.trans T6).tw Hb2.out hgpW)
          have r1 := M6.pen.cell 1
          simp only [List.getElem?_toArray, List.getElem?_cons_zero, List.getElem?_cons_succ] at r1
          have hr1 := M6.pen.lt
          have E := hid (show WrS w6 gw false A6 c6 base (L ++ wrB L.length true 1 l text) by
            unfold wrB
            rw [if_pos rfl, ← HnT.out, if_neg (by decide), if_neg (by decide), List.nil_append]
            rw [← E5.out.1, ← E5.out.2.1, ← List.append_assoc]
            exact M6.wr)
          clear htok M6 T6 y0 y1 z0 z1 z2 z3 z4 hy hz
          go_wp2
          go_ret
          exact ⟨rfl, A6, c6, E.out, TT.out⟩
        · have hk22 : kind = 2 := by omega
          subst hk22
          have hlen := penLen_own (.int .i64 h) gp gw XL XD XR XO Lc Dc Rc Oc PL PD R O A3 c3 base _ l w5 Hgt.out E5.out PR5.out.or_ PR5.out.oo (by rw [e3]; omega) P5.out
          have hHB := headB_le Hgt.out
          have e33 := e3
          go_wp2_with fail
          refine hlen.mono ?_
          rintro e w6 ⟨rfl, A6, c6, M6, T6⟩
          have Z6 := hid (T6.blk P5.out Z5.out (by decide) (by decide) (by decide))
          have ZP6 := hid (T6.blk P5.out ZP.out (by decide) (by decide) (by decide))
          have htok := penTok_any (.slice XR R.length Rc) (.slice XO O.length Oc) (.int .i64 h) gp gw XL XD A Lc Dc c PL PD l A6 c6 base _ w6 (T6.row P5.out (TRow.own PR5.out.ol) (by decide) (by decide) (by decide)) (T6.row P5.out (TRow.own PR5.out.od) (by decide) (by decide) (by decide)) (TR5.out.twp T6) (own_czS PR5.out.ol) (own_czS PR5.out.od) PG.out.lL PG.out.lD PG.out.p (fun t ht => ⟨Hgt.out t ht, PG.out.has t ht⟩) hm (by rw [List.length_append, e33]; have e5 := E5.out; rw [e5.1, e5.2.1, e5.2.2.1, e5.2.2.2]; exact Nat.le_trans (Nat.add_le_add (Nat.add_le_add hL (Nat.le_refl 3)) hHB) (by decide)) M6
          have T06 := hid (T05.out.trans T6)
          have y0 := Z6.out.cell 0
          have y1 := Z6.out.cell 1
          have z0 := ZP6.out.cell 0
          have z1 := ZP6.out.cell 1
          have z2 := ZP6.out.cell 2
          have z3 := ZP6.out.cell 3
          have z4 := ZP6.out.cell 4
          simp only [List.getElem?_toArray, List.getElem?_cons_zero, List.getElem?_cons_succ] at y0 y1 z0 z1 z2 z3 z4
          have hy := Z6.out.lt
          have hz := ZP6.out.lt
          clear hlen M6 T6 hHB e33
          go_wp2_with fail
          refine htok.mono ?_
          rintro e w7 ⟨rfl, A7, c7, M7, T7⟩
          have TT := hid ((T06.out.trans T7).tw Hb2.out hgpW)
          have r1 := M7.pen.cell 1
          simp only [List.getElem?_toArray, List.getElem?_cons_zero, List.getElem?_cons_succ] at r1
          have hr1 := M7.pen.lt
          have E := hid (show WrS w7 gw false A7 c7 base (L ++ wrB L.length true 2 l text) by
            unfold wrB
            rw [if_pos rfl, ← HnT.out, if_neg (by decide), if_pos rfl]
            rw [← E5.out.1, ← E5.out.2.1]
            have hh := M7.wr
            rw [List.append_assoc, List.append_assoc] at hh
            have e1 : PL = (ownM l).L := E5.out.1
            have e2 : PD = (ownM l).D := E5.out.2.1
            have e3 : R = (ownM l).R := E5.out.2.2.1
            have e4 : O = (ownM l).O := E5.out.2.2.2
            rw [← e1, ← e2, ← e3, ← e4]
            exact hh)
          clear htok M7 T7 y0 y1 z0 z1 z2 z3 z4 hy hz
          go_wp2
          go_ret
          exact ⟨rfl, A7, c7, E.out, TT.out⟩
end Go.Proofs.Ythhllollhjpheaa
