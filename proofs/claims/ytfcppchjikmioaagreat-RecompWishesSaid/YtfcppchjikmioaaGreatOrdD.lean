/-
  recomp.Order.
-/
import Derived.Test.YtfcppchjikmioaaGreatOrdC
import Derived.Test.YtfcppchjikmioaaGreatWpJ
namespace Go.Proofs.YtfcppchjikmioaaGreat
open Go.RowKit Go.Lib

def ordF : List Wsh → Od → Option Od
  | [], o => some o
  | x :: t, o => match setO o x with
    | none => none
    | some p => ordF t p
def od0 : Od := ⟨0, false, false, 0, 0, 65535, 65535, false, 0, 0, -1⟩
def odZ : Od := ⟨0, false, false, 0, 0, 0, 0, false, 0, 0, 0⟩
def finO (o : Od) : Od := if o.cr = true then o else { o with x := 0, y := 0, w := 0, h := 0 }
def ordP (s : ByteArray) : Option Od := match refP s with
  | none => none
  | some L => match ordF L od0 with
    | none => none
    | some o => some (finO o)
/-- without a crop there is no place -/
def Plc (o : Od) : Prop := o.cr = false → o.x = 0 ∧ o.y = 0
theorem setO_plc {o p : Od} {x : Wsh} (h : setO o x = some p) (ho : Plc o) : Plc p := by
  unfold setO setK at h
  generalize nmK x.1 = k at *
  by_cases a0 : k = 0
  · rw [if_pos a0] at h
    split at h
    · cases h
    · injection h with h
      subst h
      exact ho
  rw [if_neg a0] at h
  by_cases a1 : k = 1
  · rw [if_pos a1] at h
    split at h
    · cases h
    · injection h with h
      subst h
      exact ho
  rw [if_neg a1] at h
  by_cases a2 : k = 2
  · rw [if_pos a2] at h
    split at h
    · cases h
    · injection h with h
      subst h
      exact ho
  rw [if_neg a2] at h
  by_cases a3 : k = 3
  · rw [if_pos a3] at h
    split at h
    · cases h
    · injection h with h
      subst h
      intro hc; cases hc
  rw [if_neg a3] at h
  by_cases a4 : k = 4
  · rw [if_pos a4] at h
    split at h
    · cases h
    · injection h with h
      subst h
      intro hc; cases hc
  rw [if_neg a4] at h
  by_cases a5 : k = 5
  · rw [if_pos a5] at h
    split at h
    · cases h
    · injection h with h
      subst h
      intro hc; cases hc
  rw [if_neg a5] at h
  by_cases a6 : k = 6
  · rw [if_pos a6] at h
    split at h
    · cases h
    · injection h with h
      subst h
      intro hc; cases hc
  rw [if_neg a6] at h
  by_cases a7 : k = 7
  · rw [if_pos a7] at h
    split at h
    · cases h
    · injection h with h
      subst h
      exact ho
  rw [if_neg a7] at h
  by_cases a8 : k = 8
  · rw [if_pos a8] at h
    split at h
    · cases h
    · injection h with h
      subst h
      exact ho
  rw [if_neg a8] at h
  by_cases a9 : k = 9
  · rw [if_pos a9] at h
    split at h
    · cases h
    · injection h with h
      subst h
      exact ho
  rw [if_neg a9] at h
  cases h
theorem ordF_at {L : List Wsh} {j : Nat} {o : Od} (hj : j < L.length) (h : ordF (L.drop j) o = ordF L od0) : (setO o L[j] = none → ordF L od0 = none) ∧ ∀ p, setO o L[j] = some p → ordF (L.drop (j + 1)) p = ordF L od0 := by
  rw [List.drop_eq_getElem_cons hj, ordF] at h
  constructor
  · intro h2
    rw [h2] at h
    exact h.symm
  · intro p h2
    rw [h2] at h
    exact h
def odV (o : Od) : Value := .agg #[.int .i64 o.t, .bool o.p, .bool o.cr, .int .i64 o.x, .int .i64 o.y, .int .i64 o.w, .int .i64 o.h, .bool o.ba, .int .i64 o.fo, .int .i64 o.re, .int .i64 o.la]
def OrdEnd (s : ByteArray) (W : World) (e : Ending) (w' : World) : Prop := Below W.heap.size W w' ∧ match ordP s with
  | none => e = .returned (.tuple #[odV odZ, .iface 34 (.int .i64 1)])
  | some o => e = .returned (.tuple #[odV o, .nilIface])
theorem ord_none {s : ByteArray} {W w' : World} (h : ordP s = none) (hb : Below W.heap.size W w') : OrdEnd s W (.returned (.tuple #[odV odZ, .iface 34 (.int .i64 1)])) w' := by
  refine ⟨hb, ?_⟩
  rw [h]
theorem ord_some {s : ByteArray} {o : Od} {W w' : World} (h : ordP s = some o) (hb : Below W.heap.size W w') : OrdEnd s W (.returned (.tuple #[odV o, .nilIface])) w' := by
  refine ⟨hb, ?_⟩
  rw [h]
theorem grown_belowG {w w' : World} {g : Nat} (h : w.grownBy w' (some g)) : Below g w w' ∨ w.heap.size < g := by
  by_cases hg : g ≤ w.heap.size
  · exact .inl ⟨h.os, h.tape, h.output, h.size, fun k hk => h.block k (by omega) (fun e => by injection e; omega)⟩
  · exact .inr (by omega)
theorem fw_at {w : World} {B : Nat} {A : Option Addr} {L : List Wsh} (h : Rd w B 2 A L.length (fw L)) {j : Nat} (hj : j < L.length) : ∃ b off, A = some ⟨b, off, none⟩ ∧ b < B ∧ w.cell? ⟨b, off + j * 2, none⟩ = some (.string L[j].1) ∧ w.cell? ⟨b, off + j * 2 + 1, none⟩ = some (wvV L[j].2) := by
  obtain ⟨b, off, hA, hb, hcl⟩ := h.at_ (k := j) hj (by omega)
  exact ⟨b, off, hA, hb, hcl (j * 2 + 0) _ ((flat_at encWv 2 L (fun _ _ => rfl) j 0 L[j] (List.getElem?_eq_getElem hj) (by omega)).trans rfl), hcl (j * 2 + 1) _ ((flat_at encWv 2 L (fun _ _ => rfl) j 1 L[j] (List.getElem?_eq_getElem hj) (by omega)).trans rfl)⟩
theorem go1_len (q : QS) (c x : Int) : (q.go1 c x).L.length ≤ q.L.length + 1 := by
  unfold QS.go1
  repeat' split
  all_goals simp
theorem runQ_len : ∀ (l : List Int) (q p : QS), runQ l q = some p → p.L.length ≤ q.L.length + l.length
  | [], q, p, h => by injection h with h; subst h; simp
  | c :: t, q, p, h => by
    rw [runQ] at h
    unfold rstep at h
    split at h
    · cases h
    · rename_i q2 h2
      have h3 := runQ_len t q2 p h
      split at h2
      · cases h2
      · split at h2
        · cases h2
        · injection h2 with h2
          have := go1_len q c (q.nx c)
          rw [h2] at this
          rw [List.length_cons]
          omega
theorem refP_len {s : ByteArray} {L : List Wsh} (h : refP s = some L) : L.length ≤ s.size + 1 := by
  unfold refP at h
  split at h
  · injection h with h; subst h; simp
  · split at h
    · cases h
    · rename_i q hq
      have h1 := runQ_len _ _ _ hq
      have h2 := rnL_len s
      unfold rfin at h
      split at h
      · cases h
      · split at h
        · cases h
        · injection h with h
          subst h
          have : (Q0 []).L.length = 0 := rfl
          rw [List.length_append]
          simp
          omega
set_option maxRecDepth 100000 in
set_option maxHeartbeats 8000000 in
theorem order_any (s : ByteArray) (hs : s.size ≤ 1000000) (W : World) : Calls Tryz.prog 20 #[.string s] W (OrdEnd s W) := by
  obtain ⟨w1, hw1⟩ : ∃ w1, w1 = W.alloc (.cells (odC odZ) 50) := ⟨_, rfl⟩
  have hb1 : Below W.heap.size W w1 := hw1 ▸ below_allocW W _
  have hR1 : Blk w1 W.heap.size 50 (odC odZ) := hw1 ▸ Blk.new W _ _
  have PA := hid (parse_any s (rnL s) rfl (by have := rnL_len s; omega) w1)
  have HRP := hid (refP_eq s)
  have HOP := hid (show ordP s = match refP s with
    | none => none
    | some L => match ordF L od0 with
      | none => none
      | some o => some (finO o) from rfl)
  have hLl := hid (show refP s = refP s from rfl)
  have B1 := hid hb1
  have R1 := hid hR1
  have hz1 : w1.heap.size = W.heap.size + 1 := by rw [hw1]; simp
  clear hb1 hR1 hLl
  go_enter Tryz.func20, Tryz.ntmps20
  go_upto_region 1 with (fail)
  rw [show (W.alloc (.cells #[.int .i64 0, .bool false, .bool false, .int .i64 0, .int .i64 0, .int .i64 0, .int .i64 0, .bool false, .int .i64 0, .int .i64 0, .int .i64 0] 50)) = w1 from hw1.symm]
  have hgw1 : W.heap.size < w1.heap.size := by omega
  clear hw1 hz1
  go_wp2_with fail
  refine (PA.out).mono ?_
  unfold ParseEnd
  rintro e w2 (⟨hbad, rfl, hb2⟩ | ⟨hok, A, c, rfl, ho, hb2⟩)
  · have HN := hid (show ordP s = none from by rw [HOP.out, HRP.out, if_pos hbad])
    have R2 := hid (R1.out.below hb2 hgw1)
    have B2 := hid (B1.out.trans (hb2.mono B1.out.size))
    have r0 : w2.cell? ⟨W.heap.size, 0, none⟩ = some (.int .i64 0) := R2.out.cell 0
    have r1 : w2.cell? ⟨W.heap.size, 1, none⟩ = some (.bool false) := R2.out.cell 1
    have r2 : w2.cell? ⟨W.heap.size, 2, none⟩ = some (.bool false) := R2.out.cell 2
    have r3 : w2.cell? ⟨W.heap.size, 3, none⟩ = some (.int .i64 0) := R2.out.cell 3
    have r4 : w2.cell? ⟨W.heap.size, 4, none⟩ = some (.int .i64 0) := R2.out.cell 4
    have r5 : w2.cell? ⟨W.heap.size, 5, none⟩ = some (.int .i64 0) := R2.out.cell 5
    have r6 : w2.cell? ⟨W.heap.size, 6, none⟩ = some (.int .i64 0) := R2.out.cell 6
    have r7 : w2.cell? ⟨W.heap.size, 7, none⟩ = some (.bool false) := R2.out.cell 7
    have r8 : w2.cell? ⟨W.heap.size, 8, none⟩ = some (.int .i64 0) := R2.out.cell 8
    have r9 : w2.cell? ⟨W.heap.size, 9, none⟩ = some (.int .i64 0) := R2.out.cell 9
    have r10 : w2.cell? ⟨W.heap.size, 10, none⟩ = some (.int .i64 0) := R2.out.cell 10
    have hgw2 := R2.out.lt
    have fz : ∀ i, w2.frozen? ⟨W.heap.size, i, none⟩ = false := R2.out.frozen
    clear hbad hb2
    go_wp2_with fail
    refine bodyPost_ret (v := .tuple #[odV odZ, .iface 34 (.int .i64 1)]) (by simp [results, Tryz.results20, go_sem, odV, odZ, r0, r1, r2, r3, r4, r5, r6, r7, r8, r9, r10]) rfl (ord_none HN.out ?_)
    repeat' (refine Below.setCell ?_ (show W.heap.size ≤ W.heap.size from Nat.le_refl _) _)
    exact B2.out
  · have HRP2 := hid (show refP s = some (parseP s).1 from by rw [HRP.out, if_neg (by rw [hok]; decide)])
    have hLl : (parseP s).1.length ≤ 1000001 := by
      have := refP_len HRP2.out
      omega
    obtain ⟨L, hL⟩ : ∃ L, L = (parseP s).1 := ⟨_, rfl⟩
    rw [← hL] at HRP2 hLl ho ⊢
    have HO2 := hid (HOP.out.trans (by rw [HRP2.out]))
    have R2 := hid (R1.out.below hb2 hgw1)
    have B2 := hid (B1.out.trans (hb2.mono B1.out.size))
    have RL := hid (own_rd ho)
    have hgw2 := R2.out.lt
    clear hok hb2 ho hL HRP HOP HRP2 PA
    obtain ⟨w3, hw3⟩ : ∃ w3, w3 = w2.alloc (.cells (odC od0) 50) := ⟨_, rfl⟩
    have B23 := hid (show Below w2.heap.size w2 w3 from hw3 ▸ below_allocW w2 _)
    have O3 := hid (show Blk w3 w2.heap.size 50 (odC od0) from hw3 ▸ Blk.new w2 _ _)
    have hz3 : w3.heap.size = w2.heap.size + 1 := by rw [hw3]; simp
    go_upto_region 5 with (fail)
    rw [show (w2.alloc (.cells #[.int .i64 0, .bool false, .bool false, .int .i64 0, .int .i64 0, .int .i64 65535, .int .i64 65535, .bool false, .int .i64 0, .int .i64 0, .int .i64 (-1)] 50)) = w3 from hw3.symm]
    clear hw3
    go_wp2_with fail
    go_loopw [23] (fun i wr => ∃ (j : Nat) (o : Od), j ≤ L.length ∧ i = .int .i64 (j : Int) ∧ Hid (Blk wr w2.heap.size 50 (odC o)) ∧ Hid (Below w2.heap.size w2 wr) ∧ Hid (ordF (L.drop j) o = ordF L od0) ∧ Hid (Plc o)) (fun i _ => L.length - (intOf i).toNat)
    case atStart => exact ⟨0, od0, by omega, rfl, O3, B23, hid rfl, hid (fun _ => ⟨rfl, rfl⟩)⟩
    case round =>
      obtain ⟨j, o, hj, rfl, O, BL, HF, HP⟩ := hrel
      have hgo := O.out.lt
      have RR := hid (R2.out.below BL.out hgw2)
      have BB := hid (B2.out.trans (BL.out.mono (by omega)))
      by_cases hlt : j < L.length
      · have d1 : decide (j < L.length) = true := decide_eq_true hlt
        have d2 : decide ((j : Int) < (L.length : Int)) = true := decide_eq_true (by omega)
        obtain ⟨b, off, rfl, hb, q0, q1⟩ := fw_at (RL.out.below BL.out (Nat.le_refl _)) hlt
        have HN := hid (ordF_at hlt HF.out)
        generalize L[j] = x at *
        have hbr : b < wr.heap.size := by omega
        have SA := hid (fun (bx : Obj) => set_any w2.heap.size o x (wr.alloc bx) (O.out.below (below_allocW wr bx) hgo))
        unfold SetEnd at SA
        obtain ⟨nm, v⟩ := x
        dsimp only at q0 q1 SA
        obtain ⟨ty, vu, huv⟩ : ∃ ty vu, wvV v = .iface ty vu := by cases v <;> exact ⟨_, _, rfl⟩
        rw [huv] at q1 SA
        clear huv
        go_wp2_with fail
        refine (SA.out _).mono ?_
        rintro e w5 ⟨hg5, hE⟩
        have B5 := hid (show Below w2.heap.size w2 w5 from by
          have h1 := BL.out.alloc BL.out.size (.cells #[.string nm, .iface ty vu] 41)
          rcases grown_belowG hg5 with h | h
          · exact h1.trans h
          · simp at h; omega)
        clear hg5
        cases hq : setO o (nm, v) with
        | none =>
          rw [hq] at hE
          subst hE
          have HN0 := hid (show ordP s = none from by rw [HO2.out, HN.out.1 hq])
          have R5 := hid (R2.out.below B5.out hgw2)
          have BB5 := hid (B2.out.trans (B5.out.mono (by omega)))
          have r0 : w5.cell? ⟨W.heap.size, 0, none⟩ = some (.int .i64 0) := R5.out.cell 0
          have r1 : w5.cell? ⟨W.heap.size, 1, none⟩ = some (.bool false) := R5.out.cell 1
          have r2 : w5.cell? ⟨W.heap.size, 2, none⟩ = some (.bool false) := R5.out.cell 2
          have r3 : w5.cell? ⟨W.heap.size, 3, none⟩ = some (.int .i64 0) := R5.out.cell 3
          have r4 : w5.cell? ⟨W.heap.size, 4, none⟩ = some (.int .i64 0) := R5.out.cell 4
          have r5 : w5.cell? ⟨W.heap.size, 5, none⟩ = some (.int .i64 0) := R5.out.cell 5
          have r6 : w5.cell? ⟨W.heap.size, 6, none⟩ = some (.int .i64 0) := R5.out.cell 6
          have r7 : w5.cell? ⟨W.heap.size, 7, none⟩ = some (.bool false) := R5.out.cell 7
          have r8 : w5.cell? ⟨W.heap.size, 8, none⟩ = some (.int .i64 0) := R5.out.cell 8
          have r9 : w5.cell? ⟨W.heap.size, 9, none⟩ = some (.int .i64 0) := R5.out.cell 9
          have r10 : w5.cell? ⟨W.heap.size, 10, none⟩ = some (.int .i64 0) := R5.out.cell 10
          have hgw5 := R5.out.lt
          have fz : ∀ i, w5.frozen? ⟨W.heap.size, i, none⟩ = false := R5.out.frozen
          clear hq q0 q1
          go_wp2_with fail
          refine bodyPost_ret (v := .tuple #[odV odZ, .iface 34 (.int .i64 1)]) (by simp [results, Tryz.results20, go_sem, odV, odZ, r0, r1, r2, r3, r4, r5, r6, r7, r8, r9, r10]) rfl (ord_none HN0.out ?_)
          repeat' (refine Below.setCell ?_ (show W.heap.size ≤ W.heap.size from Nat.le_refl _) _)
          exact BB5.out
        | some p =>
          rw [hq] at hE
          obtain ⟨rfl, ho5⟩ := hE
          have O5 := hid ho5
          have HF5 := hid (HN.out.2 p hq)
          have HP5 := hid (setO_plc hq HP.out)
          clear hq q0 q1 ho5
          go_wp2_with fail
          go_roundw
          case rel => exact ⟨j + 1, p, by omega, by go_num, O5, B5, HF5, HP5⟩
          case measure => simp [intOf]; omega
      · have d1 : decide (j < L.length) = false := decide_eq_false hlt
        have d2 : decide ((j : Int) < (L.length : Int)) = false := decide_eq_false (by omega)
        have HF2 := hid (show ordF L od0 = some o from by have := HF.out; rw [List.drop_eq_nil_of_le (by omega)] at this; exact this.symm)
        have HS := hid (show ordP s = some (finO o) from by rw [HO2.out, HF2.out])
        have r0 : wr.cell? ⟨W.heap.size, 0, none⟩ = some (.int .i64 0) := RR.out.cell 0
        have r1 : wr.cell? ⟨W.heap.size, 1, none⟩ = some (.bool false) := RR.out.cell 1
        have r2 : wr.cell? ⟨W.heap.size, 2, none⟩ = some (.bool false) := RR.out.cell 2
        have r3 : wr.cell? ⟨W.heap.size, 3, none⟩ = some (.int .i64 0) := RR.out.cell 3
        have r4 : wr.cell? ⟨W.heap.size, 4, none⟩ = some (.int .i64 0) := RR.out.cell 4
        have r5 : wr.cell? ⟨W.heap.size, 5, none⟩ = some (.int .i64 0) := RR.out.cell 5
        have r6 : wr.cell? ⟨W.heap.size, 6, none⟩ = some (.int .i64 0) := RR.out.cell 6
        have r7 : wr.cell? ⟨W.heap.size, 7, none⟩ = some (.bool false) := RR.out.cell 7
        have r8 : wr.cell? ⟨W.heap.size, 8, none⟩ = some (.int .i64 0) := RR.out.cell 8
        have r9 : wr.cell? ⟨W.heap.size, 9, none⟩ = some (.int .i64 0) := RR.out.cell 9
        have r10 : wr.cell? ⟨W.heap.size, 10, none⟩ = some (.int .i64 0) := RR.out.cell 10
        have c0 : wr.cell? ⟨w2.heap.size, 0, none⟩ = some (.int .i64 o.t) := O.out.cell 0
        have c1 : wr.cell? ⟨w2.heap.size, 1, none⟩ = some (.bool o.p) := O.out.cell 1
        have c2 : wr.cell? ⟨w2.heap.size, 2, none⟩ = some (.bool o.cr) := O.out.cell 2
        have c3 : wr.cell? ⟨w2.heap.size, 3, none⟩ = some (.int .i64 o.x) := O.out.cell 3
        have c4 : wr.cell? ⟨w2.heap.size, 4, none⟩ = some (.int .i64 o.y) := O.out.cell 4
        have c5 : wr.cell? ⟨w2.heap.size, 5, none⟩ = some (.int .i64 o.w) := O.out.cell 5
        have c6 : wr.cell? ⟨w2.heap.size, 6, none⟩ = some (.int .i64 o.h) := O.out.cell 6
        have c7 : wr.cell? ⟨w2.heap.size, 7, none⟩ = some (.bool o.ba) := O.out.cell 7
        have c8 : wr.cell? ⟨w2.heap.size, 8, none⟩ = some (.int .i64 o.fo) := O.out.cell 8
        have c9 : wr.cell? ⟨w2.heap.size, 9, none⟩ = some (.int .i64 o.re) := O.out.cell 9
        have c10 : wr.cell? ⟨w2.heap.size, 10, none⟩ = some (.int .i64 o.la) := O.out.cell 10
        have hgwr := RR.out.lt
        have fz : ∀ i, wr.frozen? ⟨W.heap.size, i, none⟩ = false := RR.out.frozen
        have fo : ∀ i, wr.frozen? ⟨w2.heap.size, i, none⟩ = false := O.out.frozen
        have hne : ¬ w2.heap.size = W.heap.size := by omega
        have hne2 : ¬ W.heap.size = w2.heap.size := by omega
        cases hcr : o.cr with
        | true =>
          rw [hcr] at c2
          have HV := hid (show odV (finO o) = .agg #[.int .i64 o.t, .bool o.p, .bool true, .int .i64 o.x, .int .i64 o.y, .int .i64 o.w, .int .i64 o.h, .bool o.ba, .int .i64 o.fo, .int .i64 o.re, .int .i64 o.la] from by unfold finO; rw [if_pos hcr]; unfold odV; rw [hcr])
          clear hcr
          go_wp2_with fail
          refine bodyPost_ret (v := .tuple #[odV (finO o), .nilIface]) (by rw [HV.out]; simp [results, Tryz.results20, go_sem, r0, r1, r2, r3, r4, r5, r6, r7, r8, r9, r10]) rfl (ord_some HS.out ?_)
          repeat' (refine Below.setCell ?_ (show W.heap.size ≤ W.heap.size from Nat.le_refl _) _)
          exact BB.out
        | false =>
          rw [hcr] at c2
          obtain ⟨hx0, hy0⟩ := HP.out hcr
          have HV := hid (show odV (finO o) = .agg #[.int .i64 o.t, .bool o.p, .bool false, .int .i64 0, .int .i64 0, .int .i64 0, .int .i64 0, .bool o.ba, .int .i64 o.fo, .int .i64 o.re, .int .i64 o.la] from by unfold finO; rw [if_neg (by rw [hcr]; decide)]; unfold odV; rw [hcr])
          rw [hx0] at c3
          rw [hy0] at c4
          clear hcr hx0 hy0
          go_wp2_with fail
          refine bodyPost_ret (v := .tuple #[odV (finO o), .nilIface]) (by rw [HV.out]; simp [results, Tryz.results20, go_sem, r0, r1, r2, r3, r4, r5, r6, r7, r8, r9, r10]) rfl (ord_some HS.out ?_)
          repeat' (refine Below.setCell ?_ (show W.heap.size ≤ W.heap.size from Nat.le_refl _) _)
          repeat' (refine Below.setCell ?_ (show W.heap.size ≤ w2.heap.size by omega) _)
          exact BB.out
end Go.Proofs.YtfcppchjikmioaaGreat
