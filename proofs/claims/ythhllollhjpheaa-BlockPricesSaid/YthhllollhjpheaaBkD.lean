/-
  block.plan: how many lengths of lengths are written; a block's body in bits.
  block.plan: a block's body in bits.
-/
import Derived.Test.YthhllollhjpheaaBkC
import Derived.Deep.RegionLaw
namespace Go.Proofs.Ythhllollhjpheaa
open Go.RowKit

/-- a plan in memory: its value, and what can be read -/
structure PlV where
  L : List Int
  LA : Option Addr
  Lc : Nat
  D : List Int
  DA : Option Addr
  Dc : Nat
  R : List (Int × Int)
  RA : Option Addr
  Rc : Nat
  O : List Int
  OA : Option Addr
  Oc : Nat
  h : Int
def PlV.cs (p : PlV) : Array Value := #[.slice p.LA p.L.length p.Lc, .slice p.DA p.D.length p.Dc, .slice p.RA p.R.length p.Rc, .slice p.OA p.O.length p.Oc, .int .i64 p.h]
structure PlOk (w : World) (p : PlV) : Prop where
  rl : RdI w w.heap.size p.LA p.L
  rd : RdI w w.heap.size p.DA p.D
  rr : Rd w w.heap.size 2 p.RA p.R.length (p.R.flatMap encTok)
  ro : RdI w w.heap.size p.OA p.O
theorem rd_up {w w' : World} {size n : Nat} {A : Option Addr} {xs : List Value} (h : Rd w w.heap.size size A n xs) (hb : Below w.heap.size w w') : Rd w' w'.heap.size size A n xs := (h.below hb (Nat.le_refl _)).more hb.size
theorem PlOk.below {w w' : World} {p : PlV} (h : PlOk w p) (hb : Below w.heap.size w w') : PlOk w' p := ⟨rd_up h.rl hb, rd_up h.rd hb, rd_up h.rr hb, rd_up h.ro hb⟩
theorem cell_up {w w' : World} {g o : Nat} {v : Value} (h : w.cell? ⟨g, o, none⟩ = some v) (hb : Below w.heap.size w w') (hg : g < w.heap.size) : w'.cell? ⟨g, o, none⟩ = some v := (Below.cell hb (p := ⟨g, o, none⟩) hg).trans h
theorem getD_at {l : List Int} {j : Nat} (hj : j < l.length) : l[j] = l.getD j 0 := by rw [List.getD_eq_getElem?_getD, List.getElem?_eq_getElem hj]; rfl
theorem ord_at : ∀ n : Fin 19, ordI.getD n.val 0 = ((ordT.getD n.val 0 : Nat) : Int) ∧ ordT.getD n.val 0 < 19 := by decide
set_option maxRecDepth 100000 in
set_option maxHeartbeats 8000000 in
theorem written10_any (a0 a1 a2 a4 : Value) (OA : Option Addr) (Oc : Nat) (O : List Int) (W : World) (h : RdI W W.heap.size OA O) (hO : O.length = 19) :
    Calls Try.prog 55 #[.agg #[a0, a1, a2, .slice OA 19 Oc, a4]] W fun e w' => e = .returned (.int .i64 (wrN O 19 : Nat)) ∧ Below W.heap.size W w' := by
  have Hb := hid ((Below.refl W.heap.size W).alloc (Nat.le_refl _) (.cells #[a0, a1, a2, .slice OA 19 Oc, a4] 70))
  have Hr := hid (rd_up h ((Below.refl W.heap.size W).alloc (Nat.le_refl _) (.cells #[a0, a1, a2, .slice OA 19 Oc, a4] 70)))
  have Z := hid (Blk.new W 70 #[a0, a1, a2, .slice OA 19 Oc, a4])
  clear h
  go_enter Try.func55, Try.ntmps55
  go_upto_region 1 with (fail)
  generalize W.alloc (.cells #[a0, a1, a2, .slice OA 19 Oc, a4] 70) = w0 at *
  have hs0 := Hb.out.size
  have hzl : W.heap.size < w0.heap.size := Z.out.lt
  go_wp2_with fail
  refine (order10_any _).mono ?_
  rintro e w1 ⟨g1, rfl, _, _, hb1⟩
  have Hb1 := hid hb1
  clear hb1
  go_wp2_with fail
  go_loopw [3] (fun v wr => ∃ n : Nat, v = .int .i64 (n : Int) ∧ n ≤ 19 ∧ wrN O 19 = wrN O n ∧ Hid (Below w0.heap.size w0 wr)) (fun v _ => (intOf v).toNat)
  case atStart => exact ⟨19, rfl, by omega, rfl, Hb1⟩
  case round =>
    obtain ⟨n, rfl, hn, hw, hb⟩ := hrel
    have Hw := hid hw
    clear hw
    by_cases h4 : 4 < n
    · obtain ⟨m, rfl⟩ : ∃ m, n = m + 1 := ⟨n - 1, by omega⟩
      have Zr := hid (Z.out.below hb.out Z.out.lt)
      have z3 := Zr.out.cell 3
      simp only [List.getElem?_toArray, List.getElem?_cons_zero, List.getElem?_cons_succ] at z3
      have hzr := Zr.out.lt
      have Rr := hid (rd_up Hr.out hb.out)
      have hm3 : 3 < m := by omega
      have h4i : (4 : Int) < (m : Int) + 1 := by omega
      have d4 : decide (4 < m + 1) = true := decide_eq_true h4
      have d4i : decide ((4 : Int) < (m : Int) + 1) = true := decide_eq_true h4i
      have d3 : decide (3 < m) = true := decide_eq_true hm3
      obtain ⟨bo, oo, rfl, hbo, _⟩ := int_at Rr.out (j := 0) (by omega)
      obtain ⟨o, ho⟩ : ∃ o, o = ordT.getD m 0 := ⟨_, rfl⟩
      have hoo := ord_at ⟨m, by omega⟩
      simp only at hoo
      rw [← ho] at hoo
      obtain ⟨x, hx⟩ : ∃ x, x = O.getD o 0 := ⟨_, rfl⟩
      obtain ⟨bo2, oo2, hA2, _, p0⟩ := int_at Rr.out (j := o) (by omega)
      obtain ⟨rfl, rfl⟩ : bo = bo2 ∧ oo = oo2 := by simpa using hA2
      rw [getD_at, ← hx] at p0
      have Hun := hid (show wrN O (m + 1) = if x = 0 then wrN O m else m + 1 by
        rw [wrN, hx, ho]
        by_cases h0 : O.getD (ordT.getD m 0) 0 = 0
        · rw [if_pos ⟨h4, h0⟩, if_pos h0]
        · rw [if_neg (fun h => h0 h.2), if_neg h0])
      have hbow : bo < wr.heap.size := hbo
      have P0 := hid p0
      have Z3 := hid z3
      have ho2 := hoo.2
      have hO1 := hoo.1
      have hm19 : m < 19 := by omega
      clear hx ho hA2 hoo p0
      have hwr : IntKind.i64.wrap (m : Int) = (m : Int) := IntWalk.i64_in _ (by omega)
      go_upto_region 2 with (fail)
      go_cut [19] from 6 to 19 (fun v wq => v = .bool (x == 0) ∧ Hid (Below wr.heap.size wr wq))
      case first =>
        go_region_with (go_at_call 56; refine (order10_any _).mono ?_; rintro e w2 ⟨g, rfl, hg, hB, hb2⟩; have c1 := blkI_at hB (s := m) hm19; rw [hO1] at c1; have hb3 : Below wr.heap.size wr w2 := (Below.refl wr.heap.size wr).drew.trans hb2; have p1 := cell_up P0.out hb3 hbow; have z31 := cell_up Z3.out hb3 hzr; have gw2 := hb3.size; have gw3 := hB.lt; have Hb3 := hid hb3; clear hb2 hB hb3)
        all_goals
          go_wp2
          go_meet
          exact ⟨rfl, by first | assumption | (refine hid (Below.trans (Hid.out (by assumption)) (Below.refl _ _).drew))⟩
      case rest =>
        obtain ⟨rfl, hbq⟩ := hcut
        have Hbq := hid (hb.out.trans (hbq.out.mono hb.out.size))
        by_cases hx0 : x = 0
        · subst hx0
          have E := hid (Hw.out.trans (Hun.out.trans (if_pos rfl)))
          go_wp2
          go_roundw
          case rel => exact ⟨m, by go_num, by omega, E.out, Hbq⟩
          case measure => simp [intOf]
        · have E := hid (Hw.out.trans (Hun.out.trans (if_neg hx0)))
          have hx1 : (x == 0) = false := beq_eq_false_iff_ne.2 hx0
          go_wp2
          go_ret
          exact ⟨by rw [E.out]; rfl, Hb.out.trans (Hbq.out.mono hs0)⟩
    · have h4i : ¬ (4 : Int) < (n : Int) := by omega
      have d4 : decide (4 < n) = false := decide_eq_false h4
      have d4i : decide ((4 : Int) < (n : Int)) = false := decide_eq_false h4i
      have e : wrN O n = n := by
        cases n with
        | zero => rfl
        | succ q => unfold wrN; rw [if_neg (by omega)]
      have E := hid (Hw.out.trans e)
      clear e
      go_upto_region 2 with (fail)
      go_quiet (fail)
      go_wp2
      go_ret
      exact ⟨by rw [E.out]; rfl, below_drewN (Hb.out.trans (hb.out.mono hs0)) nq⟩
end Go.Proofs.Ythhllollhjpheaa

namespace Go.Proofs.Ythhllollhjpheaa
open Go.RowKit

theorem len_bd {L : List Int} (h : ∀ x ∈ L, 0 ≤ x ∧ x ≤ 16) (s : Nat) : 0 ≤ L.getD s 0 ∧ L.getD s 0 ≤ 16 := cntB_at (b := 16) h (by omega) s
def bodyTo (L D : List Int) (l : List (Int × Int)) (j : Nat) : Int := L.getD 256 0 + ((l.take j).map (tokBits L D)).sum
theorem body_step {L D : List Int} {l : List (Int × Int)} {j : Nat} (hj : j < l.length) : bodyTo L D l (j + 1) = bodyTo L D l j + tokBits L D l[j] := by
  unfold bodyTo
  rw [List.take_succ_eq_append_getElem hj, List.map_append, List.sum_append]
  simp
  omega
theorem body_end {L D : List Int} {l : List (Int × Int)} : bodyTo L D l l.length = bodyM L D l := by unfold bodyTo bodyM; rw [List.take_length]
theorem tokBits_bd {L D : List Int} (h1 : ∀ x ∈ L, 0 ≤ x ∧ x ≤ 16) (h2 : ∀ x ∈ D, 0 ≤ x ∧ x ≤ 16) {t : Int × Int} (hg : tgood t = true) : 0 ≤ tokBits L D t ∧ tokBits L D t ≤ 50 := by
  unfold tokBits
  split
  · have := len_bd h1 t.2.toNat; omega
  · next h =>
    have hb : 3 ≤ t.1 ∧ t.1 ≤ 258 ∧ 1 ≤ t.2 ∧ t.2 ≤ 32768 := by rcases tgood_true.1 hg with h | h <;> omega
    have := lrest hb.1 hb.2.1
    have := drest hb.2.2.1 hb.2.2.2
    have := len_bd h1 (lsN t.1)
    have := len_bd h2 (dsN t.2)
    omega
set_option maxRecDepth 100000 in
set_option maxHeartbeats 8000000 in
theorem body10_any (a2 a3 a4 : Value) (LA DA A : Option Addr) (Lc Dc c : Nat) (L D : List Int) (l : List (Int × Int)) (W : World) (hL : RdI W W.heap.size LA L) (hD : RdI W W.heap.size DA D) (hr : Rd W W.heap.size 2 A l.length (l.flatMap encTok))
    (bL : ∀ x ∈ L, 0 ≤ x ∧ x ≤ 16) (bD : ∀ x ∈ D, 0 ≤ x ∧ x ≤ 16) (hm1 : L.length ≤ 1000) (hm : l.length ≤ 1000000) (h256 : 256 < L.length) (hg : ∀ t ∈ l, tgood t = true ∧ hasT L D t) :
    Calls Try.prog 28 #[.agg #[.slice LA L.length Lc, .slice DA D.length Dc, a2, a3, a4], .slice A l.length c] W fun e w' => e = .returned (.int .i64 (bodyM L D l)) ∧ Below W.heap.size W w' := by
  have Hb := hid ((Below.refl W.heap.size W).alloc (Nat.le_refl _) (.cells #[.slice LA L.length Lc, .slice DA D.length Dc, a2, a3, a4] 70))
  have Z := hid (Blk.new W 70 #[.slice LA L.length Lc, .slice DA D.length Dc, a2, a3, a4])
  have HL := hid (rd_up hL Hb.out)
  have HD := hid (rd_up hD Hb.out)
  have Hr := hid (rd_up hr Hb.out)
  have BL := hid bL
  have BD := hid bD
  have Hg := hid hg
  clear hL hD hr bL bD hg
  obtain ⟨bo, oo, rfl, hbo, p256⟩ := int_at HL.out h256
  have P256 := hid p256
  rw [getD_at] at P256
  clear p256
  go_enter Try.func28, Try.ntmps28
  go_upto_region 1 with (fail)
  generalize W.alloc (.cells #[.slice (some ⟨bo, oo, none⟩) L.length Lc, .slice DA D.length Dc, a2, a3, a4] 70) = w0 at *
  have z0 := Z.out.cell 0
  simp only [List.getElem?_toArray, List.getElem?_cons_zero] at z0
  have hz0 := Z.out.lt
  have p0 := P256.out
  have hb0 := len_bd BL.out 256
  have HS := hid (show bodyTo L D l 0 = L.getD 256 0 by unfold bodyTo; simp)
  generalize L.getD 256 0 = x0 at *
  go_wp2
  clear z0 p0
  go_loopw [5, 19] (fun v i wr => ∃ (j : Nat) (x : Int), j ≤ l.length ∧ i = .int .i64 (j : Int) ∧ v = .int .i64 x ∧ 0 ≤ x ∧ x ≤ 16 + 50 * j ∧ Hid (bodyTo L D l j = x) ∧ Hid (Below w0.heap.size w0 wr)) (fun _ i _ => l.length - (intOf i).toNat)
  case atStart => exact ⟨0, x0, by omega, rfl, rfl, by omega, by omega, HS, hid (Below.refl _ _)⟩
  case round =>
    obtain ⟨j, x, hj, rfl, rfl, hx0, hx1, Hx, hb⟩ := hrel
    by_cases hlt : j < l.length
    · obtain ⟨b, off, rfl, hbb, h0, h1⟩ := tok_at (Hr.out.below hb.out (Nat.le_refl _)) hlt
      obtain ⟨gt, ht⟩ := Hg.out _ (List.getElem_mem hlt)
      have hstep := body_step (L := L) (D := D) hlt
      have hbd := tokBits_bd BL.out BD.out gt
      obtain ⟨t, htj⟩ : ∃ t, l[j] = t := ⟨_, rfl⟩
      rw [htj] at h0 h1 gt ht hstep hbd
      obtain ⟨a, dd⟩ := t
      have htg := tgood_true.1 gt
      simp only at h0 h1 htg
      have hsz := hb.out.size
      have Hba := hid (hb.out.alloc hsz (.cells #[.int .i64 a, .int .i64 dd] 54))
      have Zb := hid (Blk.new wr 54 #[.int .i64 a, .int .i64 dd])
      have Zp := hid ((Z.out.below hb.out Z.out.lt).alloc (.cells #[.int .i64 a, .int .i64 dd] 54))
      rw [Hx.out] at hstep
      have Hst := hid hstep
      clear htj hstep
      go_upto_region 5 with (fail)
      generalize wr.alloc (.cells #[.int .i64 a, .int .i64 dd] 54) = wz at *
      clear h0 h1 hb
      generalize wr.heap.size = gz at *
      have z0 := Zb.out.cell 0
      have z1 := Zb.out.cell 1
      have z3 := Zb.out.lt
      have y0 := Zp.out.cell 0
      have y1 := Zp.out.cell 1
      simp only [List.getElem?_toArray, List.getElem?_cons_zero, List.getElem?_cons_succ] at z0 z1 y0 y1
      have y3 := Zp.out.lt
      have RL := HL.out.below Hba.out (Nat.le_refl _)
      have RD := HD.out.below Hba.out (Nat.le_refl _)
      unfold hasT at ht
      simp only at ht
      by_cases ha : a = 0
      · subst ha
        obtain ⟨s, rfl⟩ : ∃ s : Nat, dd = (s : Int) := ⟨dd.toNat, by omega⟩
        rw [if_pos rfl, Int.toNat_natCast] at ht
        have hsL := getD_in ht
        obtain ⟨bo2, oo2, hA2, _, q0⟩ := int_at RL hsL
        obtain ⟨rfl, rfl⟩ : bo = bo2 ∧ oo = oo2 := by simpa using hA2
        rw [getD_at] at q0
        have E := hid (show bodyTo L D l (j + 1) = x + L.getD s 0 by
          rw [Hst.out]
          rfl)
        have hq := len_bd BL.out s
        generalize L.getD s 0 = y at *
        clear hA2 RL RD ht htg hbd
        go_wp2
        go_roundw
        case rel => exact ⟨j + 1, x + y, by omega, by go_num, by go_num, by omega, by omega, E, Hba⟩
        case measure => simp [intOf]; omega
      · rw [if_neg ha] at ht
        have hb3 : 3 ≤ a ∧ a ≤ 258 ∧ 1 ≤ dd ∧ dd ≤ 32768 := by omega
        obtain ⟨b1, b2, b3, b4⟩ := hb3
        have cE := lsym_at a b1 b2
        have cD := dsym_at dd b3 b4
        have cB := lbase_at a
        have cF := dbase_at dd
        have r1 := lrest b1 b2
        have r2 := drest b3 b4
        have hsL := getD_in ht.1
        have hsD := getD_in ht.2
        obtain ⟨bo2, oo2, hA2, _, q0⟩ := int_at RL hsL
        obtain ⟨rfl, rfl⟩ : bo = bo2 ∧ oo = oo2 := by simpa using hA2
        obtain ⟨bd, od, rfl, _, q1⟩ := int_at RD hsD
        rw [getD_at] at q0 q1
        have E : bodyTo L D l (j + 1) = x + (L.getD (lsN a) 0 + lextra (lsN a : Nat)) + (D.getD (dsN dd) 0 + dextra (dsN dd : Nat)) := by
          rw [Hst.out]
          unfold tokBits
          rw [if_neg ha]
          dsimp only
          try omega
        have hq := len_bd BL.out (lsN a)
        have hq2 := len_bd BD.out (dsN dd)
        have u1 : 0 ≤ lextra (lsN a : Nat) ∧ lextra (lsN a : Nat) ≤ 5 := r1.2.2
        have u2 : 0 ≤ dextra (dsN dd : Nat) ∧ dextra (dsN dd : Nat) ≤ 13 := r2.2.2
        clear hA2 RL RD ht htg hbd r1 r2
        generalize lextra (lsN a : Nat) = e1 at *
        generalize dextra (dsN dd : Nat) = e2 at *
        generalize lbase (lsN a : Nat) = e3 at *
        generalize dbase (dsN dd : Nat) = e4 at *
        generalize L.getD (lsN a) 0 = y at *
        generalize D.getD (dsN dd) 0 = z at *
        generalize lsN a = s at *
        generalize dsN dd = s2 at *
        have E' := hid E
        clear E
        go_wp2_with fail
        refine (cE _).mono ?_
        rintro e w1 ⟨rfl, rfl⟩
        go_wp2_with fail
        refine (cB _).mono ?_
        rintro e w1 ⟨rfl, rfl⟩
        go_wp2_with fail
        refine (cD _).mono ?_
        rintro e w1 ⟨rfl, rfl⟩
        go_wp2_with fail
        refine (cF _).mono ?_
        rintro e w1 ⟨rfl, rfl⟩
        go_wp2
        go_roundw
        case rel => exact ⟨j + 1, x + (y + e1) + (z + e2), by omega, by go_num, by go_num, by omega, by omega, E', Hba⟩
        case measure => simp [intOf]; omega
    · have e : j = l.length := by omega
      subst e
      have E := hid (body_end.symm.trans Hx.out)
      go_wp2
      go_ret
      exact ⟨by rw [E.out]; rfl, Hb.out.trans (hb.out.mono Hb.out.size)⟩
end Go.Proofs.Ythhllollhjpheaa
