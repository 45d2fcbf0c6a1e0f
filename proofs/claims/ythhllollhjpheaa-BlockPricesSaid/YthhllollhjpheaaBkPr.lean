/-
  block.Prices: what tokens cost in a block of kind 2 of these ones.
-/
import Derived.Test.YthhllollhjpheaaBkPa
import Derived.Test.YthhllollhjpheaaReg
import Derived.Test.YthhllollhjpheaaBkW
namespace Go.Proofs.Ythhllollhjpheaa
open Go.RowKit

def ofM (c l : List Int) (s : Nat) (e : Int) : Int := if c.getD s 0 = 0 then 16 * (15 + e) else 16 * (l.getD s 0 + e)
def prLit (l : List (Int × Int)) : List Int := (List.range 256).map fun s => ofM (cntM l).1 (ownM l).L s 0
def lenA (c L : List Int) (n : Nat) : Int := if n < 3 then 0 else ofM c L (lsN n) (lextra (lsN n : Nat))
def prLen (l : List (Int × Int)) : List Int := (List.range 259).map (lenA (cntM l).1 (ownM l).L)
def prDst (l : List (Int × Int)) : List Int := (List.range 30).map fun s => ofM (cntM l).2 (ownM l).D s (dextra (s : Nat))
set_option maxRecDepth 100000 in
theorem of_any (A B : Option Addr) (n c m d : Nat) (cs ls : List Int) (s : Nat) (e : Int) (W : World) (K1 K2 : Nat) (h1 : RdI W K1 A cs) (h2 : RdI W K2 B ls) (hn : cs.length = n) (hm : ls.length = m) (hs : s < n) (hp : cs.getD s 0 ≠ 0 → s < m) (he : 0 ≤ e ∧ e ≤ 100) (hb : ∀ x ∈ ls, 0 ≤ x ∧ x ≤ 16) (hn2 : n ≤ 1000) (hm2 : m ≤ 1000) :
    Calls Try.prog 45 #[.slice A n c, .slice B m d, .int .i64 (s : Int), .int .i64 e] W fun e' w' => e' = .returned (.int .i64 (ofM cs ls s e)) ∧ W = w' := by
  subst hn hm
  obtain ⟨b, off, rfl, _, q0⟩ := int_at h1 hs
  rw [getD_at hs] at q0
  have HP := hid hp
  have H2 := hid h2
  have HBd := hid hb
  have HO := hid (show ofM cs ls s e = if cs.getD s 0 = 0 then 16 * (15 + e) else 16 * (ls.getD s 0 + e) from rfl)
  clear h1 h2 hp hb
  generalize cs.getD s 0 = v at *
  by_cases hv : v = 0
  · have E := hid (show ofM cs ls s e = 16 * (15 + e) by rw [HO.out, if_pos hv])
    clear HO HP
    have d0 : decide (v = 0) = true := decide_eq_true hv
    subst hv
    go_enter Try.func45, Try.ntmps45
    go_wp2
    go_ret
    exact ⟨by rw [E.out]; rfl, rfl⟩
  · have hlt := HP.out hv
    obtain ⟨b2, off2, rfl, _, q1⟩ := int_at H2.out hlt
    rw [getD_at hlt] at q1
    have E := hid (show ofM cs ls s e = 16 * (ls.getD s 0 + e) by rw [HO.out, if_neg hv])
    have hb2 : 0 ≤ ls.getD s 0 ∧ ls.getD s 0 ≤ 16 := by
      rw [← getD_at hlt]
      exact HBd.out _ (List.getElem_mem hlt)
    generalize ls.getD s 0 = x at *
    clear HO HP
    go_enter Try.func45, Try.ntmps45
    go_wp2
    go_ret
    exact ⟨by rw [E.out]; rfl, rfl⟩
/-- a row that is filled from its beginning -/
def rowAt (f : Nat → Int) (n j : Nat) : List Int := (List.range n).map fun i => if i < j then f i else 0
theorem rowAt_len (f : Nat → Int) (n j : Nat) : (rowAt f n j).length = n := by unfold rowAt; rw [List.length_map, List.length_range]
theorem rowAt_zero (f : Nat → Int) (n : Nat) : rowAt f n 0 = List.replicate n 0 := by
  unfold rowAt
  refine List.ext_getElem (by rw [List.length_map, List.length_range, List.length_replicate]) fun i h1 h2 => ?_
  rw [List.getElem_map, List.getElem_replicate, if_neg (Nat.not_lt_zero _)]
theorem rowAt_full (f : Nat → Int) (n : Nat) : rowAt f n n = (List.range n).map f := by
  unfold rowAt
  refine List.map_congr_left fun i hi => ?_
  rw [if_pos (List.mem_range.1 hi)]
theorem rowAt_cell (f : Nat → Int) (n k j : Nat) (h : j < n) : ∃ v, (intsV (rowAt f n k)).toArray[j]? = some v := by
  rw [List.getElem?_toArray]
  exact ⟨_, List.getElem?_eq_getElem (by unfold intsV; rw [List.length_map, rowAt_len]; exact h)⟩
theorem rowAt_set (f : Nat → Int) (n j : Nat) : (rowAt f n j).set j (f j) = rowAt f n (j + 1) := by
  refine List.ext_getElem (by rw [List.length_set, rowAt_len, rowAt_len]) fun i h1 h2 => ?_
  rw [List.getElem_set]
  have e : ∀ k (h : i < (rowAt f n k).length), (rowAt f n k)[i] = if i < k then f i else 0 := fun k h => by simp [rowAt]
  rw [e (j + 1)]
  by_cases h : j = i
  · subst h
    rw [if_pos rfl, if_pos (by omega)]
  · rw [if_neg h, e j]
    by_cases h3 : i < j
    · rw [if_pos h3, if_pos (by omega)]
    · rw [if_neg h3, if_neg (by omega)]
theorem lenA_start (c L : List Int) : rowAt (lenA c L) 259 3 = rowAt (lenA c L) 259 0 := by
  unfold rowAt
  refine List.map_congr_left fun i _ => ?_
  rw [if_neg (Nat.not_lt_zero _)]
  split
  next h => unfold lenA; rw [if_pos h]
  next => rfl
theorem own_pos {l : List (Int × Int)} : (∀ s, 0 < (cntM l).1.getD s 0 → s < (ownM l).L.length) ∧ (∀ s, 0 < (cntM l).2.getD s 0 → s < (ownM l).D.length) := by
  obtain ⟨e1, e2⟩ := cnt_len l
  have t1 : (twoM (cntM l).1).length = 286 := by rw [twoM_len, e1]
  have k1 : (itemsOf (twoM (cntM l).1)).length ≤ 2 ^ (14 + 1) := Nat.le_trans (itemsOf_le _) (by rw [t1]; decide)
  have k2 : (itemsOf (cntM l).2).length ≤ 2 ^ (14 + 1) := Nat.le_trans (itemsOf_le _) (by rw [e2]; decide)
  refine ⟨fun s hp => ?_, fun s hp => ?_⟩
  · have hs : s < 286 := by rw [← e1]; exact getD_in hp
    refine getD_in (l := litM l) ?_
    unfold litM
    rw [trim_at]
    have := best_pos (c := twoM (cntM l).1) (s := s) k1 (by rw [t1]; exact hs)
    rw [t1] at this
    refine this.2 ?_
    unfold twoM
    rw [two_keep _ _ _ hp]
    exact hp
  · have hs : s < 30 := by rw [← e2]; exact getD_in hp
    refine getD_in (l := dstM l) ?_
    unfold dstM
    rw [trim_at]
    have := best_pos (c := (cntM l).2) (s := s) k2 (by rw [e2]; exact hs)
    rw [e2] at this
    exact this.2 hp
theorem blk_rdi {w : World} {g : Nat} {l : List Int} (h : Blk w g 3 (intsV l).toArray) : RdI w w.heap.size (some ⟨g, 0, none⟩) l :=
  TRow.ints (.inr ⟨g, 0, (intsV l).toArray, rfl, h, fun j u hu => by rw [Nat.zero_add, List.getElem?_toArray]; exact hu⟩ : TRow w 3 (some ⟨g, 0, none⟩) (intsV l))
theorem lext_bd2' (n : Int) : 0 ≤ lextra (lsN n : Nat) ∧ lextra (lsN n : Nat) ≤ 5 := by
  have h := lsN_bd n
  have := lext_bd ⟨lsN n - 257, by omega⟩
  simp only at this
  rw [show (257 : Int) + ((lsN n - 257 : Nat) : Int) = (lsN n : Nat) by omega] at this
  exact ⟨this.1, this.2.1⟩
theorem dext_bd2' (j : Nat) (h : j < 30) : 0 ≤ dextra (j : Nat) ∧ dextra (j : Nat) ≤ 13 := by
  have := dext_bd ⟨j, h⟩
  exact ⟨this.1, this.2.1⟩
def PricesEnd (l : List (Int × Int)) (W : World) (e : Ending) (w' : World) : Prop :=
  (if l.all tgood = true then ∃ gA gB gC, e = .returned (.tuple #[.agg #[.slice (some ⟨gA, 0, none⟩) 256 256, .slice (some ⟨gB, 0, none⟩) 259 259, .slice (some ⟨gC, 0, none⟩) 30 30], .nilIface]) ∧
      W.heap.size ≤ gA ∧ W.heap.size ≤ gB ∧ W.heap.size ≤ gC ∧ gA ≠ gB ∧ gA ≠ gC ∧ gB ≠ gC ∧ Blk w' gA 3 (intsV (prLit l)).toArray ∧ Blk w' gB 3 (intsV (prLen l)).toArray ∧ Blk w' gC 3 (intsV (prDst l)).toArray
    else e = .returned (.tuple #[.agg #[.slice none 0 0, .slice none 0 0, .slice none 0 0], .iface 40 (.int .i64 6)])) ∧ Below W.heap.size W w'
set_option maxRecDepth 100000 in
set_option maxHeartbeats 16000000 in
theorem prices_any (A : Option Addr) (c : Nat) (l : List (Int × Int)) (W : World) (hr : Rd W W.heap.size 2 A l.length (l.flatMap encTok)) (hm : l.length ≤ 1000000) :
    Calls Try.prog 17 #[.slice A l.length c] W (PricesEnd l W) := by
  have hb1 := (Below.refl W.heap.size W).alloc (Nat.le_refl _) (.cells #[.slice none 0 0, .slice none 0 0, .slice none 0 0] 50)
  have hb2 := hb1.alloc hb1.size (.cells #[.slice none 0 0, .slice none 0 0, .slice none 0 0] 50)
  have ZR := hid ((Blk.new W 50 #[.slice none 0 0, .slice none 0 0, .slice none 0 0]).alloc (.cells #[.slice none 0 0, .slice none 0 0, .slice none 0 0] 50))
  have ZN := hid (show Blk ((W.alloc (.cells #[.slice none 0 0, .slice none 0 0, .slice none 0 0] 50)).alloc (.cells #[.slice none 0 0, .slice none 0 0, .slice none 0 0] 50)) (W.heap.size + 1) 50 #[.slice none 0 0, .slice none 0 0, .slice none 0 0] by
    have := Blk.new (W.alloc (.cells #[.slice none 0 0, .slice none 0 0, .slice none 0 0] 50)) 50 #[.slice none 0 0, .slice none 0 0, .slice none 0 0]
    rwa [World.size_alloc] at this)
  have Hb := hid hb2
  have Hr := hid hr
  have HC := hid (contBad_any A c l _ (rd_up hr hb2) hm)
  clear hr hb1 hb2
  go_enter Try.func17, Try.ntmps17
  go_upto_region 2 with (fail)
  generalize (W.alloc (.cells #[.slice none 0 0, .slice none 0 0, .slice none 0 0] 50)).alloc (.cells #[.slice none 0 0, .slice none 0 0, .slice none 0 0] 50) = w0 at *
  obtain ⟨g2, hg2⟩ : ∃ g, g = W.heap.size := ⟨_, rfl⟩
  have hgW : W.heap.size ≤ g2 := by omega
  have hne : g2 + 1 ≠ g2 := by omega
  rw [← hg2] at ZR ZN ⊢
  obtain ⟨g4, hg4⟩ : ∃ g, g = g2 + 1 := ⟨_, rfl⟩
  rw [← hg4] at ZN hne ⊢
  clear hg2 hg4
  go_wp2_with fail
  refine HC.out.mono ?_
  rintro e w1 ⟨rfl, b1⟩
  have B1 := hid (Hb.out.trans (b1.mono Hb.out.size))
  have R1 := hid (ZR.out.below b1 ZR.out.lt)
  have N1 := hid (ZN.out.below b1 ZN.out.lt)
  clear b1 HC Hb ZR ZN
  cases hg : l.all tgood with
  | false =>
    rw [Bool.not_false]
    have q0 := N1.out.cell 0
    have q1 := N1.out.cell 1
    have q2 := N1.out.cell 2
    simp only [List.getElem?_toArray, List.getElem?_cons_zero, List.getElem?_cons_succ] at q0 q1 q2
    have hq := N1.out.lt
    have r0 := R1.out.cell 0
    have r1 := R1.out.cell 1
    have r2 := R1.out.cell 2
    simp only [List.getElem?_toArray, List.getElem?_cons_zero, List.getElem?_cons_succ] at r0 r1 r2
    have hrr := R1.out.lt
    have fz := fun o => R1.out.frozen o
    have HG := hid hg
    clear hg
    go_wp2_with fail
    have K := ((R1.out.set_ 0 (.slice none 0 0)).set_ 1 (.slice none 0 0)).set_ 2 (.slice none 0 0)
    have r0' := K.cell 0
    have r1' := K.cell 1
    have r2' := K.cell 2
    simp only [List.setIfInBounds_toArray, List.set_cons_zero, List.set_cons_succ, List.getElem?_toArray, List.getElem?_cons_zero, List.getElem?_cons_succ] at r0' r1' r2'
    refine bodyPost_ret (v := .tuple #[.agg #[.slice none 0 0, .slice none 0 0, .slice none 0 0], .iface 40 (.int .i64 6)]) (by simp [results, Try.results17, go_sem, r0', r1', r2']) rfl ?_
    refine ⟨?_, ((B1.out.setCell (p := ⟨g2, 0, none⟩) hgW _).setCell (p := ⟨g2, 1, none⟩) hgW _).setCell (p := ⟨g2, 2, none⟩) hgW _⟩
    rw [if_neg (by rw [HG.out]; decide)]
  | true =>
    rw [Bool.not_true]
    have HG := hid hg
    have Hgt := hid (fun t (ht : t ∈ l) => List.all_eq_true.1 hg t ht)
    clear hg N1
    have OW := hid (own10_any A c l w1 (rd_up Hr.out B1.out) hm Hgt.out)
    unfold OwnEnd at OW
    go_wp2_with fail
    refine OW.out.mono ?_
    rintro e w2 ⟨p, rfl, x1, x2, x3, x4, x5, hR, b2⟩
    have B2 := hid (B1.out.trans (b2.mono B1.out.size))
    have R2 := hid (R1.out.below b2 R1.out.lt)
    have PR := hid hR
    have X1 := hid x1
    have X2 := hid x2
    clear x1 x2 x3 x4 x5 hR b2 OW B1 R1
    obtain ⟨PL, XL, Lc, PD, XD, Dc, R, XR, Rc, O, XO, Oc, h⟩ := p
    unfold PlV.cs
    simp only at PR X1 X2 ⊢
    have hal := (Below.refl w2.heap.size w2).alloc (Nat.le_refl _) (.cells #[.slice XL PL.length Lc, .slice XD PD.length Dc, .slice XR R.length Rc, .slice XO O.length Oc, .int .i64 h] 70)
    have B3 := hid (B2.out.trans (hal.mono B2.out.size))
    have R3 := hid (R2.out.below hal R2.out.lt)
    have RL3 := hid (own_rdi (own_below PR.out.ol hal (Nat.le_refl _)))
    have RD3 := hid (own_rdi (own_below PR.out.od hal (Nat.le_refl _)))
    have P3 := hid (Blk.new w2 70 #[.slice XL PL.length Lc, .slice XD PD.length Dc, .slice XR R.length Rc, .slice XO O.length Oc, .int .i64 h])
    clear hal PR R2 B2
    go_upto_region 5 with (fail)
    generalize w2.alloc (.cells #[.slice XL PL.length Lc, .slice XD PD.length Dc, .slice XR R.length Rc, .slice XO O.length Oc, .int .i64 h] 70) = w3 at *
    obtain ⟨g5, hg5⟩ : ∃ g, g = w2.heap.size := ⟨_, rfl⟩
    rw [← hg5] at P3 ⊢
    clear hg5
    have CT := hid (count10_any A c l w3 (rd_up Hr.out B3.out) hm Hgt.out)
    unfold CntEnd10 at CT
    go_wp2_with fail
    refine CT.out.mono ?_
    rintro e w4 ⟨k1, k2, rfl, hk1, hk2, hk12, hcw, b4⟩
    have B4 := hid (B3.out.trans (b4.mono B3.out.size))
    have R4 := hid (R3.out.below b4 R3.out.lt)
    have P4 := hid (P3.out.below b4 P3.out.lt)
    have RL4 := hid (rd_up RL3.out b4)
    have RD4 := hid (rd_up RD3.out b4)
    have C4 := hid hcw
    clear b4 hcw CT B3 R3 P3 RL3 RD3 hk1 hk2
    obtain ⟨i0, hi0, hz0, hz1, hz2⟩ := info_parts int_info
    have mkA : ∀ w : World, (Instr.makeSlice 48 (.int .i64 256) (.int .i64 256)).run Try.prog w = .ok (.slice (some ⟨w.heap.size, 0, none⟩) 256 256) (w.alloc (.cells (intsV (List.replicate 256 0)).toArray 3)) := by
      intro w
      have h := run_make (P := Try.prog) w 48 3 i0 (.int .i64 0) Try.underlying48 hi0 hz0 .i64 .i64 256 256 (by omega) (by omega) (by rw [hz2]; omega) (by omega)
      rw [hz1, made_list _ _ rfl, List.toArray_replicate] at h
      rw [zrow 256]
      exact h
    have mkB : ∀ w : World, (Instr.makeSlice 48 (.int .i64 259) (.int .i64 259)).run Try.prog w = .ok (.slice (some ⟨w.heap.size, 0, none⟩) 259 259) (w.alloc (.cells (intsV (List.replicate 259 0)).toArray 3)) := by
      intro w
      have h := run_make (P := Try.prog) w 48 3 i0 (.int .i64 0) Try.underlying48 hi0 hz0 .i64 .i64 259 259 (by omega) (by omega) (by rw [hz2]; omega) (by omega)
      rw [hz1, made_list _ _ rfl, List.toArray_replicate] at h
      rw [zrow 259]
      exact h
    have mkC : ∀ w : World, (Instr.makeSlice 48 (.int .i64 30) (.int .i64 30)).run Try.prog w = .ok (.slice (some ⟨w.heap.size, 0, none⟩) 30 30) (w.alloc (.cells (intsV (List.replicate 30 0)).toArray 3)) := by
      intro w
      have h := run_make (P := Try.prog) w 48 3 i0 (.int .i64 0) Try.underlying48 hi0 hz0 .i64 .i64 30 30 (by omega) (by omega) (by rw [hz2]; omega) (by omega)
      rw [hz1, made_list _ _ rfl, List.toArray_replicate] at h
      rw [zrow 30]
      exact h
    clear hi0 hz0 hz1 hz2
    go_upto_region 8 with (fail)
    refine set_lit (S := (((Nat × Nat) × Nat) × Nat) × World) [0, 1, 4, 6, 7]
      (fun x i => [.slice (some ⟨x.1.1.1.1, 0, none⟩) 256 256, .slice (some ⟨x.1.1.1.2, 0, none⟩) 259 259, .slice (some ⟨k2, 0, none⟩) 30 30, .int .i64 30, .slice (some ⟨x.1.1.2, 0, none⟩) 30 30, .agg #[.slice (some ⟨x.1.1.1.1, 0, none⟩) 256 256, .slice (some ⟨x.1.1.1.2, 0, none⟩) 259 259, .slice (some ⟨x.1.1.2, 0, none⟩) 30 30], .pointer (some ⟨x.1.2, 0, none⟩), undef].getD i undef)
      (fun x => x.2) (fun lz x => Below w4.heap.size w4 x.2 ∧ (lz.getD 0 false = true → w4.heap.size ≤ x.1.1.1.1 ∧ Blk x.2 x.1.1.1.1 3 (intsV (List.replicate 256 0)).toArray) ∧ (lz.getD 1 false = true → w4.heap.size ≤ x.1.1.1.2 ∧ Blk x.2 x.1.1.1.2 3 (intsV (List.replicate 259 0)).toArray) ∧ (lz.getD 2 false = true → w4.heap.size ≤ x.1.1.2 ∧ Blk x.2 x.1.1.2 3 (intsV (List.replicate 30 0)).toArray) ∧ (lz.getD 0 false = true → lz.getD 1 false = true → x.1.1.1.1 ≠ x.1.1.1.2) ∧ (lz.getD 0 false = true → lz.getD 2 false = true → x.1.1.1.1 ≠ x.1.1.2) ∧ (lz.getD 1 false = true → lz.getD 2 false = true → x.1.1.1.2 ≠ x.1.1.2) ∧ (lz.getD 3 false = true → lz.getD 4 false = false → w4.heap.size ≤ x.1.2 ∧ Blk x.2 x.1.2 50 #[.slice none 0 0, .slice none 0 0, .slice none 0 0]) ∧ (lz.getD 4 false = true → (lz.getD 0 false = true ∧ lz.getD 1 false = true ∧ lz.getD 2 false = true ∧ lz.getD 3 false = true) ∧ w4.heap.size ≤ x.1.2 ∧ Blk x.2 x.1.2 50 #[.slice (some ⟨x.1.1.1.1, 0, none⟩) 256 256, .slice (some ⟨x.1.1.1.2, 0, none⟩) 259 259, .slice (some ⟨x.1.1.2, 0, none⟩) 30 30]))
      (fun i => if i = 5 then [0, 1, 4] else if i = 7 then [6, 0, 1, 4] else []) ?af (((((0, 0), 0), 0), w4.drew)) (by kernel_rfl) (by kernel_rfl) (by kernel_rfl) (by kernel_rfl) (by kernel_rfl) rfl ?hR0 ?haf ?hy ?hQ
    case haf =>
      intro x
      simp only [actOf, dstAt, List.length_cons, List.length_nil, Nat.reduceAdd, List.getElem?_cons_zero, List.getElem?_cons_succ, Option.bind_some, if_true, List.getD_cons_zero, List.getD_cons_succ, Act.put, List.setIfInBounds_toArray, List.set_cons_zero, List.set_cons_succ]
      rfl
    case hR0 => exact ⟨(Below.refl _ _).drew, fun h => absurd h (by decide), fun h => absurd h (by decide), fun h => absurd h (by decide), fun h => absurd h (by decide), fun h => absurd h (by decide), fun h => absurd h (by decide), fun h => absurd h (by decide), fun h => absurd h (by decide)⟩
    case hy =>
      intro s xw hR
      obtain ⟨⟨⟨⟨gA, gB⟩, gC⟩, g9⟩, wx⟩ := xw
      obtain ⟨hb, rA, rB, rC, nAB, nAC, nBC, r9, rF⟩ := hR
      have hb : Below w4.heap.size w4 wx := hb
      have rA : s 0 = true → w4.heap.size ≤ gA ∧ Blk wx gA 3 (intsV (List.replicate 256 0)).toArray := rA
      have rB : s 1 = true → w4.heap.size ≤ gB ∧ Blk wx gB 3 (intsV (List.replicate 259 0)).toArray := rB
      have rC : s 4 = true → w4.heap.size ≤ gC ∧ Blk wx gC 3 (intsV (List.replicate 30 0)).toArray := rC
      have nAB : s 0 = true → s 1 = true → gA ≠ gB := nAB
      have nAC : s 0 = true → s 4 = true → gA ≠ gC := nAC
      have nBC : s 1 = true → s 4 = true → gB ≠ gC := nBC
      have r9 : s 6 = true → s 7 = false → w4.heap.size ≤ g9 ∧ Blk wx g9 50 #[.slice none 0 0, .slice none 0 0, .slice none 0 0] := r9
      have rF : s 7 = true → (s 0 = true ∧ s 1 = true ∧ s 4 = true ∧ s 6 = true) ∧ w4.heap.size ≤ g9 ∧ Blk wx g9 50 #[.slice (some ⟨gA, 0, none⟩) 256 256, .slice (some ⟨gB, 0, none⟩) 259 259, .slice (some ⟨gC, 0, none⟩) 30 30] := rF
      have hsz := hb.size
      simp only [AllY]
      refine ⟨?_, ?_, ?_, ?_, ?_, ?_, ?_, ?_, trivial⟩
      case refine_1 =>
        intro hs hd
        refine .inl ⟨.slice (some ⟨wx.heap.size, 0, none⟩) 256 256, wx.alloc (.cells (intsV (List.replicate 256 0)).toArray 3), by simp [execOp, go_sem, mkA, Act.eval], ((((wx.heap.size, gB), gC), g9), wx.alloc (.cells (intsV (List.replicate 256 0)).toArray 3)), ⟨hb.alloc hsz _, fun _ => ⟨hsz, Blk.new _ _ _⟩, fun h => ?_, fun h => ?_, fun h h' => ?_, fun h h' => ?_, fun h h' => ?_, fun h h' => ?_, fun h => ?_⟩, rfl, rfl, fun j hj hc hne => ?_⟩
        · have h : (s 1 || 1 == 0) = true := h
          simp at h
          exact ⟨(rB h).1, (rB h).2.alloc _⟩
        · have h : (s 4 || 4 == 0) = true := h
          simp at h
          exact ⟨(rC h).1, (rC h).2.alloc _⟩
        · have h' : (s 1 || 1 == 0) = true := h'
          simp at h'
          have := (rB h').2.lt
          show wx.heap.size ≠ gB
          omega
        · have h' : (s 4 || 4 == 0) = true := h'
          simp at h'
          have := (rC h').2.lt
          show wx.heap.size ≠ gC
          omega
        · have h : (s 1 || 1 == 0) = true := h
          have h' : (s 4 || 4 == 0) = true := h'
          simp at h h'
          exact nBC h h'
        · have h : (s 6 || 6 == 0) = true := h
          have h' : (s 7 || 7 == 0) = false := h'
          simp at h h'
          exact ⟨(r9 h h').1, (r9 h h').2.alloc _⟩
        · have h : (s 7 || 7 == 0) = true := h
          simp at h
          exact absurd (rF h).1.1 (by rw [hs]; decide)
        · have hj : j < 8 := hj
          rcases (show j = 0 ∨ j = 1 ∨ j = 2 ∨ j = 3 ∨ j = 4 ∨ j = 5 ∨ j = 6 ∨ j = 7 by omega) with rfl | rfl | rfl | rfl | rfl | rfl | rfl | rfl <;> first | rfl | exact absurd rfl hne | exact absurd hc (by decide)
      case refine_2 =>
        intro hs hd
        refine .inl ⟨.slice (some ⟨wx.heap.size, 0, none⟩) 259 259, wx.alloc (.cells (intsV (List.replicate 259 0)).toArray 3), by simp [execOp, go_sem, mkB, Act.eval], ((((gA, wx.heap.size), gC), g9), wx.alloc (.cells (intsV (List.replicate 259 0)).toArray 3)), ⟨hb.alloc hsz _, fun h => ?_, fun _ => ⟨hsz, Blk.new _ _ _⟩, fun h => ?_, fun h h' => ?_, fun h h' => ?_, fun h h' => ?_, fun h h' => ?_, fun h => ?_⟩, rfl, rfl, fun j hj hc hne => ?_⟩
        · have h : (s 0 || 0 == 1) = true := h
          simp at h
          exact ⟨(rA h).1, (rA h).2.alloc _⟩
        · have h : (s 4 || 4 == 1) = true := h
          simp at h
          exact ⟨(rC h).1, (rC h).2.alloc _⟩
        · have h : (s 0 || 0 == 1) = true := h
          simp at h
          have := (rA h).2.lt
          show gA ≠ wx.heap.size
          omega
        · have h : (s 0 || 0 == 1) = true := h
          have h' : (s 4 || 4 == 1) = true := h'
          simp at h h'
          exact nAC h h'
        · have h' : (s 4 || 4 == 1) = true := h'
          simp at h'
          have := (rC h').2.lt
          show wx.heap.size ≠ gC
          omega
        · have h : (s 6 || 6 == 1) = true := h
          have h' : (s 7 || 7 == 1) = false := h'
          simp at h h'
          exact ⟨(r9 h h').1, (r9 h h').2.alloc _⟩
        · have h : (s 7 || 7 == 1) = true := h
          simp at h
          exact absurd (rF h).1.2.1 (by rw [hs]; decide)
        · have hj : j < 8 := hj
          rcases (show j = 0 ∨ j = 1 ∨ j = 2 ∨ j = 3 ∨ j = 4 ∨ j = 5 ∨ j = 6 ∨ j = 7 by omega) with rfl | rfl | rfl | rfl | rfl | rfl | rfl | rfl <;> first | rfl | exact absurd rfl hne | exact absurd hc (by decide)
      case refine_5 =>
        intro hs hd
        refine .inl ⟨.slice (some ⟨wx.heap.size, 0, none⟩) 30 30, wx.alloc (.cells (intsV (List.replicate 30 0)).toArray 3), by simp [execOp, go_sem, mkC, Act.eval], ((((gA, gB), wx.heap.size), g9), wx.alloc (.cells (intsV (List.replicate 30 0)).toArray 3)), ⟨hb.alloc hsz _, fun h => ?_, fun h => ?_, fun _ => ⟨hsz, Blk.new _ _ _⟩, fun h h' => ?_, fun h h' => ?_, fun h h' => ?_, fun h h' => ?_, fun h => ?_⟩, rfl, rfl, fun j hj hc hne => ?_⟩
        · have h : (s 0 || 0 == 4) = true := h
          simp at h
          exact ⟨(rA h).1, (rA h).2.alloc _⟩
        · have h : (s 1 || 1 == 4) = true := h
          simp at h
          exact ⟨(rB h).1, (rB h).2.alloc _⟩
        · have h : (s 0 || 0 == 4) = true := h
          have h' : (s 1 || 1 == 4) = true := h'
          simp at h h'
          exact nAB h h'
        · have h : (s 0 || 0 == 4) = true := h
          simp at h
          have := (rA h).2.lt
          show gA ≠ wx.heap.size
          omega
        · have h : (s 1 || 1 == 4) = true := h
          simp at h
          have := (rB h).2.lt
          show gB ≠ wx.heap.size
          omega
        · have h : (s 6 || 6 == 4) = true := h
          have h' : (s 7 || 7 == 4) = false := h'
          simp at h h'
          exact ⟨(r9 h h').1, (r9 h h').2.alloc _⟩
        · have h : (s 7 || 7 == 4) = true := h
          simp at h
          exact absurd (rF h).1.2.2.1 (by rw [hs]; decide)
        · have hj : j < 8 := hj
          rcases (show j = 0 ∨ j = 1 ∨ j = 2 ∨ j = 3 ∨ j = 4 ∨ j = 5 ∨ j = 6 ∨ j = 7 by omega) with rfl | rfl | rfl | rfl | rfl | rfl | rfl | rfl <;> first | rfl | exact absurd rfl hne | exact absurd hc (by decide)
      case refine_7 =>
        intro hs hd
        refine .inl ⟨.pointer (some ⟨wx.heap.size, 0, none⟩), wx.alloc (.cells #[.slice none 0 0, .slice none 0 0, .slice none 0 0] 50), by simp [execOp, go_sem], ((((gA, gB), gC), wx.heap.size), wx.alloc (.cells #[.slice none 0 0, .slice none 0 0, .slice none 0 0] 50)), ⟨hb.alloc hsz _, fun h => ?_, fun h => ?_, fun h => ?_, fun h h' => ?_, fun h h' => ?_, fun h h' => ?_, fun h h' => ⟨hsz, Blk.new _ _ _⟩, fun h => ?_⟩, rfl, rfl, fun j hj hc hne => ?_⟩
        · have h : (s 0 || 0 == 6) = true := h
          simp at h
          exact ⟨(rA h).1, (rA h).2.alloc _⟩
        · have h : (s 1 || 1 == 6) = true := h
          simp at h
          exact ⟨(rB h).1, (rB h).2.alloc _⟩
        · have h : (s 4 || 4 == 6) = true := h
          simp at h
          exact ⟨(rC h).1, (rC h).2.alloc _⟩
        · have h : (s 0 || 0 == 6) = true := h
          have h' : (s 1 || 1 == 6) = true := h'
          simp at h h'
          exact nAB h h'
        · have h : (s 0 || 0 == 6) = true := h
          have h' : (s 4 || 4 == 6) = true := h'
          simp at h h'
          exact nAC h h'
        · have h : (s 1 || 1 == 6) = true := h
          have h' : (s 4 || 4 == 6) = true := h'
          simp at h h'
          exact nBC h h'
        · have h : (s 7 || 7 == 6) = true := h
          simp at h
          exact absurd (rF h).1.2.2.2 (by rw [hs]; decide)
        · have hj : j < 8 := hj
          rcases (show j = 0 ∨ j = 1 ∨ j = 2 ∨ j = 3 ∨ j = 4 ∨ j = 5 ∨ j = 6 ∨ j = 7 by omega) with rfl | rfl | rfl | rfl | rfl | rfl | rfl | rfl <;> first | rfl | exact absurd rfl hne | exact absurd hc (by decide)
      case refine_8 =>
        intro hs hd
        have h6 := hd 6 (by decide)
        have h0 := hd 0 (by decide)
        have h1 := hd 1 (by decide)
        have h4 := hd 4 (by decide)
        obtain ⟨s1, k1'⟩ := r9 h6 hs
        have x0 := k1'.cell 0
        have x1 := k1'.cell 1
        have x2 := k1'.cell 2
        simp only [List.getElem?_toArray, List.getElem?_cons_zero, List.getElem?_cons_succ] at x0 x1 x2
        have fz := fun o => k1'.frozen o
        have hll := k1'.lt
        have nA : gA ≠ g9 := blk_ne (rA h0).2 k1' (by decide)
        have nB : gB ≠ g9 := blk_ne (rB h1).2 k1' (by decide)
        have nC : gC ≠ g9 := blk_ne (rC h4).2 k1' (by decide)
        refine .inr (.inl ⟨((wx.setCell ⟨g9, 0, none⟩ (.slice (some ⟨gA, 0, none⟩) 256 256)).setCell ⟨g9, 1, none⟩ (.slice (some ⟨gB, 0, none⟩) 259 259)).setCell ⟨g9, 2, none⟩ (.slice (some ⟨gC, 0, none⟩) 30 30), by simp [execOp, go_sem, Act.eval, x0, x1, x2, fz], rfl, ((((gA, gB), gC), g9), ((wx.setCell ⟨g9, 0, none⟩ (.slice (some ⟨gA, 0, none⟩) 256 256)).setCell ⟨g9, 1, none⟩ (.slice (some ⟨gB, 0, none⟩) 259 259)).setCell ⟨g9, 2, none⟩ (.slice (some ⟨gC, 0, none⟩) 30 30)), ⟨((hb.setCell s1 _).setCell s1 _).setCell s1 _,
          fun _ => ⟨(rA h0).1, (((rA h0).2.far (p := ⟨g9, 0, none⟩) nA _).far (p := ⟨g9, 1, none⟩) nA _).far (p := ⟨g9, 2, none⟩) nA _⟩,
          fun _ => ⟨(rB h1).1, (((rB h1).2.far (p := ⟨g9, 0, none⟩) nB _).far (p := ⟨g9, 1, none⟩) nB _).far (p := ⟨g9, 2, none⟩) nB _⟩,
          fun _ => ⟨(rC h4).1, (((rC h4).2.far (p := ⟨g9, 0, none⟩) nC _).far (p := ⟨g9, 1, none⟩) nC _).far (p := ⟨g9, 2, none⟩) nC _⟩,
          fun _ _ => nAB h0 h1, fun _ _ => nAC h0 h4, fun _ _ => nBC h1 h4, fun h h' => ?_, fun h => ⟨⟨?_, ?_, ?_, ?_⟩, s1, ((k1'.set_ 0 _).set_ 1 _).set_ 2 _⟩⟩, rfl, rfl, fun j hj hc hne => rfl⟩)
        · have h' : (s 7 || 7 == 7) = false := h'
          simp at h'
        · show (s 0 || 0 == 7) = true; rw [h0]; rfl
        · show (s 1 || 1 == 7) = true; rw [h1]; rfl
        · show (s 4 || 4 == 7) = true; rw [h4]; rfl
        · show (s 6 || 6 == 7) = true; rw [h6]; rfl
      all_goals exact fun _ _ => .inl (by simp [execOp, go_sem, Act.eval])
    case hQ =>
      rintro ⟨⟨⟨⟨gA, gB⟩, gC⟩, g9⟩, w5⟩ hR
      obtain ⟨b5, rA, rB, rC, nAB, nAC, nBC, _, rF⟩ := hR
      have b5 : Below w4.heap.size w4 w5 := b5
      have KA := hid (rA rfl)
      have KB := hid (rB rfl)
      have KC := hid (rC rfl)
      have NN := hid (And.intro (nAB rfl rfl) (And.intro (nAC rfl rfl) (nBC rfl rfl)))
      have K9 := hid (rF rfl).2
      obtain ⟨fA, hfA⟩ : ∃ f : Nat → Int, f = (fun s => ofM (cntM l).1 PL s 0) := ⟨_, rfl⟩
      obtain ⟨fB, hfB⟩ : ∃ f : Nat → Int, f = lenA (cntM l).1 PL := ⟨_, rfl⟩
      obtain ⟨fC, hfC⟩ : ∃ f : Nat → Int, f = (fun s => ofM (cntM l).2 PD s (dextra (s : Nat))) := ⟨_, rfl⟩
      have HfA := hid hfA
      have HfB := hid hfB
      have HfC := hid hfC
      have KA0 := hid (show Blk w5 gA 3 (intsV (rowAt fA 256 0)).toArray by rw [rowAt_zero]; exact KA.out.2)
      have KB0 := hid (show Blk w5 gB 3 (intsV (rowAt fB 259 0)).toArray by rw [rowAt_zero]; exact KB.out.2)
      have KC0 := hid (show Blk w5 gC 3 (intsV (rowAt fC 30 0)).toArray by rw [rowAt_zero]; exact KC.out.2)
      have K9' := hid K9.out.2
      have G5 := hid b5
      have hKA := KA.out.1
      have hKB := KB.out.1
      have hKC := KC.out.1
      have hK9 := K9.out.1
      obtain ⟨nAB, nAC, nBC⟩ := NN.out
      have hPG := own_good Hgt.out
      have HPG := hid hPG
      have hcn := cnt_len l
      have HCN := hid hcn
      have HNN := hid (cntM_nn (l := l))
      have hPLn : PL.length ≤ 288 := by rw [X1.out]; exact hPG.n1
      have hPDn : PD.length ≤ 30 := by rw [X2.out]; exact hPG.n2
      show Exit.then _ _ .normal _ w5
      clear b5 rA rB rC nAB nAC nBC rF mkA mkB mkC KA KB KC K9 hfA hfB hfC hPG hcn
      obtain ⟨nAB, nAC, nBC⟩ := NN.out
      have OA := hid (fun (w : World) (j : Nat) (hb : Below w4.heap.size w4 w) (hj : j < 286) (e : Int) (he : 0 ≤ e ∧ e ≤ 100) => of_any (some ⟨k1, 0, none⟩) XL 286 286 PL.length Lc (cntM l).1 PL j e w w4.heap.size w4.heap.size ((blk_rdi C4.out.1).below hb (Nat.le_refl _)) (RL4.out.below hb (Nat.le_refl _)) HCN.out.1 rfl hj (fun h => by
        rw [X1.out]
        refine own_pos.1 j ?_
        have := HNN.out.1 _ (show (cntM l).1.getD j 0 ∈ (cntM l).1 by rw [← getD_at (by rw [HCN.out.1]; exact hj)]; exact List.getElem_mem _)
        omega) he (by rw [X1.out]; exact HPG.out.bL) (by omega) (by omega))
      have OC := hid (fun (w : World) (j : Nat) (hb : Below w4.heap.size w4 w) (hj : j < 30) (e : Int) (he : 0 ≤ e ∧ e ≤ 100) => of_any (some ⟨k2, 0, none⟩) XD 30 30 PD.length Dc (cntM l).2 PD j e w w4.heap.size w4.heap.size ((blk_rdi C4.out.2).below hb (Nat.le_refl _)) (RD4.out.below hb (Nat.le_refl _)) HCN.out.2 rfl hj (fun h => by
        rw [X2.out]
        refine own_pos.2 j ?_
        have := HNN.out.2 _ (show (cntM l).2.getD j 0 ∈ (cntM l).2 by rw [← getD_at (by rw [HCN.out.2]; exact hj)]; exact List.getElem_mem _)
        omega) he (by rw [X2.out]; exact HPG.out.bD) (by omega) (by omega))
      have P4c := hid (fun (w : World) (hb : Below w4.heap.size w4 w) => P4.out.below hb P4.out.lt)
      have y0 := K9'.out.cell 0
      have y1 := K9'.out.cell 1
      have y2 := K9'.out.cell 2
      simp only [List.getElem?_toArray, List.getElem?_cons_zero, List.getElem?_cons_succ] at y0 y1 y2
      have hy := K9'.out.lt
      go_wp2
      go_loopw [50] (fun i wr => ∃ j : Nat, j ≤ 256 ∧ i = .int .i64 (j : Int) ∧ Hid (Below w4.heap.size w4 wr) ∧ Hid (Blk wr g9 50 #[.slice (some ⟨gA, 0, none⟩) 256 256, .slice (some ⟨gB, 0, none⟩) 259 259, .slice (some ⟨gC, 0, none⟩) 30 30]) ∧ Hid (Blk wr gA 3 (intsV (rowAt fA 256 (j))).toArray) ∧ Hid (Blk wr gB 3 (intsV (rowAt fB 259 (0))).toArray) ∧ Hid (Blk wr gC 3 (intsV (rowAt fC 30 (0))).toArray)) (fun i _ => 256 - (intOf i).toNat)
      case atStart => exact ⟨0, by omega, rfl, G5, K9', KA0, KB0, KC0⟩
      case round =>
        obtain ⟨j, hj, rfl, G, K9, KA, KB, KC⟩ := hrel
        have hKsz := G.out.size
        by_cases hjn : j < 256
        · have d0 : decide (j < 256) = true := decide_eq_true hjn
          have OF := hid (OA.out wr.drew j (G.out.trans (Below.refl _ wr).drew) (by omega) 0 (by omega))
          rw [show ofM (cntM l).1 PL j 0 = fA j by rw [HfA.out]] at OF
          have RS := rowAt_set fA 256 j
          go_upto_region 13 with (fail)
          have wz := (KA.out.drew.cell j)
          obtain ⟨vw, hvw⟩ := rowAt_cell fA 256 (j) j hjn
          rw [hvw] at wz
          have fz := fun o => KA.out.drew.frozen o
          have lz := KA.out.drew.lt
          have y0 := K9.out.drew.cell 0
          have y1 := K9.out.drew.cell 1
          have y2 := K9.out.drew.cell 2
          simp only [List.getElem?_toArray, List.getElem?_cons_zero, List.getElem?_cons_succ] at y0 y1 y2
          have hy := K9.out.drew.lt
          have v0 := ((P4c.out _ (G.out.trans (Below.refl _ wr).drew))).cell 0
          have v1 := ((P4c.out _ (G.out.trans (Below.refl _ wr).drew))).cell 1
          simp only [List.getElem?_toArray, List.getElem?_cons_zero, List.getElem?_cons_succ] at v0 v1
          have hv := (P4c.out _ (G.out.trans (Below.refl _ wr).drew)).lt
          refine free_lit (S := World) (fun i => i == 10)
            (fun x i => [.pointer (some ⟨g9, 0, none⟩), .slice (some ⟨gA, 0, none⟩) 256 256, .int .i64 (j : Int), .func (.func 45) #[] #[], .slice (some ⟨k1, 0, none⟩) 286 286, .pointer (some ⟨g5, 0, none⟩), .slice XL PL.length Lc, .int .i64 (j : Int), .int .i64 (fA j), .pointer (some ⟨gA, j, none⟩), undef].getD i undef)
            (fun x => x) (fun k x => match k with | 0 => x = wr.drew | 1 => x = wr.drew.setCell ⟨gA, j, none⟩ (.int .i64 (fA j)) | _ => False)
            (fun i => 0) (fun i => 0) (fun _ => false) (fun _ => false) ?af1 ?ab1 1 (wr.drew) (by kernel_rfl) (by kernel_rfl) (by kernel_rfl) (by kernel_rfl) (by kernel_rfl) (by kernel_rfl) (by kernel_rfl) rfl rfl ?haf1 ?hab1 ?hy1 ?hQ1
          case haf1 =>
            intro x
            simp only [actOf, dstAt, List.length_cons, List.length_nil, Nat.reduceAdd, List.getElem?_cons_zero, List.getElem?_cons_succ, Option.bind_some, if_true, List.getD_cons_zero, List.getD_cons_succ, Act.put, List.setIfInBounds_toArray, List.set_cons_zero, List.set_cons_succ]
            rfl
          case hab1 =>
            intro x
            simp only [actOf, dstAt, List.length_cons, List.length_nil, Nat.reduceAdd, List.getElem?_cons_zero, List.getElem?_cons_succ, Option.bind_some, Bool.not_false, if_true, List.getD_cons_zero, List.getD_cons_succ, Act.put, List.setIfInBounds_toArray, List.set_cons_zero, List.set_cons_succ]
            rfl
          case hy1 =>
            intro k x hR
            simp only [AllY]
            refine ⟨?_, ?_, ?_, ?_, ?_, ?_, ?_, ?_, ?_, ?_, ?_, trivial⟩
            case refine_11 =>
              intro hk
              obtain rfl : k = 0 := hk
              obtain rfl : x = wr.drew := hR
              refine .inr (.inl ⟨wr.drew.setCell ⟨gA, j, none⟩ (.int .i64 (fA j)), by simp [execOp, go_sem, Act.eval, wz, fz], rfl, _, rfl, rfl, rfl, fun i hi hd hn => rfl⟩)
            case refine_9 =>
              intro _ hk
              have hk : k ≤ 0 := hk
              obtain rfl : k = 0 := by omega
              obtain rfl : x = wr.drew := hR
              exact .inr (.inr ⟨45, #[.slice (some ⟨k1, 0, none⟩) 286 286, .slice XL PL.length Lc, .int .i64 ((j : Int)), .int .i64 0], wr.drew, by simp [execOp, go_sem, Act.eval], OF.out.mono fun e w' h => ⟨h.1, h.2.symm⟩⟩)
            all_goals
              intro _ hk
              have hk : k ≤ 0 := hk
              obtain rfl : k = 0 := by omega
              obtain rfl : x = wr.drew := hR
              refine .inl ?_
              simp [execOp, go_sem, Act.eval, y0, v0] <;> (intro h; omega)
          case hQ1 =>
            intro x hR
            obtain rfl : x = _ := hR
            have GS := hid ((G.out.trans (Below.refl _ wr).drew).setCell (p := ⟨gA, j, none⟩) hKA (.int .i64 (fA j)))
            have K9s := hid (K9.out.drew.far (p := ⟨gA, j, none⟩) (fun e => blk_ne K9.out KA.out (by decide) e) (.int .i64 (fA j)))
            have KAs := hid (show Blk (wr.drew.setCell ⟨gA, j, none⟩ (.int .i64 (fA j))) gA 3 (intsV (rowAt fA 256 (j + 1))).toArray by
              have h := blkI_set KA.out.drew j (fA j)
              rw [RS] at h
              exact h)
            have KBs := hid (KB.out.drew.far (p := ⟨gA, j, none⟩) (fun e => nAB e.symm) (.int .i64 (fA j)))
            have KCs := hid (KC.out.drew.far (p := ⟨gA, j, none⟩) (fun e => nAC e.symm) (.int .i64 (fA j)))
            obtain ⟨vx, hvx⟩ : ∃ v, v = wr.drew.setCell ⟨gA, j, none⟩ (.int .i64 (fA j)) := ⟨_, rfl⟩
            simp only [← hvx] at GS K9s KAs KBs KCs ⊢
            clear hvx hvw wz fz lz y0 y1 y2 hy v0 v1 hv OF G K9 KA KB KC
            go_wp2
            go_roundw
            case rel => exact ⟨j + 1, by omega, by go_num, GS, K9s, KAs, KBs, KCs⟩
            case measure => simp [intOf]; omega
        · obtain rfl : j = 256 := by omega
          rw [show ((256 : Nat) : Int) = (256 : Int) from rfl]
          clear KA0 KB0 KC0 K9' G5 y0 y1 y2 hy
          go_wp2
          go_loopw [12] (fun i wr => ∃ j : Nat, 3 ≤ j ∧ j ≤ 259 ∧ i = .int .i64 (j : Int) ∧ Hid (Below w4.heap.size w4 wr) ∧ Hid (Blk wr g9 50 #[.slice (some ⟨gA, 0, none⟩) 256 256, .slice (some ⟨gB, 0, none⟩) 259 259, .slice (some ⟨gC, 0, none⟩) 30 30]) ∧ Hid (Blk wr gA 3 (intsV (rowAt fA 256 (256))).toArray) ∧ Hid (Blk wr gB 3 (intsV (rowAt fB 259 (j))).toArray) ∧ Hid (Blk wr gC 3 (intsV (rowAt fC 30 (0))).toArray)) (fun i _ => 259 - (intOf i).toNat)
          case atStart => exact ⟨3, by omega, by omega, rfl, G, K9, KA, hid (by rw [HfB.out, lenA_start, ← HfB.out]; exact KB.out), KC⟩
          case round =>
            clear G K9 KA KB KC hKsz
            obtain ⟨j, hj3, hj, rfl, G, K9, KA, KB, KC⟩ := hrel
            have hKsz := G.out.size
            by_cases hjn : j < 259
            · have d0 : decide (j ≤ 258) = true := decide_eq_true (by omega)
              have d1 : decide ((j : Int) ≤ 258) = true := decide_eq_true (by omega)
              have LS := hid (lsym_at (j : Int) (by omega) (by omega) wr)
              go_wp2_with fail
              refine LS.out.mono ?_
              rintro e w6 ⟨rfl, rfl⟩
              have LB := hid (lbase_at (j : Int) wr)
              go_wp2_with fail
              refine LB.out.mono ?_
              rintro e w6 ⟨rfl, rfl⟩
              clear LS LB
              have hls := lsN_bd (j : Int)
              have hlx := lext_bd2' (j : Int)
              have OF := hid (OA.out wr.drew (lsN (j : Int)) (G.out.trans (Below.refl _ wr).drew) (by omega) (lextra (lsN (j : Int) : Nat)) (by omega))
              rw [show ofM (cntM l).1 PL (lsN (j : Int)) (lextra (lsN (j : Int) : Nat)) = fB j by rw [HfB.out]; unfold lenA; rw [if_neg (by omega)]] at OF
              have RS := rowAt_set fB 259 j
              go_upto_region 20 with (fail)
              have wz := (KB.out.drew.cell j)
              obtain ⟨vw, hvw⟩ := rowAt_cell fB 259 (j) j hjn
              rw [hvw] at wz
              have fz := fun o => KB.out.drew.frozen o
              have lz := KB.out.drew.lt
              have y0 := K9.out.drew.cell 0
              have y1 := K9.out.drew.cell 1
              have y2 := K9.out.drew.cell 2
              simp only [List.getElem?_toArray, List.getElem?_cons_zero, List.getElem?_cons_succ] at y0 y1 y2
              have hy := K9.out.drew.lt
              have v0 := ((P4c.out _ (G.out.trans (Below.refl _ wr).drew))).cell 0
              have v1 := ((P4c.out _ (G.out.trans (Below.refl _ wr).drew))).cell 1
              simp only [List.getElem?_toArray, List.getElem?_cons_zero, List.getElem?_cons_succ] at v0 v1
              have hv := (P4c.out _ (G.out.trans (Below.refl _ wr).drew)).lt
              refine free_lit (S := World) (fun i => i == 11)
                (fun x i => [.pointer (some ⟨g9, 1, none⟩), .slice (some ⟨gB, 0, none⟩) 259 259, .int .i64 (j : Int), .func (.func 45) #[] #[], .slice (some ⟨k1, 0, none⟩) 286 286, .pointer (some ⟨g5, 0, none⟩), .slice XL PL.length Lc, .int .i64 ((lsN (j : Int) : Nat) : Int), .int .i64 (lextra (lsN (j : Int) : Nat)), .int .i64 (fB j), .pointer (some ⟨gB, j, none⟩), undef].getD i undef)
                (fun x => x) (fun k x => match k with | 0 => x = wr.drew | 1 => x = wr.drew.setCell ⟨gB, j, none⟩ (.int .i64 (fB j)) | _ => False)
                (fun i => 0) (fun i => 0) (fun _ => false) (fun _ => false) ?af2 ?ab2 1 (wr.drew) (by kernel_rfl) (by kernel_rfl) (by kernel_rfl) (by kernel_rfl) (by kernel_rfl) (by kernel_rfl) (by kernel_rfl) rfl rfl ?haf2 ?hab2 ?hy2 ?hQ2
              case haf2 =>
                intro x
                simp only [actOf, dstAt, List.length_cons, List.length_nil, Nat.reduceAdd, List.getElem?_cons_zero, List.getElem?_cons_succ, Option.bind_some, if_true, List.getD_cons_zero, List.getD_cons_succ, Act.put, List.setIfInBounds_toArray, List.set_cons_zero, List.set_cons_succ]
                rfl
              case hab2 =>
                intro x
                simp only [actOf, dstAt, List.length_cons, List.length_nil, Nat.reduceAdd, List.getElem?_cons_zero, List.getElem?_cons_succ, Option.bind_some, Bool.not_false, if_true, List.getD_cons_zero, List.getD_cons_succ, Act.put, List.setIfInBounds_toArray, List.set_cons_zero, List.set_cons_succ]
                rfl
              case hy2 =>
                intro k x hR
                simp only [AllY]
                refine ⟨?_, ?_, ?_, ?_, ?_, ?_, ?_, ?_, ?_, ?_, ?_, ?_, trivial⟩
                case refine_12 =>
                  intro hk
                  obtain rfl : k = 0 := hk
                  obtain rfl : x = wr.drew := hR
                  refine .inr (.inl ⟨wr.drew.setCell ⟨gB, j, none⟩ (.int .i64 (fB j)), by simp [execOp, go_sem, Act.eval, wz, fz], rfl, _, rfl, rfl, rfl, fun i hi hd hn => rfl⟩)
                case refine_10 =>
                  intro _ hk
                  have hk : k ≤ 0 := hk
                  obtain rfl : k = 0 := by omega
                  obtain rfl : x = wr.drew := hR
                  exact .inr (.inr ⟨45, #[.slice (some ⟨k1, 0, none⟩) 286 286, .slice XL PL.length Lc, .int .i64 (((lsN (j : Int) : Nat) : Int)), .int .i64 (lextra (lsN (j : Int) : Nat))], wr.drew, by simp [execOp, go_sem, Act.eval], OF.out.mono fun e w' h => ⟨h.1, h.2.symm⟩⟩)
                all_goals
                  intro _ hk
                  have hk : k ≤ 0 := hk
                  obtain rfl : k = 0 := by omega
                  obtain rfl : x = wr.drew := hR
                  refine .inl ?_
                  simp [execOp, go_sem, Act.eval, y1, v0] <;> (intro h; omega)
              case hQ2 =>
                intro x hR
                obtain rfl : x = _ := hR
                have GS := hid ((G.out.trans (Below.refl _ wr).drew).setCell (p := ⟨gB, j, none⟩) hKB (.int .i64 (fB j)))
                have K9s := hid (K9.out.drew.far (p := ⟨gB, j, none⟩) (fun e => blk_ne K9.out KB.out (by decide) e) (.int .i64 (fB j)))
                have KBs := hid (show Blk (wr.drew.setCell ⟨gB, j, none⟩ (.int .i64 (fB j))) gB 3 (intsV (rowAt fB 259 (j + 1))).toArray by
                  have h := blkI_set KB.out.drew j (fB j)
                  rw [RS] at h
                  exact h)
                have KAs := hid (KA.out.drew.far (p := ⟨gB, j, none⟩) nAB (.int .i64 (fB j)))
                have KCs := hid (KC.out.drew.far (p := ⟨gB, j, none⟩) (fun e => nBC e.symm) (.int .i64 (fB j)))
                obtain ⟨vx, hvx⟩ : ∃ v, v = wr.drew.setCell ⟨gB, j, none⟩ (.int .i64 (fB j)) := ⟨_, rfl⟩
                simp only [← hvx] at GS K9s KAs KBs KCs ⊢
                clear hvx hvw wz fz lz y0 y1 y2 hy v0 v1 hv OF G K9 KA KB KC
                go_wp2
                go_roundw
                case rel => exact ⟨j + 1, by omega, by omega, by go_num, GS, K9s, KAs, KBs, KCs⟩
                case measure => simp [intOf]; omega
            · obtain rfl : j = 259 := by omega
              rw [show ((259 : Nat) : Int) = (259 : Int) from rfl]
              have y0 := K9.out.cell 0
              have y1 := K9.out.cell 1
              have y2 := K9.out.cell 2
              simp only [List.getElem?_toArray, List.getElem?_cons_zero, List.getElem?_cons_succ] at y0 y1 y2
              have hy := K9.out.lt
              go_wp2
              go_loopw [93] (fun i wr => ∃ j : Nat, j ≤ 30 ∧ i = .int .i64 (j : Int) ∧ Hid (Below w4.heap.size w4 wr) ∧ Hid (Blk wr g9 50 #[.slice (some ⟨gA, 0, none⟩) 256 256, .slice (some ⟨gB, 0, none⟩) 259 259, .slice (some ⟨gC, 0, none⟩) 30 30]) ∧ Hid (Blk wr gA 3 (intsV (rowAt fA 256 (256))).toArray) ∧ Hid (Blk wr gB 3 (intsV (rowAt fB 259 (259))).toArray) ∧ Hid (Blk wr gC 3 (intsV (rowAt fC 30 (j))).toArray)) (fun i _ => 30 - (intOf i).toNat)
              case atStart => exact ⟨0, by omega, rfl, G, K9, KA, KB, KC⟩
              case round =>
                clear G K9 KA KB KC hKsz y0 y1 y2 hy
                obtain ⟨j, hj, rfl, G, K9, KA, KB, KC⟩ := hrel
                have hKsz := G.out.size
                by_cases hjn : j < 30
                · have d0 : decide (j < 30) = true := decide_eq_true hjn
                  have DB := hid (dbase_yes (j : Int) (by omega) (by omega) wr)
                  go_wp2_with fail
                  refine DB.out.mono ?_
                  rintro e w6 ⟨rfl, rfl⟩
                  clear DB
                  have hdx := dext_bd2' j hjn
                  have OF := hid (OC.out wr.drew j (G.out.trans (Below.refl _ wr).drew) hjn (dextra (j : Nat)) (by omega))
                  rw [show ofM (cntM l).2 PD j (dextra (j : Nat)) = fC j by rw [HfC.out]] at OF
                  have RS := rowAt_set fC 30 j
                  go_upto_region 25 with (fail)
                  have wz := (KC.out.drew.cell j)
                  obtain ⟨vw, hvw⟩ := rowAt_cell fC 30 (j) j hjn
                  rw [hvw] at wz
                  have fz := fun o => KC.out.drew.frozen o
                  have lz := KC.out.drew.lt
                  have y0 := K9.out.drew.cell 0
                  have y1 := K9.out.drew.cell 1
                  have y2 := K9.out.drew.cell 2
                  simp only [List.getElem?_toArray, List.getElem?_cons_zero, List.getElem?_cons_succ] at y0 y1 y2
                  have hy := K9.out.drew.lt
                  have v0 := ((P4c.out _ (G.out.trans (Below.refl _ wr).drew))).cell 0
                  have v1 := ((P4c.out _ (G.out.trans (Below.refl _ wr).drew))).cell 1
                  simp only [List.getElem?_toArray, List.getElem?_cons_zero, List.getElem?_cons_succ] at v0 v1
                  have hv := (P4c.out _ (G.out.trans (Below.refl _ wr).drew)).lt
                  refine free_lit (S := World) (fun i => i == 11)
                    (fun x i => [.pointer (some ⟨g9, 2, none⟩), .slice (some ⟨gC, 0, none⟩) 30 30, .int .i64 (j : Int), .func (.func 45) #[] #[], .slice (some ⟨k2, 0, none⟩) 30 30, .pointer (some ⟨g5, 1, none⟩), .slice XD PD.length Dc, .int .i64 (j : Int), .int .i64 (dextra (j : Nat)), .int .i64 (fC j), .pointer (some ⟨gC, j, none⟩), undef].getD i undef)
                    (fun x => x) (fun k x => match k with | 0 => x = wr.drew | 1 => x = wr.drew.setCell ⟨gC, j, none⟩ (.int .i64 (fC j)) | _ => False)
                    (fun i => 0) (fun i => 0) (fun _ => false) (fun _ => false) ?af3 ?ab3 1 (wr.drew) (by kernel_rfl) (by kernel_rfl) (by kernel_rfl) (by kernel_rfl) (by kernel_rfl) (by kernel_rfl) (by kernel_rfl) rfl rfl ?haf3 ?hab3 ?hy3 ?hQ3
                  case haf3 =>
                    intro x
                    simp only [actOf, dstAt, List.length_cons, List.length_nil, Nat.reduceAdd, List.getElem?_cons_zero, List.getElem?_cons_succ, Option.bind_some, if_true, List.getD_cons_zero, List.getD_cons_succ, Act.put, List.setIfInBounds_toArray, List.set_cons_zero, List.set_cons_succ]
                    rfl
                  case hab3 =>
                    intro x
                    simp only [actOf, dstAt, List.length_cons, List.length_nil, Nat.reduceAdd, List.getElem?_cons_zero, List.getElem?_cons_succ, Option.bind_some, Bool.not_false, if_true, List.getD_cons_zero, List.getD_cons_succ, Act.put, List.setIfInBounds_toArray, List.set_cons_zero, List.set_cons_succ]
                    rfl
                  case hy3 =>
                    intro k x hR
                    simp only [AllY]
                    refine ⟨?_, ?_, ?_, ?_, ?_, ?_, ?_, ?_, ?_, ?_, ?_, ?_, trivial⟩
                    case refine_12 =>
                      intro hk
                      obtain rfl : k = 0 := hk
                      obtain rfl : x = wr.drew := hR
                      refine .inr (.inl ⟨wr.drew.setCell ⟨gC, j, none⟩ (.int .i64 (fC j)), by simp [execOp, go_sem, Act.eval, wz, fz], rfl, _, rfl, rfl, rfl, fun i hi hd hn => rfl⟩)
                    case refine_10 =>
                      intro _ hk
                      have hk : k ≤ 0 := hk
                      obtain rfl : k = 0 := by omega
                      obtain rfl : x = wr.drew := hR
                      exact .inr (.inr ⟨45, #[.slice (some ⟨k2, 0, none⟩) 30 30, .slice XD PD.length Dc, .int .i64 ((j : Int)), .int .i64 (dextra (j : Nat))], wr.drew, by simp [execOp, go_sem, Act.eval], OF.out.mono fun e w' h => ⟨h.1, h.2.symm⟩⟩)
                    all_goals
                      intro _ hk
                      have hk : k ≤ 0 := hk
                      obtain rfl : k = 0 := by omega
                      obtain rfl : x = wr.drew := hR
                      refine .inl ?_
                      simp [execOp, go_sem, Act.eval, y2, v1] <;> (intro h; omega)
                  case hQ3 =>
                    intro x hR
                    obtain rfl : x = _ := hR
                    have GS := hid ((G.out.trans (Below.refl _ wr).drew).setCell (p := ⟨gC, j, none⟩) hKC (.int .i64 (fC j)))
                    have K9s := hid (K9.out.drew.far (p := ⟨gC, j, none⟩) (fun e => blk_ne K9.out KC.out (by decide) e) (.int .i64 (fC j)))
                    have KCs := hid (show Blk (wr.drew.setCell ⟨gC, j, none⟩ (.int .i64 (fC j))) gC 3 (intsV (rowAt fC 30 (j + 1))).toArray by
                      have h := blkI_set KC.out.drew j (fC j)
                      rw [RS] at h
                      exact h)
                    have KAs := hid (KA.out.drew.far (p := ⟨gC, j, none⟩) nAC (.int .i64 (fC j)))
                    have KBs := hid (KB.out.drew.far (p := ⟨gC, j, none⟩) nBC (.int .i64 (fC j)))
                    obtain ⟨vx, hvx⟩ : ∃ v, v = wr.drew.setCell ⟨gC, j, none⟩ (.int .i64 (fC j)) := ⟨_, rfl⟩
                    simp only [← hvx] at GS K9s KAs KBs KCs ⊢
                    clear hvx hvw wz fz lz y0 y1 y2 hy v0 v1 hv OF G K9 KA KB KC
                    go_wp2
                    go_roundw
                    case rel => exact ⟨j + 1, by omega, by go_num, GS, K9s, KAs, KBs, KCs⟩
                    case measure => simp [intOf]; omega
                · obtain rfl : j = 30 := by omega
                  have y0 := K9.out.cell 0
                  have y1 := K9.out.cell 1
                  have y2 := K9.out.cell 2
                  simp only [List.getElem?_toArray, List.getElem?_cons_zero, List.getElem?_cons_succ] at y0 y1 y2
                  have hy := K9.out.lt
                  have RF := hid (R4.out.below G.out R4.out.lt)
                  have r0 := RF.out.cell 0
                  have r1 := RF.out.cell 1
                  have r2 := RF.out.cell 2
                  simp only [List.getElem?_toArray, List.getElem?_cons_zero, List.getElem?_cons_succ] at r0 r1 r2
                  have hrr := RF.out.lt
                  have fz := fun o => RF.out.frozen o
                  have hg9 : g9 ≠ g2 := by have := R4.out.lt; omega
                  have hg9' : g2 ≠ g9 := fun e => hg9 e.symm
                  have BW := hid (B4.out.trans (G.out.mono B4.out.size))
                  have hB4 := B4.out.size
                  have hg2l := R4.out.lt
                  have nA : gA ≠ g2 := by omega
                  have nB : gB ≠ g2 := by omega
                  have nC : gC ≠ g2 := by omega
                  go_wp2_with fail
                  have K := ((RF.out.set_ 0 (.slice (some ⟨gA, 0, none⟩) 256 256)).set_ 1 (.slice (some ⟨gB, 0, none⟩) 259 259)).set_ 2 (.slice (some ⟨gC, 0, none⟩) 30 30)
                  have r0' := K.cell 0
                  have r1' := K.cell 1
                  have r2' := K.cell 2
                  simp only [List.setIfInBounds_toArray, List.set_cons_zero, List.set_cons_succ, List.getElem?_toArray, List.getElem?_cons_zero, List.getElem?_cons_succ] at r0' r1' r2'
                  refine bodyPost_ret (v := .tuple #[.agg #[.slice (some ⟨gA, 0, none⟩) 256 256, .slice (some ⟨gB, 0, none⟩) 259 259, .slice (some ⟨gC, 0, none⟩) 30 30], .nilIface]) (by simp [results, Try.results17, go_sem, r0', r1', r2']) rfl ?_
                  refine ⟨?_, ((BW.out.setCell (p := ⟨g2, 0, none⟩) hgW _).setCell (p := ⟨g2, 1, none⟩) hgW _).setCell (p := ⟨g2, 2, none⟩) hgW _⟩
                  rw [if_pos HG.out]
                  refine ⟨gA, gB, gC, rfl, by omega, by omega, by omega, nAB, nAC, nBC, ?_, ?_, ?_⟩
                  · have h := ((KA.out.far (p := ⟨g2, 0, none⟩) nA (.slice (some ⟨gA, 0, none⟩) 256 256)).far (p := ⟨g2, 1, none⟩) nA (.slice (some ⟨gB, 0, none⟩) 259 259)).far (p := ⟨g2, 2, none⟩) nA (.slice (some ⟨gC, 0, none⟩) 30 30)
                    rw [rowAt_full, HfA.out, X1.out] at h
                    exact h
                  · have h := ((KB.out.far (p := ⟨g2, 0, none⟩) nB (.slice (some ⟨gA, 0, none⟩) 256 256)).far (p := ⟨g2, 1, none⟩) nB (.slice (some ⟨gB, 0, none⟩) 259 259)).far (p := ⟨g2, 2, none⟩) nB (.slice (some ⟨gC, 0, none⟩) 30 30)
                    rw [rowAt_full, HfB.out, X1.out] at h
                    exact h
                  · have h := ((KC.out.far (p := ⟨g2, 0, none⟩) nC (.slice (some ⟨gA, 0, none⟩) 256 256)).far (p := ⟨g2, 1, none⟩) nC (.slice (some ⟨gB, 0, none⟩) 259 259)).far (p := ⟨g2, 2, none⟩) nC (.slice (some ⟨gC, 0, none⟩) 30 30)
                    rw [rowAt_full, HfC.out, X2.out] at h
                    exact h
end Go.Proofs.Ythhllollhjpheaa
