/-
  block.own: the plan of kind 2.
-/
import Derived.Test.YthhllollhjpheaaBkD
import Derived.Test.YthhllollhjpheaaBkG
import Derived.Test.YthhllollhjpheaaRunsC
import Derived.Deep.RegionHeld3
namespace Go.Proofs.Ythhllollhjpheaa
open Go.RowKit

theorem own_pre {w : World} {base k n c : Nat} {e : TypeId} {A : Option Addr} {xs : List Value} (h : w.ownsRow base e 1 (.slice A n c) n xs) (hk : k ≤ n) : w.ownsRow base e 1 (.slice A k c) k (xs.take k) := by
  obtain ⟨h1, h2⟩ := h
  refine ⟨by rw [List.length_take]; omega, ?_⟩
  rcases h2 with ⟨hv, h0⟩ | ⟨g, cap, cur, hv, hb, hg, hn, hm, hs, ht⟩
  · injection hv with hA _ hc
    subst hA hc
    have : k = 0 := by omega
    subst this
    exact .inl ⟨rfl, rfl⟩
  · injection hv with hA _ hc
    subst hA hc
    refine .inr ⟨g, c, cur, rfl, hb, hg, by omega, hm, hs, ?_⟩
    rw [← ht, List.take_take]
    congr 1
    omega
theorem own_capB {w : World} {base t sz n c : Nat} {A : Option Addr} {xs : List Value} (h : w.ownsRow base t sz (.slice A n c) n xs) : n ≤ c := by
  rcases h.2 with ⟨h1, h2⟩ | ⟨g, cap, cur, h1, _, _, h3, _⟩
  · omega
  · injection h1 with h1 h4 h5
    omega
/-- the plan under way: its block, its rows -/
structure OwnS (W w : World) (gp : Nat) (p : PlV) : Prop where
  z : Blk w gp 70 p.cs
  ol : w.ownsRow W.heap.size 3 1 (.slice p.LA p.L.length p.Lc) p.L.length (intsV p.L)
  od : w.ownsRow W.heap.size 3 1 (.slice p.DA p.D.length p.Dc) p.D.length (intsV p.D)
  or_ : w.ownsRow W.heap.size 107 2 (.slice p.RA p.R.length p.Rc) p.R.length (p.R.flatMap encTok)
  oo : w.ownsRow W.heap.size 3 1 (.slice p.OA p.O.length p.Oc) p.O.length (intsV p.O)
  low : Below W.heap.size W w
  gb : W.heap.size ≤ gp
def pl0 : PlV := ⟨[], none, 0, [], none, 0, [], none, 0, [], none, 0, 0⟩
theorem OwnS.start (W : World) : OwnS W (W.alloc (.cells pl0.cs 70)) W.heap.size pl0 :=
  ⟨Blk.new _ _ _, World.ownsRow_nil _ _ _ _, World.ownsRow_nil _ _ _ _, World.ownsRow_nil _ _ _ _, World.ownsRow_nil _ _ _ _, (Below.refl _ _).alloc (Nat.le_refl _) _, Nat.le_refl _⟩
theorem OwnS.below {W w w' : World} {gp : Nat} {p : PlV} (h : OwnS W w gp p) (hb : Below w.heap.size w w') : OwnS W w' gp p :=
  ⟨h.z.below hb h.z.lt, own_below h.ol hb (Nat.le_refl _), own_below h.od hb (Nat.le_refl _), own_below h.or_ hb (Nat.le_refl _), own_below h.oo hb (Nat.le_refl _), h.low.trans (hb.mono h.low.size), h.gb⟩
theorem row_set {w : World} {base t sz n gp : Nat} {v : Value} {xs : List Value} {cs : Array Value} (ho : w.ownsRow base t sz v n xs) (hz : Blk w gp 70 cs) (ht : t ≠ 70) (i : Nat) (u : Value) : (w.setCell ⟨gp, i, none⟩ u).ownsRow base t sz v n xs :=
  ownsRow_setCell_other ho (fun e => own_blk_ne ho hz ht e.symm) u
theorem OwnS.set0 {W w : World} {gp n : Nat} {p : PlV} (h : OwnS W w gp p) {L : List Int} {A : Option Addr} {c : Nat} (hn : L.length = n) (ho : w.ownsRow W.heap.size 3 1 (.slice A n c) n (intsV L)) : OwnS W (w.setCell ⟨gp, 0, none⟩ (.slice A n c)) gp { p with L := L, LA := A, Lc := c } := by
  subst hn
  exact ⟨h.z.set_ 0 _, row_set ho h.z (by decide) _ _, row_set h.od h.z (by decide) _ _, row_set h.or_ h.z (by decide) _ _, row_set h.oo h.z (by decide) _ _, h.low.setCell (p := ⟨gp, 0, none⟩) h.gb _, h.gb⟩
theorem OwnS.set1 {W w : World} {gp n : Nat} {p : PlV} (h : OwnS W w gp p) {L : List Int} {A : Option Addr} {c : Nat} (hn : L.length = n) (ho : w.ownsRow W.heap.size 3 1 (.slice A n c) n (intsV L)) : OwnS W (w.setCell ⟨gp, 1, none⟩ (.slice A n c)) gp { p with D := L, DA := A, Dc := c } := by
  subst hn
  exact ⟨h.z.set_ 1 _, row_set h.ol h.z (by decide) _ _, row_set ho h.z (by decide) _ _, row_set h.or_ h.z (by decide) _ _, row_set h.oo h.z (by decide) _ _, h.low.setCell (p := ⟨gp, 1, none⟩) h.gb _, h.gb⟩
theorem OwnS.set2 {W w : World} {gp n : Nat} {p : PlV} (h : OwnS W w gp p) {R : List (Int × Int)} {A : Option Addr} {c : Nat} (hn : R.length = n) (ho : w.ownsRow W.heap.size 107 2 (.slice A n c) n (R.flatMap encTok)) : OwnS W (w.setCell ⟨gp, 2, none⟩ (.slice A n c)) gp { p with R := R, RA := A, Rc := c } := by
  subst hn
  exact ⟨h.z.set_ 2 _, row_set h.ol h.z (by decide) _ _, row_set h.od h.z (by decide) _ _, row_set ho h.z (by decide) _ _, row_set h.oo h.z (by decide) _ _, h.low.setCell (p := ⟨gp, 2, none⟩) h.gb _, h.gb⟩
theorem OwnS.set3 {W w : World} {gp n : Nat} {p : PlV} (h : OwnS W w gp p) {L : List Int} {A : Option Addr} {c : Nat} (hn : L.length = n) (ho : w.ownsRow W.heap.size 3 1 (.slice A n c) n (intsV L)) : OwnS W (w.setCell ⟨gp, 3, none⟩ (.slice A n c)) gp { p with O := L, OA := A, Oc := c } := by
  subst hn
  exact ⟨h.z.set_ 3 _, row_set h.ol h.z (by decide) _ _, row_set h.od h.z (by decide) _ _, row_set h.or_ h.z (by decide) _ _, row_set ho h.z (by decide) _ _, h.low.setCell (p := ⟨gp, 3, none⟩) h.gb _, h.gb⟩
theorem OwnS.set4 {W w : World} {gp : Nat} {p : PlV} (h : OwnS W w gp p) (x : Int) : OwnS W (w.setCell ⟨gp, 4, none⟩ (.int .i64 x)) gp { p with h := x } :=
  ⟨h.z.set_ 4 _, row_set h.ol h.z (by decide) _ _, row_set h.od h.z (by decide) _ _, row_set h.or_ h.z (by decide) _ _, row_set h.oo h.z (by decide) _ _, h.low.setCell (p := ⟨gp, 4, none⟩) h.gb _, h.gb⟩
theorem OwnS.ok {W w : World} {gp : Nat} {p : PlV} (h : OwnS W w gp p) : PlOk w p := ⟨own_rdi h.ol, own_rdi h.od, own_rd h.or_, own_rdi h.oo⟩
theorem OwnS.c0 {W w : World} {gp : Nat} {p : PlV} (h : OwnS W w gp p) : w.cell? ⟨gp, 0, none⟩ = some (.slice p.LA p.L.length p.Lc) ∧ w.cell? ⟨gp, 1, none⟩ = some (.slice p.DA p.D.length p.Dc) ∧ w.cell? ⟨gp, 2, none⟩ = some (.slice p.RA p.R.length p.Rc) ∧ w.cell? ⟨gp, 3, none⟩ = some (.slice p.OA p.O.length p.Oc) ∧ w.cell? ⟨gp, 4, none⟩ = some (.int .i64 p.h) :=
  ⟨h.z.cell 0, h.z.cell 1, h.z.cell 2, h.z.cell 3, h.z.cell 4⟩
theorem wrN_le (O : List Int) : ∀ n, wrN O n ≤ n
  | 0 => Nat.le_refl _
  | n + 1 => by
    unfold wrN
    split
    · have := wrN_le O n; omega
    · exact Nat.le_refl _
theorem OwnS.again {W w : World} {gp : Nat} {p : PlV} (h : OwnS W w gp p) : OwnS W (((((w.setCell ⟨gp, 0, none⟩ (.slice p.LA p.L.length p.Lc)).setCell ⟨gp, 1, none⟩ (.slice p.DA p.D.length p.Dc)).setCell ⟨gp, 2, none⟩ (.slice p.RA p.R.length p.Rc)).setCell ⟨gp, 3, none⟩ (.slice p.OA p.O.length p.Oc)).setCell ⟨gp, 4, none⟩ (.int .i64 p.h)) gp p := by
  have h0 := h.set0 rfl h.ol
  have h1 := h0.set1 rfl h0.od
  have h2 := h1.set2 rfl h1.or_
  have h3 := h2.set3 rfl h2.oo
  exact h3.set4 p.h
/-- a plan's rows, each its own -/
structure PlR (w : World) (p : PlV) : Prop where
  ol : w.ownsRow 0 3 1 (.slice p.LA p.L.length p.Lc) p.L.length (intsV p.L)
  od : w.ownsRow 0 3 1 (.slice p.DA p.D.length p.Dc) p.D.length (intsV p.D)
  or_ : w.ownsRow 0 107 2 (.slice p.RA p.R.length p.Rc) p.R.length (p.R.flatMap encTok)
  oo : w.ownsRow 0 3 1 (.slice p.OA p.O.length p.Oc) p.O.length (intsV p.O)
theorem OwnS.plr {W w : World} {gp : Nat} {p : PlV} (h : OwnS W w gp p) : PlR w p := ⟨own_base h.ol (Nat.zero_le _), own_base h.od (Nat.zero_le _), own_base h.or_ (Nat.zero_le _), own_base h.oo (Nat.zero_le _)⟩
theorem PlR.below {w w' : World} {p : PlV} (h : PlR w p) (hb : Below w.heap.size w w') : PlR w' p := ⟨own_below h.ol hb (Nat.le_refl _), own_below h.od hb (Nat.le_refl _), own_below h.or_ hb (Nat.le_refl _), own_below h.oo hb (Nat.le_refl _)⟩
theorem PlR.ok {w : World} {p : PlV} (h : PlR w p) : PlOk w p := ⟨own_rdi h.ol, own_rdi h.od, own_rd h.or_, own_rdi h.oo⟩
def OwnEnd (l : List (Int × Int)) (W : World) (e : Ending) (w' : World) : Prop :=
  ∃ p : PlV, e = .returned (.tuple #[.agg p.cs, .nilIface]) ∧ p.L = (ownM l).L ∧ p.D = (ownM l).D ∧ p.R = (ownM l).R ∧ p.O = (ownM l).O ∧ p.h = headM (ownM l) ∧ PlR w' p ∧ Below W.heap.size W w'
theorem parts2 (w : World) (A1 A2 : Option Addr) (n1 n2 c1 c2 : Nat) (xs ys : List Int) (h1 : Rd w w.heap.size 1 A1 n1 (intsV xs)) (h2 : Rd w w.heap.size 1 A2 n2 (intsV ys)) :
    PartsCI (w.alloc (.cells #[.slice A1 n1 c1, .slice A2 n2 c2] 48)) (w.alloc (.cells #[.slice A1 n1 c1, .slice A2 n2 c2] 48)).heap.size w.heap.size [(A1, n1, c1), (A2, n2, c2)] [intsV xs, intsV ys] := by
  have hb := (Below.refl w.heap.size w).alloc (Nat.le_refl _) (.cells #[.slice A1 n1 c1, .slice A2 n2 c2] 48)
  refine ⟨Blk.new _ _ _, rfl, ?_⟩
  intro k s l hs hl
  rcases k with _ | _ | k
  · injection hs with hs; injection hl with hl; subst hs hl; exact ⟨rd_up h1 hb, intsV_cells⟩
  · injection hs with hs; injection hl with hl; subst hs hl; exact ⟨rd_up h2 hb, intsV_cells⟩
  · simp at hs
theorem cat2_any (W : World) (A1 A2 : Option Addr) (c1 c2 : Nat) (xs ys x : List Int) (hx : x = xs ++ ys) (h1 : RdI W W.heap.size A1 xs) (h2 : RdI W W.heap.size A2 ys) (hm : x.length ≤ 100000) :
    Calls Try.prog 68 #[.slice (some ⟨W.heap.size, 0, none⟩) 2 2] (W.alloc (.cells #[.slice A1 xs.length c1, .slice A2 ys.length c2] 48)) fun e w' => ∃ A c, e = .returned (.slice A x.length c) ∧ w'.ownsRow W.heap.size 3 1 (.slice A x.length c) x.length (intsV x) ∧ Below W.heap.size W w' := by
  have ef : [intsV xs, intsV ys].flatten = intsV x := by
    rw [hx]
    simp [intsV]
  unfold RdI at h1 h2
  rw [intsV_eq] at h1 h2
  have hp := parts2 W A1 A2 xs.length ys.length c1 c2 xs ys h1 h2
  have h := concatI_any W.heap.size 2 x.length _ _ _ hp (by simp) (by rw [ef, intsV_length, Nat.mul_one]) (by omega)
  rw [ef] at h
  have hb := (Below.refl W.heap.size W).alloc (Nat.le_refl _) (.cells #[.slice A1 xs.length c1, .slice A2 ys.length c2] 48)
  refine h.mono ?_
  rintro e w' ⟨A, c, rfl, ho, hb2⟩
  exact ⟨A, c, rfl, own_base ho hb.size, hb.trans (hb2.mono hb.size)⟩
set_option maxRecDepth 100000 in
set_option maxHeartbeats 8000000 in
theorem own10_any (A : Option Addr) (c : Nat) (l : List (Int × Int)) (W : World) (hr : Rd W W.heap.size 2 A l.length (l.flatMap encTok)) (hm : l.length ≤ 1000000) (hg : ∀ t ∈ l, tgood t = true) :
    Calls Try.prog 43 #[.slice A l.length c] W (OwnEnd l W) := by
  have S0 := hid (OwnS.start W)
  have hcount := fun w (hb : Below W.heap.size W w) => count10_any A c l w (rd_up hr hb) hm hg
  have Hcnt := hid hcount
  clear hr hg hcount
  go_enter Try.func43, Try.ntmps43
  go_upto_region 1 with (fail)
  have e0 : (Obj.cells #[.slice none 0 0, .slice none 0 0, .slice none 0 0, .slice none 0 0, .int .i64 0] 70) = .cells pl0.cs 70 := rfl
  rw [e0]
  clear e0
  generalize W.alloc (.cells pl0.cs 70) = w0 at *
  have hcc := Hcnt.out w0 S0.out.low
  obtain ⟨gp, hgp⟩ : ∃ gp, gp = W.heap.size := ⟨_, rfl⟩
  rw [← hgp] at S0
  rw [← hgp]
  clear hgp Hcnt
  go_wp2_with fail
  refine hcc.mono ?_
  rintro e w1 ⟨g1, g2, rfl, hg1, hg2, hne, hC, hb1⟩
  have hgp0 := S0.out.z.lt
  obtain ⟨c1, c2, hcm⟩ : ∃ c1 c2, cntM l = (c1, c2) := ⟨_, _, rfl⟩
  have hB := cntM_B l
  have hlen := cnt_len l
  rw [hcm] at hC hB hlen
  simp only at hB hlen
  have Hcm := hid hcm
  have B1 := hid hC.1
  have B2 := hid hC.2
  have Hlen := hid hlen
  have HB := hid hB
  clear hcc hC hcm hlen hB
  have e286 := Hlen.out.1
  have e30 := Hlen.out.2
  have c2any := two10_any g1 286 c1 w1 B1.out (by omega) (by omega) (fun x hx => (HB.out.1 x hx).1)
  rw [e286] at c2any
  go_wp2_with fail
  refine c2any.mono ?_
  rintro e w2 ⟨rfl, hB1, hO⟩
  have S2 := hid (S0.out.below (hb1.trans (hO.low hg1)))
  have B2' := hid (hO.blk B2.out (fun e => hne e.symm))
  have H2 := hid (two_bd (b := 1 + (l.length : Int)) (by omega) (k := 2 - usedN c1) HB.out.1)
  have hcL := lengths_best (W := w2) (A := some ⟨g1, 0, none⟩) (c := 286) (l := twoM c1) 14 (blkI_rd hB1) (good_of (b := 1 + (l.length : Int)) (by rw [twoM_len, e286]; omega) (by omega) H2.out) (by omega) (Nat.le_trans (itemsOf_le _) (by rw [twoM_len, e286]; decide))
  rw [twoM_len, e286, show ((14 + 1 : Nat) : Int) = 15 from rfl] at hcL
  have hgp2 := S2.out.z.lt
  clear hb1 S0 B1 B2 c2any hB1 hO H2
  go_wp2_with fail
  refine hcL.mono ?_
  rintro e w3 ⟨A3, c3, rfl, ho, hb3⟩
  have S3 := hid (S2.out.below hb3)
  have O3 := own_base ho S2.out.low.size
  have B3 := hid (B2'.out.below hb3 B2'.out.lt)
  obtain ⟨Lb, hLb⟩ : ∃ L, L = bestLs (itemsOf (twoM c1)) 14 286 := ⟨_, rfl⟩
  rw [← hLb] at O3
  have hLn : Lb.length = 286 := by rw [hLb, bestLs_len]
  have HLb := hid hLb
  have S4 := hid (S3.out.set0 hLn O3)
  have hgp3 := S3.out.z.lt
  have fz3 := fun o => S3.out.z.frozen o
  have k3 := S3.out.c0.1
  have B4 := hid (B3.out.far (p := ⟨gp, 0, none⟩) (fun e => by have := B3.out; rw [e] at this; have h2 := this.symm.trans S3.out.z; injection h2 with h2; injection h2 with h2 h3; exact absurd h3 (by decide)) (.slice A3 286 c3))
  clear hcL ho hb3 O3 S2 B2' hLb hLn S3 B3
  have hcD := fun w (hb : Blk w g2 3 (intsV c2).toArray) => lengths_best (W := w) (A := some ⟨g2, 0, none⟩) (c := 30) (l := c2) 14 (blkI_rd hb) (good_of (b := 1 + (l.length : Int)) (by rw [e30]; omega) (by omega) HB.out.2) (by omega) (Nat.le_trans (itemsOf_le _) (by rw [e30]; decide))
  rw [e30, show ((14 + 1 : Nat) : Int) = 15 from rfl] at hcD
  go_upto_region 5 with (fail)
  generalize w3.setCell ⟨gp, 0, none⟩ (.slice A3 286 c3) = w4 at *
  clear k3 fz3
  go_wp2_with fail
  refine (hcD _ B4.out).mono ?_
  rintro e w5 ⟨A5, c5, rfl, ho, hb5⟩
  have S5 := hid (S4.out.below hb5)
  have O5 := own_base ho S4.out.low.size
  obtain ⟨Db, hDb⟩ : ∃ L, L = bestLs (itemsOf c2) 14 30 := ⟨_, rfl⟩
  rw [← hDb] at O5
  have hDn : Db.length = 30 := by rw [hDb, bestLs_len]
  have HDb := hid hDb
  have S6 := hid (S5.out.set1 hDn O5)
  have hgp5 := S5.out.z.lt
  have fz5 := fun o => S5.out.z.frozen o
  have k5 := S5.out.c0.2.1
  clear hcD ho hb5 O5 hDb hDn S5 B4 S4
  go_upto_region 8 with (fail)
  generalize w5.setCell ⟨gp, 1, none⟩ (.slice A5 30 c5) = w6 at *
  clear k5 fz5 hgp2 hgp3 hgp5
  have hLn : Lb.length = 286 := by rw [HLb.out, bestLs_len]
  have hDn : Db.length = 30 := by rw [HDb.out, bestLs_len]
  have hgp6 := S6.out.z.lt
  have fz6 := fun o => S6.out.z.frozen o
  have k0 := S6.out.c0.1
  have k1 := S6.out.c0.2.1
  simp only at k0 k1
  have OL := hid S6.out.ol
  have OD := hid S6.out.od
  simp only at OL OD
  rw [hLn] at k0 OL
  rw [hDn] at k1 OD
  obtain ⟨Lt, hLt⟩ : ∃ L, L = trimM 257 Lb := ⟨_, rfl⟩
  obtain ⟨Dt, hDt⟩ : ∃ L, L = trimM 1 Db := ⟨_, rfl⟩
  obtain ⟨n1, hn1⟩ : ∃ n, n = Lt.length := ⟨_, rfl⟩
  obtain ⟨n2, hn2⟩ : ∃ n, n = Dt.length := ⟨_, rfl⟩
  have hl1 : 257 ≤ n1 ∧ n1 ≤ 286 := by
    rw [hn1, hLt, trim_len, hLn]
    exact ⟨trimN_ge 257 Lb 286 (by omega), trimN_le _ _ _⟩
  have hl2 : 1 ≤ n2 ∧ n2 ≤ 30 := by
    rw [hn2, hDt, trim_len, hDn]
    exact ⟨trimN_ge 1 Db 30 (by omega), trimN_le _ _ _⟩
  have T1 : ∀ w : World, w.ownsRow W.heap.size 3 1 (.slice A3 286 c3) 286 (intsV Lb) → Calls Try.prog 66 #[.slice A3 286 c3, .int .i64 257] w fun e w' => e = .returned (.slice A3 n1 c3) ∧ w = w' := by
    intro w ho
    have h := trim10_any A3 c3 257 Lb w (by rw [← hLn] at ho; exact own_rdi ho) (by omega) (by omega) (by rw [hLn]; exact own_capB ho)
    rw [hLn, ← hLt, ← hn1] at h
    exact h
  have T2 : ∀ w : World, w.ownsRow W.heap.size 3 1 (.slice A5 30 c5) 30 (intsV Db) → Calls Try.prog 66 #[.slice A5 30 c5, .int .i64 1] w fun e w' => e = .returned (.slice A5 n2 c5) ∧ w = w' := by
    intro w ho
    have h := trim10_any A5 c5 1 Db w (by rw [← hDn] at ho; exact own_rdi ho) (by omega) (by omega) (by rw [hDn]; exact own_capB ho)
    rw [hDn, ← hDt, ← hn2] at h
    exact h
  have Hn1 := hid hn1
  have Hn2 := hid hn2
  have PL : ∀ w : World, w.ownsRow W.heap.size 3 1 (.slice A3 286 c3) 286 (intsV Lb) → w.ownsRow W.heap.size 3 1 (.slice A3 n1 c3) n1 (intsV Lt) := by
    intro w ho
    have h := own_pre (k := n1) ho (by omega)
    have e : (intsV Lb).take n1 = intsV Lt := by
      unfold intsV
      rw [← List.map_take, Hn1.out, hLt, trim_len]
      rfl
    rw [e] at h
    exact h
  have PD : ∀ w : World, w.ownsRow W.heap.size 3 1 (.slice A5 30 c5) 30 (intsV Db) → w.ownsRow W.heap.size 3 1 (.slice A5 n2 c5) n2 (intsV Dt) := by
    intro w ho
    have h := own_pre (k := n2) ho (by omega)
    have e : (intsV Db).take n2 = intsV Dt := by
      unfold intsV
      rw [← List.map_take, Hn2.out, hDt, trim_len]
      rfl
    rw [e] at h
    exact h
  have hT1 := hid T1
  have hT2 := hid T2
  have hPL := hid PL
  have hPD := hid PD
  have HLt := hid hLt
  have HDt := hid hDt
  have D6 := hid (S6.out.below (Below.refl _ _).drew)
  have OLd := hid (hPL.out _ (own_below OL.out (Below.refl w6.heap.size w6).drew (Nat.le_refl _)))
  have ODd := hid (hPD.out _ (own_below OD.out (Below.refl w6.heap.size w6).drew (Nat.le_refl _)))
  have F1 := hid ((D6.out.set0 Hn1.out.symm OLd.out).set1 Hn2.out.symm (row_set ODd.out D6.out.z (by decide) _ _))
  have F2 := hid ((D6.out.set1 Hn2.out.symm ODd.out).set0 Hn1.out.symm (row_set OLd.out D6.out.z (by decide) _ _))
  have OL6 := own_below OL.out (Below.refl w6.heap.size w6).drew (Nat.le_refl _)
  have OD6 := own_below OD.out (Below.refl w6.heap.size w6).drew (Nat.le_refl _)
  have OLs := hid (row_set OL6 D6.out.z (by decide) 1 (.slice A5 n2 c5))
  have ODs := hid (row_set OD6 D6.out.z (by decide) 0 (.slice A3 n1 c3))
  have HOL6 := hid OL6
  have HOD6 := hid OD6
  clear hLn hDn hLt hDt hn1 hn2 T1 T2 PL PD OL6 OD6
  go_cut [46] from 39 to 46 (fun _ wq => ∃ p : PlV, p.L = Lt ∧ p.D = Dt ∧ p.LA = A3 ∧ p.DA = A5 ∧ p.Lc = c3 ∧ p.Dc = c5 ∧ Hid (OwnS W wq gp p))
  case first =>
    go_region_with (first
      | (go_at_call 66; with_reducible (first | refine (hT1.out _ HOL6.out).mono ?_ | refine (hT1.out _ OLs.out).mono ?_); rintro e wz ⟨rfl, rfl⟩)
      | (go_at_call 66; with_reducible (first | refine (hT2.out _ HOD6.out).mono ?_ | refine (hT2.out _ ODs.out).mono ?_); rintro e wz ⟨rfl, rfl⟩))
    all_goals
      go_wp2
      go_meet
      first
      | exact ⟨_, rfl, rfl, rfl, rfl, rfl, rfl, F1⟩
      | exact ⟨_, rfl, rfl, rfl, rfl, rfl, rfl, F2⟩
  case rest =>
    obtain ⟨⟨L7, LA7, Lc7, D7, DA7, Dc7, R7, RA7, Rc7, O7, OA7, Oc7, h7⟩, e1, e2, e3, e4, e5, e6, S7⟩ := hcut
    simp only at e1 e2 e3 e4 e5 e6
    subst e1 e2 e3 e4 e5 e6
    clear HOL6 HOD6 OLs ODs F1 F2 D6 OLd ODd hT1 hT2 hPL hPD OL OD S6 k0 k1 fz6 hgp6
    have k0 := S7.out.c0.1
    have k1 := S7.out.c0.2.1
    simp only at k0 k1
    have hgp7 := S7.out.z.lt
    obtain ⟨x, hx⟩ : ∃ x, x = L7 ++ D7 := ⟨_, rfl⟩
    have hxl : x.length ≤ 316 := by have := Hn1.out; have := Hn2.out; rw [hx, List.length_append]; omega
    have Hx := hid hx
    have hbL : ∀ y ∈ x, 0 ≤ y ∧ y ≤ 15 := by
      intro y hy
      rw [hx] at hy
      rcases List.mem_append.1 hy with h | h
      · rw [HLt.out, HLb.out] at h
        have h1 := best_bd (c := twoM c1) (K := 14) (Nat.le_trans (itemsOf_le _) (by rw [twoM_len, e286]; decide)) y (by rw [twoM_len, e286]; exact trim_mem h)
        omega
      · rw [HDt.out, HDb.out] at h
        have h1 := best_bd (c := c2) (K := 14) (Nat.le_trans (itemsOf_le _) (by rw [e30]; decide)) y (by rw [e30]; exact trim_mem h)
        omega
    have HbL := hid hbL
    have hcat := cat2_any wc LA7 DA7 Lc7 Dc7 L7 D7 x hx (own_rdi S7.out.ol) (own_rdi S7.out.od) (by omega)
    clear hx hbL
    go_wp2_with fail
    refine hcat.mono ?_
    rintro e w8 ⟨A8, c8, rfl, ho8, hb8⟩
    have S8 := hid (S7.out.below hb8)
    have hrun := BlockRuns.runs_good A8 c8 x w8 (own_rdi ho8) (by omega) (by
      rw [List.any_eq_false]
      intro y hy
      have := HbL.out y hy
      rw [BlockRuns.badl_false.2 this]
      decide)
    have hgp8 := S8.out.z.lt
    clear k0 k1 hcat ho8 hb8 S7
    go_wp2_with fail
    refine hrun.mono ?_
    rintro e w9 ⟨o, A9, c9, ho, rfl, hown, hb9⟩
    have S9 := hid (S8.out.below hb9)
    have O9 := own_base hown S8.out.low.size
    have S10 := hid (S9.out.set2 rfl O9)
    have hgp9 := S9.out.z.lt
    have fz9 := fun q => S9.out.z.frozen q
    have k2 := S9.out.c0.2.2.1
    have HR := hid (show o = runM2 (L7 ++ D7) by rw [ho, ← Hx.out]; rfl)
    have hol : o.length ≤ 316 := by
      have := (BlockRuns.runs_back x.length [] x (Nat.le_refl _) HbL.out).2
      rw [ho]
      exact Nat.le_trans this hxl
    have Hsy := hid (show ∀ r ∈ o, 0 ≤ r.1 ∧ r.1 ≤ 18 from by rw [ho]; exact run_sym HbL.out _ _ _ fun y hy => hy)
    clear hrun hown hb9 O9 ho S8
    go_upto_region 12 with (fail)
    generalize w9.setCell ⟨gp, 2, none⟩ (.slice A9 o.length c9) = w10 at *
    clear k2 fz9 hgp8
    go_wp2_with fail
    refine (order10_any _).mono ?_
    rintro e w11 ⟨gord, rfl, _, _, hb11⟩
    have S11 := hid (S10.out.below hb11)
    obtain ⟨i0, hi0, hz0, hz1, hz2⟩ := info_parts int_info
    obtain ⟨Z, hZ⟩ : ∃ Z, Z = Array.replicate 19 (Value.int .i64 0) := ⟨_, rfl⟩
    have mk : ∀ w : World, (Instr.makeSlice 48 (.int .i64 19) (.int .i64 19)).run Try.prog w = .ok (.slice (some ⟨w.heap.size, 0, none⟩) 19 19) (w.alloc (.cells Z 3)) := by
      intro w
      have h := run_make (P := Try.prog) w 48 3 i0 (.int .i64 0) Try.underlying48 hi0 hz0 .i64 .i64 19 19 (by omega) (by omega) (by rw [hz2]; omega) (by omega)
      rw [hz1, made_list _ _ rfl, List.toArray_replicate] at h
      rw [hZ]
      exact h
    have HZ := hid (hZ.trans (zrow 19).symm)
    have Ba := hid ((Below.refl w11.heap.size w11).alloc (Nat.le_refl _) (.cells Z 3))
    have Bz := hid (Blk.new w11 3 Z)
    have S12 := hid (S11.out.below Ba.out)
    have k2 := S12.out.c0.2.2.1
    simp only at k2
    have hgp11 := S11.out.z.lt
    have hgp12 := S12.out.z.lt
    clear hi0 hz0 hz1 hz2 hZ hb11 S10 S9
    go_upto_region 13 with (fail)
    generalize w11.alloc (.cells Z 3) = w12 at *
    have HBz := hid (show Blk w12 w11.heap.size 3 (intsV (List.replicate 19 0)).toArray by rw [← HZ.out]; exact Bz.out)
    clear mk HZ Bz
    obtain ⟨gc, hgc⟩ : ∃ gc, gc = w11.heap.size := ⟨_, rfl⟩
    rw [← hgc] at HBz ⊢
    have hgcw := HBz.out.lt
    have hgpc : gp ≠ gc := by omega
    have hgcl : w11.heap.size ≤ gc := by omega
    clear hgc
    go_wp2
    clear k2
    go_loopw [68] (fun i wr => ∃ (j : Nat) (cs : List Int), j ≤ o.length ∧ i = .int .i64 (j : Int) ∧ Hid (cs = (o.take j).foldl (fun c r => incL c r.1.toNat) (List.replicate 19 0)) ∧ Hid (cntB cs j) ∧ Hid (cs.length = 19) ∧ Hid (Blk wr gc 3 (intsV cs).toArray) ∧ Hid (Below w11.heap.size w11 wr)) (fun i _ => o.length - (intOf i).toNat)
    case atStart => exact ⟨0, List.replicate 19 0, by omega, rfl, hid (by rw [List.take_zero]; rfl), hid (fun y hy => by have := List.eq_of_mem_replicate hy; omega), hid (by rw [List.length_replicate]), HBz, Ba⟩
    case round =>
      obtain ⟨j, cs, hj, rfl, Hcs, Hcb, Hcl, Bc, hb⟩ := hrel
      by_cases hlt : j < o.length
      · have Rr : Rd wr wr.heap.size 2 A9 o.length (o.flatMap encTok) := own_rd (S11.out.below hb.out).or_
        obtain ⟨b, off, rfl, hbb, h0, h1⟩ := tok_at Rr hlt
        have hs := Hsy.out _ (List.getElem_mem hlt)
        have hstep : (o.take (j + 1)).foldl (fun c r => incL c r.1.toNat) (List.replicate 19 0) = incL cs o[j].1.toNat := by
          rw [List.take_succ_eq_append_getElem hlt, List.foldl_append, ← Hcs.out]
          rfl
        obtain ⟨t, htj⟩ : ∃ t, o[j] = t := ⟨_, rfl⟩
        rw [htj] at h0 h1 hs hstep
        obtain ⟨s, ee⟩ := t
        simp only at h0 h1 hs hstep
        obtain ⟨q, rfl⟩ : ∃ q : Nat, s = (q : Int) := ⟨s.toNat, by omega⟩
        rw [Int.toNat_natCast] at hstep
        have hq18 : q ≤ 18 := by omega
        have hsz := hb.out.size
        have hgcr := Bc.out.lt
        have Hba := hid (hb.out.alloc hsz (.cells #[.int .i64 (q : Int), .int .i64 ee] 107))
        have Ca := hid (Bc.out.alloc (.cells #[.int .i64 (q : Int), .int .i64 ee] 107))
        have Zb := hid (Blk.new wr 107 #[.int .i64 (q : Int), .int .i64 ee])
        have Hst := hid hstep
        clear htj hstep Rr
        go_upto_region 16 with (fail)
        generalize wr.alloc (.cells #[.int .i64 (q : Int), .int .i64 ee] 107) = wz at *
        clear Bc hb h0 h1
        generalize wr.heap.size = gz at *
        have z0 := Zb.out.cell 0
        have z3 := Zb.out.lt
        simp only [List.getElem?_toArray, List.getElem?_cons_zero] at z0
        have hgcz := Ca.out.lt
        have fz := fun i => Ca.out.frozen i
        have q0 := blkI_at Ca.out (s := q) (by rw [Hcl.out]; omega)
        have hbd := cntB_at Hcb.out (by omega) q
        obtain ⟨y, hy⟩ : ∃ y, y = cs.getD q 0 := ⟨_, rfl⟩
        rw [← hy] at q0 hbd
        have E := hid (show cs.set q (y + 1) = (o.take (j + 1)).foldl (fun c r => incL c r.1.toNat) (List.replicate 19 0) by rw [Hst.out, hy]; rfl)
        have Ecb := hid (show cntB (cs.set q (y + 1)) ((j + 1 : Nat) : Int) by
          have := cntB_inc Hcb.out (by omega) q
          rw [hy]
          push_cast
          exact this)
        have C2 := hid (blkI_set Ca.out q (y + 1))
        have Hb2 := hid (Hba.out.setCell (p := ⟨gc, q, none⟩) hgcl (.int .i64 (y + 1)))
        have hyy : y + 1 ≤ 1000 := by omega
        have hne2 : gz ≠ gc := by omega
        clear hy
        go_wp2
        go_roundw
        case rel => exact ⟨j + 1, cs.set q (y + 1), by omega, by go_num, E, Ecb, hid (by rw [List.length_set]; exact Hcl.out), C2, Hb2⟩
        case measure => simp [intOf]; omega
      · have e : j = o.length := by omega
        subst e
        have HO := hid (show cs = oneC o by have := Hcs.out; rw [List.take_length] at this; exact this)
        have S13 := hid (S11.out.below hb.out)
        have hgw := Bc.out.lt
        have e19 := Hcl.out
        have c2 := two10_any gc 19 cs wr Bc.out (by omega) (by omega) (fun y hy => (Hcb.out y hy).1)
        rw [e19] at c2
        go_wp2_with fail
        refine c2.mono ?_
        rintro e w14 ⟨rfl, hB14, hO14⟩
        have S14 := hid (S11.out.below (hb.out.trans (hO14.low hgcl)))
        have H2 := hid (two_bd (b := 1 + (o.length : Int)) (by omega) (k := 2 - usedN cs) (fun y hy => by have := Hcb.out y hy; omega))
        have hcO := lengths_best (W := w14) (A := some ⟨gc, 0, none⟩) (c := 19) (l := twoM cs) 6 (blkI_rd hB14) (good_of (b := 1 + (o.length : Int)) (by rw [twoM_len, e19]; omega) (by omega) H2.out) (by omega) (Nat.le_trans (itemsOf_le _) (by rw [twoM_len, e19]; decide))
        rw [twoM_len, e19, show ((6 + 1 : Nat) : Int) = 7 from rfl] at hcO
        clear c2 hB14 hO14 H2 S13 Bc hb
        go_wp2_with fail
        refine hcO.mono ?_
        rintro e w15 ⟨A15, c15, rfl, ho15, hb15⟩
        have S15 := hid (S14.out.below hb15)
        have O15 := own_base ho15 S14.out.low.size
        obtain ⟨Ob, hOb⟩ : ∃ L, L = bestLs (itemsOf (twoM cs)) 6 19 := ⟨_, rfl⟩
        rw [← hOb] at O15
        have hOn : Ob.length = 19 := by rw [hOb, bestLs_len]
        have HOb := hid (show Ob = oneM o by unfold oneM; rw [hOb, HO.out])
        have hOb7 : ∀ y ∈ Ob, 0 ≤ y ∧ y ≤ 7 := by
          intro y hy
          rw [hOb] at hy
          exact best_bd (c := twoM cs) (K := 6) (Nat.le_trans (itemsOf_le _) (by rw [twoM_len, e19]; decide)) y (by rw [twoM_len, e19]; exact hy)
        have HOb7 := hid hOb7
        have S16 := hid (S15.out.set3 hOn O15)
        have hgp15 := S15.out.z.lt
        have fz15 := fun q => S15.out.z.frozen q
        have k3 := S15.out.c0.2.2.2.1
        clear hcO ho15 hb15 O15 hOb hOb7 S15 S14
        go_upto_region 21 with (fail)
        generalize w15.setCell ⟨gp, 3, none⟩ (.slice A15 19 c15) = w16 at *
        clear k3 fz15 hgp15
        have q0 := S16.out.c0.1
        have q1 := S16.out.c0.2.1
        have q2 := S16.out.c0.2.2.1
        have q3 := S16.out.c0.2.2.2.1
        have q4 := S16.out.c0.2.2.2.2
        simp only at q0 q1 q2 q3 q4
        rw [hOn] at q3
        have hgp16 := S16.out.z.lt
        have ROb : RdI w16 w16.heap.size A15 Ob := own_rdi S16.out.oo
        have cW := written10_any (.slice LA7 L7.length Lc7) (.slice DA7 D7.length Dc7) (.slice A9 o.length c9) (.int .i64 h7) A15 c15 Ob w16 ROb hOn
        obtain ⟨wn, hwn⟩ : ∃ n, n = wrN Ob 19 := ⟨_, rfl⟩
        rw [← hwn] at cW
        have Hwn := hid hwn
        have hwn19 : wn ≤ 19 := by rw [hwn]; exact wrN_le Ob 19
        clear hwn
        go_wp2_with fail
        refine cW.mono ?_
        rintro e w17 ⟨rfl, hb17⟩
        have S17 := hid (S16.out.below hb17)
        have S18 := hid (S17.out.set4 (14 + 3 * (wn : Int)))
        have hgp17 := S17.out.z.lt
        have fz17 := fun q => S17.out.z.frozen q
        have r4 := S17.out.c0.2.2.2.2
        clear q0 q1 q2 q3 q4 cW hb17 S16 S17 hgp16 ROb
        go_upto_region 22 with (fail)
        generalize w17.setCell ⟨gp, 4, none⟩ (.int .i64 (14 + 3 * (wn : Int))) = w18 at *
        have q2 := S18.out.c0.2.2.1
        simp only at q2
        have hgp18 := S18.out.z.lt
        clear r4 fz17 hgp17
        go_wp2
        clear q2 hgp18
        go_loopw [99] (fun i wr => ∃ (j : Nat) (x : Int), j ≤ o.length ∧ i = .int .i64 (j : Int) ∧ 0 ≤ x ∧ x ≤ 100 + 30 * j ∧ Hid (x = 14 + 3 * (wn : Int) + ((o.take j).map (runBits Ob)).sum) ∧ Hid (OwnS W wr gp ⟨L7, LA7, Lc7, D7, DA7, Dc7, o, A9, c9, Ob, A15, c15, x⟩)) (fun i _ => o.length - (intOf i).toNat)
        case atStart => exact ⟨0, 14 + 3 * (wn : Int), by omega, rfl, by omega, by omega, hid (by simp), S18⟩
        case round =>
          obtain ⟨j, x, hj, rfl, hx0, hx1, Hx2, S⟩ := hrel
          by_cases hlt : j < o.length
          · have Rr : Rd wr wr.heap.size 2 A9 o.length (o.flatMap encTok) := own_rd S.out.or_
            obtain ⟨b, off, rfl, hbb, h0, h1⟩ := tok_at Rr hlt
            have hs := Hsy.out _ (List.getElem_mem hlt)
            have hstep : 14 + 3 * (wn : Int) + ((o.take (j + 1)).map (runBits Ob)).sum = x + runBits Ob o[j] := by
              rw [List.take_succ_eq_append_getElem hlt, List.map_append, List.sum_append, Hx2.out]
              simp
              omega
            obtain ⟨t, htj⟩ : ∃ t, o[j] = t := ⟨_, rfl⟩
            rw [htj] at h0 h1 hs hstep
            obtain ⟨s, ee⟩ := t
            simp only at h0 h1 hs hstep
            obtain ⟨q, rfl⟩ : ∃ q : Nat, s = (q : Int) := ⟨s.toNat, by omega⟩
            have hq18 : q ≤ 18 := by omega
            unfold runBits at hstep
            simp only at hstep
            rw [Int.toNat_natCast] at hstep
            have hOq := cntB_at (b := 7) HOb7.out (by omega) q
            have hrb : 0 ≤ rb (q : Int) ∧ rb (q : Int) ≤ 7 := by unfold rb; (repeat' split) <;> omega
            have cR := reach_any (q : Int)
            have S1 := hid (S.out.below ((Below.refl wr.heap.size wr).alloc (Nat.le_refl _) (.cells #[.int .i64 (q : Int), .int .i64 ee] 107)))
            have Zb := hid (Blk.new wr 107 #[.int .i64 (q : Int), .int .i64 ee])
            have hgpr := S.out.z.lt
            have E := hid hstep
            clear htj Rr hstep S
            go_upto_region 25 with (fail)
            generalize wr.alloc (.cells #[.int .i64 (q : Int), .int .i64 ee] 107) = wz at *
            clear h0 h1
            generalize wr.heap.size = gz at *
            have z0 := Zb.out.cell 0
            have z3 := Zb.out.lt
            simp only [List.getElem?_toArray, List.getElem?_cons_zero] at z0
            generalize rl (q : Int) = rl0 at *
            generalize rb (q : Int) = rb0 at *
            go_wp2_with fail
            refine (cR _).mono ?_
            rintro e w19 ⟨rfl, rfl⟩
            have q3 := S1.out.c0.2.2.2.1
            have q4 := S1.out.c0.2.2.2.2
            simp only at q3 q4
            have RO : RdI w19 w19.heap.size A15 Ob := own_rdi S1.out.oo
            have hq19 : q < 19 := by omega
            obtain ⟨bo, oo, hA, _, p0⟩ := int_at RO (j := q) (by omega)
            subst hA
            rw [getD_at] at p0
            rw [hOn] at q3
            generalize Ob.getD q 0 = y at *
            have hgpz := S1.out.z.lt
            have fz := fun q => S1.out.z.frozen q
            have S2 := hid ((S1.out.below (Below.refl _ _).drew).set4 (x + (y + rb0)))
            have hbog : bo ≠ gp := by
              intro h
              have h2 := own_blk_ne S1.out.oo S1.out.z (by decide)
              simp only at h2
              exact h2 (by rw [h]; rfl)
            clear RO hbb
            go_upto_region 26 with (fail)
            go_region
            go_wp2
            go_roundw
            case rel => exact ⟨j + 1, x + (y + rb0), by omega, by go_num, by omega, by omega, hid E.out.symm, S2⟩
            case measure => simp [intOf]; omega
          · have e : j = o.length := by omega
            subst e
            have EH := hid (show x = headM (ownM l) by
              have h1 : litM l = L7 := by unfold litM; rw [Hcm.out, ← HLb.out, ← HLt.out]
              have h2 : dstM l = D7 := by unfold dstM; rw [Hcm.out, ← HDb.out, ← HDt.out]
              have h3 : (ownM l).R = o := by unfold ownM; rw [h1, h2]; exact HR.out.symm
              have h4 : (ownM l).O = Ob := by rw [HOb.out]; unfold ownM; rw [h1, h2, ← HR.out]
              unfold headM
              rw [h3, h4, ← Hwn.out, Hx2.out, List.take_length])
            have E1 := hid (show L7 = (ownM l).L by show L7 = litM l; unfold litM; rw [Hcm.out, ← HLb.out, ← HLt.out])
            have E2 := hid (show D7 = (ownM l).D by show D7 = dstM l; unfold dstM; rw [Hcm.out, ← HDb.out, ← HDt.out])
            have E3 := hid (show o = (ownM l).R by show o = runM2 (litM l ++ dstM l); rw [HR.out]; congr 1; rw [E1.out, E2.out]; rfl)
            have E4 := hid (show Ob = (ownM l).O by rw [HOb.out, E3.out]; rfl)
            have q0 := S.out.c0.1
            have q1 := S.out.c0.2.1
            have q2 := S.out.c0.2.2.1
            have q3 := S.out.c0.2.2.2.1
            have q4 := S.out.c0.2.2.2.2
            simp only at q0 q1 q2 q3 q4
            have hgpr := S.out.z.lt
            have fz := fun q => S.out.z.frozen q
            have SE := hid (S.out.again)
            clear HB Hlen Hcm HLb HDb HLt HDt Hsy HbL
            go_wp2
            have SE := SE.out
            simp only [hOn] at SE
            generalize (((((wr.setCell ⟨gp, 0, none⟩ (.slice LA7 L7.length Lc7)).setCell ⟨gp, 1, none⟩ (.slice DA7 D7.length Dc7)).setCell ⟨gp, 2, none⟩ (.slice A9 o.length c9)).setCell ⟨gp, 3, none⟩ (.slice A15 19 c15)).setCell ⟨gp, 4, none⟩ (.int .i64 x)) = wE at *
            have r0 := SE.c0.1
            have r1 := SE.c0.2.1
            have r2 := SE.c0.2.2.1
            have r3 := SE.c0.2.2.2.1
            have r4 := SE.c0.2.2.2.2
            simp only at r0 r1 r2 r3 r4
            rw [hOn] at r3
            refine bodyPost_ret (v := .tuple #[.agg #[.slice LA7 L7.length Lc7, .slice DA7 D7.length Dc7, .slice A9 o.length c9, .slice A15 19 c15, .int .i64 x], .nilIface]) (by simp [results, Try.results43, go_sem, r0, r1, r2, r3, r4]) rfl ?_
            exact ⟨⟨L7, LA7, Lc7, D7, DA7, Dc7, o, A9, c9, Ob, A15, c15, x⟩, by unfold PlV.cs; simp only [hOn], E1.out, E2.out, E3.out, E4.out, EH.out, SE.plr, SE.low⟩
end Go.Proofs.Ythhllollhjpheaa
