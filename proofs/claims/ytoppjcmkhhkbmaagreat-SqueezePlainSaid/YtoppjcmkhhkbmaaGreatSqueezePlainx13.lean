/-
  block.own: the plan of kind 2.
  Plans, plainly: every symbol that is written has a code.
  burnishref06.Good and Expand: what they return.
-/
import Derived.Test.YtoppjcmkhhkbmaaGreatSqueezePlainx4
import Derived.Test.YtoppjcmkhhkbmaaGreatSqueezePlainx10
import Derived.Test.YtoppjcmkhhkbmaaGreatSqueezePlainx12
import Derived.Deep.RegionHeld3
namespace Go.Proofs.YtoppjcmkhhkbmaaGreat
open Go.RowKit

theorem own_pre {w : World} {base k n c : Nat} {e : TypeId} {A : Option Addr} {xs : List Value} (h : w.ownsRow base e 1 (.slice A n c) n xs) (hk : k ≤ n) : w.ownsRow base e 1 (.slice A k c) k (xs.take k) := by
  obtain ⟨h1, h2⟩ := h
  refine ⟨by rw [List.length_take]; omega, ?_⟩
  rcases h2 with ⟨hv, h0⟩ | ⟨g, cap, cur, hv, hb, hg, hn, hm, hs, ht⟩
  · injection hv with hA _ hc
    subst hA hc
    have : k = 0 := by omega
    subst this
    exact .inl ⟨rfl, rfl⟩
  · injection hv with hA _ hc
    subst hA hc
    refine .inr ⟨g, c, cur, rfl, hb, hg, by omega, hm, hs, ?_⟩
    rw [← ht, List.take_take]
    congr 1
    omega
theorem own_capB {w : World} {base t sz n c : Nat} {A : Option Addr} {xs : List Value} (h : w.ownsRow base t sz (.slice A n c) n xs) : n ≤ c := by
  rcases h.2 with ⟨h1, h2⟩ | ⟨g, cap, cur, h1, _, _, h3, _⟩
  · omega
  · injection h1 with h1 h4 h5
    omega
/-- the plan under way: its block, its rows -/
structure OwnS (W w : World) (gp : Nat) (p : PlV) : Prop where
  z : Blk w gp 100 p.cs
  ol : w.ownsRow W.heap.size 3 1 (.slice p.LA p.L.length p.Lc) p.L.length (intsV p.L)
  od : w.ownsRow W.heap.size 3 1 (.slice p.DA p.D.length p.Dc) p.D.length (intsV p.D)
  or_ : w.ownsRow W.heap.size 195 2 (.slice p.RA p.R.length p.Rc) p.R.length (p.R.flatMap encTok)
  oo : w.ownsRow W.heap.size 3 1 (.slice p.OA p.O.length p.Oc) p.O.length (intsV p.O)
  low : Below W.heap.size W w
  gb : W.heap.size ≤ gp
def pl0 : PlV := ⟨[], none, 0, [], none, 0, [], none, 0, [], none, 0, 0⟩
theorem OwnS.start (W : World) : OwnS W (W.alloc (.cells pl0.cs 100)) W.heap.size pl0 :=
  ⟨Blk.new _ _ _, World.ownsRow_nil _ _ _ _, World.ownsRow_nil _ _ _ _, World.ownsRow_nil _ _ _ _, World.ownsRow_nil _ _ _ _, (Below.refl _ _).alloc (Nat.le_refl _) _, Nat.le_refl _⟩
theorem OwnS.below {W w w' : World} {gp : Nat} {p : PlV} (h : OwnS W w gp p) (hb : Below w.heap.size w w') : OwnS W w' gp p :=
  ⟨h.z.below hb h.z.lt, own_below h.ol hb (Nat.le_refl _), own_below h.od hb (Nat.le_refl _), own_below h.or_ hb (Nat.le_refl _), own_below h.oo hb (Nat.le_refl _), h.low.trans (hb.mono h.low.size), h.gb⟩
theorem row_set {w : World} {base t sz n gp : Nat} {v : Value} {xs : List Value} {cs : Array Value} (ho : w.ownsRow base t sz v n xs) (hz : Blk w gp 100 cs) (ht : t ≠ 100) (i : Nat) (u : Value) : (w.setCell ⟨gp, i, none⟩ u).ownsRow base t sz v n xs :=
  ownsRow_setCell_other ho (fun e => own_blk_ne ho hz ht e.symm) u
theorem OwnS.set0 {W w : World} {gp n : Nat} {p : PlV} (h : OwnS W w gp p) {L : List Int} {A : Option Addr} {c : Nat} (hn : L.length = n) (ho : w.ownsRow W.heap.size 3 1 (.slice A n c) n (intsV L)) : OwnS W (w.setCell ⟨gp, 0, none⟩ (.slice A n c)) gp { p with L := L, LA := A, Lc := c } := by
  subst hn
  exact ⟨h.z.set_ 0 _, row_set ho h.z (by decide) _ _, row_set h.od h.z (by decide) _ _, row_set h.or_ h.z (by decide) _ _, row_set h.oo h.z (by decide) _ _, h.low.setCell (p := ⟨gp, 0, none⟩) h.gb _, h.gb⟩
theorem OwnS.set1 {W w : World} {gp n : Nat} {p : PlV} (h : OwnS W w gp p) {L : List Int} {A : Option Addr} {c : Nat} (hn : L.length = n) (ho : w.ownsRow W.heap.size 3 1 (.slice A n c) n (intsV L)) : OwnS W (w.setCell ⟨gp, 1, none⟩ (.slice A n c)) gp { p with D := L, DA := A, Dc := c } := by
  subst hn
  exact ⟨h.z.set_ 1 _, row_set h.ol h.z (by decide) _ _, row_set ho h.z (by decide) _ _, row_set h.or_ h.z (by decide) _ _, row_set h.oo h.z (by decide) _ _, h.low.setCell (p := ⟨gp, 1, none⟩) h.gb _, h.gb⟩
theorem OwnS.set2 {W w : World} {gp n : Nat} {p : PlV} (h : OwnS W w gp p) {R : List (Int × Int)} {A : Option Addr} {c : Nat} (hn : R.length = n) (ho : w.ownsRow W.heap.size 195 2 (.slice A n c) n (R.flatMap encTok)) : OwnS W (w.setCell ⟨gp, 2, none⟩ (.slice A n c)) gp { p with R := R, RA := A, Rc := c } := by
  subst hn
  exact ⟨h.z.set_ 2 _, row_set h.ol h.z (by decide) _ _, row_set h.od h.z (by decide) _ _, row_set ho h.z (by decide) _ _, row_set h.oo h.z (by decide) _ _, h.low.setCell (p := ⟨gp, 2, none⟩) h.gb _, h.gb⟩
theorem OwnS.set3 {W w : World} {gp n : Nat} {p : PlV} (h : OwnS W w gp p) {L : List Int} {A : Option Addr} {c : Nat} (hn : L.length = n) (ho : w.ownsRow W.heap.size 3 1 (.slice A n c) n (intsV L)) : OwnS W (w.setCell ⟨gp, 3, none⟩ (.slice A n c)) gp { p with O := L, OA := A, Oc := c } := by
  subst hn
  exact ⟨h.z.set_ 3 _, row_set h.ol h.z (by decide) _ _, row_set h.od h.z (by decide) _ _, row_set h.or_ h.z (by decide) _ _, row_set ho h.z (by decide) _ _, h.low.setCell (p := ⟨gp, 3, none⟩) h.gb _, h.gb⟩
theorem OwnS.set4 {W w : World} {gp : Nat} {p : PlV} (h : OwnS W w gp p) (x : Int) : OwnS W (w.setCell ⟨gp, 4, none⟩ (.int .i64 x)) gp { p with h := x } :=
  ⟨h.z.set_ 4 _, row_set h.ol h.z (by decide) _ _, row_set h.od h.z (by decide) _ _, row_set h.or_ h.z (by decide) _ _, row_set h.oo h.z (by decide) _ _, h.low.setCell (p := ⟨gp, 4, none⟩) h.gb _, h.gb⟩
theorem OwnS.ok {W w : World} {gp : Nat} {p : PlV} (h : OwnS W w gp p) : PlOk w p := ⟨own_rdi h.ol, own_rdi h.od, own_rd h.or_, own_rdi h.oo⟩
theorem OwnS.c0 {W w : World} {gp : Nat} {p : PlV} (h : OwnS W w gp p) : w.cell? ⟨gp, 0, none⟩ = some (.slice p.LA p.L.length p.Lc) ∧ w.cell? ⟨gp, 1, none⟩ = some (.slice p.DA p.D.length p.Dc) ∧ w.cell? ⟨gp, 2, none⟩ = some (.slice p.RA p.R.length p.Rc) ∧ w.cell? ⟨gp, 3, none⟩ = some (.slice p.OA p.O.length p.Oc) ∧ w.cell? ⟨gp, 4, none⟩ = some (.int .i64 p.h) :=
  ⟨h.z.cell 0, h.z.cell 1, h.z.cell 2, h.z.cell 3, h.z.cell 4⟩
theorem wrN_le (O : List Int) : ∀ n, wrN O n ≤ n
  | 0 => Nat.le_refl _
  | n + 1 => by
    unfold wrN
    split
    · have := wrN_le O n; omega
    · exact Nat.le_refl _
theorem OwnS.again {W w : World} {gp : Nat} {p : PlV} (h : OwnS W w gp p) : OwnS W (((((w.setCell ⟨gp, 0, none⟩ (.slice p.LA p.L.length p.Lc)).setCell ⟨gp, 1, none⟩ (.slice p.DA p.D.length p.Dc)).setCell ⟨gp, 2, none⟩ (.slice p.RA p.R.length p.Rc)).setCell ⟨gp, 3, none⟩ (.slice p.OA p.O.length p.Oc)).setCell ⟨gp, 4, none⟩ (.int .i64 p.h)) gp p := by
  have h0 := h.set0 rfl h.ol
  have h1 := h0.set1 rfl h0.od
  have h2 := h1.set2 rfl h1.or_
  have h3 := h2.set3 rfl h2.oo
  exact h3.set4 p.h
/-- a plan's rows, each its own -/
structure PlR (w : World) (p : PlV) : Prop where
  ol : w.ownsRow 0 3 1 (.slice p.LA p.L.length p.Lc) p.L.length (intsV p.L)
  od : w.ownsRow 0 3 1 (.slice p.DA p.D.length p.Dc) p.D.length (intsV p.D)
  or_ : w.ownsRow 0 195 2 (.slice p.RA p.R.length p.Rc) p.R.length (p.R.flatMap encTok)
  oo : w.ownsRow 0 3 1 (.slice p.OA p.O.length p.Oc) p.O.length (intsV p.O)
theorem OwnS.plr {W w : World} {gp : Nat} {p : PlV} (h : OwnS W w gp p) : PlR w p := ⟨own_base h.ol (Nat.zero_le _), own_base h.od (Nat.zero_le _), own_base h.or_ (Nat.zero_le _), own_base h.oo (Nat.zero_le _)⟩
theorem PlR.below {w w' : World} {p : PlV} (h : PlR w p) (hb : Below w.heap.size w w') : PlR w' p := ⟨own_below h.ol hb (Nat.le_refl _), own_below h.od hb (Nat.le_refl _), own_below h.or_ hb (Nat.le_refl _), own_below h.oo hb (Nat.le_refl _)⟩
theorem PlR.ok {w : World} {p : PlV} (h : PlR w p) : PlOk w p := ⟨own_rdi h.ol, own_rdi h.od, own_rd h.or_, own_rdi h.oo⟩
def OwnEnd (l : List (Int × Int)) (W : World) (e : Ending) (w' : World) : Prop :=
  ∃ p : PlV, e = .returned (.tuple #[.agg p.cs, .nilIface]) ∧ p.L = (ownM l).L ∧ p.D = (ownM l).D ∧ p.R = (ownM l).R ∧ p.O = (ownM l).O ∧ p.h = headM (ownM l) ∧ PlR w' p ∧ Below W.heap.size W w'
theorem parts2 (w : World) (A1 A2 : Option Addr) (n1 n2 c1 c2 : Nat) (xs ys : List Int) (h1 : Rd w w.heap.size 1 A1 n1 (intsV xs)) (h2 : Rd w w.heap.size 1 A2 n2 (intsV ys)) :
    PartsCI (w.alloc (.cells #[.slice A1 n1 c1, .slice A2 n2 c2] 65)) (w.alloc (.cells #[.slice A1 n1 c1, .slice A2 n2 c2] 65)).heap.size w.heap.size [(A1, n1, c1), (A2, n2, c2)] [intsV xs, intsV ys] := by
  have hb := (Below.refl w.heap.size w).alloc (Nat.le_refl _) (.cells #[.slice A1 n1 c1, .slice A2 n2 c2] 65)
  refine ⟨Blk.new _ _ _, rfl, ?_⟩
  intro k s l hs hl
  rcases k with _ | _ | k
  · injection hs with hs; injection hl with hl; subst hs hl; exact ⟨rd_up h1 hb, intsV_cells⟩
  · injection hs with hs; injection hl with hl; subst hs hl; exact ⟨rd_up h2 hb, intsV_cells⟩
  · simp at hs
theorem cat2_any (W : World) (A1 A2 : Option Addr) (c1 c2 : Nat) (xs ys x : List Int) (hx : x = xs ++ ys) (h1 : RdI W W.heap.size A1 xs) (h2 : RdI W W.heap.size A2 ys) (hm : x.length ≤ 100000) :
    Calls Tryz.prog 122 #[.slice (some ⟨W.heap.size, 0, none⟩) 2 2] (W.alloc (.cells #[.slice A1 xs.length c1, .slice A2 ys.length c2] 65)) fun e w' => ∃ A c, e = .returned (.slice A x.length c) ∧ w'.ownsRow W.heap.size 3 1 (.slice A x.length c) x.length (intsV x) ∧ Below W.heap.size W w' := by
  have ef : [intsV xs, intsV ys].flatten = intsV x := by
    rw [hx]
    simp [intsV]
  unfold RdI at h1 h2
  rw [intsV_eq] at h1 h2
  have hp := parts2 W A1 A2 xs.length ys.length c1 c2 xs ys h1 h2
  have h := concatI_any W.heap.size 2 x.length _ _ _ hp (by simp) (by rw [ef, intsV_length, Nat.mul_one]) (by omega)
  rw [ef] at h
  have hb := (Below.refl W.heap.size W).alloc (Nat.le_refl _) (.cells #[.slice A1 xs.length c1, .slice A2 ys.length c2] 65)
  refine h.mono ?_
  rintro e w' ⟨A, c, rfl, ho, hb2⟩
  exact ⟨A, c, rfl, own_base ho hb.size, hb.trans (hb2.mono hb.size)⟩
set_option maxRecDepth 100000 in
set_option maxHeartbeats 8000000 in
theorem own10_any (A : Option Addr) (c : Nat) (l : List (Int × Int)) (W : World) (hr : Rd W W.heap.size 2 A l.length (l.flatMap encTok)) (hm : l.length ≤ 1000000) (hg : ∀ t ∈ l, tgood t = true) :
    Calls Tryz.prog 79 #[.slice A l.length c] W (OwnEnd l W) := by
  have S0 := hid (OwnS.start W)
  have hcount := fun w (hb : Below W.heap.size W w) => count10_any A c l w (rd_up hr hb) hm hg
  have Hcnt := hid hcount
  clear hr hg hcount
  go_enter Tryz.func79, Tryz.ntmps79
  go_upto_region 1 with (fail)
  have e0 : (Obj.cells #[.slice none 0 0, .slice none 0 0, .slice none 0 0, .slice none 0 0, .int .i64 0] 100) = .cells pl0.cs 100 := rfl
  rw [e0]
  clear e0
  generalize W.alloc (.cells pl0.cs 100) = w0 at *
  have hcc := Hcnt.out w0 S0.out.low
  obtain ⟨gp, hgp⟩ : ∃ gp, gp = W.heap.size := ⟨_, rfl⟩
  rw [← hgp] at S0
  rw [← hgp]
  clear hgp Hcnt
  go_wp2_with fail
  refine hcc.mono ?_
  rintro e w1 ⟨g1, g2, rfl, hg1, hg2, hne, hC, hb1⟩
  have hgp0 := S0.out.z.lt
  obtain ⟨c1, c2, hcm⟩ : ∃ c1 c2, cntM l = (c1, c2) := ⟨_, _, rfl⟩
  have hB := cntM_B l
  have hlen := cnt_len l
  rw [hcm] at hC hB hlen
  simp only at hB hlen
  have Hcm := hid hcm
  have B1 := hid hC.1
  have B2 := hid hC.2
  have Hlen := hid hlen
  have HB := hid hB
  clear hcc hC hcm hlen hB
  have e286 := Hlen.out.1
  have e30 := Hlen.out.2
  have c2any := two10_any g1 286 c1 w1 B1.out (by omega) (by omega) (fun x hx => (HB.out.1 x hx).1)
  rw [e286] at c2any
  go_wp2_with fail
  refine c2any.mono ?_
  rintro e w2 ⟨rfl, hB1, hO⟩
  have S2 := hid (S0.out.below (hb1.trans (hO.low hg1)))
  have B2' := hid (hO.blk B2.out (fun e => hne e.symm))
  have H2 := hid (two_bd (b := 1 + (l.length : Int)) (by omega) (k := 2 - usedN c1) HB.out.1)
  have hcL := lengths_best (W := w2) (A := some ⟨g1, 0, none⟩) (c := 286) (l := twoM c1) 14 (blkI_rd hB1) (good_of (b := 1 + (l.length : Int)) (by rw [twoM_len, e286]; omega) (by omega) H2.out) (by omega) (Nat.le_trans (itemsOf_le _) (by rw [twoM_len, e286]; decide))
  rw [twoM_len, e286, show ((14 + 1 : Nat) : Int) = 15 from rfl] at hcL
  have hgp2 := S2.out.z.lt
  clear hb1 S0 B1 B2 c2any hB1 hO H2
  go_wp2_with fail
  refine hcL.mono ?_
  rintro e w3 ⟨A3, c3, rfl, ho, hb3⟩
  have S3 := hid (S2.out.below hb3)
  have O3 := own_base ho S2.out.low.size
  have B3 := hid (B2'.out.below hb3 B2'.out.lt)
  obtain ⟨Lb, hLb⟩ : ∃ L, L = bestLs (itemsOf (twoM c1)) 14 286 := ⟨_, rfl⟩
  rw [← hLb] at O3
  have hLn : Lb.length = 286 := by rw [hLb, bestLs_len]
  have HLb := hid hLb
  have S4 := hid (S3.out.set0 hLn O3)
  have hgp3 := S3.out.z.lt
  have fz3 := fun o => S3.out.z.frozen o
  have k3 := S3.out.c0.1
  have B4 := hid (B3.out.far (p := ⟨gp, 0, none⟩) (fun e => by have := B3.out; rw [e] at this; have h2 := this.symm.trans S3.out.z; injection h2 with h2; injection h2 with h2 h3; exact absurd h3 (by decide)) (.slice A3 286 c3))
  clear hcL ho hb3 O3 S2 B2' hLb hLn S3 B3
  have hcD := fun w (hb : Blk w g2 3 (intsV c2).toArray) => lengths_best (W := w) (A := some ⟨g2, 0, none⟩) (c := 30) (l := c2) 14 (blkI_rd hb) (good_of (b := 1 + (l.length : Int)) (by rw [e30]; omega) (by omega) HB.out.2) (by omega) (Nat.le_trans (itemsOf_le _) (by rw [e30]; decide))
  rw [e30, show ((14 + 1 : Nat) : Int) = 15 from rfl] at hcD
  go_upto_region 5 with (fail)
  generalize w3.setCell ⟨gp, 0, none⟩ (.slice A3 286 c3) = w4 at *
  clear k3 fz3
  go_wp2_with fail
  refine (hcD _ B4.out).mono ?_
  rintro e w5 ⟨A5, c5, rfl, ho, hb5⟩
  have S5 := hid (S4.out.below hb5)
  have O5 := own_base ho S4.out.low.size
  obtain ⟨Db, hDb⟩ : ∃ L, L = bestLs (itemsOf c2) 14 30 := ⟨_, rfl⟩
  rw [← hDb] at O5
  have hDn : Db.length = 30 := by rw [hDb, bestLs_len]
  have HDb := hid hDb
  have S6 := hid (S5.out.set1 hDn O5)
  have hgp5 := S5.out.z.lt
  have fz5 := fun o => S5.out.z.frozen o
  have k5 := S5.out.c0.2.1
  clear hcD ho hb5 O5 hDb hDn S5 B4 S4
  go_upto_region 8 with (fail)
  generalize w5.setCell ⟨gp, 1, none⟩ (.slice A5 30 c5) = w6 at *
  clear k5 fz5 hgp2 hgp3 hgp5
  have hLn : Lb.length = 286 := by rw [HLb.out, bestLs_len]
  have hDn : Db.length = 30 := by rw [HDb.out, bestLs_len]
  have hgp6 := S6.out.z.lt
  have fz6 := fun o => S6.out.z.frozen o
  have k0 := S6.out.c0.1
  have k1 := S6.out.c0.2.1
  simp only at k0 k1
  have OL := hid S6.out.ol
  have OD := hid S6.out.od
  simp only at OL OD
  rw [hLn] at k0 OL
  rw [hDn] at k1 OD
  obtain ⟨Lt, hLt⟩ : ∃ L, L = trimM 257 Lb := ⟨_, rfl⟩
  obtain ⟨Dt, hDt⟩ : ∃ L, L = trimM 1 Db := ⟨_, rfl⟩
  obtain ⟨n1, hn1⟩ : ∃ n, n = Lt.length := ⟨_, rfl⟩
  obtain ⟨n2, hn2⟩ : ∃ n, n = Dt.length := ⟨_, rfl⟩
  have hl1 : 257 ≤ n1 ∧ n1 ≤ 286 := by
    rw [hn1, hLt, trim_len, hLn]
    exact ⟨trimN_ge 257 Lb 286 (by omega), trimN_le _ _ _⟩
  have hl2 : 1 ≤ n2 ∧ n2 ≤ 30 := by
    rw [hn2, hDt, trim_len, hDn]
    exact ⟨trimN_ge 1 Db 30 (by omega), trimN_le _ _ _⟩
  have T1 : ∀ w : World, w.ownsRow W.heap.size 3 1 (.slice A3 286 c3) 286 (intsV Lb) → Calls Tryz.prog 120 #[.slice A3 286 c3, .int .i64 257] w fun e w' => e = .returned (.slice A3 n1 c3) ∧ w = w' := by
    intro w ho
    have h := trim10_any A3 c3 257 Lb w (by rw [← hLn] at ho; exact own_rdi ho) (by omega) (by omega) (by rw [hLn]; exact own_capB ho)
    rw [hLn, ← hLt, ← hn1] at h
    exact h
  have T2 : ∀ w : World, w.ownsRow W.heap.size 3 1 (.slice A5 30 c5) 30 (intsV Db) → Calls Tryz.prog 120 #[.slice A5 30 c5, .int .i64 1] w fun e w' => e = .returned (.slice A5 n2 c5) ∧ w = w' := by
    intro w ho
    have h := trim10_any A5 c5 1 Db w (by rw [← hDn] at ho; exact own_rdi ho) (by omega) (by omega) (by rw [hDn]; exact own_capB ho)
    rw [hDn, ← hDt, ← hn2] at h
    exact h
  have Hn1 := hid hn1
  have Hn2 := hid hn2
  have PL : ∀ w : World, w.ownsRow W.heap.size 3 1 (.slice A3 286 c3) 286 (intsV Lb) → w.ownsRow W.heap.size 3 1 (.slice A3 n1 c3) n1 (intsV Lt) := by
    intro w ho
    have h := own_pre (k := n1) ho (by omega)
    have e : (intsV Lb).take n1 = intsV Lt := by
      unfold intsV
      rw [← List.map_take, Hn1.out, hLt, trim_len]
      rfl
    rw [e] at h
    exact h
  have PD : ∀ w : World, w.ownsRow W.heap.size 3 1 (.slice A5 30 c5) 30 (intsV Db) → w.ownsRow W.heap.size 3 1 (.slice A5 n2 c5) n2 (intsV Dt) := by
    intro w ho
    have h := own_pre (k := n2) ho (by omega)
    have e : (intsV Db).take n2 = intsV Dt := by
      unfold intsV
      rw [← List.map_take, Hn2.out, hDt, trim_len]
      rfl
    rw [e] at h
    exact h
  have hT1 := hid T1
  have hT2 := hid T2
  have hPL := hid PL
  have hPD := hid PD
  have HLt := hid hLt
  have HDt := hid hDt
  have D6 := hid (S6.out.below (Below.refl _ _).drew)
  have OLd := hid (hPL.out _ (own_below OL.out (Below.refl w6.heap.size w6).drew (Nat.le_refl _)))
  have ODd := hid (hPD.out _ (own_below OD.out (Below.refl w6.heap.size w6).drew (Nat.le_refl _)))
  have F1 := hid ((D6.out.set0 Hn1.out.symm OLd.out).set1 Hn2.out.symm (row_set ODd.out D6.out.z (by decide) _ _))
  have F2 := hid ((D6.out.set1 Hn2.out.symm ODd.out).set0 Hn1.out.symm (row_set OLd.out D6.out.z (by decide) _ _))
  have OL6 := own_below OL.out (Below.refl w6.heap.size w6).drew (Nat.le_refl _)
  have OD6 := own_below OD.out (Below.refl w6.heap.size w6).drew (Nat.le_refl _)
  have OLs := hid (row_set OL6 D6.out.z (by decide) 1 (.slice A5 n2 c5))
  have ODs := hid (row_set OD6 D6.out.z (by decide) 0 (.slice A3 n1 c3))
  have HOL6 := hid OL6
  have HOD6 := hid OD6
  clear hLn hDn hLt hDt hn1 hn2 T1 T2 PL PD OL6 OD6
  go_cut [46] from 39 to 46 (fun _ wq => ∃ p : PlV, p.L = Lt ∧ p.D = Dt ∧ p.LA = A3 ∧ p.DA = A5 ∧ p.Lc = c3 ∧ p.Dc = c5 ∧ Hid (OwnS W wq gp p))
  case first =>
    go_region_with (first
      | (go_at_call 120; with_reducible (first | refine (hT1.out _ HOL6.out).mono ?_ | refine (hT1.out _ OLs.out).mono ?_); rintro e wz ⟨rfl, rfl⟩)
      | (go_at_call 120; with_reducible (first | refine (hT2.out _ HOD6.out).mono ?_ | refine (hT2.out _ ODs.out).mono ?_); rintro e wz ⟨rfl, rfl⟩))
    all_goals
      go_wp2
      go_meet
      first
      | exact ⟨_, rfl, rfl, rfl, rfl, rfl, rfl, F1⟩
      | exact ⟨_, rfl, rfl, rfl, rfl, rfl, rfl, F2⟩
  case rest =>
    obtain ⟨⟨L7, LA7, Lc7, D7, DA7, Dc7, R7, RA7, Rc7, O7, OA7, Oc7, h7⟩, e1, e2, e3, e4, e5, e6, S7⟩ := hcut
    simp only at e1 e2 e3 e4 e5 e6
    subst e1 e2 e3 e4 e5 e6
    clear HOL6 HOD6 OLs ODs F1 F2 D6 OLd ODd hT1 hT2 hPL hPD OL OD S6 k0 k1 fz6 hgp6
    have k0 := S7.out.c0.1
    have k1 := S7.out.c0.2.1
    simp only at k0 k1
    have hgp7 := S7.out.z.lt
    obtain ⟨x, hx⟩ : ∃ x, x = L7 ++ D7 := ⟨_, rfl⟩
    have hxl : x.length ≤ 316 := by have := Hn1.out; have := Hn2.out; rw [hx, List.length_append]; omega
    have Hx := hid hx
    have hbL : ∀ y ∈ x, 0 ≤ y ∧ y ≤ 15 := by
      intro y hy
      rw [hx] at hy
      rcases List.mem_append.1 hy with h | h
      · rw [HLt.out, HLb.out] at h
        have h1 := best_bd (c := twoM c1) (K := 14) (Nat.le_trans (itemsOf_le _) (by rw [twoM_len, e286]; decide)) y (by rw [twoM_len, e286]; exact trim_mem h)
        omega
      · rw [HDt.out, HDb.out] at h
        have h1 := best_bd (c := c2) (K := 14) (Nat.le_trans (itemsOf_le _) (by rw [e30]; decide)) y (by rw [e30]; exact trim_mem h)
        omega
    have HbL := hid hbL
    have hcat := cat2_any wc LA7 DA7 Lc7 Dc7 L7 D7 x hx (own_rdi S7.out.ol) (own_rdi S7.out.od) (by omega)
    clear hx hbL
    go_wp2_with fail
    refine hcat.mono ?_
    rintro e w8 ⟨A8, c8, rfl, ho8, hb8⟩
    have S8 := hid (S7.out.below hb8)
    have hrun := BlockRuns.runs_good A8 c8 x w8 (own_rdi ho8) (by omega) (by
      rw [List.any_eq_false]
      intro y hy
      have := HbL.out y hy
      rw [BlockRuns.badl_false.2 this]
      decide)
    have hgp8 := S8.out.z.lt
    clear k0 k1 hcat ho8 hb8 S7
    go_wp2_with fail
    refine hrun.mono ?_
    rintro e w9 ⟨o, A9, c9, ho, rfl, hown, hb9⟩
    have S9 := hid (S8.out.below hb9)
    have O9 := own_base hown S8.out.low.size
    have S10 := hid (S9.out.set2 rfl O9)
    have hgp9 := S9.out.z.lt
    have fz9 := fun q => S9.out.z.frozen q
    have k2 := S9.out.c0.2.2.1
    have HR := hid (show o = runM2 (L7 ++ D7) by rw [ho, ← Hx.out]; rfl)
    have hol : o.length ≤ 316 := by
      have := (BlockRuns.runs_back x.length [] x (Nat.le_refl _) HbL.out).2
      rw [ho]
      exact Nat.le_trans this hxl
    have Hsy := hid (show ∀ r ∈ o, 0 ≤ r.1 ∧ r.1 ≤ 18 from by rw [ho]; exact run_sym HbL.out _ _ _ fun y hy => hy)
    clear hrun hown hb9 O9 ho S8
    go_upto_region 12 with (fail)
    generalize w9.setCell ⟨gp, 2, none⟩ (.slice A9 o.length c9) = w10 at *
    clear k2 fz9 hgp8
    go_wp2_with fail
    refine (order10_any _).mono ?_
    rintro e w11 ⟨gord, rfl, _, _, hb11⟩
    have S11 := hid (S10.out.below hb11)
    obtain ⟨i0, hi0, hz0, hz1, hz2⟩ := info_parts int_info
    obtain ⟨Z, hZ⟩ : ∃ Z, Z = Array.replicate 19 (Value.int .i64 0) := ⟨_, rfl⟩
    have mk : ∀ w : World, (Instr.makeSlice 65 (.int .i64 19) (.int .i64 19)).run Tryz.prog w = .ok (.slice (some ⟨w.heap.size, 0, none⟩) 19 19) (w.alloc (.cells Z 3)) := by
      intro w
      have h := run_make (P := Tryz.prog) w 65 3 i0 (.int .i64 0) Tryz.underlying65 hi0 hz0 .i64 .i64 19 19 (by omega) (by omega) (by rw [hz2]; omega) (by omega)
      rw [hz1, made_list _ _ rfl, List.toArray_replicate] at h
      rw [hZ]
      exact h
    have HZ := hid (hZ.trans (zrow 19).symm)
    have Ba := hid ((Below.refl w11.heap.size w11).alloc (Nat.le_refl _) (.cells Z 3))
    have Bz := hid (Blk.new w11 3 Z)
    have S12 := hid (S11.out.below Ba.out)
    have k2 := S12.out.c0.2.2.1
    simp only at k2
    have hgp11 := S11.out.z.lt
    have hgp12 := S12.out.z.lt
    clear hi0 hz0 hz1 hz2 hZ hb11 S10 S9
    go_upto_region 13 with (fail)
    generalize w11.alloc (.cells Z 3) = w12 at *
    have HBz := hid (show Blk w12 w11.heap.size 3 (intsV (List.replicate 19 0)).toArray by rw [← HZ.out]; exact Bz.out)
    clear mk HZ Bz
    obtain ⟨gc, hgc⟩ : ∃ gc, gc = w11.heap.size := ⟨_, rfl⟩
    rw [← hgc] at HBz ⊢
    have hgcw := HBz.out.lt
    have hgpc : gp ≠ gc := by omega
    have hgcl : w11.heap.size ≤ gc := by omega
    clear hgc
    go_wp2
    clear k2
    go_loopw [68] (fun i wr => ∃ (j : Nat) (cs : List Int), j ≤ o.length ∧ i = .int .i64 (j : Int) ∧ Hid (cs = (o.take j).foldl (fun c r => incL c r.1.toNat) (List.replicate 19 0)) ∧ Hid (cntB cs j) ∧ Hid (cs.length = 19) ∧ Hid (Blk wr gc 3 (intsV cs).toArray) ∧ Hid (Below w11.heap.size w11 wr)) (fun i _ => o.length - (intOf i).toNat)
    case atStart => exact ⟨0, List.replicate 19 0, by omega, rfl, hid (by rw [List.take_zero]; rfl), hid (fun y hy => by have := List.eq_of_mem_replicate hy; omega), hid (by rw [List.length_replicate]), HBz, Ba⟩
    case round =>
      obtain ⟨j, cs, hj, rfl, Hcs, Hcb, Hcl, Bc, hb⟩ := hrel
      by_cases hlt : j < o.length
      · have Rr : Rd wr wr.heap.size 2 A9 o.length (o.flatMap encTok) := own_rd (S11.out.below hb.out).or_
        obtain ⟨b, off, rfl, hbb, h0, h1⟩ := tok_at Rr hlt
        have hs := Hsy.out _ (List.getElem_mem hlt)
        have hstep : (o.take (j + 1)).foldl (fun c r => incL c r.1.toNat) (List.replicate 19 0) = incL cs o[j].1.toNat := by
          rw [List.take_succ_eq_append_getElem hlt, List.foldl_append, ← Hcs.out]
          rfl
        obtain ⟨t, htj⟩ : ∃ t, o[j] = t := ⟨_, rfl⟩
        rw [htj] at h0 h1 hs hstep
        obtain ⟨s, ee⟩ := t
        simp only at h0 h1 hs hstep
        obtain ⟨q, rfl⟩ : ∃ q : Nat, s = (q : Int) := ⟨s.toNat, by omega⟩
        rw [Int.toNat_natCast] at hstep
        have hq18 : q ≤ 18 := by omega
        have hsz := hb.out.size
        have hgcr := Bc.out.lt
        have Hba := hid (hb.out.alloc hsz (.cells #[.int .i64 (q : Int), .int .i64 ee] 195))
        have Ca := hid (Bc.out.alloc (.cells #[.int .i64 (q : Int), .int .i64 ee] 195))
        have Zb := hid (Blk.new wr 195 #[.int .i64 (q : Int), .int .i64 ee])
        have Hst := hid hstep
        clear htj hstep Rr
        go_upto_region 16 with (fail)
        generalize wr.alloc (.cells #[.int .i64 (q : Int), .int .i64 ee] 195) = wz at *
        clear Bc hb h0 h1
        generalize wr.heap.size = gz at *
        have z0 := Zb.out.cell 0
        have z3 := Zb.out.lt
        simp only [List.getElem?_toArray, List.getElem?_cons_zero] at z0
        have hgcz := Ca.out.lt
        have fz := fun i => Ca.out.frozen i
        have q0 := blkI_at Ca.out (s := q) (by rw [Hcl.out]; omega)
        have hbd := cntB_at Hcb.out (by omega) q
        obtain ⟨y, hy⟩ : ∃ y, y = cs.getD q 0 := ⟨_, rfl⟩
        rw [← hy] at q0 hbd
        have E := hid (show cs.set q (y + 1) = (o.take (j + 1)).foldl (fun c r => incL c r.1.toNat) (List.replicate 19 0) by rw [Hst.out, hy]; rfl)
        have Ecb := hid (show cntB (cs.set q (y + 1)) ((j + 1 : Nat) : Int) by
          have := cntB_inc Hcb.out (by omega) q
          rw [hy]
          push_cast
          exact this)
        have C2 := hid (blkI_set Ca.out q (y + 1))
        have Hb2 := hid (Hba.out.setCell (p := ⟨gc, q, none⟩) hgcl (.int .i64 (y + 1)))
        have hyy : y + 1 ≤ 1000 := by omega
        have hne2 : gz ≠ gc := by omega
        clear hy
        go_wp2
        go_roundw
        case rel => exact ⟨j + 1, cs.set q (y + 1), by omega, by go_num, E, Ecb, hid (by rw [List.length_set]; exact Hcl.out), C2, Hb2⟩
        case measure => simp [intOf]; omega
      · have e : j = o.length := by omega
        subst e
        have HO := hid (show cs = oneC o by have := Hcs.out; rw [List.take_length] at this; exact this)
        have S13 := hid (S11.out.below hb.out)
        have hgw := Bc.out.lt
        have e19 := Hcl.out
        have c2 := two10_any gc 19 cs wr Bc.out (by omega) (by omega) (fun y hy => (Hcb.out y hy).1)
        rw [e19] at c2
        go_wp2_with fail
        refine c2.mono ?_
        rintro e w14 ⟨rfl, hB14, hO14⟩
        have S14 := hid (S11.out.below (hb.out.trans (hO14.low hgcl)))
        have H2 := hid (two_bd (b := 1 + (o.length : Int)) (by omega) (k := 2 - usedN cs) (fun y hy => by have := Hcb.out y hy; omega))
        have hcO := lengths_best (W := w14) (A := some ⟨gc, 0, none⟩) (c := 19) (l := twoM cs) 6 (blkI_rd hB14) (good_of (b := 1 + (o.length : Int)) (by rw [twoM_len, e19]; omega) (by omega) H2.out) (by omega) (Nat.le_trans (itemsOf_le _) (by rw [twoM_len, e19]; decide))
        rw [twoM_len, e19, show ((6 + 1 : Nat) : Int) = 7 from rfl] at hcO
        clear c2 hB14 hO14 H2 S13 Bc hb
        go_wp2_with fail
        refine hcO.mono ?_
        rintro e w15 ⟨A15, c15, rfl, ho15, hb15⟩
        have S15 := hid (S14.out.below hb15)
        have O15 := own_base ho15 S14.out.low.size
        obtain ⟨Ob, hOb⟩ : ∃ L, L = bestLs (itemsOf (twoM cs)) 6 19 := ⟨_, rfl⟩
        rw [← hOb] at O15
        have hOn : Ob.length = 19 := by rw [hOb, bestLs_len]
        have HOb := hid (show Ob = oneM o by unfold oneM; rw [hOb, HO.out])
        have hOb7 : ∀ y ∈ Ob, 0 ≤ y ∧ y ≤ 7 := by
          intro y hy
          rw [hOb] at hy
          exact best_bd (c := twoM cs) (K := 6) (Nat.le_trans (itemsOf_le _) (by rw [twoM_len, e19]; decide)) y (by rw [twoM_len, e19]; exact hy)
        have HOb7 := hid hOb7
        have S16 := hid (S15.out.set3 hOn O15)
        have hgp15 := S15.out.z.lt
        have fz15 := fun q => S15.out.z.frozen q
        have k3 := S15.out.c0.2.2.2.1
        clear hcO ho15 hb15 O15 hOb hOb7 S15 S14
        go_upto_region 21 with (fail)
        generalize w15.setCell ⟨gp, 3, none⟩ (.slice A15 19 c15) = w16 at *
        clear k3 fz15 hgp15
        have q0 := S16.out.c0.1
        have q1 := S16.out.c0.2.1
        have q2 := S16.out.c0.2.2.1
        have q3 := S16.out.c0.2.2.2.1
        have q4 := S16.out.c0.2.2.2.2
        simp only at q0 q1 q2 q3 q4
        rw [hOn] at q3
        have hgp16 := S16.out.z.lt
        have ROb : RdI w16 w16.heap.size A15 Ob := own_rdi S16.out.oo
        have cW := written10_any (.slice LA7 L7.length Lc7) (.slice DA7 D7.length Dc7) (.slice A9 o.length c9) (.int .i64 h7) A15 c15 Ob w16 ROb hOn
        obtain ⟨wn, hwn⟩ : ∃ n, n = wrN Ob 19 := ⟨_, rfl⟩
        rw [← hwn] at cW
        have Hwn := hid hwn
        have hwn19 : wn ≤ 19 := by rw [hwn]; exact wrN_le Ob 19
        clear hwn
        go_wp2_with fail
        refine cW.mono ?_
        rintro e w17 ⟨rfl, hb17⟩
        have S17 := hid (S16.out.below hb17)
        have S18 := hid (S17.out.set4 (14 + 3 * (wn : Int)))
        have hgp17 := S17.out.z.lt
        have fz17 := fun q => S17.out.z.frozen q
        have r4 := S17.out.c0.2.2.2.2
        clear q0 q1 q2 q3 q4 cW hb17 S16 S17 hgp16 ROb
        go_upto_region 22 with (fail)
        generalize w17.setCell ⟨gp, 4, none⟩ (.int .i64 (14 + 3 * (wn : Int))) = w18 at *
        have q2 := S18.out.c0.2.2.1
        simp only at q2
        have hgp18 := S18.out.z.lt
        clear r4 fz17 hgp17
        go_wp2
        clear q2 hgp18
        go_loopw [99] (fun i wr => ∃ (j : Nat) (x : Int), j ≤ o.length ∧ i = .int .i64 (j : Int) ∧ 0 ≤ x ∧ x ≤ 100 + 30 * j ∧ Hid (x = 14 + 3 * (wn : Int) + ((o.take j).map (runBits Ob)).sum) ∧ Hid (OwnS W wr gp ⟨L7, LA7, Lc7, D7, DA7, Dc7, o, A9, c9, Ob, A15, c15, x⟩)) (fun i _ => o.length - (intOf i).toNat)
        case atStart => exact ⟨0, 14 + 3 * (wn : Int), by omega, rfl, by omega, by omega, hid (by simp), S18⟩
        case round =>
          obtain ⟨j, x, hj, rfl, hx0, hx1, Hx2, S⟩ := hrel
          by_cases hlt : j < o.length
          · have Rr : Rd wr wr.heap.size 2 A9 o.length (o.flatMap encTok) := own_rd S.out.or_
            obtain ⟨b, off, rfl, hbb, h0, h1⟩ := tok_at Rr hlt
            have hs := Hsy.out _ (List.getElem_mem hlt)
            have hstep : 14 + 3 * (wn : Int) + ((o.take (j + 1)).map (runBits Ob)).sum = x + runBits Ob o[j] := by
              rw [List.take_succ_eq_append_getElem hlt, List.map_append, List.sum_append, Hx2.out]
              simp
              omega
            obtain ⟨t, htj⟩ : ∃ t, o[j] = t := ⟨_, rfl⟩
            rw [htj] at h0 h1 hs hstep
            obtain ⟨s, ee⟩ := t
            simp only at h0 h1 hs hstep
            obtain ⟨q, rfl⟩ : ∃ q : Nat, s = (q : Int) := ⟨s.toNat, by omega⟩
            have hq18 : q ≤ 18 := by omega
            unfold runBits at hstep
            simp only at hstep
            rw [Int.toNat_natCast] at hstep
            have hOq := cntB_at (b := 7) HOb7.out (by omega) q
            have hrb : 0 ≤ rb (q : Int) ∧ rb (q : Int) ≤ 7 := by unfold rb; (repeat' split) <;> omega
            have cR := reach_any (q : Int)
            have S1 := hid (S.out.below ((Below.refl wr.heap.size wr).alloc (Nat.le_refl _) (.cells #[.int .i64 (q : Int), .int .i64 ee] 195)))
            have Zb := hid (Blk.new wr 195 #[.int .i64 (q : Int), .int .i64 ee])
            have hgpr := S.out.z.lt
            have E := hid hstep
            clear htj Rr hstep S
            go_upto_region 25 with (fail)
            generalize wr.alloc (.cells #[.int .i64 (q : Int), .int .i64 ee] 195) = wz at *
            clear h0 h1
            generalize wr.heap.size = gz at *
            have z0 := Zb.out.cell 0
            have z3 := Zb.out.lt
            simp only [List.getElem?_toArray, List.getElem?_cons_zero] at z0
            generalize rl (q : Int) = rl0 at *
            generalize rb (q : Int) = rb0 at *
            go_wp2_with fail
            refine (cR _).mono ?_
            rintro e w19 ⟨rfl, rfl⟩
            have q3 := S1.out.c0.2.2.2.1
            have q4 := S1.out.c0.2.2.2.2
            simp only at q3 q4
            have RO : RdI w19 w19.heap.size A15 Ob := own_rdi S1.out.oo
            have hq19 : q < 19 := by omega
            obtain ⟨bo, oo, hA, _, p0⟩ := int_at RO (j := q) (by omega)
            subst hA
            rw [getD_at] at p0
            rw [hOn] at q3
            generalize Ob.getD q 0 = y at *
            have hgpz := S1.out.z.lt
            have fz := fun q => S1.out.z.frozen q
            have S2 := hid ((S1.out.below (Below.refl _ _).drew).set4 (x + (y + rb0)))
            have hbog : bo ≠ gp := by
              intro h
              have h2 := own_blk_ne S1.out.oo S1.out.z (by decide)
              simp only at h2
              exact h2 (by rw [h]; rfl)
            clear RO hbb
            go_upto_region 26 with (fail)
            go_region
            go_wp2
            go_roundw
            case rel => exact ⟨j + 1, x + (y + rb0), by omega, by go_num, by omega, by omega, hid E.out.symm, S2⟩
            case measure => simp [intOf]; omega
          · have e : j = o.length := by omega
            subst e
            have EH := hid (show x = headM (ownM l) by
              have h1 : litM l = L7 := by unfold litM; rw [Hcm.out, ← HLb.out, ← HLt.out]
              have h2 : dstM l = D7 := by unfold dstM; rw [Hcm.out, ← HDb.out, ← HDt.out]
              have h3 : (ownM l).R = o := by unfold ownM; rw [h1, h2]; exact HR.out.symm
              have h4 : (ownM l).O = Ob := by rw [HOb.out]; unfold ownM; rw [h1, h2, ← HR.out]
              unfold headM
              rw [h3, h4, ← Hwn.out, Hx2.out, List.take_length])
            have E1 := hid (show L7 = (ownM l).L by show L7 = litM l; unfold litM; rw [Hcm.out, ← HLb.out, ← HLt.out])
            have E2 := hid (show D7 = (ownM l).D by show D7 = dstM l; unfold dstM; rw [Hcm.out, ← HDb.out, ← HDt.out])
            have E3 := hid (show o = (ownM l).R by show o = runM2 (litM l ++ dstM l); rw [HR.out]; congr 1; rw [E1.out, E2.out]; rfl)
            have E4 := hid (show Ob = (ownM l).O by rw [HOb.out, E3.out]; rfl)
            have q0 := S.out.c0.1
            have q1 := S.out.c0.2.1
            have q2 := S.out.c0.2.2.1
            have q3 := S.out.c0.2.2.2.1
            have q4 := S.out.c0.2.2.2.2
            simp only at q0 q1 q2 q3 q4
            have hgpr := S.out.z.lt
            have fz := fun q => S.out.z.frozen q
            have SE := hid (S.out.again)
            clear HB Hlen Hcm HLb HDb HLt HDt Hsy HbL
            go_wp2
            have SE := SE.out
            simp only [hOn] at SE
            generalize (((((wr.setCell ⟨gp, 0, none⟩ (.slice LA7 L7.length Lc7)).setCell ⟨gp, 1, none⟩ (.slice DA7 D7.length Dc7)).setCell ⟨gp, 2, none⟩ (.slice A9 o.length c9)).setCell ⟨gp, 3, none⟩ (.slice A15 19 c15)).setCell ⟨gp, 4, none⟩ (.int .i64 x)) = wE at *
            have r0 := SE.c0.1
            have r1 := SE.c0.2.1
            have r2 := SE.c0.2.2.1
            have r3 := SE.c0.2.2.2.1
            have r4 := SE.c0.2.2.2.2
            simp only at r0 r1 r2 r3 r4
            rw [hOn] at r3
            refine bodyPost_ret (v := .tuple #[.agg #[.slice LA7 L7.length Lc7, .slice DA7 D7.length Dc7, .slice A9 o.length c9, .slice A15 19 c15, .int .i64 x], .nilIface]) (by simp [results, Tryz.results79, go_sem, r0, r1, r2, r3, r4]) rfl ?_
            exact ⟨⟨L7, LA7, Lc7, D7, DA7, Dc7, o, A9, c9, Ob, A15, c15, x⟩, by unfold PlV.cs; simp only [hOn], E1.out, E2.out, E3.out, E4.out, EH.out, SE.plr, SE.low⟩
end Go.Proofs.YtoppjcmkhhkbmaaGreat

namespace Go.Proofs.YtoppjcmkhhkbmaaGreat
open Go.RowKit Cd

theorem inc_mono (c : List Int) (s i : Nat) : c.getD i 0 ≤ (incL c s).getD i 0 := by
  unfold incL
  rw [List.getD_eq_getElem?_getD, List.getD_eq_getElem?_getD]
  by_cases hi : i = s
  · subst hi
    rcases Nat.lt_or_ge i c.length with h1 | h1
    · rw [List.getElem?_set_self h1, List.getD_eq_getElem?_getD, List.getElem?_eq_getElem h1]
      simp
      omega
    · rw [List.getElem?_eq_none h1, List.getElem?_eq_none (by rw [List.length_set]; exact h1)]
      exact Int.le_refl _
  · rw [List.getElem?_set_ne (fun h => hi h.symm)]
    exact Int.le_refl _
theorem inc_pos (c : List Int) (s : Nat) (hs : s < c.length) (h : ∀ x ∈ c, 0 ≤ x) : 0 < (incL c s).getD s 0 := by
  unfold incL
  rw [List.getD_eq_getElem?_getD, List.getElem?_set_self hs, List.getD_eq_getElem?_getD, List.getElem?_eq_getElem hs]
  have := h _ (List.getElem_mem hs)
  simp
  omega
theorem inc_nn (c : List Int) (s : Nat) (h : ∀ x ∈ c, 0 ≤ x) : ∀ x ∈ incL c s, 0 ≤ x := by
  intro x hx
  rcases List.mem_or_eq_of_mem_set hx with h1 | h1
  · exact h x h1
  · have : 0 ≤ c.getD s 0 := by
      rw [List.getD_eq_getElem?_getD]
      rcases Nat.lt_or_ge s c.length with h2 | h2
      · rw [List.getElem?_eq_getElem h2]; exact h _ (List.getElem_mem h2)
      · rw [List.getElem?_eq_none h2]; exact Int.le_refl _
    omega
/-- what is counted is not 0 -/
theorem cnt_pos : ∀ (l : List (Int × Int)) (c : List Int × List Int), c.1.length = 286 → c.2.length = 30 → (∀ x ∈ c.1, 0 ≤ x) → (∀ x ∈ c.2, 0 ≤ x) → (∀ t ∈ l, tgood t = true) →
    (∀ i, c.1.getD i 0 ≤ (l.foldl cntStep c).1.getD i 0) ∧ (∀ i, c.2.getD i 0 ≤ (l.foldl cntStep c).2.getD i 0) ∧ (∀ t ∈ l, hasT (l.foldl cntStep c).1 (l.foldl cntStep c).2 t)
  | [], c, _, _, _, _, _ => ⟨fun _ => Int.le_refl _, fun _ => Int.le_refl _, fun t ht => by cases ht⟩
  | t :: l, c, h1, h2, h3, h4, hg => by
    have e1 : (cntStep c t).1.length = 286 := by unfold cntStep; split <;> simp [incL_len, h1]
    have e2 : (cntStep c t).2.length = 30 := by unfold cntStep; split <;> simp [incL_len, h2]
    have e3 : ∀ x ∈ (cntStep c t).1, 0 ≤ x := by unfold cntStep; split <;> exact inc_nn _ _ h3
    have e4 : ∀ x ∈ (cntStep c t).2, 0 ≤ x := by
      unfold cntStep
      split
      · exact h4
      · exact inc_nn _ _ h4
    have m1 : ∀ i, c.1.getD i 0 ≤ (cntStep c t).1.getD i 0 := by intro i; unfold cntStep; split <;> exact inc_mono _ _ _
    have m2 : ∀ i, c.2.getD i 0 ≤ (cntStep c t).2.getD i 0 := by
      intro i
      unfold cntStep
      split
      · exact Int.le_refl _
      · exact inc_mono _ _ _
    obtain ⟨i1, i2, i3⟩ := cnt_pos l (cntStep c t) e1 e2 e3 e4 fun x hx => hg x (List.mem_cons_of_mem _ hx)
    rw [List.foldl_cons]
    refine ⟨fun i => Int.le_trans (m1 i) (i1 i), fun i => Int.le_trans (m2 i) (i2 i), fun x hx => ?_⟩
    rcases List.mem_cons.1 hx with rfl | hx
    · have gt := tgood_true.1 (hg x List.mem_cons_self)
      unfold hasT
      by_cases ha : x.1 = 0
      · rw [if_pos ha]
        have hp := inc_pos c.1 x.2.toNat (by omega) h3
        have e : (cntStep c x).1 = incL c.1 x.2.toNat := by unfold cntStep; rw [if_pos ha]
        rw [← e] at hp
        exact Int.lt_of_lt_of_le hp (i1 _)
      · rw [if_neg ha]
        have hb1 := lsN_bd x.1
        have hb2 := dsN_bd x.2
        have hp := inc_pos c.1 (lsN x.1) (by omega) h3
        have hq := inc_pos c.2 (dsN x.2) (by omega) h4
        have e : cntStep c x = (incL c.1 (lsN x.1), incL c.2 (dsN x.2)) := by unfold cntStep; rw [if_neg ha]
        have e5 : (cntStep c x).1 = incL c.1 (lsN x.1) := by rw [e]
        have e6 : (cntStep c x).2 = incL c.2 (dsN x.2) := by rw [e]
        rw [← e5] at hp
        rw [← e6] at hq
        exact ⟨Int.lt_of_lt_of_le hp (i1 _), Int.lt_of_lt_of_le hq (i2 _)⟩
    · exact i3 x hx
theorem cnt0_nn : (∀ x ∈ cnt0.1, 0 ≤ x) ∧ (∀ x ∈ cnt0.2, 0 ≤ x) := by
  constructor
  · intro x hx
    rcases List.mem_or_eq_of_mem_set hx with h1 | h1
    · have := List.eq_of_mem_replicate h1; omega
    · omega
  · intro x hx
    have := List.eq_of_mem_replicate hx
    omega
theorem cnt0_256 : cnt0.1.getD 256 0 = 1 := by
  unfold cnt0
  rw [List.getD_eq_getElem?_getD, List.getElem?_set_self (by rw [List.length_replicate]; omega)]
  rfl
theorem cntM_pos {l : List (Int × Int)} (hg : ∀ t ∈ l, tgood t = true) : 0 < (cntM l).1.getD 256 0 ∧ ∀ t ∈ l, hasT (cntM l).1 (cntM l).2 t := by
  obtain ⟨h1, _, h3⟩ := cnt_pos l cnt0 (by unfold cnt0; rw [List.length_set, List.length_replicate]) (by unfold cnt0; rw [List.length_replicate]) cnt0_nn.1 cnt0_nn.2 hg
  refine ⟨?_, h3⟩
  have := h1 256
  rw [cnt0_256] at this
  exact Int.lt_of_lt_of_le (by decide) this
/-- a plan that tokens can be written by -/
structure PlG (L D : List Int) (l : List (Int × Int)) : Prop where
  lL : lensB L = true
  lD : lensB D = true
  n0 : 256 < L.length
  n1 : L.length ≤ 288
  n2 : D.length ≤ 30
  n3 : 0 < D.length
  p : 0 < L.getD 256 0
  has : ∀ t ∈ l, hasT L D t
theorem PlG.bL {L D : List Int} {l : List (Int × Int)} (h : PlG L D l) : ∀ x ∈ L, 0 ≤ x ∧ x ≤ 16 := (lensB_iff.1 h.lL).2.1
theorem PlG.bD {L D : List Int} {l : List (Int × Int)} (h : PlG L D l) : ∀ x ∈ D, 0 ≤ x ∧ x ≤ 16 := (lensB_iff.1 h.lD).2.1
theorem fix_pos : ∀ s : Fin 288, 0 < fixL.getD s.val 0 := by decide +kernel
theorem usu_pos : ∀ s : Fin 30, 0 < usuD.getD s.val 0 := by decide +kernel
theorem fix_lens : lensB fixL = true ∧ lensB usuD = true ∧ fixL.length = 288 ∧ usuD.length = 30 := by decide +kernel
theorem usual_good {l : List (Int × Int)} (hg : ∀ t ∈ l, tgood t = true) : PlG fixL usuD l := by
  obtain ⟨h1, h2, h3, h4⟩ := fix_lens
  refine ⟨h1, h2, by omega, by omega, by omega, by omega, fix_pos ⟨256, by omega⟩, fun t ht => ?_⟩
  have gt := tgood_true.1 (hg t ht)
  have hb1 := lsN_bd t.1
  have hb2 := dsN_bd t.2
  unfold hasT
  split
  · exact fix_pos ⟨t.2.toNat, by omega⟩
  · exact ⟨fix_pos ⟨lsN t.1, by omega⟩, usu_pos ⟨dsN t.2, by omega⟩⟩
/-- how much codes take: of a row of counts -/
theorem kraft_app (a b : List Int) : Go.Proofs.YtoppjcmkhhkbmaaGreat.kraft (a ++ b) = Go.Proofs.YtoppjcmkhhkbmaaGreat.kraft a + Go.Proofs.YtoppjcmkhhkbmaaGreat.kraft b := by unfold Go.Proofs.YtoppjcmkhhkbmaaGreat.kraft; rw [List.map_append, List.sum_append]
theorem kraft_zero : ∀ {l : List Int}, (∀ x ∈ l, x = 0) → Go.Proofs.YtoppjcmkhhkbmaaGreat.kraft l = 0
  | [], _ => rfl
  | x :: l, h => by
    have h1 := kraft_zero (l := l) fun y hy => h y (List.mem_cons_of_mem _ hy)
    have h2 := h x List.mem_cons_self
    unfold Go.Proofs.YtoppjcmkhhkbmaaGreat.kraft at *
    rw [List.map_cons, List.sum_cons, h1, if_neg (by omega)]
    rfl
theorem kraft_trim (k : Nat) (l : List Int) : Go.Proofs.YtoppjcmkhhkbmaaGreat.kraft (trimM k l) = Go.Proofs.YtoppjcmkhhkbmaaGreat.kraft l := by
  conv => rhs; rw [← List.take_append_drop (trimN k l l.length) l]
  rw [kraft_app, kraft_zero (l := l.drop (trimN k l l.length)) fun x hx => ?_]
  · unfold trimM; omega
  · obtain ⟨i, hi, rfl⟩ := List.mem_iff_getElem.1 hx
    rw [List.length_drop] at hi
    rw [List.getElem_drop]
    have := trimN_zero k l l.length (trimN k l l.length + i) (by omega) (by omega)
    rw [← getD_at (by omega)] at this
    exact this
theorem sum_SN (f : Nat → Nat) (g : Nat → Int) (h : ∀ s, g s = ((f s : Nat) : Int)) : ∀ n, ((List.range n).map g).sum = ((Mg.SN n f : Nat) : Int)
  | 0 => rfl
  | n + 1 => by
    rw [List.range_succ, List.map_append, List.sum_append, sum_SN f g h n, Mg.SN]
    simp [h]
theorem kraft_best {c : List Int} {K : Nat} (hK : (itemsOf c).length ≤ 2 ^ (K + 1)) (hk : K ≤ 15) : Go.Proofs.YtoppjcmkhhkbmaaGreat.kraft (bestLs (itemsOf c) K c.length) = ((if 2 ≤ (itemsOf c).length then 65536 else if (itemsOf c).length = 1 then 32768 else 0 : Nat) : Int) := by
  rw [← form_sum hK hk]
  unfold Go.Proofs.YtoppjcmkhhkbmaaGreat.kraft bestLs
  rw [List.map_map]
  refine sum_SN _ _ (fun s => ?_) c.length
  show (if (0 : Int) < ((bestAt (itemsOf c) K s : Nat) : Int) then (2 : Int) ^ (16 - ((bestAt (itemsOf c) K s : Nat) : Int).toNat) else 0) = _
  rw [Int.toNat_natCast]
  by_cases h : 0 < bestAt (itemsOf c) K s
  · rw [if_pos (by omega), if_pos h]
    push_cast
    rfl
  · rw [if_neg (by omega), if_neg h]
    rfl
theorem best_lens {c : List Int} {K : Nat} (hK : (itemsOf c).length ≤ 2 ^ (K + 1)) (hk : K ≤ 15) (hc : c.length ≤ 300) (k : Nat) : lensB (trimM k (bestLs (itemsOf c) K c.length)) = true := by
  refine lensB_iff.2 ⟨?_, ?_, ?_⟩
  · rw [trim_len, bestLs_len]
    have := trimN_le k (bestLs (itemsOf c) K c.length) c.length
    omega
  · intro x hx
    have := best_bd hK x (trim_mem hx)
    omega
  · rw [kraft_trim, kraft_best hK hk]
    split
    · decide
    · split <;> decide
theorem own_good {l : List (Int × Int)} (hg : ∀ t ∈ l, tgood t = true) : PlG (ownM l).L (ownM l).D l := by
  obtain ⟨e1, e2⟩ := cnt_len l
  obtain ⟨p256, hh⟩ := cntM_pos hg
  have t1 : (twoM (cntM l).1).length = 286 := by rw [twoM_len, e1]
  have k1 : (itemsOf (twoM (cntM l).1)).length ≤ 2 ^ (14 + 1) := Nat.le_trans (itemsOf_le _) (by rw [t1]; decide)
  have k2 : (itemsOf (cntM l).2).length ≤ 2 ^ (14 + 1) := Nat.le_trans (itemsOf_le _) (by rw [e2]; decide)
  have f1 := best_lens k1 (by omega) (by omega) 257
  have f2 := best_lens k2 (by omega) (by omega) 1
  rw [t1] at f1
  rw [e2] at f2
  have g1 : ∀ s, s < 286 → 0 < (cntM l).1.getD s 0 → 0 < (litM l).getD s 0 := by
    intro s hs hp
    unfold litM
    rw [trim_at]
    have := best_pos (c := twoM (cntM l).1) (s := s) k1 (by rw [t1]; exact hs)
    rw [t1] at this
    refine this.2 ?_
    unfold twoM
    rw [two_keep _ _ _ hp]
    exact hp
  have g2 : ∀ s, s < 30 → 0 < (cntM l).2.getD s 0 → 0 < (dstM l).getD s 0 := by
    intro s hs hp
    unfold dstM
    rw [trim_at]
    have := best_pos (c := (cntM l).2) (s := s) k2 (by rw [e2]; exact hs)
    rw [e2] at this
    exact this.2 hp
  have n1 : (litM l).length = trimN 257 (bestLs (itemsOf (twoM (cntM l).1)) 14 286) 286 := by unfold litM; rw [trim_len, bestLs_len]
  have n2 : (dstM l).length = trimN 1 (bestLs (itemsOf (cntM l).2) 14 30) 30 := by unfold dstM; rw [trim_len, bestLs_len]
  have a1 := trimN_ge 257 (bestLs (itemsOf (twoM (cntM l).1)) 14 286) 286 (by omega)
  have a2 := trimN_le 257 (bestLs (itemsOf (twoM (cntM l).1)) 14 286) 286
  have a3 := trimN_ge 1 (bestLs (itemsOf (cntM l).2) 14 30) 30 (by omega)
  have a4 := trimN_le 1 (bestLs (itemsOf (cntM l).2) 14 30) 30
  refine ⟨f1, f2, ?_, ?_, ?_, ?_, g1 256 (by omega) p256, fun t ht => ?_⟩
  · show 256 < (litM l).length; omega
  · show (litM l).length ≤ 288; omega
  · show (dstM l).length ≤ 30; omega
  · show 0 < (dstM l).length; omega
  · have h := hh t ht
    have gt := tgood_true.1 (hg t ht)
    have hb1 := lsN_bd t.1
    have hb2 := dsN_bd t.2
    unfold hasT at h ⊢
    by_cases ha : t.1 = 0
    · rw [if_pos ha] at h ⊢
      exact g1 _ (by omega) h
    · rw [if_neg ha] at h ⊢
      exact ⟨g1 _ (by omega) h.1, g2 _ (by omega) h.2⟩
/-- the runs of a plan can be written -/
structure RunG (R : List (Int × Int)) (O : List Int) : Prop where
  n : O.length = 19
  b7 : ∀ x ∈ O, 0 ≤ x ∧ x ≤ 7
  l : lensB O = true
  r : ∀ r ∈ R, 0 < O.getD r.1.toNat 0 ∧ 0 ≤ r.1 ∧ r.1 ≤ 18 ∧ 0 ≤ r.2 ∧ r.2 < 2 ^ (rb r.1).toNat
theorem run_in : ∀ (R : List (Int × Int)) {out x : List Int}, unr out R = some x → ∀ r ∈ R, 0 ≤ r.1 ∧ r.1 ≤ 18 ∧ 0 ≤ r.2 ∧ r.2 < 2 ^ (rb r.1).toNat
  | [], _, _, _ => fun r hr => by cases hr
  | (s, e) :: R, out, x, h => fun r hr => by
    by_cases hb : rbad out s e
    · rw [unr_bad hb] at h; cases h
    rw [unr_step hb] at h
    rcases List.mem_cons.1 hr with rfl | hr
    · unfold rbad at hb
      have s3 : e ≤ rtop s := by omega
      refine ⟨by omega, by omega, by omega, ?_⟩
      show e < 2 ^ (rb s).toNat
      unfold rtop at s3
      unfold rb
      (repeat' split at s3) <;> (repeat' split) <;> first | omega | (simp; omega)
    · exact run_in R h r hr
theorem one_pos : ∀ (R : List (Int × Int)) (c : List Int), c.length = 19 → (∀ x ∈ c, 0 ≤ x) → (∀ r ∈ R, 0 ≤ r.1 ∧ r.1 ≤ 18) →
    (R.foldl (fun c r => incL c r.1.toNat) c).length = 19 ∧ (∀ x ∈ R.foldl (fun c r => incL c r.1.toNat) c, 0 ≤ x) ∧ (∀ i, c.getD i 0 ≤ (R.foldl (fun c r => incL c r.1.toNat) c).getD i 0) ∧ ∀ r ∈ R, 0 < (R.foldl (fun c r => incL c r.1.toNat) c).getD r.1.toNat 0
  | [], c, h1, h2, _ => ⟨h1, h2, fun _ => Int.le_refl _, fun r hr => by cases hr⟩
  | r :: R, c, h1, h2, h3 => by
    obtain ⟨i1, i2, i3, i4⟩ := one_pos R (incL c r.1.toNat) (by rw [incL_len, h1]) (inc_nn _ _ h2) fun x hx => h3 x (List.mem_cons_of_mem _ hx)
    rw [List.foldl_cons]
    refine ⟨i1, i2, fun i => Int.le_trans (inc_mono _ _ _) (i3 i), fun x hx => ?_⟩
    rcases List.mem_cons.1 hx with rfl | hx
    · have := h3 x List.mem_cons_self
      exact Int.lt_of_lt_of_le (inc_pos c x.1.toNat (by omega) h2) (i3 _)
    · exact i4 x hx
theorem run_good {x : List Int} (hx : ∀ y ∈ x, 0 ≤ y ∧ y ≤ 15) : RunG (runM2 x) (oneM (runM2 x)) ∧ (runM2 x).length ≤ x.length ∧ unr [] (runM2 x) = some x := by
  have hb := BlockRuns.runs_back x.length [] x (Nat.le_refl _) hx
  have e : runM2 x = BlockRuns.runsOf x.length ([] : List Int).getLast? x := rfl
  rw [← e, List.nil_append] at hb
  have hin := run_in (runM2 x) hb.1
  obtain ⟨q1, q2, _, q4⟩ := one_pos (runM2 x) (List.replicate 19 0) (by simp) (fun y hy => by have := List.eq_of_mem_replicate hy; omega) fun r hr => ⟨(hin r hr).1, (hin r hr).2.1⟩
  have t1 : (twoM (oneC (runM2 x))).length = 19 := by rw [twoM_len]; exact q1
  have k1 : (itemsOf (twoM (oneC (runM2 x)))).length ≤ 2 ^ (6 + 1) := Nat.le_trans (itemsOf_le _) (by rw [t1]; decide)
  refine ⟨⟨by unfold oneM; rw [bestLs_len], fun y hy => ?_, ?_, fun r hr => ⟨?_, hin r hr⟩⟩, hb.2, hb.1⟩
  · unfold oneM at hy
    have := best_bd k1 y (by rw [t1]; exact hy)
    omega
  · have h := best_lens k1 (by omega) (by omega) 19
    rw [t1] at h
    have e2 : trimM 19 (bestLs (itemsOf (twoM (oneC (runM2 x)))) 6 19) = oneM (runM2 x) := by
      unfold oneM trimM
      have := trimN_ge 19 (bestLs (itemsOf (twoM (oneC (runM2 x)))) 6 19) 19 (Nat.le_refl _)
      rw [bestLs_len, List.take_of_length_le (by rw [bestLs_len]; exact this)]
    rw [e2] at h
    exact h
  · have hr2 := hin r hr
    have hp : 0 < (oneC (runM2 x)).getD r.1.toNat 0 := q4 r hr
    have := best_pos (c := twoM (oneC (runM2 x))) (s := r.1.toNat) k1 (by rw [t1]; omega)
    rw [t1] at this
    unfold oneM
    refine this.2 ?_
    unfold twoM
    rw [two_keep _ _ _ hp]
    exact hp
theorem own_runs {l : List (Int × Int)} (hg : ∀ t ∈ l, tgood t = true) : RunG (ownM l).R (ownM l).O ∧ (ownM l).R.length ≤ 316 ∧ unr [] (ownM l).R = some ((ownM l).L ++ (ownM l).D) := by
  have hp := own_good hg
  have e1 : (twoM (cntM l).1).length = 286 := by rw [twoM_len, (cnt_len l).1]
  have e2 := (cnt_len l).2
  have h := run_good (x := litM l ++ dstM l) (by
    intro y hy
    rcases List.mem_append.1 hy with h | h
    · have := best_bd (c := twoM (cntM l).1) (K := 14) (Nat.le_trans (itemsOf_le _) (by rw [e1]; decide)) y (by rw [e1]; exact trim_mem h)
      omega
    · have := best_bd (c := (cntM l).2) (K := 14) (Nat.le_trans (itemsOf_le _) (by rw [e2]; decide)) y (by rw [e2]; exact trim_mem h)
      omega)
  refine ⟨h.1, Nat.le_trans h.2.1 ?_, h.2.2⟩
  rw [List.length_append]
  unfold litM dstM
  rw [trim_len, trim_len, bestLs_len, bestLs_len]
  have a2 := trimN_le 257 (bestLs (itemsOf (twoM (cntM l).1)) 14 286) 286
  have a4 := trimN_le 1 (bestLs (itemsOf (cntM l).2) 14 30) 30
  omega
end Go.Proofs.YtoppjcmkhhkbmaaGreat

namespace Go.Proofs.YtoppjcmkhhkbmaaGreat
open Go.RowKit
end Go.Proofs.YtoppjcmkhhkbmaaGreat
