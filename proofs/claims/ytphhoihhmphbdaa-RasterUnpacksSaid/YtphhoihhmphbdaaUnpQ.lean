/-
  burnishref17.Unpack walked against unpR: a good form, data of the right length.
-/
import Derived.Test.YtphhoihhmphbdaaUnpR
import Derived.RegionTactic
import Derived.RegionCalls
namespace Go.Proofs.Ytphhoihhmphbdaa
open Go.RowKit Go.Shelf
attribute [local go_sem] Oper.semAt_some

def UnpEndQ (f : Fm) (b : List Int) (W : World) (e : Ending) (w' : World) : Prop :=
  Below W.heap.size W w' ∧ match unpR f b with
  | none => e = .returned (.tuple #[.agg #[.int .i64 0, .int .i64 0, .slice none 0 0], .bool false])
  | some px => ∃ g, e = .returned (.tuple #[.agg #[.int .i64 f.w, .int .i64 f.h, .slice (some ⟨g, 0, none⟩) px.length px.length], .bool true]) ∧ W.heap.size ≤ g ∧ Blk w' g 62 (px.flatMap encP).toArray
theorem three (W : World) (c0 c1 c2 : Array Value) (t0 t1 t2 : TypeId) : ∃ w, w = (((W.alloc (.cells c0 t0)).alloc (.cells c1 t1)).alloc (.cells c2 t2)) ∧
    Blk w W.heap.size t0 c0 ∧ Blk w (W.heap.size + 1) t1 c1 ∧ Blk w (W.heap.size + 1 + 1) t2 c2 ∧ Below W.heap.size W w ∧ w.heap.size = W.heap.size + 3 := by
  have k1 := Blk.new (W.alloc (.cells c0 t0)) t1 c1
  have k2 := Blk.new ((W.alloc (.cells c0 t0)).alloc (.cells c1 t1)) t2 c2
  simp only [World.size_alloc] at k1 k2
  exact ⟨_, rfl, ((Blk.new W t0 c0).alloc _).alloc _, k1.alloc _, k2, (((Below.refl W.heap.size W).alloc (Nat.le_refl _) _).alloc (by simp) _).alloc (by simp; omega) _, by simp⟩
theorem Chg.rd {G : List Nat} {w w' : World} {B size n : Nat} {A : Option Addr} {xs : List Value} (h : Chg G w w') (r : Rd w B size A n xs) (hB : B ≤ w.heap.size) (hG : ∀ g ∈ G, B ≤ g) : Rd w' B size A n xs :=
  r.keep fun b o hb => World.cell?_of_block (w := w) (h.same b (by omega) (fun hm => by have := hG b hm; omega))
theorem own_cz {w : World} {base e size n c : Nat} {A : Option Addr} {xs : List Value} (h : w.ownsRow base e size (.slice A n c) n xs) : A = none → c = 0 := by
  intro hA
  rcases h.2 with ⟨h1, _⟩ | ⟨g, cap, cur, h1, _⟩
  · injection h1 with h1 h2 h3
  · injection h1 with h1
    rw [hA] at h1
    cases h1
/-- no more pixels than bits -/
theorem pixI_off (f : Fm) (hh : headErr f.w f.h f.d f.c f.l = 0) : ∀ k, k ≤ passN f → pixI f k ≤ 8 * offI f k
  | 0, _ => Nat.le_refl _
  | k + 1, h => by
    have ih := pixI_off f hh k (by omega)
    obtain ⟨_, _, _, hr, _⟩ := row_pos f hh h
    have hd := deep_bd (headErr_deep hh).1
    have hm := (chan_in (headErr_deep hh).2.2).1
    have h1 : colsI f k ≤ colsI f k * manyI f := Nat.le_mul_of_pos_right _ hm
    have h2 : colsI f k * manyI f ≤ colsI f k * manyI f * f.d.toNat := Nat.le_mul_of_pos_right _ (by omega)
    have h3 : colsI f k ≤ 8 * rowI f k := by omega
    have h4 : rowsI f k * colsI f k ≤ rowsI f k * (8 * (1 + rowI f k)) := Nat.mul_le_mul_left _ (by omega)
    have h5 : rowsI f k * (8 * (1 + rowI f k)) = 8 * segI f k := by unfold segI; rw [Nat.mul_left_comm]
    rw [pixI, offI]
    omega
/-- the end where there is no raster -/
theorem rq_fail {W w : World} {g4 : Nat} {f : Fm} {b : List Int} (h : Blk w g4 33 #[.int .i64 0, .int .i64 0, .slice none 0 0]) (hW : W.heap.size ≤ g4) (hb : Below W.heap.size W w) (hno : unpR f b = none) :
    ∃ w2, (((w.setCell ⟨g4, 0, none⟩ (.int .i64 0)).setCell ⟨g4, 1, none⟩ (.int .i64 0)).setCell ⟨g4, 2, none⟩ (.slice none 0 0)) = w2 ∧ Blk w2 g4 33 #[.int .i64 0, .int .i64 0, .slice none 0 0] ∧ UnpEndQ f b W (.returned (.tuple #[.agg #[.int .i64 0, .int .i64 0, .slice none 0 0], .bool false])) w2 := by
  refine ⟨_, rfl, ((h.set_ 0 (.int .i64 0)).set_ 1 (.int .i64 0)).set_ 2 (.slice none 0 0), ((hb.setCell (p := ⟨g4, 0, none⟩) hW _).setCell (p := ⟨g4, 1, none⟩) hW _).setCell (p := ⟨g4, 2, none⟩) hW _, ?_⟩
  rw [hno]
/-- a pixel of numbers, or none: one way -/
theorem rpix_gen {P : World → World → Prop} {f : Fm} {PA KA An : Option Addr} {pc kc nc : Nat} {nu : List Int} {r : Option Px} (hr : pixOf f nu = r) (h : ∀ w w0, P w0 w → Calls Try.prog 52 #[.agg #[.int .i64 f.w, .int .i64 f.h, .int .i64 f.d, .int .i64 f.c, .int .i64 f.l, .slice PA f.pal.length pc, .slice KA f.key.length kc], .slice An nu.length nc] w (PixEnd (pixOf f nu) w)) :
    ∃ (pr pg pb pa : Int) (okv : Bool), (∀ w w0, P w0 w → Calls Try.prog 52 #[.agg #[.int .i64 f.w, .int .i64 f.h, .int .i64 f.d, .int .i64 f.c, .int .i64 f.l, .slice PA f.pal.length pc, .slice KA f.key.length kc], .slice An nu.length nc] w (fun e w' => e = .returned (.tuple #[.agg #[.int .i64 pr, .int .i64 pg, .int .i64 pb, .int .i64 pa], .bool okv]) ∧ Below w.heap.size w w')) ∧ ((okv = true ∧ r = some (pr, pg, pb, pa)) ∨ (okv = false ∧ r = none)) := by
  subst hr
  cases hp : pixOf f nu with
  | none => exact ⟨0, 0, 0, 0, false, fun w w0 hw => by have := h w w0 hw; rw [hp] at this; exact this, .inr ⟨rfl, rfl⟩⟩
  | some q =>
    obtain ⟨a, b, c, d⟩ := q
    exact ⟨a, b, c, d, true, fun w w0 hw => by have := h w w0 hw; rw [hp] at this; exact this, .inl ⟨rfl, rfl⟩⟩
/-- four cells stored: a pixel put -/
theorem px_put {w : World} {gp : Nat} {px : List Px} (h : Blk w gp 62 (px.flatMap encP).toArray) (v : Nat) (a b c d : Int) (hv : v < px.length) :
    Blk ((((w.setCell ⟨gp, v * 4, none⟩ (.int .i64 a)).setCell ⟨gp, v * 4 + 1, none⟩ (.int .i64 b)).setCell ⟨gp, v * 4 + 2, none⟩ (.int .i64 c)).setCell ⟨gp, v * 4 + 3, none⟩ (.int .i64 d)) gp 62 ((px.set v (a, b, c, d)).flatMap encP).toArray := by
  have k := (((h.set_ (v * 4) (.int .i64 a)).set_ (v * 4 + 1) (.int .i64 b)).set_ (v * 4 + 2) (.int .i64 c)).set_ (v * 4 + 3) (.int .i64 d)
  simp only [List.setIfInBounds_toArray] at k
  rw [show ((((px.flatMap encP).set (v * 4) (.int .i64 a)).set (v * 4 + 1) (.int .i64 b)).set (v * 4 + 2) (.int .i64 c)).set (v * 4 + 3) (.int .i64 d) = _ from cells_set px v (a, b, c, d) hv] at k
  exact k
set_option maxRecDepth 100000 in
set_option maxHeartbeats 8000000 in
theorem runpack_go (f : Fm) (PA KA A : Option Addr) (pc kc c n : Nat) (b : List Int) (W : World) (hf : formOk f = true) (hp : RdP W W.heap.size PA f.pal) (hk : RdI W W.heap.size KA f.key)
    (hn : n = b.length) (hd : (n : Int) = dataM f.w f.h f.d f.c f.l) (hm : n ≤ 10000) (hc : n ≤ c) (hA : A = none → c = 0) (hr : Rd W W.heap.size 1 A n (bytesV b)) (ok : ∀ x ∈ b, isB x) :
    Calls Try.prog 15 #[.agg #[.int .i64 f.w, .int .i64 f.h, .int .i64 f.d, .int .i64 f.c, .int .i64 f.l, .slice PA f.pal.length pc, .slice KA f.key.length kc], .slice A n c] W (UnpEndQ f b W) := by
  have hh : headErr f.w f.h f.d f.c f.l = 0 := (formOk_parts hf).1
  have Hf := hid hf
  have Hh := hid hh
  have Hp := hid hp
  have Hk := hid hk
  have Hr := hid hr
  have Hok := hid ok
  have Hn := hid hn
  have Hd := hid hd
  have HA := hid hA
  clear hf hh hp hk hr ok hn hd hA
  have hb := headErr_bnd Hh.out
  obtain ⟨w1, w2, h1, h2, hwh, l1, l2⟩ := hb
  obtain ⟨N, hN⟩ : ∃ N, N = (f.w * f.h).toNat := ⟨_, rfl⟩
  have hwp : 0 ≤ f.w * f.h := Int.mul_nonneg (by omega) (by omega)
  have hmul : f.w * f.h = (N : Int) := by rw [hN, Int.toNat_of_nonneg hwp]
  have hNm : N ≤ 262144 := by omega
  have HN := hid hN
  have hnat : f.w.toNat * f.h.toNat ≤ 262144 := by
    have e : ((f.w.toNat * f.h.toNat : Nat) : Int) = f.w * f.h := by rw [Int.natCast_mul, Int.toNat_of_nonneg (by omega), Int.toNat_of_nonneg (by omega)]
    omega
  have SP := hid (fun (w : World) => (rspread_any f.l f.w.toNat f.h.toNat (by omega) (by omega) (by omega) (by omega) (by omega) hnat w))
  rw [Int.toNat_of_nonneg (by omega), Int.toNat_of_nonneg (by omega)] at SP
  have DA := hid (fun (w : World) => rdata_any f.w f.h f.d f.c f.l Hh.out w)
  rw [← Hd.out] at DA
  clear hN hwp hnat hwh
  obtain ⟨v0, hv0, B2, B4, B6, BB, BS⟩ := three W #[.int .i64 f.w, .int .i64 f.h, .int .i64 f.d, .int .i64 f.c, .int .i64 f.l, .slice PA f.pal.length pc, .slice KA f.key.length kc] #[.int .i64 0, .int .i64 0, .slice none 0 0] #[.int .i64 f.w, .int .i64 f.h, .int .i64 f.d, .int .i64 f.c, .int .i64 f.l]
    27 33 23
  go_enter Try.func15, Try.ntmps15
  go_upto_region 2 with (fail)
  rw [← hv0]
  clear hv0
  obtain ⟨g2, hg2⟩ : ∃ g, g = W.heap.size := ⟨_, rfl⟩
  have Hg2 := hid hg2
  rw [← hg2] at B2 B4 B6 ⊢
  obtain ⟨g4, hg4⟩ : ∃ g, g = g2 + 1 := ⟨_, rfl⟩
  have Hg4 := hid hg4
  rw [← hg4] at B4 B6 ⊢
  obtain ⟨g6, hg6⟩ : ∃ g, g = g4 + 1 := ⟨_, rfl⟩
  have Hg6 := hid hg6
  rw [← hg6] at B6 ⊢
  clear hg2 hg4 hg6
  have q0 := B6.cell 0
  have q1 := B6.cell 1
  have q2 := B6.cell 2
  have q3 := B6.cell 3
  have q4 := B6.cell 4
  simp only [List.getElem?_toArray, List.getElem?_cons_zero, List.getElem?_cons_succ] at q0 q1 q2 q3 q4
  have l6 := B6.lt
  have K2 := hid B2
  have K4 := hid B4
  have K6 := hid B6
  have KB := hid BB
  have KS := hid BS
  clear B2 B4 B6 BB BS
  go_wp2_with fail
  refine (DA.out _).mono ?_
  rintro e u1 ⟨rfl, hb1⟩
  have P2 := hid (K2.out.below hb1 K2.out.lt)
  have P4 := hid (K4.out.below hb1 K4.out.lt)
  have P6 := hid (K6.out.below hb1 K6.out.lt)
  have PB := hid (KB.out.trans (hb1.mono KB.out.size))
  have PS := hid (show W.heap.size + 3 ≤ u1.heap.size by rw [← KS.out]; exact hb1.size)
  clear hb1 K2 K4 K6 KB KS q0 q1 q2 q3 q4 l6 DA
  have q0 := P6.out.cell 0
  have q1 := P6.out.cell 1
  have q2 := P6.out.cell 2
  have q3 := P6.out.cell 3
  have q4 := P6.out.cell 4
  simp only [List.getElem?_toArray, List.getElem?_cons_zero, List.getElem?_cons_succ] at q0 q1 q2 q3 q4
  have l6 := P6.out.lt
  go_wp2_with fail
  refine (SP.out u1).mono ?_
  rintro e u3 ⟨A8, c8, n8, rfl, hn8, ho8, hb3⟩
  have Hn8 := hid hn8
  have T2 := hid (P2.out.below hb3 P2.out.lt)
  have T4 := hid (P4.out.below hb3 P4.out.lt)
  have T6 := hid (P6.out.below hb3 P6.out.lt)
  have TB := hid (PB.out.trans (hb3.mono PB.out.size))
  have TS := hid (show W.heap.size + 3 ≤ u3.heap.size from Nat.le_trans PS.out hb3.size)
  have TO := hid (own_base ho8 (show W.heap.size + 3 ≤ u1.heap.size from PS.out))
  clear P2 P4 P6 PB PS q0 q1 q2 q3 q4 l6 hn8 ho8 hb3 SP
  go_upto_region 5 with (fail)
  have hs4 : g6 < u3.heap.size := T6.out.lt
  have q0 := T6.out.cell 0
  have q1 := T6.out.cell 1
  have q2 := T6.out.cell 2
  have q3 := T6.out.cell 3
  have q4 := T6.out.cell 4
  simp only [List.getElem?_toArray, List.getElem?_cons_zero, List.getElem?_cons_succ] at q0 q1 q2 q3 q4
  have l6 := T6.out.lt
  have hmk := room_px N (by omega)
  go_cut [9] from 43 to 53 (fun v wq => ∃ g10 gp, v = .pointer (some ⟨g10, 0, none⟩) ∧ g6 < gp ∧ u3.heap.size ≤ gp ∧ g6 < g10 ∧ gp ≠ g10 ∧ Hid (Blk wq g10 33 #[.int .i64 f.w, .int .i64 f.h, .slice (some ⟨gp, 0, none⟩) N N]) ∧ Hid (Blk wq gp 62 ((pxZ N).flatMap encP).toArray) ∧ Hid (Below u3.heap.size u3 wq))
  · skip
    refine set_lit (S := (Nat × Nat) × World) [9, 11, 12]
      (fun x i => [.pointer (some ⟨g6, 0, none⟩), .int .i64 f.w, .pointer (some ⟨g6, 1, none⟩), .int .i64 f.h, .pointer (some ⟨g6, 0, none⟩), .int .i64 f.w, .pointer (some ⟨g6, 1, none⟩), .int .i64 f.h, .int .i64 (N : Int), .slice (some ⟨x.1.1, 0, none⟩) N N, .agg #[.int .i64 f.w, .int .i64 f.h, .slice (some ⟨x.1.1, 0, none⟩) N N], .pointer (some ⟨x.1.2, 0, none⟩), undef].getD i undef)
      (fun x => x.2) (fun l x => Below u3.heap.size u3 x.2 ∧ (l.getD 0 false = true → u3.heap.size ≤ x.1.1 ∧ Blk x.2 x.1.1 62 ((pxZ N).flatMap encP).toArray) ∧ (l.getD 1 false = true → l.getD 2 false = false → u3.heap.size ≤ x.1.2 ∧ Blk x.2 x.1.2 33 #[.int .i64 0, .int .i64 0, .slice none 0 0]) ∧ (l.getD 2 false = true → (l.getD 0 false = true ∧ l.getD 1 false = true) ∧ u3.heap.size ≤ x.1.2 ∧ Blk x.2 x.1.2 33 #[.int .i64 f.w, .int .i64 f.h, .slice (some ⟨x.1.1, 0, none⟩) N N]))
      (fun i => if i = 10 then [9] else if i = 12 then [9, 11] else []) ?af (((0, 0), u3.drew)) (by kernel_rfl) (by kernel_rfl) (by kernel_rfl) (by kernel_rfl) (by kernel_rfl) rfl ?hR0 ?haf ?hy ?hQ
    case haf =>
      intro x
      simp only [actOf, dstAt, List.length_cons, List.length_nil, Nat.reduceAdd, List.getElem?_cons_zero, List.getElem?_cons_succ, Option.bind_some, if_true, List.getD_cons_zero, List.getD_cons_succ, Act.put, List.setIfInBounds_toArray, List.set_cons_zero, List.set_cons_succ]
      rfl
    case hR0 => exact ⟨(Below.refl _ _).drew, fun h => absurd h (by decide), fun h => absurd h (by decide), fun h => absurd h (by decide)⟩
    case hy =>
      intro s x hR
      obtain ⟨hb, r9, r11, r12⟩ := hR
      have r9 : s 9 = true → u3.heap.size ≤ x.1.1 ∧ Blk x.2 x.1.1 62 ((pxZ N).flatMap encP).toArray := r9
      have r11 : s 11 = true → s 12 = false → u3.heap.size ≤ x.1.2 ∧ Blk x.2 x.1.2 33 #[.int .i64 0, .int .i64 0, .slice none 0 0] := r11
      have r12 : s 12 = true → (s 9 = true ∧ s 11 = true) ∧ u3.heap.size ≤ x.1.2 ∧ Blk x.2 x.1.2 33 #[.int .i64 f.w, .int .i64 f.h, .slice (some ⟨x.1.1, 0, none⟩) N N] := r12
      have hD0 := (T6.out.below hb T6.out.lt).cell 0
      have hD1 := (T6.out.below hb T6.out.lt).cell 1
      simp only [List.getElem?_toArray, List.getElem?_cons_zero, List.getElem?_cons_succ] at hD0 hD1
      have hsz := hb.size
      simp only [AllY]
      refine ⟨?_, ?_, ?_, ?_, ?_, ?_, ?_, ?_, ?_, ?_, ?_, ?_, ?_, trivial⟩
      case refine_10 =>
        intro h9 hd
        refine .inl ⟨.slice (some ⟨x.2.heap.size, 0, none⟩) N N, x.2.alloc (.cells ((pxZ N).flatMap encP).toArray 62), by simp [execOp, go_sem, Act.eval, hmk], ((x.2.heap.size, x.1.2), x.2.alloc (.cells ((pxZ N).flatMap encP).toArray 62)), ⟨hb.alloc hb.size _, fun _ => ⟨hb.size, Blk.new _ _ _⟩, fun h1 h2 => ?_, fun h => ?_⟩, rfl, rfl, fun j hj hc hne => ?_⟩
        · have h1 : (s 11 || 11 == 9) = true := h1
          have h2 : (s 12 || 12 == 9) = false := h2
          simp at h1 h2
          exact ⟨(r11 h1 h2).1, (r11 h1 h2).2.alloc _⟩
        · have h : (s 12 || 12 == 9) = true := h
          simp at h
          exact absurd (r12 h).1.1 (by rw [h9]; decide)
        · have hj : j < 13 := hj
          rcases (show j = 0 ∨ j = 1 ∨ j = 2 ∨ j = 3 ∨ j = 4 ∨ j = 5 ∨ j = 6 ∨ j = 7 ∨ j = 8 ∨ j = 9 ∨ j = 10 ∨ j = 11 ∨ j = 12 by omega) with rfl | rfl | rfl | rfl | rfl | rfl | rfl | rfl | rfl | rfl | rfl | rfl | rfl <;> first | rfl | exact absurd rfl hne | exact absurd hc (by decide)
      case refine_12 =>
        intro h11 hd
        refine .inl ⟨.pointer (some ⟨x.2.heap.size, 0, none⟩), x.2.alloc (.cells #[.int .i64 0, .int .i64 0, .slice none 0 0] 33), by simp [execOp, go_sem], ((x.1.1, x.2.heap.size), x.2.alloc (.cells #[.int .i64 0, .int .i64 0, .slice none 0 0] 33)), ⟨hb.alloc hb.size _, fun h => ?_, fun _ _ => ⟨hb.size, Blk.new _ _ _⟩, fun h => ?_⟩, rfl, rfl, fun j hj hc hne => ?_⟩
        · have h : (s 9 || 9 == 11) = true := h
          simp at h
          exact ⟨(r9 h).1, (r9 h).2.alloc _⟩
        · have h : (s 12 || 12 == 11) = true := h
          simp at h
          exact absurd (r12 h).1.2 (by rw [h11]; decide)
        · have hj : j < 13 := hj
          rcases (show j = 0 ∨ j = 1 ∨ j = 2 ∨ j = 3 ∨ j = 4 ∨ j = 5 ∨ j = 6 ∨ j = 7 ∨ j = 8 ∨ j = 9 ∨ j = 10 ∨ j = 11 ∨ j = 12 by omega) with rfl | rfl | rfl | rfl | rfl | rfl | rfl | rfl | rfl | rfl | rfl | rfl | rfl <;> first | rfl | exact absurd rfl hne | exact absurd hc (by decide)
      case refine_13 =>
        intro h12 hd
        have h9 := hd 9 (by decide)
        have h11 := hd 11 (by decide)
        obtain ⟨s9, k9⟩ := r9 h9
        obtain ⟨s11, k11⟩ := r11 h11 h12
        have hne := blk_neS k9 k11 (by decide)
        have c0 := k11.cell 0
        have c1 := k11.cell 1
        have c2 := k11.cell 2
        simp only [List.getElem?_toArray, List.getElem?_cons_zero, List.getElem?_cons_succ] at c0 c1 c2
        have fz := fun o => k11.frozen o
        have ll := k11.lt
        refine .inr (.inl ⟨((x.2.setCell ⟨x.1.2, 0, none⟩ (.int .i64 f.w)).setCell ⟨x.1.2, 1, none⟩ (.int .i64 f.h)).setCell ⟨x.1.2, 2, none⟩ (.slice (some ⟨x.1.1, 0, none⟩) N N), by simp [execOp, go_sem, Act.eval, c0, c1, c2, fz], rfl, (x.1, ((x.2.setCell ⟨x.1.2, 0, none⟩ (.int .i64 f.w)).setCell ⟨x.1.2, 1, none⟩ (.int .i64 f.h)).setCell ⟨x.1.2, 2, none⟩ (.slice (some ⟨x.1.1, 0, none⟩) N N)), ⟨((hb.setCell s11 _).setCell s11 _).setCell s11 _, fun _ => ⟨s9, ((k9.far hne _).far hne _).far hne _⟩, fun h1 h2 => ?_, fun h => ⟨⟨by show (s 9 || 9 == 12) = true; rw [h9]; rfl, by show (s 11 || 11 == 12) = true; rw [h11]; rfl⟩, s11, ((k11.set_ 0 _).set_ 1 _).set_ 2 _⟩⟩, rfl, rfl, fun j hj hc hne => rfl⟩)
        have h2 : (s 12 || 12 == 12) = false := h2
        simp at h2
      case refine_9 => exact fun _ _ => .inl (by simp [execOp, go_sem, Act.eval, hmul]; exact IntWalk.i64_in _ (by omega))
      all_goals exact fun _ _ => .inl (by simp [execOp, go_sem, Act.eval, hD0, hD1])
    case hQ =>
      intro x hR
      obtain ⟨hb, r9, r11, r12⟩ := hR
      obtain ⟨s9, k9⟩ := r9 rfl
      obtain ⟨_, s12, k12⟩ := r12 rfl
      show Exit.then _ _ .normal _ x.2
      go_wp2_with fail
      go_meet
      exact ⟨x.1.2, x.1.1, rfl, by omega, s9, by omega, blk_neS k9 k12 (by decide), hid k12, hid k9, hid hb⟩
  obtain ⟨g9, gp, rfl, o1, o0, o2, o3, X9, XP, XB⟩ := hcut
  obtain ⟨pl, hpl⟩ : ∃ pl, pl = spreadM f.l f.w.toNat f.h.toNat := ⟨_, rfl⟩
  rw [← hpl] at TO Hn8
  have Hpl := hid hpl
  obtain rfl : n8 = pl.length := Hn8.out
  have Y6 := hid (T6.out.below XB.out T6.out.lt)
  have Y2 := hid (T2.out.below XB.out T2.out.lt)
  have Y4 := hid (T4.out.below XB.out T4.out.lt)
  have YO := hid ((own_rd TO.out).below XB.out (Nat.le_refl _) |>.more o0)
  have YC := hid (show pl.length ≤ c8 from own_capH TO.out)
  have YB := hid (TB.out.trans (XB.out.mono TB.out.size))
  clear hpl Hn8 hmk q0 q1 q2 q3 q4 l6 T2 T4 T6 TO TB XB
  have q0 := Y6.out.cell 0
  have q1 := Y6.out.cell 1
  have q2 := Y6.out.cell 2
  have q3 := Y6.out.cell 3
  have q4 := Y6.out.cell 4
  simp only [List.getElem?_toArray, List.getElem?_cons_zero, List.getElem?_cons_succ] at q0 q1 q2 q3 q4
  have l6 := Y6.out.lt
  have hch : chan f.c = (manyI f : Nat) := (chan_in (headErr_deep Hh.out).2.2).2.2
  have CH := hid (show ∀ w : World, Calls Try.prog 48 #[.int .i64 f.c] w (fun e w' => e = .returned (.int .i64 (manyI f : Nat)) ∧ Below w.heap.size w w') from fun w => by rw [← hch]; exact refChannels_any f.c w)
  clear hch
  go_upto_region 6 with (fail)
  go_wp2_with fail
  refine (CH.out wc).mono ?_
  rintro e wq ⟨rfl, hbq⟩
  have Z2 := hid (Y2.out.below hbq Y2.out.lt)
  have Z4 := hid (Y4.out.below hbq Y4.out.lt)
  have Z6 := hid (Y6.out.below hbq Y6.out.lt)
  have Z9 := hid (X9.out.below hbq X9.out.lt)
  have ZP := hid (XP.out.below hbq XP.out.lt)
  have ZO := hid (show Rd wq gp 1 A8 pl.length (intsV pl) from YO.out.below hbq (Nat.le_of_lt XP.out.lt))
  have ZB := hid (YB.out.trans (hbq.mono YB.out.size))
  clear hbq X9 XP YO YB Y2 Y4 Y6 q0 q1 q2 q3 q4 l6 CH hs4
  go_upto_region 10 with (fail)
  go_loopw [11, 12, 13] (fun v11 v12 v13 wr => ∃ (p : Nat) (Q : List Px), p ≤ 7 ∧ v13 = .int .i64 (p : Int) ∧ v11 = .int .i64 ((offI f (cntI f p) : Nat) : Int) ∧ v12 = .int .i64 (Q.length : Int) ∧ Hid (allO f b (cntI f p) = Q.map some) ∧ Hid (Chg [gp] wq wr) ∧ Hid (Blk wr gp 62 ((putAll pl Q (pxZ N)).flatMap encP).toArray) ∧ Hid (Below W.heap.size W wr)) (fun _ _ i _ => 7 - (intOf i).toNat)
  case atStart => exact ⟨0, [], by omega, rfl, by rw [cnt_zero]; rfl, rfl, hid (by rw [cnt_zero]; rfl), hid (Chg.refl _ _), by rw [putAll_nil]; exact ZP, ZB⟩
  case round =>
    obtain ⟨p, Q, hp7, rfl, rfl, rfl, HQ, HC, HPx, HB⟩ := hrel
    have ngp : ∀ g, g ≠ gp → g ∉ [gp] := fun g h hm => h (List.mem_singleton.1 hm)
    have n2 : g2 ≠ gp := by have := Hg4.out; have := Hg6.out; omega
    have n4 : g4 ≠ gp := by have := Hg6.out; omega
    have n6 : g6 ≠ gp := by omega
    have M2 := hid (HC.out.blk Z2.out (ngp _ n2))
    have M4 := hid (HC.out.blk Z4.out (ngp _ n4))
    have M6 := hid (HC.out.blk Z6.out (ngp _ n6))
    have M9 := hid (HC.out.blk Z9.out (ngp _ (fun e => o3 e.symm)))
    by_cases hlt : p < 7
    · have d2 : decide (p < 7) = true := decide_eq_true hlt
      have d2i : decide ((p : Int) < 7) = true := decide_eq_true (by omega)
      have SZ := hid (fun (w : World) => rsize17_any f.w f.h f.d f.c f.l p hlt w1 w2 h1 h2 w)
      obtain ⟨s1, s2, s3, s4⟩ := sizeR_bd f.w f.h f.l p w1 w2 h1 h2
      by_cases hz : 0 < (sizeR f.w f.h f.l p).1
      · have CP := hid (cnt_pass f w1 hlt hz)
        have CC := hid (cnt_cols f Hh.out hlt hz)
        have CY := hid (cnt_yes f w1 hz)
        obtain ⟨k, hk⟩ : ∃ k, k = cntI f p := ⟨_, rfl⟩
        rw [← hk] at CP CC CY HQ ⊢
        have Hk2 := hid hk
        have hk2 : k < passN f := CP.out.1
        obtain ⟨_, pc1, pc2, pr1, pr2⟩ := pass_pos f Hh.out hk2
        obtain ⟨rl1, rl2, rle, rlb, rlm⟩ := row_pos f Hh.out hk2
        have hoff : offI f k + segI f k ≤ b.length := by
          have h1 := offI_mono f (passN f) (show k + 1 ≤ passN f by omega)
          rw [offI] at h1
          have h2 := offI_all f Hh.out
          have h3 := Hd.out
          have h4 := Hn.out
          rw [h2] at h3
          omega
        have hsg : segI f k = rowsI f k * (1 + rowI f k) := rfl
        have hbl : b.length ≤ 10000 := by rw [← Hn.out]; exact hm
        rw [CC.out] at SZ
        clear hk hz s1 s2 s3 s4
        obtain ⟨co, hco⟩ : ∃ c, c = colsI f k := ⟨_, rfl⟩
        obtain ⟨ro, hro⟩ : ∃ c, c = rowsI f k := ⟨_, rfl⟩
        obtain ⟨rl, hrl⟩ : ∃ c, c = rowI f k := ⟨_, rfl⟩
        obtain ⟨sg, hsg2⟩ : ∃ c, c = segI f k := ⟨_, rfl⟩
        obtain ⟨ok, hok⟩ : ∃ c, c = offI f k := ⟨_, rfl⟩
        rw [← hco, ← hro] at SZ
        rw [← hco] at pc1 pc2 rle rlb rlm
        rw [← hro] at pr1 pr2
        rw [← hrl] at rl1 rl2 rle rlb
        rw [← hsg2, ← hok] at hoff
        rw [← hsg2, ← hro, ← hrl] at hsg
        rw [← hok]
        have Hco := hid hco
        have Hro := hid hro
        have Hrl := hid hrl
        have Hsg2 := hid hsg2
        have Hok2 := hid hok
        have Hsg := hid hsg
        have Hrlb := hid rlb
        have e1 : (ro : Int) * ((rl : Int) + 1) = (sg : Int) := by rw [hsg, Nat.add_comm 1 rl]; simp
        have hro2 : ro ≤ sg := by rw [hsg]; exact Nat.le_mul_of_pos_right _ (by omega)
        have hrl2 : rl ≤ sg := by rw [hsg]; exact Nat.le_trans (by omega) (Nat.le_mul_of_pos_left _ pr1)
        have RS := hid (show ∀ w : World, Calls Try.prog 46 #[.agg #[.int .i64 f.w, .int .i64 f.h, .int .i64 f.d, .int .i64 f.c, .int .i64 f.l], .int .i64 (co : Nat)] w (fun e w' => e = .returned (.int .i64 (rl : Nat)) ∧ Below w.heap.size w w') from fun w => by rw [← rle]; exact rrow_any f.w f.h f.d f.c f.l (co : Nat) w (by omega) (by omega) Hh.out)
        have nz : decide (co = 0) = false := decide_eq_false (by omega)
        have nz2 : decide ((co : Int) = 0) = false := decide_eq_false (by omega)
        clear hco hro hrl hsg2 hok hsg rlb rle
        have q0 := M6.out.cell 0
        have q1 := M6.out.cell 1
        have q2 := M6.out.cell 2
        have q3 := M6.out.cell 3
        have q4 := M6.out.cell 4
        simp only [List.getElem?_toArray, List.getElem?_cons_zero, List.getElem?_cons_succ] at q0 q1 q2 q3 q4
        have l6' := M6.out.lt
        go_wp2_with fail
        refine (SZ.out wr).mono ?_
        rintro e w8 ⟨rfl, hb8⟩
        have P8 := hid (HPx.out.below hb8 HPx.out.lt)
        have C8 := hid (HC.out.below hb8)
        have B8 := hid (HB.out.trans (hb8.mono HB.out.size))
        have N6 := hid (M6.out.below hb8 M6.out.lt)
        clear hb8 HPx HC HB q0 q1 q2 q3 q4 l6'
        have q0 := N6.out.cell 0
        have q1 := N6.out.cell 1
        have q2 := N6.out.cell 2
        have q3 := N6.out.cell 3
        have q4 := N6.out.cell 4
        simp only [List.getElem?_toArray, List.getElem?_cons_zero, List.getElem?_cons_succ] at q0 q1 q2 q3 q4
        have l6' := N6.out.lt
        go_wp2_with fail
        refine (RS.out w8).mono ?_
        rintro e w9 ⟨rfl, hb9⟩
        have P9 := hid (P8.out.below hb9 P8.out.lt)
        have C9 := hid (C8.out.below hb9)
        have B9 := hid (B8.out.trans (hb9.mono B8.out.size))
        have L2 := hid (C9.out.blk Z2.out (ngp _ n2))
        have L4 := hid (C9.out.blk Z4.out (ngp _ n4))
        have L6 := hid (C9.out.blk Z6.out (ngp _ n6))
        have L9 := hid (C9.out.blk Z9.out (ngp _ (fun e => o3 e.symm)))
        have hW4 : W.heap.size ≤ g4 := by have := Hg2.out; have := Hg4.out; omega
        clear hb9 P8 C8 B8 N6 q0 q1 q2 q3 q4 l6' M2 M4 M6 M9 RS SZ
        have hcb : ok + sg ≤ n := by rw [Hn.out]; exact hoff
        obtain ⟨A4, hs4, r4, z4⟩ := slcB_lh b (w2 := w9) (B := W.heap.size) (ok : Int) ((ok : Int) + (sg : Int)) ok (ok + sg) sg rfl (by simp) rfl hcb hc HA.out (Hr.out.below B9.out (Nat.le_refl _))
        obtain ⟨sb, hsb⟩ : ∃ l, l = (b.drop ok).take sg := ⟨_, rfl⟩
        rw [← hsb] at r4
        have sbl : sb.length = sg := by rw [hsb, List.length_take, List.length_drop]; omega
        have HSb := hid (show sb = segB f b k by unfold segB; rw [← Hok2.out, ← Hsg2.out]; exact hsb)
        have Hbo := hid (show ∀ x ∈ sb, isB x from fun x hx => by rw [hsb] at hx; exact Hok.out x (List.mem_of_mem_drop (List.mem_of_mem_take hx)))
        have hd : deepOk f.d := (headErr_deep Hh.out).1
        have hdb := deep_bd hd
        obtain ⟨wb, hwb⟩ : ∃ v, v = whM f.d f.c := ⟨_, rfl⟩
        have Hwb := hid hwb
        have wb1 : 1 ≤ wb ∧ wb ≤ 8 := by rw [hwb]; exact whM_bd f.d f.c hd
        have WH := hid (fun w => rwhole_any f.w f.h f.d f.c f.l hd w)
        have UN := hid (fun (w : World) (h : Rd w w.heap.size 1 A4 sg (bytesV sb)) => runroll_any rl ro wb A4 (c - ok) sg sb w rl1 (by omega) pr1 (by omega) wb1.1 wb1.2 sbl.symm Hsg.out (by omega) (by omega) z4 h Hbo.out)
        unfold RunrEndB at UN
        rw [← hwb] at WH
        have Hr4 := hid r4
        have lW9 : W.heap.size ≤ w9.heap.size := B9.out.size
        clear hwb hsb r4 z4
        go_upto_region 15 with (fail)
        refine free_lit (S := (Value × Value) × World) (fun i => (i == 12) || (i == 13))
          (fun x i => [.slice A n c, .int .i64 (ok : Nat), .int .i64 (ok : Nat), .int .i64 (ro : Nat), .int .i64 (rl : Nat), .int .i64 ((rl : Int) + 1), .int .i64 (sg : Nat), .int .i64 ((ok : Int) + (sg : Int)), .slice A4 sg (c - ok), .int .i64 (rl : Nat), .int .i64 (ro : Nat), .agg #[.int .i64 f.w, .int .i64 f.h, .int .i64 f.d, .int .i64 f.c, .int .i64 f.l], .int .i64 wb, .tuple #[x.1.1, x.1.2], .tuple #[x.1.1, x.1.2], x.1.1, x.1.2, x.1.1, x.1.2].getD i undef)
          (fun x => x.2) (fun k x => match k with | 0 => x = ((undef, undef), w9.drew) | 1 => x.1 = (undef, undef) ∧ Below w9.heap.size w9 x.2 | 2 => Below w9.heap.size w9 x.2 ∧ ((kindsOk rl sb ro ∧ ∃ A c, x.1 = (.slice A (ro * rl) c, .int .i64 0) ∧ x.2.ownsRow w9.heap.size 5 1 (.slice A (ro * rl) c) (ro * rl) (bytesV (unrO rl wb sb ro))) ∨ (¬ kindsOk rl sb ro ∧ x.1 = (.slice none 0 0, .int .i64 2))) | _ => False)
          (fun i => if i ≤ 12 then 0 else if i = 13 then 1 else 2) (fun i => 2) (fun _ => false) (fun _ => false) ?af3 ?ab3 2 (((undef, undef), w9.drew)) (by kernel_rfl) (by kernel_rfl) (by kernel_rfl) (by kernel_rfl) (by kernel_rfl) (by kernel_rfl) (by kernel_rfl) rfl rfl ?haf3 ?hab3 ?hy3 ?hQ3
        case haf3 =>
          intro x
          simp only [actOf, dstAt, List.length_cons, List.length_nil, Nat.reduceAdd, List.getElem?_cons_zero, List.getElem?_cons_succ, Option.bind_some, if_true, List.getD_cons_zero, List.getD_cons_succ, Act.put, List.setIfInBounds_toArray, List.set_cons_zero, List.set_cons_succ]
          rfl
        case hab3 =>
          intro x
          simp only [actOf, dstAt, List.length_cons, List.length_nil, Nat.reduceAdd, List.getElem?_cons_zero, List.getElem?_cons_succ, Option.bind_some, Bool.not_false, if_true, List.getD_cons_zero, List.getD_cons_succ, Act.put, List.setIfInBounds_toArray, List.set_cons_zero, List.set_cons_succ]
          rfl
        case hy3 =>
          intro k2 x hR
          have hb : Below w9.heap.size w9 x.2 := by
            match k2, hR with
            | 0, h => rw [show x = ((undef, undef), w9.drew) from h]; exact (Below.refl _ _).drew
            | 1, h => exact h.2
            | 2, h => exact h.1
          have hF0 := (L6.out.below hb L6.out.lt).cell 0
          have hF1 := (L6.out.below hb L6.out.lt).cell 1
          have hF2 := (L6.out.below hb L6.out.lt).cell 2
          have hF3 := (L6.out.below hb L6.out.lt).cell 3
          have hF4 := (L6.out.below hb L6.out.lt).cell 4
          simp only [List.getElem?_toArray, List.getElem?_cons_zero, List.getElem?_cons_succ] at hF0 hF1 hF2 hF3 hF4
          simp only [AllY]
          refine ⟨?_, ?_, ?_, ?_, ?_, ?_, ?_, ?_, ?_, ?_, ?_, ?_, ?_, ?_, ?_, ?_, ?_, ?_, ?_, trivial⟩
          case refine_6 => exact fun _ _ => .inl (by simp [execOp, go_sem, Act.eval]; exact IntWalk.i64_in _ (by omega))
          case refine_7 => exact fun _ _ => .inl (by simp [execOp, go_sem, Act.eval, e1]; exact IntWalk.i64_in _ (by omega))
          case refine_8 => exact fun _ _ => .inl (by simp [execOp, go_sem, Act.eval]; exact IntWalk.i64_in _ (by omega))
          case refine_13 =>
            intro hk
            obtain rfl : k2 = 0 := hk
            obtain rfl : x = ((undef, undef), w9.drew) := hR
            refine .inr (.inr ⟨50, #[.agg #[.int .i64 f.w, .int .i64 f.h, .int .i64 f.d, .int .i64 f.c, .int .i64 f.l]], w9.drew, by simp [go_sem, Act.eval], ?_⟩)
            refine (WH.out w9.drew).mono ?_
            rintro e w5 ⟨rfl, hb5⟩
            exact ⟨_, rfl, ((undef, undef), w5), ⟨rfl, (Below.refl _ _).drew.trans hb5⟩, rfl, rfl, fun i hi hd hn => rfl⟩
          case refine_14 =>
            intro hk
            obtain rfl : k2 = 1 := hk
            obtain ⟨⟨x1, x2⟩, x3⟩ := x
            obtain ⟨hx, _⟩ := hR
            obtain ⟨rfl, rfl⟩ := Prod.mk.inj hx
            have hsx : w9.heap.size ≤ x3.heap.size := hb.size
            refine .inr (.inr ⟨49, #[.slice A4 sg (c - ok), .int .i64 (rl : Int), .int .i64 (ro : Int), .int .i64 wb], x3, by simp [go_sem, Act.eval], ?_⟩)
            refine (UN.out x3 ((Hr4.out.below hb lW9).more (by omega))).mono ?_
            rintro e w5 ⟨hb5, (⟨hko, A5, c5, rfl, ho5⟩ | ⟨hko, rfl⟩)⟩
            · exact ⟨_, rfl, ((.slice A5 (ro * rl) c5, .int .i64 0), w5), ⟨hb.trans (hb5.mono hb.size), .inl ⟨hko, A5, c5, rfl, own_base ho5 hb.size⟩⟩, rfl, rfl, fun i hi hd hn => by
                have hd : (if i ≤ 12 then 0 else if i = 13 then 1 else 2) ≤ 1 := hd
                dsimp only
                refine agree_upto 13 ?_ i (by
                  rcases Nat.lt_or_ge i 13 with h | h
                  · exact h
                  · rw [if_neg (by omega), if_neg (by omega)] at hd; omega)
                rfl⟩
            · exact ⟨_, rfl, ((.slice none 0 0, .int .i64 2), w5), ⟨hb.trans (hb5.mono hb.size), .inr ⟨hko, rfl⟩⟩, rfl, rfl, fun i hi hd hn => by
                have hd : (if i ≤ 12 then 0 else if i = 13 then 1 else 2) ≤ 1 := hd
                dsimp only
                refine agree_upto 13 ?_ i (by
                  rcases Nat.lt_or_ge i 13 with h | h
                  · exact h
                  · rw [if_neg (by omega), if_neg (by omega)] at hd; omega)
                rfl⟩
          all_goals exact fun _ _ => .inl (by simp [execOp, go_sem, Act.eval, hF0, hF1, hF2, hF3, hF4, hs4])
        case hQ3 =>
          rintro ⟨⟨v1, v2⟩, w5⟩ hR
          show Exit.then _ _ .normal _ w5
          obtain ⟨hb5, (⟨hko, A5, c5, hx, ho5⟩ | ⟨hko, hx⟩)⟩ := hR
          rotate_left
          · obtain ⟨rfl, rfl⟩ := Prod.mk.inj hx
            have HNo := hid (unpR_none (f := f) (b := b) (j := k + 1) (by omega) (passO_bad (by rw [← Hrl.out, ← Hro.out, ← HSb.out]; exact hko)))
            have D4 := hid (L4.out.below hb5 L4.out.lt)
            obtain ⟨wz, hwz, bz, endz⟩ := rq_fail D4.out hW4 (B9.out.trans (hb5.mono B9.out.size)) HNo.out
            have Hwz := hid hwz
            clear hko hb5 hx hwz
            have d0 := D4.out.cell 0
            have d1 := D4.out.cell 1
            have d2 := D4.out.cell 2
            simp only [List.getElem?_toArray, List.getElem?_cons_zero, List.getElem?_cons_succ] at d0 d1 d2
            have fz4 := fun o => D4.out.frozen o
            have l4 := D4.out.lt
            have z0 := (bz.cell 0).trans rfl
            have z1 := (bz.cell 1).trans rfl
            have z2 := (bz.cell 2).trans rfl
            clear z0 z1 z2
            go_wp2_with fail
            rw [Hwz.out]
            have z0 := (bz.cell 0).trans rfl
            have z1 := (bz.cell 1).trans rfl
            have z2 := (bz.cell 2).trans rfl
            refine bodyPost_ret (v := .tuple #[.agg #[.int .i64 0, .int .i64 0, .slice none 0 0], .bool false]) (by simp [results, Try.results15, go_sem, z0, z1, z2]) rfl endz
          · obtain ⟨rfl, rfl⟩ := Prod.mk.inj hx
            obtain ⟨nr, hnr⟩ : ∃ n, n = ro * rl := ⟨_, rfl⟩
            have Hnr := hid hnr
            rw [← hnr] at ho5 ⊢
            have HKo := hid hko
            have HO5 := hid ho5
            have D2 := hid (L2.out.below hb5 L2.out.lt)
            have D4 := hid (L4.out.below hb5 L4.out.lt)
            have D6 := hid (L6.out.below hb5 L6.out.lt)
            have D9 := hid (L9.out.below hb5 L9.out.lt)
            have DP := hid (P9.out.below hb5 P9.out.lt)
            have DC := hid (C9.out.below hb5)
            have DB := hid (B9.out.trans (hb5.mono B9.out.size))
            have hgp9 : gp < w9.heap.size := P9.out.lt
            have hnl : (unrO rl wb sb ro).length = nr := by have := ho5.1; simpa [bytesV] using this
            have hnm : nr ≤ sg := by rw [hnr, Hsg.out]; exact Nat.mul_le_mul_left _ (by omega)
            clear hko ho5 hb5 hx hnr L2 L4 L6 L9 P9 C9 B9 UN WH Hr4 hs4 lW9
            go_upto_region 20 with (fail)
            go_loopw [12, 19] (fun v12 v19 wr => ∃ (y : Nat) (Q2 : List Px), y ≤ ro ∧ v19 = .int .i64 (y : Int) ∧ v12 = .int .i64 (Q2.length : Int) ∧ Hid (allO f b k ++ rowsO f b k y = Q2.map some) ∧ Hid (Chg [gp] w5 wr) ∧ Hid (Blk wr gp 62 ((putAll pl Q2 (pxZ N)).flatMap encP).toArray) ∧ Hid (Below W.heap.size W wr)) (fun _ i _ => ro - (intOf i).toNat)
            case atStart => exact ⟨0, Q, by omega, rfl, rfl, hid (by rw [HQ.out]; simp [rowsO]), hid (Chg.refl _ _), DP, DB⟩
            case round =>
              obtain ⟨y, Q2, hy, rfl, rfl, HQ2, HC2, HP2, HB2⟩ := hrel
              have E6 := hid (HC2.out.blk D6.out (ngp _ n6))
              by_cases hly : y < ro
              · have dy : decide (y < ro) = true := decide_eq_true hly
                have dyi : decide ((y : Int) < (ro : Int)) = true := decide_eq_true (by omega)
                obtain ⟨yo, hyo⟩ : ∃ q, q = y * rl := ⟨_, rfl⟩
                have e2 : (y : Int) * (rl : Int) = (yo : Int) := by rw [hyo]; simp
                have hin : yo + rl ≤ nr := by rw [hyo]; exact chunk_in Hnr.out hly
                obtain ⟨A7, hs7, r7, z7⟩ := slcB_lh (unrO rl wb sb ro) (w2 := wr) (yo : Int) ((yo : Int) + (rl : Int)) yo (yo + rl) rl rfl (by simp) rfl hin (own_capH HO5.out) (own_cz HO5.out) (own_rd (HC2.out.own HO5.out (fun g hg => by rw [List.mem_singleton.1 hg]; exact hgp9)))
                obtain ⟨row, hrow⟩ : ∃ l, l = ((unrO rl wb sb ro).drop yo).take rl := ⟨_, rfl⟩
                rw [← hrow] at r7
                have hrwl : row.length = rl := by rw [hrow, List.length_take, List.length_drop, hnl]; omega
                have HRow := hid (show row = lineB f b k y by unfold lineB rowsB; rw [← Hrl.out, ← HSb.out, ← Hro.out, ← Hwb.out, hrow, hyo])
                have HRb := hid (show ∀ x ∈ row, isB x from fun x hx => by rw [hrow] at hx; exact unrO_isB rl wb sb ro x (List.mem_of_mem_drop (List.mem_of_mem_take hx)))
                obtain ⟨cm, hcm⟩ : ∃ n, n = co * manyI f := ⟨_, rfl⟩
                have e3 : (co : Int) * ((manyI f : Nat) : Int) = (cm : Int) := by rw [hcm]; simp
                have hmn : 1 ≤ manyI f ∧ manyI f ≤ 4 := ⟨(chan_in (headErr_deep Hh.out).2.2).1, (chan_in (headErr_deep Hh.out).2.2).2.1⟩
                have hlb : 8 * rl = cm * f.d.toNat + 7 - (cm * f.d.toNat + 7) % 8 := by rw [hcm]; exact Hrlb.out
                have hcm2 : cm ≤ 80000 := by
                  have h1 : cm ≤ cm * f.d.toNat := Nat.le_mul_of_pos_right _ (by omega)
                  omega
                have SU := hid (show ∀ w : World, Rd w w.heap.size 1 A7 rl (bytesV row) → Calls Try.prog 51 #[.slice A7 rl (c5 - yo), .int .i64 f.d, .int .i64 (cm : Int)] w (RunpEnd row f.d.toNat cm w) from fun w h => by
                  have hh := rsunpack_any A7 (c5 - yo) rl f.d.toNat cm row w (by rw [Int.toNat_of_nonneg (by omega)]; exact hd) hrwl.symm hlb (by omega) (by rw [hrwl]; exact h) HRb.out (by omega)
                  rw [Int.toNat_of_nonneg (by omega)] at hh
                  exact hh)
                unfold RunpEnd at SU
                have Hcm := hid hcm
                have Hr7 := hid r7
                have Hyo := hid hyo
                clear hrow hcm r7 hyo hlb
                go_upto_region 22 with (fail)
                refine free_lit (S := (Option Addr × Nat) × World) (fun i => i == 15)
                  (fun x i => [.slice A5 nr c5, .int .i64 (y : Nat), .int .i64 (rl : Nat), .int .i64 (yo : Nat), .int .i64 (y : Nat), .int .i64 (rl : Nat), .int .i64 (yo : Nat), .int .i64 (rl : Nat), .int .i64 ((yo : Int) + (rl : Int)), .slice A7 rl (c5 - yo), .pointer (some ⟨g6, 2, none⟩), .int .i64 f.d, .int .i64 (co : Nat), .int .i64 (manyI f : Nat), .int .i64 (cm : Nat), .tuple #[.slice x.1.1 cm x.1.2, .bool true], .tuple #[.slice x.1.1 cm x.1.2, .bool true], .slice x.1.1 cm x.1.2, .bool true, .slice x.1.1 cm x.1.2, .bool true].getD i undef)
                  (fun x => x.2) (fun k x => match k with | 0 => x = ((none, 0), wr.drew) | 1 => Below wr.heap.size wr x.2 ∧ x.2.ownsRow wr.heap.size 3 1 (.slice x.1.1 cm x.1.2) cm (intsV (unpM row f.d.toNat cm)) | _ => False)
                  (fun i => if i ≤ 15 then 0 else 1) (fun i => 1) (fun _ => false) (fun _ => false) ?af4 ?ab4 1 (((none, 0), wr.drew)) (by kernel_rfl) (by kernel_rfl) (by kernel_rfl) (by kernel_rfl) (by kernel_rfl) (by kernel_rfl) (by kernel_rfl) rfl rfl ?haf4 ?hab4 ?hy4 ?hQ4
                case haf4 =>
                  intro x
                  simp only [actOf, dstAt, List.length_cons, List.length_nil, Nat.reduceAdd, List.getElem?_cons_zero, List.getElem?_cons_succ, Option.bind_some, if_true, List.getD_cons_zero, List.getD_cons_succ, Act.put, List.setIfInBounds_toArray, List.set_cons_zero, List.set_cons_succ]
                  rfl
                case hab4 =>
                  intro x
                  simp only [actOf, dstAt, List.length_cons, List.length_nil, Nat.reduceAdd, List.getElem?_cons_zero, List.getElem?_cons_succ, Option.bind_some, Bool.not_false, if_true, List.getD_cons_zero, List.getD_cons_succ, Act.put, List.setIfInBounds_toArray, List.set_cons_zero, List.set_cons_succ]
                  rfl
                case hy4 =>
                  intro k2 x hR
                  have hb : Below wr.heap.size wr x.2 := by
                    match k2, hR with
                    | 0, h => rw [show x = ((none, 0), wr.drew) from h]; exact (Below.refl _ _).drew
                    | 1, h => exact h.1
                  have hF2 := (E6.out.below hb E6.out.lt).cell 2
                  simp only [List.getElem?_toArray, List.getElem?_cons_zero, List.getElem?_cons_succ] at hF2
                  simp only [AllY]
                  refine ⟨?_, ?_, ?_, ?_, ?_, ?_, ?_, ?_, ?_, ?_, ?_, ?_, ?_, ?_, ?_, ?_, ?_, ?_, ?_, ?_, ?_, trivial⟩
                  case refine_4 => exact fun _ _ => .inl (by simp [execOp, go_sem, Act.eval, e2]; exact IntWalk.i64_in _ (by omega))
                  case refine_7 => exact fun _ _ => .inl (by simp [execOp, go_sem, Act.eval, e2]; exact IntWalk.i64_in _ (by omega))
                  case refine_9 => exact fun _ _ => .inl (by simp [execOp, go_sem, Act.eval]; exact IntWalk.i64_in _ (by omega))
                  case refine_15 => exact fun _ _ => .inl (by simp [execOp, go_sem, Act.eval, e3]; exact IntWalk.i64_in _ (by omega))
                  case refine_16 =>
                    intro hk
                    obtain rfl : k2 = 0 := hk
                    obtain rfl : x = ((none, 0), wr.drew) := hR
                    refine .inr (.inr ⟨51, #[.slice A7 rl (c5 - yo), .int .i64 f.d, .int .i64 (cm : Int)], wr.drew, by simp [go_sem, Act.eval], ?_⟩)
                    refine (SU.out wr.drew Hr7.out.drew).mono ?_
                    rintro e w6 ⟨An, cn, rfl, ho6, hb6⟩
                    exact ⟨_, rfl, ((An, cn), w6), ⟨(Below.refl _ _).drew.trans hb6, ho6⟩, rfl, rfl, fun i hi hd hn => by
                      have hd : (if i ≤ 15 then 0 else 1) ≤ 0 := hd
                      dsimp only
                      refine agree_upto 15 ?_ i (by
                        rcases Nat.lt_or_ge i 15 with h | h
                        · exact h
                        · have : i ≠ 15 := hn
                          rw [if_neg (by omega)] at hd; omega)
                      rfl⟩
                  all_goals exact fun _ _ => .inl (by simp [execOp, go_sem, Act.eval, hF2, hs7])
                case hQ4 =>
                  rintro ⟨⟨AN, cn⟩, w6⟩ ⟨hb6, ho6⟩
                  show Exit.then _ _ .normal _ w6
                  obtain ⟨nm, hnm2⟩ : ∃ l, l = unpM row f.d.toNat cm := ⟨_, rfl⟩
                  have hnml : nm.length = cm := by rw [hnm2, unpM_len]
                  rw [← hnm2] at ho6
                  have HNm := hid (show nm = numsB f b k y by unfold numsB; rw [← HRow.out, ← Hco.out, ← Hcm.out]; exact hnm2)
                  have HO6 := hid ho6
                  have hgpr : gp < wr.heap.size := HP2.out.lt
                  have F2 := hid ((HC2.out.blk D2.out (ngp _ n2)).below hb6 (HC2.out.blk D2.out (ngp _ n2)).lt)
                  have F4 := hid ((HC2.out.blk D4.out (ngp _ n4)).below hb6 (HC2.out.blk D4.out (ngp _ n4)).lt)
                  have F9 := hid ((HC2.out.blk D9.out (ngp _ (fun e => o3 e.symm))).below hb6 (HC2.out.blk D9.out (ngp _ (fun e => o3 e.symm))).lt)
                  have FP := hid (HP2.out.below hb6 HP2.out.lt)
                  have FC := hid (HC2.out.below hb6)
                  have FW := hid ((DC.out.trans HC2.out).below hb6)
                  have FB := hid (HB2.out.trans (hb6.mono HB2.out.size))
                  clear hb6 ho6 hnm2 SU hs7 z7 Hr7 HC2 HP2 HB2 E6 dy dyi
                  go_upto_region 24 with (fail)
                  go_loopw [12, 22] (fun v12 v22 wr => ∃ (x : Nat) (Q3 : List Px), x ≤ co ∧ v22 = .int .i64 (x : Int) ∧ v12 = .int .i64 (Q3.length : Int) ∧ Hid (allO f b k ++ rowsO f b k y ++ lineO f b k y x = Q3.map some) ∧ Hid (Chg [gp] w6 wr) ∧ Hid (Blk wr gp 62 ((putAll pl Q3 (pxZ N)).flatMap encP).toArray) ∧ Hid (Below W.heap.size W wr)) (fun _ i _ => co - (intOf i).toNat)
                  case atStart => exact ⟨0, Q2, by omega, rfl, rfl, hid (by rw [HQ2.out]; simp [lineO]), hid (Chg.refl _ _), FP, FB⟩
                  case round =>
                    obtain ⟨xn, Q3, hx, rfl, rfl, HQ3, HC3, HP3, HB3⟩ := hrel
                    by_cases hlx : xn < co
                    · have dx : decide (xn < co) = true := decide_eq_true hlx
                      have dxi : decide ((xn : Int) < (co : Int)) = true := decide_eq_true (by omega)
                      obtain ⟨xo, hxo⟩ : ∃ q, q = xn * manyI f := ⟨_, rfl⟩
                      have e4 : (xn : Int) * ((manyI f : Nat) : Int) = (xo : Int) := by rw [hxo]; simp
                      have hin3 : xo + manyI f ≤ cm := by rw [hxo]; exact chunk_in Hcm.out hlx
                      obtain ⟨An, hs8, r8, z8⟩ := slcI_lh nm (w2 := wr) (xo : Int) ((xo : Int) + ((manyI f : Nat) : Int)) xo (xo + manyI f) (manyI f) rfl (by simp) rfl hin3 (own_capH HO6.out) (own_cz HO6.out) (own_rd (HC3.out.own HO6.out (fun g hg => by rw [List.mem_singleton.1 hg]; exact hgpr)))
                      obtain ⟨nu, hnu⟩ : ∃ l, l = (nm.drop xo).take (manyI f) := ⟨_, rfl⟩
                      rw [← hnu] at r8
                      have hnul : nu.length = manyI f := by rw [hnu, List.length_take, List.length_drop, hnml]; omega
                      have hrn : RdI wr wr.heap.size An nu := by
                        unfold RdI
                        rw [intsV_eq, hnul]
                        exact r8
                      have HPx := hid (show pixOf f nu = pixB f b k y xn by unfold pixB; rw [← HNm.out, ← hxo, ← hnu])
                      have hBW := HB3.out
                      obtain ⟨pr, pg, pb, pa, okv, hPX, hcase⟩ := rpix_gen (P := fun w0 w => Below w0.heap.size w0 w ∧ w0 = wr) (PA := PA) (KA := KA) (An := An) (pc := pc) (kc := kc) (nc := cn - xo) HPx.out (fun w w0 hw => by
                        obtain ⟨hw, rfl⟩ := hw
                        exact rpixel_any f PA KA An pc kc (cn - xo) nu w Hf.out ((RdP.below Hp.out (hBW.trans (hw.mono hBW.size)) (Nat.le_refl _)).more (Nat.le_trans hBW.size hw.size)) ((Rd.below Hk.out (hBW.trans (hw.mono hBW.size)) (Nat.le_refl _)).more (Nat.le_trans hBW.size hw.size)) ((Rd.below hrn hw (Nat.le_refl _)).more hw.size))
                      rw [hnul] at hPX
                      have PX := hid hPX
                      have Hcase := hid hcase
                      have F2' := hid (HC3.out.blk F2.out (ngp _ n2))
                      have F4' := hid (HC3.out.blk F4.out (ngp _ n4))
                      have F9' := hid (HC3.out.blk F9.out (ngp _ (fun e => o3 e.symm)))
                      have Hxo := hid hxo
                      clear hPX hcase hrn r8 hnu hxo hBW hnul
                      go_upto_region 26 with (fail)
                      refine set_lit (S := Nat × World) [11, 15, 16]
                        (fun x i => [.agg #[.int .i64 f.w, .int .i64 f.h, .int .i64 f.d, .int .i64 f.c, .int .i64 f.l, .slice PA f.pal.length pc, .slice KA f.key.length kc], .slice AN cm cn, .int .i64 (xn : Nat), .int .i64 (manyI f : Nat), .int .i64 (xo : Nat), .int .i64 (xn : Nat), .int .i64 (manyI f : Nat), .int .i64 (xo : Nat), .int .i64 (manyI f : Nat), .int .i64 ((xo : Int) + ((manyI f : Nat) : Int)), .slice An (manyI f) (cn - xo), .tuple #[.agg #[.int .i64 pr, .int .i64 pg, .int .i64 pb, .int .i64 pa], .bool okv], .tuple #[.agg #[.int .i64 pr, .int .i64 pg, .int .i64 pb, .int .i64 pa], .bool okv], .agg #[.int .i64 pr, .int .i64 pg, .int .i64 pb, .int .i64 pa], .bool okv, .pointer (some ⟨x.1, 0, none⟩), undef, .bool okv].getD i undef)
                        (fun x => x.2) (fun l x => Below wr.heap.size wr x.2 ∧ (l.getD 1 false = true → l.getD 2 false = false → wr.heap.size ≤ x.1 ∧ Blk x.2 x.1 62 #[.int .i64 0, .int .i64 0, .int .i64 0, .int .i64 0]) ∧ (l.getD 2 false = true → l.getD 1 false = true ∧ wr.heap.size ≤ x.1 ∧ Blk x.2 x.1 62 #[.int .i64 pr, .int .i64 pg, .int .i64 pb, .int .i64 pa]))
                        (fun i => if i = 16 then [15] else []) ?af5 ((0, wr.drew)) (by kernel_rfl) (by kernel_rfl) (by kernel_rfl) (by kernel_rfl) (by kernel_rfl) rfl ?hR05 ?haf5 ?hy5 ?hQ5
                      case haf5 =>
                        intro x
                        simp only [actOf, dstAt, List.length_cons, List.length_nil, Nat.reduceAdd, List.getElem?_cons_zero, List.getElem?_cons_succ, Option.bind_some, if_true, List.getD_cons_zero, List.getD_cons_succ, Act.put, List.setIfInBounds_toArray, List.set_cons_zero, List.set_cons_succ]
                        rfl
                      case hR05 => exact ⟨(Below.refl _ _).drew, fun h => absurd h (by decide), fun h => absurd h (by decide)⟩
                      case hy5 =>
                        intro s xw hR
                        obtain ⟨hb, r1, r2⟩ := hR
                        have r1 : s 15 = true → s 16 = false → wr.heap.size ≤ xw.1 ∧ Blk xw.2 xw.1 62 #[.int .i64 0, .int .i64 0, .int .i64 0, .int .i64 0] := r1
                        have r2 : s 16 = true → s 15 = true ∧ wr.heap.size ≤ xw.1 ∧ Blk xw.2 xw.1 62 #[.int .i64 pr, .int .i64 pg, .int .i64 pb, .int .i64 pa] := r2
                        have hsz := hb.size
                        have hF0 := (F2'.out.below hb F2'.out.lt).cell 0
                        have hF1 := (F2'.out.below hb F2'.out.lt).cell 1
                        have hF2 := (F2'.out.below hb F2'.out.lt).cell 2
                        have hF3 := (F2'.out.below hb F2'.out.lt).cell 3
                        have hF4 := (F2'.out.below hb F2'.out.lt).cell 4
                        have hF5 := (F2'.out.below hb F2'.out.lt).cell 5
                        have hF6 := (F2'.out.below hb F2'.out.lt).cell 6
                        simp only [List.getElem?_toArray, List.getElem?_cons_zero, List.getElem?_cons_succ] at hF0 hF1 hF2 hF3 hF4 hF5 hF6
                        simp only [AllY]
                        refine ⟨?_, ?_, ?_, ?_, ?_, ?_, ?_, ?_, ?_, ?_, ?_, ?_, ?_, ?_, ?_, ?_, ?_, ?_, trivial⟩
                        case refine_5 => exact fun _ _ => .inl (by simp [execOp, go_sem, Act.eval, e4]; exact IntWalk.i64_in _ (by omega))
                        case refine_8 => exact fun _ _ => .inl (by simp [execOp, go_sem, Act.eval, e4]; exact IntWalk.i64_in _ (by omega))
                        case refine_10 => exact fun _ _ => .inl (by simp [execOp, go_sem, Act.eval]; exact IntWalk.i64_in _ (by omega))
                        case refine_12 =>
                          intro h11 hd
                          refine .inr (.inr ⟨52, #[.agg #[.int .i64 f.w, .int .i64 f.h, .int .i64 f.d, .int .i64 f.c, .int .i64 f.l, .slice PA f.pal.length pc, .slice KA f.key.length kc], .slice An (manyI f) (cn - xo)], xw.2, by simp [go_sem, Act.eval], ?_⟩)
                          refine (PX.out xw.2 wr ⟨hb, rfl⟩).mono ?_
                          rintro e w7 ⟨rfl, hb7⟩
                          refine ⟨_, rfl, (xw.1, w7), ⟨hb.trans (hb7.mono hsz), fun h1 h2 => ?_, fun h => ?_⟩, rfl, rfl, fun j hj hc hne => rfl⟩
                          · have h1 : (s 15 || 15 == 11) = true := h1
                            have h2 : (s 16 || 16 == 11) = false := h2
                            simp at h1 h2
                            exact ⟨(r1 h1 h2).1, (r1 h1 h2).2.below hb7 (r1 h1 h2).2.lt⟩
                          · have h : (s 16 || 16 == 11) = true := h
                            simp at h
                            exact ⟨by show (s 15 || 15 == 11) = true; rw [(r2 h).1]; rfl, (r2 h).2.1, (r2 h).2.2.below hb7 (r2 h).2.2.lt⟩
                        case refine_16 =>
                          intro h15 hd
                          refine .inl ⟨.pointer (some ⟨xw.2.heap.size, 0, none⟩), xw.2.alloc (.cells #[.int .i64 0, .int .i64 0, .int .i64 0, .int .i64 0] 62), by simp [execOp, go_sem], (xw.2.heap.size, xw.2.alloc (.cells #[.int .i64 0, .int .i64 0, .int .i64 0, .int .i64 0] 62)), ⟨hb.alloc hb.size _, fun _ _ => ⟨hb.size, Blk.new _ _ _⟩, fun h => ?_⟩, rfl, rfl, fun j hj hc hne => ?_⟩
                          · have h : (s 16 || 16 == 15) = true := h
                            simp at h
                            exact absurd (r2 h).1 (by rw [h15]; decide)
                          · have hj : j < 18 := hj
                            rcases (show j = 0 ∨ j = 1 ∨ j = 2 ∨ j = 3 ∨ j = 4 ∨ j = 5 ∨ j = 6 ∨ j = 7 ∨ j = 8 ∨ j = 9 ∨ j = 10 ∨ j = 11 ∨ j = 12 ∨ j = 13 ∨ j = 14 ∨ j = 15 ∨ j = 16 ∨ j = 17 by omega) with rfl | rfl | rfl | rfl | rfl | rfl | rfl | rfl | rfl | rfl | rfl | rfl | rfl | rfl | rfl | rfl | rfl | rfl <;> first | rfl | exact absurd rfl hne | exact absurd hc (by decide)
                        case refine_17 =>
                          intro h16 hd
                          have h15 := hd 15 (by decide)
                          obtain ⟨s1, k1⟩ := r1 h15 h16
                          have c0 := k1.cell 0
                          have c1 := k1.cell 1
                          have c2 := k1.cell 2
                          have c3 := k1.cell 3
                          simp only [List.getElem?_toArray, List.getElem?_cons_zero, List.getElem?_cons_succ] at c0 c1 c2 c3
                          have fz := fun o => k1.frozen o
                          have ll := k1.lt
                          refine .inr (.inl ⟨(((xw.2.setCell ⟨xw.1, 0, none⟩ (.int .i64 pr)).setCell ⟨xw.1, 1, none⟩ (.int .i64 pg)).setCell ⟨xw.1, 2, none⟩ (.int .i64 pb)).setCell ⟨xw.1, 3, none⟩ (.int .i64 pa), by simp [execOp, go_sem, Act.eval, c0, c1, c2, c3, fz], rfl, (xw.1, (((xw.2.setCell ⟨xw.1, 0, none⟩ (.int .i64 pr)).setCell ⟨xw.1, 1, none⟩ (.int .i64 pg)).setCell ⟨xw.1, 2, none⟩ (.int .i64 pb)).setCell ⟨xw.1, 3, none⟩ (.int .i64 pa)), ⟨(((hb.setCell s1 _).setCell s1 _).setCell s1 _).setCell s1 _, fun h1 h2 => ?_, fun h => ⟨by show (s 15 || 15 == 16) = true; rw [h15]; rfl, s1, (((k1.set_ 0 _).set_ 1 _).set_ 2 _).set_ 3 _⟩⟩, rfl, rfl, fun j hj hc hne => rfl⟩)
                          have h2 : (s 16 || 16 == 16) = false := h2
                          simp at h2
                        all_goals exact fun _ _ => .inl (by simp [execOp, go_sem, Act.eval, hF0, hF1, hF2, hF3, hF4, hF5, hF6, hs8])
                      case hQ5 =>
                        rintro ⟨g23, w7⟩ hR
                        obtain ⟨hb7, _, r2⟩ := hR
                        obtain ⟨_, s7, k7⟩ := r2 rfl
                        have K7 := hid k7
                        have hb7 : Below wr.heap.size wr w7 := hb7
                        have G4 := hid (F4'.out.below hb7 F4'.out.lt)
                        have G9 := hid (F9'.out.below hb7 F9'.out.lt)
                        have GP := hid (HP3.out.below hb7 HP3.out.lt)
                        have GC := hid (HC3.out.below hb7)
                        have GB := hid (HB3.out.trans (hb7.mono HB3.out.size))
                        show Exit.then _ _ .normal _ w7
                        clear hb7 r2 k7 PX hs8 z8
                        rcases Hcase.out with ⟨rfl, hpx⟩ | ⟨rfl, hpx⟩
                        · have HPq := hid hpx
                          clear hpx
                          have hQl := allO_len f b k Q HQ.out
                          have hlen : Q3.length = pixI f k + y * co + xn := by
                            have h := congrArg List.length HQ3.out
                            rw [List.length_append, List.length_append, List.length_map, rowsO_len, lineO_len, HQ.out, List.length_map, hQl, ← Hco.out] at h
                            omega
                          have hpl3 : Q3.length < pl.length := by
                            have h1 := pixI_mono f (passN f) (show k + 1 ≤ passN f by omega)
                            rw [pixI_all f Hh.out, ← Hpl.out, pixI, ← Hro.out, ← Hco.out] at h1
                            have h2 : y * co + co ≤ ro * co := chunk_in rfl hly
                            omega
                          obtain ⟨vn, hvn, hvN⟩ : ∃ vn : Nat, pl[Q3.length] = (vn : Int) ∧ vn < N := by
                            have hm2 : pl[Q3.length] ∈ spreadM f.l f.w.toNat f.h.toNat := by rw [← Hpl.out]; exact List.getElem_mem hpl3
                            obtain ⟨q1, q2⟩ := spread_in hm2
                            refine ⟨(pl[Q3.length]).toNat, by omega, ?_⟩
                            have h3 : ((f.w.toNat * f.h.toNat : Nat) : Int) = f.w * f.h := by rw [Int.natCast_mul, Int.toNat_of_nonneg (by omega), Int.toNat_of_nonneg (by omega)]
                            rw [HN.out]
                            omega
                          have hpn : (putAll pl Q3 (pxZ N)).length = N := by rw [put_len]; simp [pxZ]
                          have hput : putAll pl (Q3 ++ [(pr, pg, pb, pa)]) (pxZ N) = (putAll pl Q3 (pxZ N)).set vn (pr, pg, pb, pa) := by
                            rw [put_snoc pl Q3 _ (pxZ N) hpl3, hvn, Int.toNat_natCast]
                          have HPut := hid hput
                          have hZ := (FW.out.trans GC.out).rd ZO.out (Nat.le_of_lt ZP.out.lt) (fun g hg => by rw [List.mem_singleton.1 hg]; exact Nat.le_refl _)
                          obtain ⟨pb8, po8, hA8, hpb, hcl⟩ := hZ.at_ (k := Q3.length) (by omega) (by omega)
                          have hcl0 := hcl Q3.length (.int .i64 (vn : Int)) (by unfold intsV; rw [List.getElem?_map, List.getElem?_eq_getElem hpl3, hvn]; rfl)
                          have t2 := (G9.out.cell 2).trans rfl
                          have l9 := G9.out.lt
                          obtain ⟨u0, hu0⟩ := px_cell GP.out (v := vn) (i := 0) (by rw [hpn]; exact hvN) (by omega)
                          obtain ⟨u1', hu1⟩ := px_cell GP.out (v := vn) (i := 1) (by rw [hpn]; exact hvN) (by omega)
                          obtain ⟨u2', hu2⟩ := px_cell GP.out (v := vn) (i := 2) (by rw [hpn]; exact hvN) (by omega)
                          obtain ⟨u3', hu3⟩ := px_cell GP.out (v := vn) (i := 3) (by rw [hpn]; exact hvN) (by omega)
                          rw [Nat.add_zero] at hu0
                          have fzp := fun o => GP.out.frozen o
                          have lgp := GP.out.lt
                          have p0 := K7.out.cell 0
                          have p1 := K7.out.cell 1
                          have p2 := K7.out.cell 2
                          have p3 := K7.out.cell 3
                          simp only [List.getElem?_toArray, List.getElem?_cons_zero, List.getElem?_cons_succ] at p0 p1 p2 p3
                          have lq' := K7.out.lt
                          have hlq : Q3.length ≤ 262144 := by
                            have h1 := pixI_off f Hh.out (passN f) (Nat.le_refl _)
                            have h2 := offI_all f Hh.out
                            have h3 := Hd.out
                            rw [pixI_all f Hh.out, ← Hpl.out] at h1
                            omega
                          go_upto_region 29 with (fail)
                          refine free_lit (S := World) (fun i => i == 8)
                            (fun x i => [.pointer (some ⟨g9, 2, none⟩), .slice (some ⟨gp, 0, none⟩) N N, .slice A8 pl.length c8, .int .i64 (Q3.length : Nat), .pointer (some ⟨pb8, po8 + Q3.length, none⟩), .int .i64 (vn : Int), .agg #[.int .i64 pr, .int .i64 pg, .int .i64 pb, .int .i64 pa], .pointer (some ⟨gp, vn * 4, none⟩), undef].getD i undef)
                            (fun x => x) (fun k x => match k with | 0 => x = w7.drew | 1 => x = ((((w7.drew.setCell ⟨gp, vn * 4, none⟩ (.int .i64 pr)).setCell ⟨gp, vn * 4 + 1, none⟩ (.int .i64 pg)).setCell ⟨gp, vn * 4 + 2, none⟩ (.int .i64 pb)).setCell ⟨gp, vn * 4 + 3, none⟩ (.int .i64 pa)) | _ => False)
                            (fun i => 0) (fun i => 0) (fun _ => false) (fun _ => false) ?af6 ?ab6 1 (w7.drew) (by kernel_rfl) (by kernel_rfl) (by kernel_rfl) (by kernel_rfl) (by kernel_rfl) (by kernel_rfl) (by kernel_rfl) rfl rfl ?haf6 ?hab6 ?hy6 ?hQ6
                          case haf6 =>
                            intro x
                            simp only [actOf, dstAt, List.length_cons, List.length_nil, Nat.reduceAdd, List.getElem?_cons_zero, List.getElem?_cons_succ, Option.bind_some, if_true, List.getD_cons_zero, List.getD_cons_succ, Act.put, List.setIfInBounds_toArray, List.set_cons_zero, List.set_cons_succ]
                            rfl
                          case hab6 =>
                            intro x
                            simp only [actOf, dstAt, List.length_cons, List.length_nil, Nat.reduceAdd, List.getElem?_cons_zero, List.getElem?_cons_succ, Option.bind_some, Bool.not_false, if_true, List.getD_cons_zero, List.getD_cons_succ, Act.put, List.setIfInBounds_toArray, List.set_cons_zero, List.set_cons_succ]
                            rfl
                          case hy6 =>
                            intro k4 xw hR
                            simp only [AllY]
                            refine ⟨?_, ?_, ?_, ?_, ?_, ?_, ?_, ?_, ?_, trivial⟩
                            case refine_9 =>
                              intro hk
                              obtain rfl : k4 = 0 := hk
                              obtain rfl : xw = w7.drew := hR
                              refine .inr (.inl ⟨((((w7.drew.setCell ⟨gp, vn * 4, none⟩ (.int .i64 pr)).setCell ⟨gp, vn * 4 + 1, none⟩ (.int .i64 pg)).setCell ⟨gp, vn * 4 + 2, none⟩ (.int .i64 pb)).setCell ⟨gp, vn * 4 + 3, none⟩ (.int .i64 pa)), by simp [execOp, go_sem, Act.eval, hu0, hu1, hu2, hu3, fzp], rfl, _, rfl, rfl, rfl, fun i hi hd hn => rfl⟩)
                            all_goals
                              intro _ hk
                              have hk : k4 ≤ 0 := hk
                              obtain rfl : k4 = 0 := by omega
                              obtain rfl : xw = w7.drew := hR
                              exact .inl (by simp [execOp, go_sem, Act.eval, t2, hA8, hcl0, p0, p1, p2, p3, hvN, hpl3])
                          case hQ6 =>
                            intro xw hR
                            obtain rfl : xw = _ := hR
                            show Exit.then _ _ .normal _ _
                            have T1 := hid ((((GC.out.below (Below.refl _ w7).drew).set (g := gp) (by simp) (vn * 4) (.int .i64 pr)).set (g := gp) (by simp) (vn * 4 + 1) (.int .i64 pg)).set (g := gp) (by simp) (vn * 4 + 2) (.int .i64 pb) |>.set (g := gp) (by simp) (vn * 4 + 3) (.int .i64 pa))
                            have T2 := hid (px_put GP.out.drew vn pr pg pb pa (by rw [hpn]; exact hvN))
                            rw [← HPut.out] at T2
                            have hWp : W.heap.size ≤ gp := by have := Hg2.out; have := Hg4.out; have := Hg6.out; omega
                            have T3 := hid ((((GB.out.drew.setCell (p := ⟨gp, vn * 4, none⟩) hWp (.int .i64 pr)).setCell (p := ⟨gp, vn * 4 + 1, none⟩) hWp (.int .i64 pg)).setCell (p := ⟨gp, vn * 4 + 2, none⟩) hWp (.int .i64 pb)).setCell (p := ⟨gp, vn * 4 + 3, none⟩) hWp (.int .i64 pa))
                            obtain ⟨vx, hvx⟩ : ∃ v, v = ((((w7.drew.setCell ⟨gp, vn * 4, none⟩ (.int .i64 pr)).setCell ⟨gp, vn * 4 + 1, none⟩ (.int .i64 pg)).setCell ⟨gp, vn * 4 + 2, none⟩ (.int .i64 pb)).setCell ⟨gp, vn * 4 + 3, none⟩ (.int .i64 pa)) := ⟨_, rfl⟩
                            simp only [← hvx] at T1 T2 T3 ⊢
                            clear hvx hu0 hu1 hu2 hu3 fzp lgp t2 l9 hcl hcl0 hpb hA8 p0 p1 p2 p3 lq' hZ GP GC GB G4 G9 hlen hvN hvn hput
                            go_wp2
                            go_roundw
                            case rel =>
                              refine ⟨xn + 1, Q3 ++ [(pr, pg, pb, pa)], by omega, by go_num, by rw [List.length_append]; go_num, hid ?_, T1, T2, T3⟩
                              rw [lineO_snoc, List.map_append, ← HQ3.out, HPq.out]
                              simp [List.append_assoc]
                            case measure => simp [intOf]; omega
                        · have HNo := hid (unpR_none (f := f) (b := b) (j := k + 1) (by omega) (pass_none (by rw [← Hro.out]; exact hly) (by rw [← Hco.out]; exact hlx) (by rw [← Hrl.out, ← Hro.out, ← HSb.out]; exact HKo.out) hpx))
                          obtain ⟨wz, hwz, bz, endz⟩ := rq_fail G4.out hW4 GB.out HNo.out
                          have Hwz := hid hwz
                          clear hpx hwz
                          have d0 := G4.out.cell 0
                          have d1 := G4.out.cell 1
                          have d2 := G4.out.cell 2
                          simp only [List.getElem?_toArray, List.getElem?_cons_zero, List.getElem?_cons_succ] at d0 d1 d2
                          have fz4 := fun o => G4.out.frozen o
                          have l4 := G4.out.lt
                          go_wp2_with fail
                          rw [Hwz.out]
                          have z0 := (bz.cell 0).trans rfl
                          have z1 := (bz.cell 1).trans rfl
                          have z2 := (bz.cell 2).trans rfl
                          refine bodyPost_ret (v := .tuple #[.agg #[.int .i64 0, .int .i64 0, .slice none 0 0], .bool false]) (by simp [results, Try.results15, go_sem, z0, z1, z2]) rfl endz
                    · have dx : decide (xn < co) = false := decide_eq_false hlx
                      have dxi : decide ((xn : Int) < (co : Int)) = false := decide_eq_false (by omega)
                      have hxe : xn = co := by omega
                      have HQ4 := hid (show allO f b k ++ rowsO f b k (y + 1) = Q3.map some from by rw [rowsO_snoc, ← List.append_assoc, ← Hco.out, ← hxe]; exact HQ3.out)
                      have HC4 := hid (FC.out.trans HC3.out)
                      clear hxe HQ3
                      go_wp2
                      go_roundw
                      case rel => exact ⟨y + 1, Q3, by omega, by go_num, rfl, HQ4, HC4, HP3, HB3⟩
                      case measure => simp [intOf]; omega
              · have dy : decide (y < ro) = false := decide_eq_false hly
                have dyi : decide ((y : Int) < (ro : Int)) = false := decide_eq_false (by omega)
                have hye : y = ro := by omega
                have HQ4 := hid (show allO f b (cntI f (p + 1)) = Q2.map some from by rw [CY.out, allO, passO_good (by rw [← Hrl.out, ← Hro.out, ← HSb.out]; exact HKo.out), ← Hro.out, ← hye]; exact HQ2.out)
                have HC4 := hid (DC.out.trans HC2.out)
                have HO4 := hid (show ok + sg = offI f (cntI f (p + 1)) from by rw [CY.out, offI, ← Hok2.out, ← Hsg2.out])
                clear hye HQ2
                go_wp2
                go_roundw
                case rel => exact ⟨p + 1, Q2, by omega, by go_num, by rw [← HO4.out]; go_num, rfl, HQ4, HC4, HP2, HB2⟩
                case measure => simp [intOf]; omega
      · have hz0 : (sizeR f.w f.h f.l p).1 = 0 := by omega
        rw [hz0] at SZ
        have CN := hid (cnt_no f w1 hz)
        have q0 := M6.out.cell 0
        have q1 := M6.out.cell 1
        have q2 := M6.out.cell 2
        have q3 := M6.out.cell 3
        have q4 := M6.out.cell 4
        simp only [List.getElem?_toArray, List.getElem?_cons_zero, List.getElem?_cons_succ] at q0 q1 q2 q3 q4
        have l6' := M6.out.lt
        clear hz hz0 s1 s2 s3 s4
        generalize (sizeR f.w f.h f.l p).2 = sh at *
        go_wp2_with fail
        refine (SZ.out wr).mono ?_
        rintro e w8 ⟨rfl, hb8⟩
        have P8 := hid (HPx.out.below hb8 HPx.out.lt)
        have C8 := hid (HC.out.below hb8)
        have B8 := hid (HB.out.trans (hb8.mono HB.out.size))
        clear hb8 HPx HC HB q0 q1 q2 q3 q4 l6'
        go_wp2_with fail
        go_roundw
        case rel => exact ⟨p + 1, Q, by omega, by go_num, by rw [CN.out], rfl, hid (by rw [CN.out]; exact HQ.out), C8, P8, B8⟩
        case measure => simp [intOf]; omega
    · obtain rfl : p = 7 := by omega
      have q0 := M9.out.cell 0
      have q1 := M9.out.cell 1
      have q2 := M9.out.cell 2
      simp only [List.getElem?_toArray, List.getElem?_cons_zero, List.getElem?_cons_succ] at q0 q1 q2
      have d0 := M4.out.cell 0
      have d1 := M4.out.cell 1
      have d2 := M4.out.cell 2
      simp only [List.getElem?_toArray, List.getElem?_cons_zero, List.getElem?_cons_succ] at d0 d1 d2
      have fz4 := fun o => M4.out.frozen o
      have l4 := M4.out.lt
      have l9 := M9.out.lt
      go_wp2_with fail
      have hpn : (putAll pl Q (pxZ N)).length = N := by rw [put_len]; simp [pxZ]
      have f4 := ((M4.out.set_ 0 (.int .i64 f.w)).set_ 1 (.int .i64 f.h)).set_ 2 (.slice (some ⟨gp, 0, none⟩) N N)
      have hW4 : W.heap.size ≤ g4 := by have := Hg2.out; have := Hg4.out; omega
      have fb := ((HB.out.setCell (p := ⟨g4, 0, none⟩) hW4 (.int .i64 f.w)).setCell (p := ⟨g4, 1, none⟩) hW4 (.int .i64 f.h)).setCell (p := ⟨g4, 2, none⟩) hW4 (.slice (some ⟨gp, 0, none⟩) N N)
      have z0 := (f4.cell 0).trans rfl
      have z1 := (f4.cell 1).trans rfl
      have z2 := (f4.cell 2).trans rfl
      have hun := unpR_some (f := f) (b := b) (by rw [← cnt_all]; exact HQ.out)
      rw [← Hpl.out, ← HN.out] at hun
      refine bodyPost_ret (v := .tuple #[.agg #[.int .i64 f.w, .int .i64 f.h, .slice (some ⟨gp, 0, none⟩) N N], .bool true]) (by simp [results, Try.results15, go_sem, z0, z1, z2]) rfl ?_
      refine ⟨fb, ?_⟩
      rw [hun]
      exact ⟨gp, by rw [hpn], by have := Hg6.out; omega, ((HPx.out.far (by show gp ≠ g4; omega) _).far (by show gp ≠ g4; omega) _).far (by show gp ≠ g4; omega) _⟩
set_option maxRecDepth 100000 in
set_option maxHeartbeats 8000000 in
theorem runpack_short (f : Fm) (PA KA A : Option Addr) (pc kc c n : Nat) (W : World) (hh : headErr f.w f.h f.d f.c f.l = 0) (hd : (n : Int) ≠ dataM f.w f.h f.d f.c f.l) :
    Calls Try.prog 15 #[.agg #[.int .i64 f.w, .int .i64 f.h, .int .i64 f.d, .int .i64 f.c, .int .i64 f.l, .slice PA f.pal.length pc, .slice KA f.key.length kc], .slice A n c] W (fun e w' => e = .returned (.tuple #[.agg #[.int .i64 0, .int .i64 0, .slice none 0 0], .bool false]) ∧ Below W.heap.size W w') := by
  have DA := hid (fun (w : World) => rdata_any f.w f.h f.d f.c f.l hh w)
  obtain ⟨dv, hdv⟩ : ∃ d, d = dataM f.w f.h f.d f.c f.l := ⟨_, rfl⟩
  rw [← hdv] at DA hd
  have dne : decide ((n : Int) = dv) = false := decide_eq_false hd
  clear hdv
  obtain ⟨v0, hv0, B2, B4, B6, BB, BS⟩ := three W #[.int .i64 f.w, .int .i64 f.h, .int .i64 f.d, .int .i64 f.c, .int .i64 f.l, .slice PA f.pal.length pc, .slice KA f.key.length kc] #[.int .i64 0, .int .i64 0, .slice none 0 0] #[.int .i64 f.w, .int .i64 f.h, .int .i64 f.d, .int .i64 f.c, .int .i64 f.l]
    27 33 23
  go_enter Try.func15, Try.ntmps15
  go_upto_region 2 with (fail)
  rw [← hv0]
  clear hv0
  obtain ⟨g4, hg4⟩ : ∃ g, g = W.heap.size + 1 := ⟨_, rfl⟩
  have Hg4 := hid hg4
  rw [← hg4] at B4 B6 ⊢
  obtain ⟨g6, hg6⟩ : ∃ g, g = g4 + 1 := ⟨_, rfl⟩
  have Hg6 := hid hg6
  rw [← hg6] at B6 ⊢
  clear hg4 hg6
  have q0 := B6.cell 0
  have q1 := B6.cell 1
  have q2 := B6.cell 2
  have q3 := B6.cell 3
  have q4 := B6.cell 4
  simp only [List.getElem?_toArray, List.getElem?_cons_zero, List.getElem?_cons_succ] at q0 q1 q2 q3 q4
  have l6 := B6.lt
  have K4 := hid B4
  have KB := hid BB
  clear B2 B4 B6 BB BS
  go_wp2_with fail
  refine (DA.out _).mono ?_
  rintro e u1 ⟨rfl, hb1⟩
  have P4 := hid (K4.out.below hb1 K4.out.lt)
  have PB := hid (KB.out.trans (hb1.mono KB.out.size))
  have hW4 : W.heap.size ≤ g4 := by have := Hg4.out; omega
  clear hb1 K4 KB q0 q1 q2 q3 q4 l6 DA
  have d0 := P4.out.cell 0
  have d1 := P4.out.cell 1
  have d2 := P4.out.cell 2
  simp only [List.getElem?_toArray, List.getElem?_cons_zero, List.getElem?_cons_succ] at d0 d1 d2
  have fz4 := fun o => P4.out.frozen o
  have l4 := P4.out.lt
  go_wp2_with fail
  have f4 := ((P4.out.set_ 0 (.int .i64 0)).set_ 1 (.int .i64 0)).set_ 2 (.slice none 0 0)
  have z0 := (f4.cell 0).trans rfl
  have z1 := (f4.cell 1).trans rfl
  have z2 := (f4.cell 2).trans rfl
  refine bodyPost_ret (v := .tuple #[.agg #[.int .i64 0, .int .i64 0, .slice none 0 0], .bool false]) (by simp [results, Try.results15, go_sem, z0, z1, z2]) rfl ?_
  exact ⟨rfl, ((PB.out.setCell (p := ⟨g4, 0, none⟩) hW4 (.int .i64 0)).setCell (p := ⟨g4, 1, none⟩) hW4 (.int .i64 0)).setCell (p := ⟨g4, 2, none⟩) hW4 (.slice none 0 0)⟩
end Go.Proofs.Ytphhoihhmphbdaa
