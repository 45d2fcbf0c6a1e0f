/-
  The sizes of wishes in form (plain), and WishBack's law walked.
-/
import Derived.Test.YtegmbjkpjglgpaaGreatRpK
import Derived.Test.YtegmbjkpjglgpaaGreatWpK
import Derived.Test.YtegmbjkpjglgpaaGreatOrdA
namespace Go.Proofs.YtegmbjkpjglgpaaGreat
open Go.RowKit

theorem bl_txF_mem : ∀ (b : Bool) (L : List Wsh) (x : Wsh), x ∈ L → bl (rnL x.1) + bl (txV x.2) ≤ bl (txF b L)
  | b, y :: t, x, h => by
    rw [txF, bl_app, bl_app, bl_app]
    rcases List.mem_cons.1 h with rfl | h
    · omega
    · have := bl_txF_mem false t x h
      omega
theorem good_mem : ∀ (P L : List Wsh) (x : Wsh), goodF P L → x ∈ L → gName x.1 ∧ gVal x.2
  | P, y :: t, x, h, hx => by
    rcases List.mem_cons.1 hx with rfl | hx
    · exact ⟨h.1.1, h.1.2.1⟩
    · exact good_mem _ t x h.2 hx
/-- wishes in form are no longer than their text -/
theorem good_sizes {L : List Wsh} (h : goodF [] L) : ∀ x ∈ L, x.1.size ≤ bl (txF true L) ∧ ∀ y, x.2 = .s y → y.size ≤ bl (txF true L) := by
  intro x hx
  have h1 := bl_txF_mem true L x hx
  obtain ⟨h2, h3⟩ := good_mem [] L x h hx
  obtain ⟨nm, e, hn⟩ := h2
  have e2 := rn_bytes nm (nm_vr hn.2.2)
  constructor
  · have : x.1.size = bl (rnL x.1) := size_bl (by rw [e]; exact e2.2)
    omega
  · intro y hy
    rw [hy] at h3 h1
    have hw : rnWhole y = true := h3
    have : y.size = bl (rnL y) := size_bl hw
    have h4 : bl (rnL y) ≤ bl (txV (.s y)) := by
      rw [txV_s]
      have := bl_til (rnL y)
      split
      · rw [bl_cons]; omega
      · rw [bl_cons, bl_cons 34, bl_app]; omega
    omega
theorem pText_len {L : List Wsh} (h : goodF [] L) : (pText L).length = bl (txF true L) := by rw [pText_eq h]; rfl
theorem txt_size (L : List Wsh) : (runesBytes (txF true L)).size = bl (txF true L) := by
  show (runesBytes (txF true L)).data.toList.length = _
  rw [rb_list]
  rfl
theorem rd_up {w : World} {B C size n : Nat} {A : Option Addr} {xs : List Value} (h : Rd w B size A n xs) (hC : B ≤ C) : Rd w C size A n xs :=
  ⟨h.1, fun hn => by
    obtain ⟨b, off, e, hb, hc⟩ := h.2 hn
    exact ⟨b, off, e, Nat.lt_of_lt_of_le hb hC, hc⟩⟩
theorem two_new (w : World) (t : TypeId) (cs : Array Value) : Blk ((w.alloc (.cells cs t)).alloc (.cells cs t)).drew w.heap.size t cs ∧ Blk ((w.alloc (.cells cs t)).alloc (.cells cs t)).drew (w.heap.size + 1) t cs ∧ Below w.heap.size w ((w.alloc (.cells cs t)).alloc (.cells cs t)).drew := by
  refine ⟨((Blk.new w t cs).alloc (.cells cs t)).drew, ?_, (((Below.refl _ w).alloc (Nat.le_refl _) _).alloc (by simp) _).drew⟩
  have h := Blk.new (w.alloc (.cells cs t)) t cs
  rw [World.size_alloc] at h
  exact h.drew
theorem parse_of {s : ByteArray} {M : List Wsh} (h : refP s = some M) : (parseP s).2.bad = false ∧ (parseP s).1 = M := by
  rw [refP_eq] at h
  split at h
  · cases h
  · rename_i hb
    injection h with h
    exact ⟨by simpa using hb, h⟩
set_option maxRecDepth 100000 in
set_option maxHeartbeats 8000000 in
theorem back_any (s : ByteArray) (W : World) : Calls Tryz.prog 4 #[.string s] W fun e w' => e = .returned (.bool true) ∧ Below W.heap.size W w' := by
  by_cases hl : 16384 < (s.size : Int)
  · have d1 : decide (16384 < (s.size : Int)) = true := decide_eq_true hl
    go_enter Tryz.func4, Tryz.ntmps4
    go_wp2_with fail
    refine (alive_any _).mono ?_
    rintro e w1 ⟨rfl, hb1⟩
    go_wp2_with fail
    go_ret
    exact ⟨rfl, hb1⟩
  have d1 : decide (16384 < (s.size : Int)) = false := decide_eq_false hl
  go_enter Tryz.func4, Tryz.ntmps4
  go_wp2_with fail
  refine (alive_any _).mono ?_
  rintro e w1 ⟨rfl, hb1⟩
  have B1 := hid hb1
  clear hb1
  go_wp2_with fail
  refine (parse_any s _ rfl (by have := rnL_len s; omega) _).mono ?_
  rintro e w2 (⟨_, rfl, hB⟩ | ⟨hgood, A3, c3, rfl, ho3, hB3⟩)
  · go_wp2_with fail
    go_ret
    exact ⟨rfl, B1.out.trans (hB.mono B1.out.size)⟩
  have hrf := refP_eq s
  rw [if_neg (by rw [hgood]; decide)] at hrf
  obtain ⟨M, hM⟩ : ∃ M, M = (parseP s).1 := ⟨_, rfl⟩
  rw [← hM] at hrf ho3 ⊢
  obtain ⟨hG, hsz⟩ := parse_good hrf
  rw [txt_size] at hsz
  have hM16 := goodF_len hG
  have hbl : bl (txF true M) ≤ 16384 := by omega
  have hO3 := own_rd ho3
  obtain ⟨n, hn⟩ : ∃ n, n = M.length := ⟨_, rfl⟩
  have HT := hid (text_any A3 c3 w2.heap.size n (M.map sm) w2 (by rw [List.length_map]; exact hn) (by rw [fw_sm, List.length_map]; exact hO3) (Nat.le_refl _) (by rw [List.length_map]; omega) (fun x hx => by
    obtain ⟨y, hy, rfl⟩ := List.mem_map.1 hx
    have h1 := good_sizes hG y hy
    exact ⟨by have := h1.1; show y.1.size ≤ _; omega, fun z hz => by injection hz with hz; have := h1.2 z hz; omega⟩) (fun L hL => by
    rw [← sm_inj hL, pText_len hG]
    omega))
  have B2 := hid (B1.out.trans (hB3.mono B1.out.size))
  have HO3 := hid ho3
  have HR := hid hrf
  have HG := hid hG
  have HN := hid hn
  rw [← hn]
  have hn16 : n ≤ 16 := by omega
  have hbs : bl (txF true M) ≤ s.size := hsz
  clear hO3 ho3 hrf hG hB3 hM hn hsz hgood hM16
  go_wp2_with fail
  refine HT.out.mono ?_
  rintro e w3 ⟨h0 | h0, hB3⟩
  case inr => exact absurd HG.out (h0.1 M rfl)
  obtain ⟨L, hL, _, rfl⟩ := h0
  have hL2 := sm_inj hL
  subst hL2
  have B3 := hid hB3
  clear hB3 hL
  obtain ⟨t, ht⟩ : ∃ t, t = runesBytes (txF true M) := ⟨_, rfl⟩
  have HTT := hid ht
  have htl : (t.size : Int) ≤ s.size := by rw [ht, txt_size]; omega
  have d2 : decide ((s.size : Int) < t.size) = false := decide_eq_false (by omega)
  rw [← ht]
  clear ht
  go_wp2_with fail
  refine (parse_any t _ rfl (by have := rnL_len t; omega) _).mono ?_
  rintro e w4 (⟨hbad, rfl, hB⟩ | ⟨hgood, A5, c5, rfl, ho5, hB5⟩)
  · have h1 := (parse_of (HTT.out ▸ text_back M HG.out)).1
    rw [h1] at hbad
    cases hbad
  rw [(parse_of (HTT.out ▸ text_back M HG.out)).2] at ho5 ⊢
  rw [← HN.out] at ho5 ⊢
  have RA := hid (show Rd w4 w4.heap.size 2 A3 n (fw M) from by
    have h1 := own_rd HO3.out
    rw [← HN.out] at h1
    have h2 := h1.below B3.out (Nat.le_refl _)
    have h3 := h2.below (hB5.mono B3.out.size) (Nat.le_refl _)
    exact rd_up h3 (Nat.le_trans B3.out.size hB5.size))
  have RB := hid (own_rd ho5)
  have B5 := hid ((B2.out.trans (B3.out.mono B2.out.size)).trans (hB5.mono (Nat.le_trans B2.out.size B3.out.size)))
  clear ho5 hB5 hgood
  go_upto_region 15 with (fail)
  go_loopw [72] (fun iv wr => ∃ i : Nat, i ≤ n ∧ iv = .int .i64 (i : Int) ∧ Hid (Below w4.heap.size w4 wr)) (fun i _ => n - (intOf i).toNat)
  case atStart => exact ⟨0, by omega, rfl, hid (Below.refl _ _)⟩
  case round =>
    obtain ⟨i, hi, rfl, Hw⟩ := hrel
    by_cases hlt : i < n
    · have d3 : decide (i < n) = true := decide_eq_true hlt
      have hiM : i < M.length := by have := HN.out; omega
      obtain ⟨b, off, rfl, hb, c0, c1⟩ := wish_at (HN.out ▸ RA.out) hiM
      obtain ⟨b', off', rfl, hb', c2, c3⟩ := wish_at (HN.out ▸ RB.out) hiM
      replace c0 := (Hw.out.cell (p := ⟨b, off + i * 2, none⟩) hb).trans c0
      replace c1 := (Hw.out.cell (p := ⟨b, off + i * 2 + 1, none⟩) hb).trans c1
      replace c2 := (Hw.out.cell (p := ⟨b', off' + i * 2, none⟩) hb').trans c2
      replace c3 := (Hw.out.cell (p := ⟨b', off' + i * 2 + 1, none⟩) hb').trans c3
      have hbw : b < wr.heap.size := Nat.lt_of_lt_of_le hb Hw.out.size
      have hbw' : b' < wr.heap.size := Nat.lt_of_lt_of_le hb' Hw.out.size
      generalize M[i] = x at *
      obtain ⟨xn, xv⟩ := x
      dsimp only at c0 c1 c2 c3
      cases xv with
      | n z =>
        have c1' : wr.cell? ⟨b, off + i * 2 + 1, none⟩ = some (.iface 3 (.int .i64 z)) := c1
        have c3' : wr.cell? ⟨b', off' + i * 2 + 1, none⟩ = some (.iface 3 (.int .i64 z)) := c3
        clear c1 c3
        have N1 := hid (numberW_any (.n z))
        have N2 := hid (wordW_any (.n z))
        have N3 := hid (truthW_any (.n z))
        go_upto_region 17 with (fail)
        go_region_held3 (fun w => w.cell? ⟨b, off + i * 2, none⟩ = some (.string xn) ∧ w.cell? ⟨b, off + i * 2 + 1, none⟩ = some (.iface 3 (.int .i64 z)) ∧ w.cell? ⟨b', off' + i * 2, none⟩ = some (.string xn) ∧ w.cell? ⟨b', off' + i * 2 + 1, none⟩ = some (.iface 3 (.int .i64 z))) (first | go_keep | exact ⟨c0, c1', c2, c3'⟩) (fail)
        all_goals
          have k0 := two_new wr 41 #[.string xn, .iface 3 (.int .i64 z)]
          obtain ⟨k1, k2, k3⟩ := k0
          generalize (((wr.alloc (.cells #[.string xn, .iface 3 (.int .i64 z)] 41)).alloc (.cells #[.string xn, .iface 3 (.int .i64 z)] 41)).drew) = wx at *
          have HBx := hid (Hw.out.trans (k3.mono Hw.out.size))
          have l1 := k1.lt
          have l2 := k2.lt
          have p0 := k1.cell 0
          have p1 := k1.cell 1
          simp only [List.getElem?_toArray, List.getElem?_cons_zero, List.getElem?_cons_succ] at p0 p1
          have q0 := k2.cell 0
          have q1 := k2.cell 1
          simp only [List.getElem?_toArray, List.getElem?_cons_zero, List.getElem?_cons_succ] at q0 q1
          clear k1 k2 k3 c0 c1' c2 c3'
          go_wp2_with (first
            | (go_at_call 14; refine (N1.out _).mono ?_; rintro e w' ⟨rfl, rfl⟩)
            | (go_at_call 15; refine (N2.out _).mono ?_; rintro e w' ⟨rfl, rfl⟩)
            | (go_at_call 16; refine (N3.out _).mono ?_; rintro e w' ⟨rfl, rfl⟩))
          exact ⟨⟨i + 1, by omega, by push_cast; rfl, HBx⟩, by simp [intOf]; omega⟩
      | s z =>
        have c1' : wr.cell? ⟨b, off + i * 2 + 1, none⟩ = some (.iface 9 (.string z)) := c1
        have c3' : wr.cell? ⟨b', off' + i * 2 + 1, none⟩ = some (.iface 9 (.string z)) := c3
        clear c1 c3
        have N1 := hid (numberW_any (.s z))
        have N2 := hid (wordW_any (.s z))
        have N3 := hid (truthW_any (.s z))
        go_upto_region 17 with (fail)
        go_region_held3 (fun w => w.cell? ⟨b, off + i * 2, none⟩ = some (.string xn) ∧ w.cell? ⟨b, off + i * 2 + 1, none⟩ = some (.iface 9 (.string z)) ∧ w.cell? ⟨b', off' + i * 2, none⟩ = some (.string xn) ∧ w.cell? ⟨b', off' + i * 2 + 1, none⟩ = some (.iface 9 (.string z))) (first | go_keep | exact ⟨c0, c1', c2, c3'⟩) (fail)
        all_goals
          have k0 := two_new wr 41 #[.string xn, .iface 9 (.string z)]
          obtain ⟨k1, k2, k3⟩ := k0
          generalize (((wr.alloc (.cells #[.string xn, .iface 9 (.string z)] 41)).alloc (.cells #[.string xn, .iface 9 (.string z)] 41)).drew) = wx at *
          have HBx := hid (Hw.out.trans (k3.mono Hw.out.size))
          have l1 := k1.lt
          have l2 := k2.lt
          have p0 := k1.cell 0
          have p1 := k1.cell 1
          simp only [List.getElem?_toArray, List.getElem?_cons_zero, List.getElem?_cons_succ] at p0 p1
          have q0 := k2.cell 0
          have q1 := k2.cell 1
          simp only [List.getElem?_toArray, List.getElem?_cons_zero, List.getElem?_cons_succ] at q0 q1
          clear k1 k2 k3 c0 c1' c2 c3'
          go_wp2_with (first
            | (go_at_call 14; refine (N1.out _).mono ?_; rintro e w' ⟨rfl, rfl⟩)
            | (go_at_call 15; refine (N2.out _).mono ?_; rintro e w' ⟨rfl, rfl⟩)
            | (go_at_call 16; refine (N3.out _).mono ?_; rintro e w' ⟨rfl, rfl⟩))
          exact ⟨⟨i + 1, by omega, by push_cast; rfl, HBx⟩, by simp [intOf]; omega⟩
      | t z =>
        have c1' : wr.cell? ⟨b, off + i * 2 + 1, none⟩ = some (.iface 4 (.bool z)) := c1
        have c3' : wr.cell? ⟨b', off' + i * 2 + 1, none⟩ = some (.iface 4 (.bool z)) := c3
        clear c1 c3
        have N1 := hid (numberW_any (.t z))
        have N2 := hid (wordW_any (.t z))
        have N3 := hid (truthW_any (.t z))
        go_upto_region 17 with (fail)
        go_region_held3 (fun w => w.cell? ⟨b, off + i * 2, none⟩ = some (.string xn) ∧ w.cell? ⟨b, off + i * 2 + 1, none⟩ = some (.iface 4 (.bool z)) ∧ w.cell? ⟨b', off' + i * 2, none⟩ = some (.string xn) ∧ w.cell? ⟨b', off' + i * 2 + 1, none⟩ = some (.iface 4 (.bool z))) (first | go_keep | exact ⟨c0, c1', c2, c3'⟩) (fail)
        all_goals
          have k0 := two_new wr 41 #[.string xn, .iface 4 (.bool z)]
          obtain ⟨k1, k2, k3⟩ := k0
          generalize (((wr.alloc (.cells #[.string xn, .iface 4 (.bool z)] 41)).alloc (.cells #[.string xn, .iface 4 (.bool z)] 41)).drew) = wx at *
          have HBx := hid (Hw.out.trans (k3.mono Hw.out.size))
          have l1 := k1.lt
          have l2 := k2.lt
          have p0 := k1.cell 0
          have p1 := k1.cell 1
          simp only [List.getElem?_toArray, List.getElem?_cons_zero, List.getElem?_cons_succ] at p0 p1
          have q0 := k2.cell 0
          have q1 := k2.cell 1
          simp only [List.getElem?_toArray, List.getElem?_cons_zero, List.getElem?_cons_succ] at q0 q1
          clear k1 k2 k3 c0 c1' c2 c3'
          go_wp2_with (first
            | (go_at_call 14; refine (N1.out _).mono ?_; rintro e w' ⟨rfl, rfl⟩)
            | (go_at_call 15; refine (N2.out _).mono ?_; rintro e w' ⟨rfl, rfl⟩)
            | (go_at_call 16; refine (N3.out _).mono ?_; rintro e w' ⟨rfl, rfl⟩))
          exact ⟨⟨i + 1, by omega, by push_cast; rfl, HBx⟩, by simp [intOf]; omega⟩
    · have d3 : decide (i < n) = false := decide_eq_false hlt
      go_wp2_with fail
      go_ret
      exact ⟨rfl, B5.out.trans (Hw.out.mono B5.out.size)⟩
end Go.Proofs.YtegmbjkpjglgpaaGreat
