/-
  recomp.Wishes.
-/
import Derived.Test.YtfcppchjikmioaaGreatWrT
import Derived.Test.YtfcppchjikmioaaGreatRpK
import Derived.Test.YtfcppchjikmioaaGreatOrdC
import Derived.BigRegion
import Derived.RegionTactic
import Derived.RegionCalls
import Derived.Deep.RegionLaw
namespace Go.Proofs.YtfcppchjikmioaaGreat
open Go.RowKit Go.Lib Go.Proofs.YtfcppchjikmioaaGreat.PngChecks

/-- the list that is built, in its box -/
structure WB (W0 : World) (g : Nat) (A : Option Addr) (n c : Nat) (L : List Wsh) (w : World) : Prop where
  box : Blk w g 26 #[.slice A n c]
  row : w.ownsRow W0.heap.size 41 2 (.slice A n c) n (fw L)
  len : n = L.length
  few : n ≤ 100
  below : Below W0.heap.size W0 w
  gle : W0.heap.size ≤ g
theorem WB.below' {W0 : World} {g : Nat} {A : Option Addr} {n c : Nat} {L : List Wsh} {w w' : World} (h : WB W0 g A n c L w) (hb : Below w.heap.size w w') : WB W0 g A n c L w' :=
  ⟨h.box.below hb h.box.lt, own_below h.row hb (Nat.le_refl _), h.len, h.few, h.below.trans (hb.mono h.below.size), h.gle⟩
theorem WB.drew {W0 : World} {g : Nat} {A : Option Addr} {n c : Nat} {L : List Wsh} {w : World} (h : WB W0 g A n c L w) : WB W0 g A n c L w.drew := h.below' ((Below.refl _ w).drew)
/-- an order that stays -/
def OrdB (w : World) (g : Nat) (o : Od) : Prop := Blk w g 50 (odC o)
theorem blk_ne {w : World} {g h : Nat} {t s : TypeId} {cs ds : Array Value} (k : Blk w g t cs) (m : Blk w h s ds) (hts : t ≠ s) : g ≠ h := by
  intro e
  subst e
  unfold Blk at k m
  rw [k] at m
  injection m with m
  injection m with _ m
  exact hts m
set_option maxRecDepth 100000 in
set_option maxHeartbeats 2000000 in
theorem add_any (W0 W : World) (g g1 n c : Nat) (A : Option Addr) (L : List Wsh) (b : Bool) (x : Wsh) (o : Od) (h : WB W0 g A n c L W) (ho : OrdB W g1 o) (hn : n ≤ 90) (nm : ByteArray) (hnm : nm = x.1) (ty : TypeId) (u : Value) (hv : wvV x.2 = .iface ty u) :
    Calls Tryz.prog 39 #[.bool b, .string nm, .iface ty u, .pointer (some ⟨g, 0, none⟩)] W fun e w' => e = .returned (.tuple #[]) ∧ ∃ A' n' c', WB W0 g A' n' c' (L ++ pick [(b, x)]) w' ∧ OrdB w' g1 o ∧ n' ≤ n + 1 := by
  obtain ⟨i0, hi0, hz0, hz1, hz2⟩ := info_parts wish_info
  have Hi0 := hid hi0
  have Hz0 := hid hz0
  have Hz1 := hid hz1
  have Hz2 := hid hz2
  clear hi0 hz0 hz1 hz2
  subst hnm
  cases b
  · skip
    go_enter Tryz.func39, Tryz.ntmps39
    go_wp2_with fail
    go_end0
    exact ⟨rfl, A, n, c, by show WB W0 g A n c (L ++ []) W; rw [List.append_nil]; exact h, ho, by omega⟩
  · have q0 := h.box.cell 0
    simp only [List.getElem?_toArray, List.getElem?_cons_zero] at q0
    have hlt := h.box.lt
    have H := hid h
    have HO := hid ho
    have HV := hid hv
    have hf := h.few
    have OA := hid (own_below h.row ((Below.refl W.heap.size W).alloc (Nat.le_refl _) (.cells #[.string x.1, .iface ty u] 41)) (Nat.le_refl _))
    have KA := hid (h.box.alloc (.cells #[.string x.1, .iface ty u] 41))
    have HOA := hid (Blk.alloc (g := g1) ho (.cells #[.string x.1, .iface ty u] 41))
    have BA := hid (h.below.alloc h.below.size (.cells #[.string x.1, .iface ty u] 41))
    have hne1 := own_blk_ne OA.out KA.out (by decide)
    have hne2 := own_blk_ne OA.out HOA.out (by decide)
    have Hne1 := hid hne1
    have Hne2 := hid hne2
    clear hne1 hne2
    clear h ho hv
    go_enter Tryz.func39, Tryz.ntmps39
    go_wp2_with (at_builtin; (refine wpList_app _ rfl _ _ _ rfl W0.heap.size 41 i0 (.agg #[.string ⟨#[]⟩, .nilIface]) 2 32 Tryz.underlying26 Hi0.out Hz0.out Hz1.out Hz2.out rfl (by omega) A n c _ rfl OA.out _ _ 1 1 [.string x.1, .iface ty u] rfl (rd_one _ _ _ _ (Blk.new W _ _)) (by simp) (by simp [Value.oneCell']) (by simp [maxLen] <;> omega) (by omega) (by have := H.out.below.size; simp <;> omega) ?_; intro A4 c4 w4 ha4; have k4 := KA.out.grown ha4.2.1 Hne1.out; have m4 := hid (HOA.out.grown ha4.2.1 Hne2.out); have f4 := k4.frozen 0; have c40 := k4.cell 0; simp only [List.getElem?_toArray, List.getElem?_cons_zero] at c40; have l4 := k4.lt; have K4 := hid k4; have Ha4 := hid ha4; clear k4 ha4))
    go_end0
    have h1 := Ha4.out.1
    have e : fw L ++ [Value.string x.1, .iface ty u] = fw (L ++ [x]) := by
      rw [← HV.out]
      simp [fw, encWv]
    rw [e] at h1
    exact ⟨rfl, A4, n + 1, c4, ⟨K4.out.set_ 0 (.slice A4 (n + 1) c4), own_far h1 (p := ⟨g, 0, none⟩) (own_blk_ne h1 K4.out (by decide)) _, by rw [H.out.len]; show _ = (L ++ [x]).length; simp, by omega, (BA.out.trans Ha4.out.2.2.1).setCell (p := ⟨g, 0, none⟩) H.out.gle _, H.out.gle⟩, m4.out.far (p := ⟨g, 0, none⟩) (blk_ne m4.out K4.out (by decide)) _, Nat.le_refl _⟩
/-- the list behind so many -/
def wL (o : Od) (k : Nat) : List Wsh := pick ((wCand o).take k)
theorem pick_app : ∀ (C D : List (Bool × Wsh)), pick (C ++ D) = pick C ++ pick D
  | [], D => rfl
  | (b, x) :: C, D => by rw [List.cons_append, pick_cons, pick_cons, pick_app C D, List.append_assoc]
theorem wL_step (o : Od) (k : Nat) (b : Bool) (x : Wsh) (h : (wCand o)[k]? = some (b, x)) : wL o k ++ pick [(b, x)] = wL o (k + 1) := by
  unfold wL
  rw [List.take_add_one, h, pick_app]
  rfl
/-- add, the k-th time -/
theorem addk_any (W0 W : World) (g g1 n c : Nat) (A : Option Addr) (k : Nat) (o : Od) (b : Bool) (nm : ByteArray) (v : WV) (ty : TypeId) (u : Value) (h : WB W0 g A n c (wL o k) W) (ho : OrdB W g1 o) (hn : n ≤ k) (hk : k < 10) (hc : (wCand o)[k]? = some (b, (nm, v))) (hv : wvV v = .iface ty u) :
    Calls Tryz.prog 39 #[.bool b, .string nm, .iface ty u, .pointer (some ⟨g, 0, none⟩)] W fun e w' => e = .returned (.tuple #[]) ∧ ∃ A' n' c', WB W0 g A' n' c' (wL o (k + 1)) w' ∧ OrdB w' g1 o ∧ n' ≤ k + 1 := by
  refine (add_any W0 W g g1 n c A (wL o k) b (nm, v) o h ho (by omega) nm rfl ty u hv).mono ?_
  rintro e w' ⟨rfl, A', n', c', h1, h2, h3⟩
  rw [wL_step o k b (nm, v) hc] at h1
  exact ⟨rfl, A', n', c', h1, h2, by omega⟩
set_option maxRecDepth 100000 in
set_option maxHeartbeats 16000000 in
theorem recompW_any (o : Od) (W : World) (hf : FineO o) : Calls Tryz.prog 18 #[odV o] W fun e w' => e = .returned (.tuple #[.string (runesBytes (txF true (pick (wCand o)))), .nilIface]) ∧ Below W.heap.size W w' := by
  have CK := hid (check_yes o.t o.p o.cr o.x o.y o.w o.h o.ba o.fo o.re o.la hf.fine)
  have HF := hid hf
  have K0 := hid (show Blk (W.alloc (.cells (odC o) 50)) W.heap.size 50 (odC o) from Blk.new W _ _)
  have hplc := hf.plc
  have HPlc := hid hplc
  clear hf hplc
  go_enter Tryz.func18, Tryz.ntmps18
  -- STAGES
  unfold odV
  go_upto_region 1 with (fail)
  unfold odC at K0
  obtain ⟨w0, hw0⟩ : ∃ w0, w0 = W.alloc (.cells #[.int .i64 o.t, .bool o.p, .bool o.cr, .int .i64 o.x, .int .i64 o.y, .int .i64 o.w, .int .i64 o.h, .bool o.ba, .int .i64 o.fo, .int .i64 o.re, .int .i64 o.la] 50) := ⟨_, rfl⟩
  have B0 := hid (show Below W.heap.size W w0 from by rw [hw0]; exact (Below.refl _ _).alloc (Nat.le_refl _) _)
  rw [← hw0] at K0 ⊢
  clear hw0
  obtain ⟨g1, hg1⟩ : ∃ g1, g1 = W.heap.size := ⟨_, rfl⟩
  rw [← hg1] at K0 ⊢
  have Hg1 := hid hg1
  clear hg1
  have q0 := K0.out.cell 0
  have q1 := K0.out.cell 1
  have q2 := K0.out.cell 2
  have q3 := K0.out.cell 3
  have q4 := K0.out.cell 4
  have q5 := K0.out.cell 5
  have q6 := K0.out.cell 6
  have q7 := K0.out.cell 7
  have q8 := K0.out.cell 8
  have q9 := K0.out.cell 9
  have q10 := K0.out.cell 10
  simp only [List.getElem?_toArray, List.getElem?_cons_zero, List.getElem?_cons_succ] at q0 q1 q2 q3 q4 q5 q6 q7 q8 q9 q10
  have l1 := K0.out.lt
  go_upto_region 4 with (go_at_call 38; refine (CK.out _).mono ?_; rintro e w1 ⟨rfl, hb1⟩; have K1 := hid (K0.out.below hb1 K0.out.lt); have B1 := hid (B0.out.trans (hb1.mono B0.out.size)); clear hb1)
  clear q0 q1 q2 q3 q4 q5 q6 q7 q8 q9 q10 l1
  go_cut [34] from 12 to 34 (fun v wq => v = .bool false ∧ w1 = wq)
  · skip
    have q2 := K1.out.cell 2
    have q3 := K1.out.cell 3
    have q4 := K1.out.cell 4
    have q5 := K1.out.cell 5
    have q6 := K1.out.cell 6
    simp only [List.getElem?_toArray, List.getElem?_cons_zero, List.getElem?_cons_succ] at q2 q3 q4 q5 q6
    have l1 := K1.out.lt
    rcases Bool.eq_false_or_eq_true o.cr with hcr | hcr
    · rw [hcr] at q2
      clear hcr
      go_wp2_with fail
      go_meet
      exact ⟨rfl, rfl⟩
    · obtain ⟨px, py, pw, ph⟩ := HPlc.out hcr
      rw [hcr] at q2
      rw [px] at q3
      rw [py] at q4
      rw [pw] at q5
      rw [ph] at q6
      clear hcr px py pw ph
      go_wp2_with fail
      go_meet
      exact ⟨rfl, rfl⟩
  obtain ⟨rfl, rfl⟩ := hcut
  go_upto_region 8 with (fail)
  generalize (Value.agg #[.int .i64 o.t, .bool o.p, .bool o.cr, .int .i64 o.x, .int .i64 o.y, .int .i64 o.w, .int .i64 o.h, .bool o.ba, .int .i64 o.fo, .int .i64 o.re, .int .i64 o.la]) = ag
  obtain ⟨g5, hg5⟩ : ∃ g5, g5 = w1.heap.size := ⟨_, rfl⟩
  have HB := hid (show WB W g5 none 0 0 (wL o 0) (w1.alloc (.cells #[.slice none 0 0] 26)) from
    ⟨hg5 ▸ Blk.new w1 _ _, ⟨rfl, .inl ⟨rfl, rfl⟩⟩, rfl, by decide, B1.out.alloc B1.out.size _, by rw [hg5]; exact B1.out.size⟩)
  have HO := hid (show OrdB (w1.alloc (.cells #[.slice none 0 0] 26)) g1 o from K1.out.alloc _)
  rw [← hg5]
  clear hg5
  generalize w1.alloc (.cells #[.slice none 0 0] 26) = w2 at *
  obtain ⟨A0, n0, c0, hA0, hn0⟩ : ∃ (A : Option Addr) (n c : Nat), Hid (WB W g5 A n c (wL o 0) w2) ∧ n ≤ 0 := ⟨none, 0, 0, HB, Nat.le_refl _⟩
  clear HB
  go_cut [47] from 37 to 47 (fun v wq => v = .tuple #[] ∧ Hid (∃ A n c, WB W g5 A n c (wL o 1) wq ∧ OrdB wq g1 o ∧ n ≤ 1))
  · skip
    have q0 := HO.out.cell 0
    simp only [odC, List.getElem?_toArray, List.getElem?_cons_zero] at q0
    have l1 := HO.out.lt
    have eb : (!(o.t == 0)) = decide (o.t ≠ 0) := by by_cases h0 : o.t = 0 <;> simp [h0]
    obtain ⟨j, hj, hjl⟩ : ∃ j : Nat, o.t = (j : Int) ∧ j < turnsW.length := ⟨(o.t).toNat, by have := HF.out.fine.t0; have := HF.out.fine.t7; omega, by show _ < 8; have := HF.out.fine.t0; have := HF.out.fine.t7; omega⟩
    have hget : (strV turnsW)[j]? = some (.string (turnsW.getD (o.t).toNat ⟨#[]⟩)) := by
      rw [hj, Int.toNat_natCast, List.getD_eq_getElem?_getD, List.getElem?_eq_getElem hjl]
      unfold strV
      rw [List.getElem?_map, List.getElem?_eq_getElem hjl]
      rfl
    have HA := hid ((hA0.out.below' ((Below.refl _ w2).alloc (Nat.le_refl _) (.cells (strV turnsW).toArray 9))).drew)
    have HD := hid (show OrdB (w2.alloc (.cells (strV turnsW).toArray 9)).drew g1 o from Blk.drew (Blk.alloc HO.out _))
    generalize hvv : turnsW.getD (o.t).toNat ⟨#[]⟩ = vv at *
    have Hvv := hid hvv
    clear hvv
    have AD := hid (addk_any W (w2.alloc (.cells (strV turnsW).toArray 9)).drew g5 g1 n0 c0 A0 0 o ((j : Int) != 0) ⟨#[116, 117, 114, 110]⟩ (.s vv) 9 (.string vv) HA.out HD.out hn0 (by decide) (hcc_t o j hj vv Hvv.out) rfl)
    go_region_with (first
      | (go_simp; go_at_call 40; refine (recomp_turns_any _).mono ?_; rintro e w4 ⟨rfl, rfl⟩)
      | (go_simp; go_at_call 39; refine AD.out.mono ?_; rintro e w' ⟨rfl, A', n', c', h1, h2, h3⟩))
    all_goals
      go_wp2_with fail
      go_meet
      exact ⟨rfl, hid ⟨A', n', c', h1, h2, h3⟩⟩
  obtain ⟨rfl, hX0⟩ := hcut
  obtain ⟨A1, n1, c1, hA1', hO1, hn1⟩ := hX0.out
  have hA1 := hid hA1'
  have HO1 := hid hO1
  clear hA1' hO1 hX0 hA0 HO hn0
  go_upto_region 9 with (fail)
  go_cut [52] from 48 to 52 (fun v wq => v = .tuple #[] ∧ Hid (∃ A n c, WB W g5 A n c (wL o 2) wq ∧ OrdB wq g1 o ∧ n ≤ 2))
  · skip
    have q1 := HO1.out.cell 1
    simp only [odC, List.getElem?_toArray, List.getElem?_cons_zero, List.getElem?_cons_succ] at q1
    have l1 := HO1.out.lt
    go_wp2_with fail
    refine (addk_any W _ g5 g1 n1 c1 A1 1 o _ _ (.t true) _ _ hA1.out HO1.out hn1 (by decide) (rfl) rfl).mono ?_
    rintro e w' ⟨rfl, A', n', c', h1, h2, h3⟩
    go_wp2_with fail
    go_meet
    exact ⟨rfl, hid ⟨A', n', c', h1, h2, h3⟩⟩
  obtain ⟨rfl, hX1⟩ := hcut
  obtain ⟨A2, n2, c2, hA2', hO2, hn2⟩ := hX1.out
  have hA2 := hid hA2'
  have HO2 := hid hO2
  clear hA2' hO2 hX1 hA1 HO1 hn1
  go_upto_region 10 with (fail)
  go_cut [57] from 53 to 57 (fun v wq => v = .tuple #[] ∧ Hid (∃ A n c, WB W g5 A n c (wL o 3) wq ∧ OrdB wq g1 o ∧ n ≤ 3))
  · skip
    have q7 := HO2.out.cell 7
    simp only [odC, List.getElem?_toArray, List.getElem?_cons_zero, List.getElem?_cons_succ] at q7
    have l1 := HO2.out.lt
    go_wp2_with fail
    refine (addk_any W _ g5 g1 n2 c2 A2 2 o _ _ (.t true) _ _ hA2.out HO2.out hn2 (by decide) (rfl) rfl).mono ?_
    rintro e w' ⟨rfl, A', n', c', h1, h2, h3⟩
    go_wp2_with fail
    go_meet
    exact ⟨rfl, hid ⟨A', n', c', h1, h2, h3⟩⟩
  obtain ⟨rfl, hX2⟩ := hcut
  obtain ⟨A3, n3, c3, hA3', hO3, hn3⟩ := hX2.out
  have hA3 := hid hA3'
  have HO3 := hid hO3
  clear hA3' hO3 hX2 hA2 HO2 hn2
  go_upto_region 11 with (fail)
  go_cut [84] from 58 to 84 (fun v wq => v = .tuple #[] ∧ Hid (∃ A n c, WB W g5 A n c (wL o 4) wq ∧ OrdB wq g1 o ∧ n ≤ 4))
  · skip
    have q2 := HO3.out.cell 2
    have q3 := HO3.out.cell 3
    have q4 := HO3.out.cell 4
    have q5 := HO3.out.cell 5
    have q6 := HO3.out.cell 6
    simp only [odC, List.getElem?_toArray, List.getElem?_cons_zero, List.getElem?_cons_succ] at q2 q3 q4 q5 q6
    have l1 := HO3.out.lt
    by_cases hx : o.x = 0
    case neg =>
      have ex : (o.x == 0) = false := by rw [beq_eq_false_iff_ne]; exact hx
      have ex2 : (o.x != 0) = true := by simp [hx]
      have hT : xTold o = true := by unfold xTold; rw [decide_eq_true hx]; rfl
      have HT := hid hT
      clear hT
      go_wp2_with fail
      refine (addk_any W _ g5 g1 n3 c3 A3 3 o _ _ (.n o.x) _ _ hA3.out HO3.out hn3 (by decide) (by rw [show (wCand o)[3]? = some (xTold o, (nmB 3, .n o.x)) from rfl, HT.out]; rfl) rfl).mono ?_
      rintro e w' ⟨rfl, A', n', c', h1, h2, h3⟩
      go_wp2_with fail
      go_meet
      exact ⟨rfl, hid ⟨A', n', c', h1, h2, h3⟩⟩
    have ex : (o.x == 0) = true := by rw [beq_iff_eq]; exact hx
    have HX0 := hid hx
    have ex2 : (o.x != 0) = false := by simp [hx]
    have hxd : decide (o.x ≠ 0) = false := decide_eq_false (by omega)
    rcases (Bool.eq_false_or_eq_true o.cr).symm with hcr | hcr
    case inl =>
      rw [hcr] at q2
      have hT : xTold o = false := by unfold xTold; rw [hxd, hcr]; rfl
      have HT := hid hT
      clear hT hxd hcr
      go_wp2_with fail
      refine (addk_any W _ g5 g1 n3 c3 A3 3 o _ _ (.n 0) _ _ hA3.out HO3.out hn3 (by decide) (by rw [show (wCand o)[3]? = some (xTold o, (nmB 3, .n o.x)) from rfl, HT.out, HX0.out]; rfl) rfl).mono ?_
      rintro e w' ⟨rfl, A', n', c', h1, h2, h3⟩
      go_wp2_with fail
      go_meet
      exact ⟨rfl, hid ⟨A', n', c', h1, h2, h3⟩⟩
    rw [hcr] at q2
    by_cases hy : o.y = 0
    case neg =>
      have ey : (o.y == 0) = false := by rw [beq_eq_false_iff_ne]; exact hy
      have hT : xTold o = false := by unfold xTold; rw [hxd, hcr]; simp [hy]
      have HT := hid hT
      clear hT hxd hcr
      go_wp2_with fail
      refine (addk_any W _ g5 g1 n3 c3 A3 3 o _ _ (.n 0) _ _ hA3.out HO3.out hn3 (by decide) (by rw [show (wCand o)[3]? = some (xTold o, (nmB 3, .n o.x)) from rfl, HT.out, HX0.out]; rfl) rfl).mono ?_
      rintro e w' ⟨rfl, A', n', c', h1, h2, h3⟩
      go_wp2_with fail
      go_meet
      exact ⟨rfl, hid ⟨A', n', c', h1, h2, h3⟩⟩
    have ey : (o.y == 0) = true := by rw [beq_iff_eq]; exact hy
    by_cases hw : o.w = 65535
    case neg =>
      have ew : (o.w == 65535) = false := by rw [beq_eq_false_iff_ne]; exact hw
      have hT : xTold o = false := by unfold xTold; rw [hxd, hcr]; simp [hw, hy]
      have HT := hid hT
      clear hT hxd hcr
      go_wp2_with fail
      refine (addk_any W _ g5 g1 n3 c3 A3 3 o _ _ (.n 0) _ _ hA3.out HO3.out hn3 (by decide) (by rw [show (wCand o)[3]? = some (xTold o, (nmB 3, .n o.x)) from rfl, HT.out, HX0.out]; rfl) rfl).mono ?_
      rintro e w' ⟨rfl, A', n', c', h1, h2, h3⟩
      go_wp2_with fail
      go_meet
      exact ⟨rfl, hid ⟨A', n', c', h1, h2, h3⟩⟩
    have ew : (o.w == 65535) = true := by rw [beq_iff_eq]; exact hw
    by_cases hh : o.h = 65535
    case neg =>
      have eh : (o.h == 65535) = false := by rw [beq_eq_false_iff_ne]; exact hh
      have hT : xTold o = false := by unfold xTold; rw [hxd, hcr]; simp [hh, hy, hw]
      have HT := hid hT
      clear hT hxd hcr
      go_wp2_with fail
      refine (addk_any W _ g5 g1 n3 c3 A3 3 o _ _ (.n 0) _ _ hA3.out HO3.out hn3 (by decide) (by rw [show (wCand o)[3]? = some (xTold o, (nmB 3, .n o.x)) from rfl, HT.out, HX0.out]; rfl) rfl).mono ?_
      rintro e w' ⟨rfl, A', n', c', h1, h2, h3⟩
      go_wp2_with fail
      go_meet
      exact ⟨rfl, hid ⟨A', n', c', h1, h2, h3⟩⟩
    have eh : (o.h == 65535) = true := by rw [beq_iff_eq]; exact hh
    have hT : xTold o = true := by unfold xTold; rw [hxd, hcr]; simp [hy, hw, hh]
    have HT := hid hT
    clear hT hxd hcr
    go_wp2_with fail
    refine (addk_any W _ g5 g1 n3 c3 A3 3 o _ _ (.n 0) _ _ hA3.out HO3.out hn3 (by decide) (by rw [show (wCand o)[3]? = some (xTold o, (nmB 3, .n o.x)) from rfl, HT.out, HX0.out]; rfl) rfl).mono ?_
    rintro e w' ⟨rfl, A', n', c', h1, h2, h3⟩
    go_wp2_with fail
    go_meet
    exact ⟨rfl, hid ⟨A', n', c', h1, h2, h3⟩⟩
  obtain ⟨rfl, hX3⟩ := hcut
  obtain ⟨A4, n4, c4, hA4', hO4, hn4⟩ := hX3.out
  have hA4 := hid hA4'
  have HO4 := hid hO4
  clear hA4' hO4 hX3 hA3 HO3 hn3
  go_upto_region 12 with (fail)
  go_cut [92] from 85 to 92 (fun v wq => v = .tuple #[] ∧ Hid (∃ A n c, WB W g5 A n c (wL o 5) wq ∧ OrdB wq g1 o ∧ n ≤ 5))
  · skip
    have q4 := HO4.out.cell 4
    simp only [odC, List.getElem?_toArray, List.getElem?_cons_zero, List.getElem?_cons_succ] at q4
    have l1 := HO4.out.lt
    have eb : (!(o.y == 0)) = decide (o.y ≠ 0) := by by_cases h0 : o.y = 0 <;> simp [h0]
    go_wp2_with fail
    refine (addk_any W _ g5 g1 n4 c4 A4 4 o _ _ (.n o.y) _ _ hA4.out HO4.out hn4 (by decide) ((show (wCand o)[4]? = some (decide (o.y ≠ 0), (nmB 4, .n o.y)) from rfl).trans (by rw [← eb]; rfl)) rfl).mono ?_
    rintro e w' ⟨rfl, A', n', c', h1, h2, h3⟩
    go_wp2_with fail
    go_meet
    exact ⟨rfl, hid ⟨A', n', c', h1, h2, h3⟩⟩
  obtain ⟨rfl, hX4⟩ := hcut
  obtain ⟨A5, n5, c5, hA5', hO5, hn5⟩ := hX4.out
  have hA5 := hid hA5'
  have HO5 := hid hO5
  clear hA5' hO5 hX4 hA4 HO4 hn4
  go_upto_region 13 with (fail)
  go_cut [104] from 93 to 104 (fun v wq => v = .tuple #[] ∧ Hid (∃ A n c, WB W g5 A n c (wL o 6) wq ∧ OrdB wq g1 o ∧ n ≤ 6))
  · skip
    have q2 := HO5.out.cell 2
    have q5 := HO5.out.cell 5
    simp only [odC, List.getElem?_toArray, List.getElem?_cons_zero, List.getElem?_cons_succ] at q2 q5
    have l1 := HO5.out.lt
    rcases (Bool.eq_false_or_eq_true o.cr).symm with hcr | hcr
    case inl =>
      rw [hcr] at q2
      have hT : (o.cr && decide (o.w ≠ 65535)) = false := by rw [hcr]; rfl
      clear hcr
      go_wp2_with fail
      refine (addk_any W _ g5 g1 n5 c5 A5 5 o _ _ (.n o.w) _ _ hA5.out HO5.out hn5 (by decide) (by rw [show (wCand o)[5]? = some (o.cr && decide (o.w ≠ 65535), (nmB 5, .n o.w)) from rfl, hT]; rfl) rfl).mono ?_
      rintro e w' ⟨rfl, A', n', c', h1, h2, h3⟩
      go_wp2_with fail
      go_meet
      exact ⟨rfl, hid ⟨A', n', c', h1, h2, h3⟩⟩
    rw [hcr] at q2
    have hT : (o.cr && decide (o.w ≠ 65535)) = !(o.w == 65535) := by rw [hcr]; by_cases h0 : o.w = 65535 <;> simp [h0]
    clear hcr
    go_wp2_with fail
    refine (addk_any W _ g5 g1 n5 c5 A5 5 o _ _ (.n o.w) _ _ hA5.out HO5.out hn5 (by decide) (by rw [show (wCand o)[5]? = some (o.cr && decide (o.w ≠ 65535), (nmB 5, .n o.w)) from rfl, hT]; rfl) rfl).mono ?_
    rintro e w' ⟨rfl, A', n', c', h1, h2, h3⟩
    go_wp2_with fail
    go_meet
    exact ⟨rfl, hid ⟨A', n', c', h1, h2, h3⟩⟩
  obtain ⟨rfl, hX5⟩ := hcut
  obtain ⟨A6, n6, c6, hA6', hO6, hn6⟩ := hX5.out
  have hA6 := hid hA6'
  have HO6 := hid hO6
  clear hA6' hO6 hX5 hA5 HO5 hn5
  go_upto_region 14 with (fail)
  go_cut [116] from 105 to 116 (fun v wq => v = .tuple #[] ∧ Hid (∃ A n c, WB W g5 A n c (wL o 7) wq ∧ OrdB wq g1 o ∧ n ≤ 7))
  · skip
    have q2 := HO6.out.cell 2
    have q6 := HO6.out.cell 6
    simp only [odC, List.getElem?_toArray, List.getElem?_cons_zero, List.getElem?_cons_succ] at q2 q6
    have l1 := HO6.out.lt
    rcases (Bool.eq_false_or_eq_true o.cr).symm with hcr | hcr
    case inl =>
      rw [hcr] at q2
      have hT : (o.cr && decide (o.h ≠ 65535)) = false := by rw [hcr]; rfl
      clear hcr
      go_wp2_with fail
      refine (addk_any W _ g5 g1 n6 c6 A6 6 o _ _ (.n o.h) _ _ hA6.out HO6.out hn6 (by decide) (by rw [show (wCand o)[6]? = some (o.cr && decide (o.h ≠ 65535), (nmB 6, .n o.h)) from rfl, hT]; rfl) rfl).mono ?_
      rintro e w' ⟨rfl, A', n', c', h1, h2, h3⟩
      go_wp2_with fail
      go_meet
      exact ⟨rfl, hid ⟨A', n', c', h1, h2, h3⟩⟩
    rw [hcr] at q2
    have hT : (o.cr && decide (o.h ≠ 65535)) = !(o.h == 65535) := by rw [hcr]; by_cases h0 : o.h = 65535 <;> simp [h0]
    clear hcr
    go_wp2_with fail
    refine (addk_any W _ g5 g1 n6 c6 A6 6 o _ _ (.n o.h) _ _ hA6.out HO6.out hn6 (by decide) (by rw [show (wCand o)[6]? = some (o.cr && decide (o.h ≠ 65535), (nmB 6, .n o.h)) from rfl, hT]; rfl) rfl).mono ?_
    rintro e w' ⟨rfl, A', n', c', h1, h2, h3⟩
    go_wp2_with fail
    go_meet
    exact ⟨rfl, hid ⟨A', n', c', h1, h2, h3⟩⟩
  obtain ⟨rfl, hX6⟩ := hcut
  obtain ⟨A7, n7, c7, hA7', hO7, hn7⟩ := hX6.out
  have hA7 := hid hA7'
  have HO7 := hid hO7
  clear hA7' hO7 hX6 hA6 HO6 hn6
  go_upto_region 15 with (fail)
  go_cut [127] from 117 to 127 (fun v wq => v = .tuple #[] ∧ Hid (∃ A n c, WB W g5 A n c (wL o 8) wq ∧ OrdB wq g1 o ∧ n ≤ 8))
  · skip
    have q8 := HO7.out.cell 8
    simp only [odC, List.getElem?_toArray, List.getElem?_cons_zero, List.getElem?_cons_succ] at q8
    have l1 := HO7.out.lt
    obtain ⟨j, hj, hjl⟩ : ∃ j : Nat, o.fo = (j : Int) ∧ j < formsW.length := ⟨(o.fo).toNat, by have := HF.out.fine.f0; have := HF.out.fine.f2; omega, by show _ < 3; have := HF.out.fine.f0; have := HF.out.fine.f2; omega⟩
    have hget : (strV formsW)[j]? = some (.string (formsW.getD (o.fo).toNat ⟨#[]⟩)) := by
      rw [hj, Int.toNat_natCast, List.getD_eq_getElem?_getD, List.getElem?_eq_getElem hjl]
      unfold strV
      rw [List.getElem?_map, List.getElem?_eq_getElem hjl]
      rfl
    have HA := hid ((hA7.out.below' ((Below.refl _ wc).alloc (Nat.le_refl _) (.cells (strV formsW).toArray 9))).drew)
    have HD := hid (show OrdB (wc.alloc (.cells (strV formsW).toArray 9)).drew g1 o from Blk.drew (Blk.alloc HO7.out _))
    generalize hvv : formsW.getD (o.fo).toNat ⟨#[]⟩ = vv at *
    have Hvv := hid hvv
    clear hvv
    have AD := hid (addk_any W (wc.alloc (.cells (strV formsW).toArray 9)).drew g5 g1 n7 c7 A7 7 o ((j : Int) != 0) ⟨#[102, 111, 114, 109]⟩ (.s vv) 9 (.string vv) HA.out HD.out hn7 (by decide) (hcc_f o j hj vv Hvv.out) rfl)
    go_region_with (first
      | (go_simp; go_at_call 41; refine (recomp_forms_any _).mono ?_; rintro e w4 ⟨rfl, rfl⟩)
      | (go_simp; go_at_call 39; refine AD.out.mono ?_; rintro e w' ⟨rfl, A', n', c', h1, h2, h3⟩))
    all_goals
      go_wp2_with fail
      go_meet
      exact ⟨rfl, hid ⟨A', n', c', h1, h2, h3⟩⟩
  obtain ⟨rfl, hX7⟩ := hcut
  obtain ⟨A8, n8, c8, hA8', hO8, hn8⟩ := hX7.out
  have hA8 := hid hA8'
  have HO8 := hid hO8
  clear hA8' hO8 hX7 hA7 HO7 hn7
  go_upto_region 16 with (fail)
  go_cut [135] from 128 to 135 (fun v wq => v = .tuple #[] ∧ Hid (∃ A n c, WB W g5 A n c (wL o 9) wq ∧ OrdB wq g1 o ∧ n ≤ 9))
  · skip
    have q9 := HO8.out.cell 9
    simp only [odC, List.getElem?_toArray, List.getElem?_cons_zero, List.getElem?_cons_succ] at q9
    have l1 := HO8.out.lt
    have eb : (!(o.re == 0)) = decide (o.re ≠ 0) := by by_cases h0 : o.re = 0 <;> simp [h0]
    go_wp2_with fail
    refine (addk_any W _ g5 g1 n8 c8 A8 8 o _ _ (.n o.re) _ _ hA8.out HO8.out hn8 (by decide) ((show (wCand o)[8]? = some (decide (o.re ≠ 0), (nmB 8, .n o.re)) from rfl).trans (by rw [← eb]; rfl)) rfl).mono ?_
    rintro e w' ⟨rfl, A', n', c', h1, h2, h3⟩
    go_wp2_with fail
    go_meet
    exact ⟨rfl, hid ⟨A', n', c', h1, h2, h3⟩⟩
  obtain ⟨rfl, hX8⟩ := hcut
  obtain ⟨A9, n9, c9, hA9', hO9, hn9⟩ := hX8.out
  have hA9 := hid hA9'
  have HO9 := hid hO9
  clear hA9' hO9 hX8 hA8 HO8 hn8
  go_upto_region 17 with (fail)
  go_cut [147] from 136 to 147 (fun v wq => v = .tuple #[] ∧ Hid (∃ A n c, WB W g5 A n c (wL o 10) wq ∧ OrdB wq g1 o ∧ n ≤ 10))
  · skip
    have q10 := HO9.out.cell 10
    simp only [odC, List.getElem?_toArray, List.getElem?_cons_zero, List.getElem?_cons_succ] at q10
    have l1 := HO9.out.lt
    obtain ⟨j, hj, hjl⟩ : ∃ j : Nat, o.la + 1 = (j : Int) ∧ j < lacesW.length := ⟨(o.la + 1).toNat, by have := HF.out.fine.l0; omega, by show _ < 3; have := HF.out.fine.l0; have := HF.out.fine.l1; omega⟩
    obtain ⟨z, hz⟩ : ∃ z, z = o.la := ⟨_, rfl⟩
    rw [← hz] at q10
    have e1 : IntKind.i64.wrap (z + 1) = (j : Int) := by have := HF.out.fine.l0; have := HF.out.fine.l1; rw [IntKind.wrap_i64]; omega
    have HA := hid ((hA9.out.below' ((Below.refl _ wc).alloc (Nat.le_refl _) (.cells (strV lacesW).toArray 9))).drew)
    have HD := hid (show OrdB (wc.alloc (.cells (strV lacesW).toArray 9)).drew g1 o from Blk.drew (Blk.alloc HO9.out _))
    have hget : (strV lacesW)[j]? = some (.string (lacesW.getD (o.la + 1).toNat ⟨#[]⟩)) := by
      rw [hj, Int.toNat_natCast, List.getD_eq_getElem?_getD, List.getElem?_eq_getElem hjl]
      unfold strV
      rw [List.getElem?_map, List.getElem?_eq_getElem hjl]
      rfl
    generalize hvv : lacesW.getD (o.la + 1).toNat ⟨#[]⟩ = vv at *
    have Hvv := hid hvv
    clear hvv
    have AD := hid (addk_any W (wc.alloc (.cells (strV lacesW).toArray 9)).drew g5 g1 n9 c9 A9 9 o (z != -1) ⟨#[108, 97, 99, 101]⟩ (.s vv) 9 (.string vv) HA.out HD.out hn9 (by decide) (by rw [hz]; exact hcc_l o vv Hvv.out) rfl)
    clear hj hz
    go_region_with (first
      | (go_simp; go_at_call 42; refine (recomp_laces_any _).mono ?_; rintro e w4 ⟨rfl, rfl⟩)
      | (go_simp; go_at_call 39; refine AD.out.mono ?_; rintro e w' ⟨rfl, A', n', c', h1, h2, h3⟩))
    all_goals
      go_wp2_with fail
      go_meet
      exact ⟨rfl, hid ⟨A', n', c', h1, h2, h3⟩⟩
  obtain ⟨rfl, hX9⟩ := hcut
  obtain ⟨A10, n10, c10, hA10', hO10, hn10⟩ := hX9.out
  have hA10 := hid hA10'
  have HO10 := hid hO10
  clear hA10' hO10 hX9 hA9 HO9 hn9
  have hwl : wL o 10 = pick (wCand o) := rfl
  rw [hwl] at hA10
  have hG := wishes_good o HF.out
  have hl16 := goodF_len hG
  have hnl := hA10.out.len
  have hbd : bl (txF true (pick (wCand o))) ≤ 1000000 := wish_short o HF.out
  obtain ⟨LL, hLL⟩ : ∃ LL, LL = pick (wCand o) := ⟨_, rfl⟩
  rw [← hLL] at hA10 hG hl16 hnl hbd
  have HLL := hid hLL
  clear hLL
  have TX := hid (text_any A10 c10 wc.heap.size n10 (LL.map sm) wc (by rw [List.length_map]; exact hnl) (by
      have h1 := own_rd hA10.out.row
      rw [hnl] at h1
      rw [fw_sm, List.length_map]
      exact h1) (Nat.le_refl _) (by rw [List.length_map]; omega) (fun x hx => by
      obtain ⟨y, hy, rfl⟩ := List.mem_map.1 hx
      have h1 := wsizes hG y hy
      exact ⟨by have := h1.1; show y.1.size ≤ _; omega, fun z hz => by injection hz with hz; have := h1.2 z hz; omega⟩) (fun L hL => by
      rw [← sm_inj hL, pText_eq hG]
      exact hbd))
  have HG := hid hG
  have q := hA10.out.box.cell 0
  simp only [List.getElem?_toArray, List.getElem?_cons_zero] at q
  have l5 := hA10.out.box.lt
  have Bf := hid hA10.out.below
  clear hG hl16 hnl hbd hwl
  go_wp2_with (go_at_call 8; refine TX.out.mono ?_; rintro e w9 ⟨hh, hb9⟩; obtain rfl : e = .returned (.tuple #[.string (runesBytes (txF true LL)), .nilIface]) := text_yes HG.out hh)
  go_ret2
  refine ⟨?_, Bf.out.trans (hb9.mono Bf.out.size)⟩
  rw [← HLL.out]
  rfl
end Go.Proofs.YtfcppchjikmioaaGreat
