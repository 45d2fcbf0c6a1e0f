/-
  slices.symMergeCmpFunc over items: the general case, and the whole.
-/
import Derived.Test.YtlekobompjehdaaSrtF
import Derived.Deep.DeepCutAuto
namespace Go.Proofs.Ytlekobompjehdaa
open Go.RowKit Mg

def SymF (X Y : List IR) (d lo : Nat) : Nat → Prop := fun t => lo ≤ t ∧ ¬ LeR (X.getD t default) (Y.getD (d - 1 - t) default)
theorem symF_mono {X Y : List IR} {d lo : Nat} (hx : X.Pairwise LeR) (hy : Y.Pairwise LeR) (hd : d = (X.length + Y.length) / 2) (hlo : lo = X.length + d - (X.length + Y.length)) :
    ∀ s t, s ≤ t → t < min d X.length → SymF X Y d lo s → SymF X Y d lo t := by
  intro s t hst ht ⟨h1, h2⟩
  refine ⟨by omega, fun h3 => h2 ?_⟩
  have e1 := sorted_getD hx hst (by omega)
  have e2 := sorted_getD hy (s := d - 1 - t) (t := d - 1 - s) (by omega) (by omega)
  exact (e1.tr h3).tr e2
theorem sym_low {X Y : List IR} {d lo s : Nat} (hx : X.Pairwise LeR) (hy : Y.Pairwise LeR) (hd : d = (X.length + Y.length) / 2) (hlo : lo = X.length + d - (X.length + Y.length)) (hs : Srch (SymF X Y d lo) (min d X.length) s s) (hl : lo ≤ s) :
    ∀ x ∈ X.drop s, ∀ y ∈ Y.take (d - s), ¬ LeR x y := by
  intro x hx1 y hy1 h
  have htop := hs.top
  obtain ⟨t, h1, h2, rfl⟩ := mem_drop_getD hx1
  obtain ⟨u, h3, rfl⟩ := mem_take_getD (by omega) hy1
  refine (hs.yes s (Nat.le_refl _) (by omega)).2 ?_
  exact ((sorted_getD hx h1 h2).tr h).tr (sorted_getD hy (s := u) (t := d - 1 - s) (by omega) (by omega))
theorem sym_high {X Y : List IR} {d lo s : Nat} (hx : X.Pairwise LeR) (hy : Y.Pairwise LeR) (hd : d = (X.length + Y.length) / 2) (hlo : lo = X.length + d - (X.length + Y.length)) (hs : Srch (SymF X Y d lo) (min d X.length) s s) (hl : lo ≤ s) :
    ∀ x ∈ X.take s, ∀ y ∈ Y.drop (d - s), LeR x y := by
  intro x hx1 y hy1
  have htop := hs.top
  obtain ⟨t, h3, rfl⟩ := mem_take_getD (by omega) hx1
  obtain ⟨u, h1, h2, rfl⟩ := mem_drop_getD hy1
  have hn := hs.no (s - 1) (by omega)
  have hle : LeR (X.getD (s - 1) default) (Y.getD (d - 1 - (s - 1)) default) := Classical.byContradiction fun h => hn ⟨by omega, h⟩
  exact ((sorted_getD hx (s := t) (t := s - 1) (by omega) (by omega)).tr hle).tr (sorted_getD hy (by omega) h2)
/-- the two halves, each brought to order, are the whole in order -/
theorem sym_join {X Y L R : List IR} {d s : Nat} (hx : X.Pairwise LeR) (hy : Y.Pairwise LeR) (h1 : ∀ x ∈ X.drop s, ∀ y ∈ Y.take (d - s), ¬ LeR x y) (h2 : ∀ x ∈ X.take s, ∀ y ∈ Y.drop (d - s), LeR x y)
    (hL : Bub (X.take s ++ Y.take (d - s)) L) (hR : Bub (X.drop s ++ Y.drop (d - s)) R) (sL : L.Pairwise LeR) (sR : R.Pairwise LeR) : Bub (X ++ Y) (L ++ R) ∧ (L ++ R).Pairwise LeR := by
  constructor
  · have e := (Bub.turn _ _ h1).ctx (X.take s) (Y.drop (d - s))
    have ex : X.take s ++ (X.drop s ++ Y.take (d - s)) ++ Y.drop (d - s) = X ++ Y := by
      rw [← List.append_assoc, List.take_append_drop, List.append_assoc, List.take_append_drop]
    rw [ex] at e
    refine e.tr ?_
    have := hL.both hR
    simpa using this
  · refine List.pairwise_append.2 ⟨sL, sR, fun l hl r hr => ?_⟩
    have hl := hL.perm.mem_iff.1 hl
    have hr := hR.perm.mem_iff.1 hr
    have px : ∀ l ∈ X.take s, ∀ r ∈ X.drop s, LeR l r := by
      have := hx
      rw [← List.take_append_drop s X] at this
      exact (List.pairwise_append.1 this).2.2
    have py : ∀ l ∈ Y.take (d - s), ∀ r ∈ Y.drop (d - s), LeR l r := by
      have := hy
      rw [← List.take_append_drop (d - s) Y] at this
      exact (List.pairwise_append.1 this).2.2
    rcases List.mem_append.1 hl with hl | hl <;> rcases List.mem_append.1 hr with hr | hr
    · exact px l hl r hr
    · exact h2 l hl r hr
    · exact LeR_of_not (h1 r hr l hl)
    · exact py l hl r hr

def SymOk (n : Nat) : Prop := ∀ (g cap N a m b : Nat) (p X Y q : List IR) (tl : List Value) (w0 W : World), X.length ≠ 0 → Y.length ≠ 0 → X.length + Y.length ≤ n → X.Pairwise LeR → Y.Pairwise LeR → SW W w0 g (p ++ (X ++ Y) ++ q) tl → a = p.length → m = a + X.length → b = m + Y.length → N = p.length + X.length + Y.length + q.length → N ≤ 1000000 →
    Calls Try.prog 138 #[.slice (some ⟨g, 0, none⟩) N cap, .int .i64 (a : Nat), .int .i64 (m : Nat), .int .i64 (b : Nat), .func (.func 79) #[] #[]] W (SEnd p (X ++ Y) q tl w0 g)
theorem sym_c1 {a xn yn m b d nn mid : Nat} (hm : m = a + xn) (hb : b = m + yn) (hd : d = (xn + yn) / 2) (hmid : mid = a + d) (hnn : nn = mid + m) (hl : b ≤ 1000000) (h : mid < m) : IntKind.i64.wrap ((nn : Int) - (b : Int)) = ((a + (xn + d - (xn + yn)) : Nat) : Int) ∧ a + min d xn = mid :=
  ⟨(IntWalk.i64_in _ (by omega)).trans (by omega), by rw [Nat.min_eq_left (by omega)]; omega⟩
theorem sym_c2 {a xn yn m d mid : Nat} (hm : m = a + xn) (hd : d = (xn + yn) / 2) (hmid : mid = a + d) (h : ¬ mid < m) : a + (xn + d - (xn + yn)) = a ∧ a + min d xn = m :=
  ⟨by omega, by rw [Nat.min_eq_right (by omega)]; omega⟩
theorem sym_st (X Y : List IR) {d lo : Nat} (hd : d = (X.length + Y.length) / 2) (hlo : lo = X.length + d - (X.length + Y.length)) : Srch (SymF X Y d lo) (min d X.length) lo (min d X.length) :=
  ⟨by rw [Nat.le_min]; omega, Nat.le_refl _, fun t ht hf => by have := hf.1; omega, fun t h1 h2 => by omega⟩
set_option maxRecDepth 100000 in
set_option maxHeartbeats 16000000 in
theorem symG_any (n : Nat) (IH : SymOk n) (g cap N a m b : Nat) (p X Y q : List IR) (tl : List Value) (w0 W : World) (hx2 : 2 ≤ X.length) (hy2 : 2 ≤ Y.length) (hn : X.length + Y.length ≤ n + 1) (hx : X.Pairwise LeR) (hy : Y.Pairwise LeR) (h : SW W w0 g (p ++ (X ++ Y) ++ q) tl) (ha : a = p.length) (hm : m = a + X.length) (hb : b = m + Y.length) (hN : N = p.length + X.length + Y.length + q.length) (hN2 : N ≤ 1000000) :
    Calls Try.prog 138 #[.slice (some ⟨g, 0, none⟩) N cap, .int .i64 (a : Nat), .int .i64 (m : Nat), .int .i64 (b : Nat), .func (.func 79) #[] #[]] W (SEnd p (X ++ Y) q tl w0 g) := by
  have H := hid h
  have Ha := hid ha
  have Hm := hid hm
  have Hb := hid hb
  have HN := hid hN
  have Hx := hid hx
  have Hy := hid hy
  have Hn := hid hn
  have Hx2 := hid hx2
  have Hy2 := hid hy2
  obtain ⟨xn, hxn⟩ : ∃ xn, xn = X.length := ⟨_, rfl⟩
  obtain ⟨yn, hyn⟩ : ∃ yn, yn = Y.length := ⟨_, rfl⟩
  obtain ⟨d, hd⟩ : ∃ d, d = (X.length + Y.length) / 2 := ⟨_, rfl⟩
  obtain ⟨mid, hmid⟩ : ∃ mid, mid = a + d := ⟨_, rfl⟩
  obtain ⟨nn, hnn⟩ : ∃ nn, nn = mid + m := ⟨_, rfl⟩
  obtain ⟨pp, hpp⟩ : ∃ pp, pp = nn - 1 := ⟨_, rfl⟩
  have s1 : IntKind.i64.wrap ((m : Int) - (a : Int)) = (xn : Int) := (IntWalk.i64_in _ (by omega)).trans (by omega)
  have s2 : IntKind.i64.wrap ((b : Int) - (m : Int)) = (yn : Int) := (IntWalk.i64_in _ (by omega)).trans (by omega)
  have s3 : ((xn : Int) == 1) = false := by rw [beq_eq_false_iff_ne]; omega
  have s4 : ((yn : Int) == 1) = false := by rw [beq_eq_false_iff_ne]; omega
  have s5 : IntKind.i64.wrap ((a : Int) + (b : Int)) = (a : Int) + (b : Int) := IntWalk.i64_in _ (by omega)
  have s6 : ((a : Int) + (b : Int)) / 2 = (mid : Int) := by omega
  have s7 : IntKind.i64.wrap ((mid : Int) + (m : Int)) = (nn : Int) := (IntWalk.i64_in _ (by omega)).trans (by omega)
  have s8 : IntKind.i64.wrap ((nn : Int) - 1) = (pp : Int) := (IntWalk.i64_in _ (by omega)).trans (by omega)
  have hsb : a + b ≤ 4000000 := by omega
  have hbl : b ≤ 1000000 := by omega
  obtain ⟨lo, hlo⟩ : ∃ lo, lo = X.length + d - (X.length + Y.length) := ⟨_, rfl⟩
  obtain ⟨al, hal⟩ : ∃ al, al = a + lo := ⟨_, rfl⟩
  obtain ⟨r0, hr0⟩ : ∃ r0, r0 = a + min d X.length := ⟨_, rfl⟩
  have C1 := hid (show mid < m → IntKind.i64.wrap ((nn : Int) - (b : Int)) = (al : Int) ∧ r0 = mid from fun h => by rw [hal, hr0, hlo]; exact sym_c1 hm hb hd hmid hnn hbl h)
  have C2 := hid (show ¬ mid < m → al = a ∧ r0 = m from fun h => by rw [hal, hr0, hlo]; exact sym_c2 hm hd hmid h)
  have Hmono := hid (symF_mono hx hy hd hlo)
  have Hst := hid (sym_st X Y hd hlo)
  have Hd := hid hd
  have Hlo := hid hlo
  have Hmid := hid hmid
  have Hnn := hid hnn
  have Hpp := hid hpp
  have Hal := hid hal
  have Hr0 := hid hr0
  clear h ha hm hb hN hx hy hn hx2 hy2 hxn hyn hd hlo hmid hnn hpp hal hr0
  go_enter Try.func138, Try.ntmps138
  go_upto_if 140 with (fail)
  go_cut [20, 21] from 138 to 146 (fun iv jv wc => iv = .int .i64 al ∧ jv = .int .i64 r0 ∧ W = wc)
  case first =>
    by_cases c : mid < m
    · have d1 : decide (mid < m) = true := decide_eq_true c
      have C := C1.out c
      obtain ⟨e1, e2⟩ := C
      have E2 := hid e2
      clear e2
      first
      | rw [d1]
      | rw [show decide ((mid : Int) < (m : Int)) = true from decide_eq_true (by omega)]
      clear c
      go_wp2
      go_meet
      exact ⟨rfl, by rw [E2.out], rfl⟩
    · have d1 : decide (mid < m) = false := decide_eq_false c
      have E := hid (C2.out c)
      first
      | rw [d1]
      | rw [show decide ((mid : Int) < (m : Int)) = false from decide_eq_false (by omega)]
      clear c
      go_wp2
      go_meet
      exact ⟨by rw [E.out.1], by rw [E.out.2], rfl⟩
  case rest =>
  obtain ⟨rfl, rfl, rfl⟩ := hcut
  clear C1 C2
  go_upto_region 33 with (fail)
  go_loopw [20, 21] (fun iv jv wr => ∃ (i j i' j' : Nat), iv = .int .i64 i ∧ jv = .int .i64 j ∧ i = a + i' ∧ j = a + j' ∧ lo ≤ i' ∧ Srch (SymF X Y d lo) (min d X.length) i' j' ∧ SW wr w0 g (p ++ (X ++ Y) ++ q) tl) (fun iv jv _ => (intOf jv).toNat - (intOf iv).toNat)
  case atStart => exact ⟨al, r0, lo, min d X.length, rfl, rfl, Hal.out, Hr0.out, Nat.le_refl _, Hst.out, H.out⟩
  case round =>
    obtain ⟨i, j, i', j', rfl, rfl, hi, hj, hil, hs, hsw⟩ := hrel
    have S := hid hsw
    have Hs := hid hs
    have hle := hs.le
    have htop := hs.top
    have htd := Nat.le_trans htop (Nat.min_le_left _ _)
    have htx := Nat.le_trans htop (Nat.min_le_right _ _)
    have Hil := hid hil
    have Hi := hid hi
    clear hsw hs htop hil
    by_cases hlt : i' < j'
    · have d1 : decide (i < j) = true := decide_eq_true (by omega)
      obtain ⟨h, hh⟩ : ∃ h, h = (i + j) / 2 := ⟨_, rfl⟩
      obtain ⟨h', hh'⟩ : ∃ h', h' = (i' + j') / 2 := ⟨_, rfl⟩
      have e1 : h = a + h' := by omega
      have hb1 : i + j ≤ 4000000 := by have := HN.out; have := Ha.out; omega
      have hhl : h' < X.length := by omega
      have eh : ((i : Int) + (j : Int)) / 2 = (h : Int) := by omega
      have t1 : IntKind.i64.wrap ((i : Int) + (j : Int)) = (i : Int) + (j : Int) := IntWalk.i64_in _ (by omega)
      have t2 : IntKind.i64.wrap ((h : Int) + 1) = ((h + 1 : Nat) : Int) := (IntWalk.i64_in _ (by omega)).trans (by omega)
      have Hhh := hid (show i' ≤ h' ∧ h' < j' by omega)
      have Hj := hid hj
      have hhd : lo ≤ h' ∧ h' < d := by have := Hil.out; omega
      clear hi hj hle hh hh' htd htx
      obtain ⟨u, hu⟩ : ∃ u, u = d - 1 - h' := ⟨_, rfl⟩
      have hul : u < Y.length := by have := Hlo.out; have := Hd.out; omega
      obtain ⟨pc, hpc⟩ : ∃ pc, pc = m + u := ⟨_, rfl⟩
      have e2 : (pp : Int) - (h : Int) = (pc : Int) := by have := Hpp.out; have := Hnn.out; have := Hmid.out; omega
      have th : (h : Int) < (N : Int) := by have := HN.out; have := Ha.out; omega
      have tpc : (pc : Int) < (N : Int) := by have := HN.out; have := Ha.out; have := Hm.out; omega
      have t3 : IntKind.i64.wrap ((pp : Int) - (h : Int)) = (pc : Int) := by rw [e2]; exact IntWalk.i64_in _ (by omega)
      have He1 := hid e1
      have Hhd := hid hhd
      have Hu := hid hu
      obtain ⟨x, hx⟩ : ∃ x, X.getD h' default = x := ⟨_, rfl⟩
      obtain ⟨y, hy⟩ : ∃ y, Y.getD u default = y := ⟨_, rfl⟩
      have S1 := hid (show SW wr w0 g ((p ++ X.take h') ++ x :: (X.drop (h' + 1) ++ Y ++ q)) tl by
        have := S.out
        rw [split_getD X hhl, hx] at this
        simpa using this)
      have S2 := hid (show SW wr w0 g ((p ++ X ++ Y.take u) ++ y :: (Y.drop (u + 1) ++ q)) tl by
        have := S.out
        rw [split_getD Y hul, hy] at this
        simpa using this)
      obtain ⟨x0, x1⟩ := S1.out.mid (i := h) (by have := Ha.out; rw [List.length_append, List.length_take, Nat.min_eq_left (by omega)]; omega)
      obtain ⟨y0, y1⟩ := S2.out.mid (i := pc) (by have := Ha.out; have := Hm.out; rw [List.length_append, List.length_append, List.length_take, Nat.min_eq_left (by omega)]; omega)
      have HX := hid hx
      have HY := hid hy
      clear e1 e2 hhl hhd hu hul hpc hx hy S1 S2
      go_upto_region 35 with (fail)
      have k0 := cell_regrown x0
      have k1 := cell_regrown x1
      have m0 := cell_regrown y0
      have m1 := cell_regrown y1
      have cS : ∀ d' os, Calls Try.prog 79 #[.agg #[.int .i64 y.it.w, .slice y.A y.it.s.length y.c], .agg #[.int .i64 x.it.w, .slice x.A x.it.s.length x.c]] (Sort.grow (redrawn wr d') os) fun e w'' => e = .returned (.int .i64 (cfR y x)) ∧ ∃ p : Regrown, w'' = Sort.grow (redrawn wr p.d) p.os := fun d' os => Calls.regrown_of (byWeight_any y x _)
      refine wp_region_quiet_below (by kernel_rfl) (by kernel_rfl) ?_
      repeat (go_big_quiet_step (with_reducible exact cS _ _))
      refine wpQuiet_nil ?_
      intro w5 hw5
      obtain ⟨⟨dq, osq⟩, hw5⟩ := hw5
      have hb5 : Below wr.heap.size wr w5 := by rw [hw5]; exact below_regrown wr dq osq
      clear hw5 k0 k1 m0 m1 cS x0 x1 y0 y1
      have S5 := hid (S.out.below hb5)
      clear hb5 S eh
      by_cases hc : cfR y x < 0
      · rw [show decide (cfR y x < 0) = true from decide_eq_true hc]
        have Hc := hid ((cfR_lt y x).1 hc)
        clear hc
        go_wp2
        go_roundw
        case rel => exact ⟨i, h, i', h', rfl, rfl, Hi.out, He1.out, Hil.out, Hs.out.down Hmono.out Hhh.out.1 Hhh.out.2 ⟨Hhd.out.1, by rw [← Hu.out, HX.out, HY.out]; exact Hc.out⟩, S5.out⟩
        case measure => have := Hhh.out; have := Hi.out; have := Hj.out; have := He1.out; simp [intOf]; omega
      · rw [show decide (cfR y x < 0) = false from decide_eq_false hc]
        have Hc := hid (show LeR x y from Classical.byContradiction fun h => hc ((cfR_lt y x).2 h))
        clear hc
        go_wp2
        go_roundw
        case rel => exact ⟨h + 1, j, h' + 1, j', by go_num, rfl, by have := He1.out; omega, Hj.out, by have := Hhd.out; omega, Hs.out.up Hmono.out Hhh.out.2 (fun hf => hf.2 (by rw [← Hu.out, HX.out, HY.out]; exact Hc.out)), S5.out⟩
        case measure => have := Hhh.out; have := Hi.out; have := Hj.out; have := He1.out; simp [intOf]; omega
    · obtain rfl : i' = j' := by omega
      have d1 : decide (i < j) = false := decide_eq_false (by omega)
      have hdy : d - i' ≤ Y.length := by have := Hil.out; have := Hlo.out; omega
      obtain ⟨e, he⟩ : ∃ e, e = m + (d - i') := ⟨_, rfl⟩
      have t5 : IntKind.i64.wrap ((nn : Int) - (i : Int)) = (e : Int) := by
        have e5 : (nn : Int) - (i : Int) = (e : Int) := by have := Hnn.out; have := Hmid.out; omega
        rw [e5]
        exact IntWalk.i64_in _ (by have := Hb.out; omega)
      have HJ := hid (fun (L R : List IR) => sym_join (L := L) (R := R) Hx.out Hy.out (sym_low Hx.out Hy.out Hd.out Hlo.out Hs.out Hil.out) (sym_high Hx.out Hy.out Hd.out Hlo.out Hs.out Hil.out))
      have LX1 := hid (show (X.take i').length = i' by rw [List.length_take, Nat.min_eq_left htx])
      have LX2 := hid (show (X.drop i').length = X.length - i' by rw [List.length_drop])
      have LY1 := hid (show (Y.take (d - i')).length = d - i' by rw [List.length_take, Nat.min_eq_left hdy])
      have LY2 := hid (show (Y.drop (d - i')).length = Y.length - (d - i') by rw [List.length_drop])
      have PX1 := hid (Hx.out.sublist (List.take_sublist i' X))
      have PX2 := hid (Hx.out.sublist (List.drop_sublist i' X))
      have PY1 := hid (Hy.out.sublist (List.take_sublist (d - i') Y))
      have PY2 := hid (Hy.out.sublist (List.drop_sublist (d - i') Y))
      have S1 := hid (show SW wr w0 g (p ++ (X.take i' ++ X.drop i' ++ (Y.take (d - i') ++ Y.drop (d - i'))) ++ q) tl by rw [List.take_append_drop, List.take_append_drop]; exact S.out)
      have Htx := hid htx
      have Hdy := hid hdy
      have Htd := hid htd
      have He := hid he
      clear S Hs Hst Hmono hi hj hle htd htx hlt hdy he
      generalize X.take i' = X1 at *
      generalize X.drop i' = X2 at *
      generalize Y.take (d - i') = Y1 at *
      generalize Y.drop (d - i') = Y2 at *
      go_upto_region 39 with (fail)
      go_cut [185] from 178 to 185 (fun v wq => ∃ bb : Bool, v = .bool bb ∧ (bb = true ↔ (i < m ∧ m < e)) ∧ wr = wq)
      case first =>
        by_cases c1 : i < m
        · have d1 : decide (i < m) = true := decide_eq_true c1
          have C1 := hid c1
          by_cases c2 : m < e
          · have d2 : decide (m < e) = true := decide_eq_true c2
            have C2 := hid c2
            clear c1 c2
            go_wp2
            go_meet
            exact ⟨true, rfl, iff_of_true rfl ⟨C1.out, C2.out⟩, rfl⟩
          · have d2 : decide (m < e) = false := decide_eq_false c2
            have C2 := hid c2
            clear c1 c2
            go_wp2
            go_meet
            exact ⟨false, rfl, iff_of_false Bool.false_ne_true (fun h => C2.out h.2), rfl⟩
        · have d1 : decide (i < m) = false := decide_eq_false c1
          have C1 := hid c1
          clear c1
          go_wp2
          go_meet
          exact ⟨false, rfl, iff_of_false Bool.false_ne_true (fun h => C1.out h.1), rfl⟩
      case rest =>
      obtain ⟨bb, rfl, hbb, rfl⟩ := hcut
      have Hbb := hid hbb
      clear hbb
      go_upto_if 185 with (fail)
      go_cut [] from 186 to 191 (fun wc => SW wc w0 g (p ++ (X1 ++ Y1) ++ (X2 ++ Y2) ++ q) tl)
      case first =>
        cases bb
        · have hz : X2 = [] ∨ Y1 = [] := by
            have h1 : ¬ (i < m ∧ m < e) := fun h => absurd (Hbb.out.2 h) (by decide)
            have := LX2.out; have := LY1.out; have := Hi.out; have := Hm.out; have := He.out
            rcases Nat.eq_zero_or_pos X2.length with h | h
            · exact .inl (List.eq_nil_of_length_eq_zero h)
            · exact .inr (List.eq_nil_of_length_eq_zero (by omega))
          have S2 := hid (show SW wr w0 g (p ++ (X1 ++ Y1) ++ (X2 ++ Y2) ++ q) tl by
            have := S1.out
            rcases hz with rfl | rfl <;> simpa using this)
          clear hz
          go_wp2
          go_meet
          exact S2.out
        · have S2 := hid (show SW wr w0 g ((p ++ X1) ++ X2 ++ Y1 ++ (Y2 ++ q)) tl by have := S1.out; simpa using this)
          have Hc := hid (Hbb.out.1 rfl)
          go_wp2_with fail
          refine (rotate_any g cap N i m e (p ++ X1) X2 Y1 (Y2 ++ q) tl w0 _ S2.out (by have := LX2.out; have := Hc.out; have := Hi.out; have := Hm.out; omega) (by have := LY1.out; have := Hc.out; have := He.out; omega) (by have := LX1.out; have := Ha.out; have := Hi.out; rw [List.length_append]; omega) (by have := LX2.out; have := Hi.out; have := Hm.out; have := Htx.out; omega) (by have := LY1.out; have := He.out; omega) (by have := HN.out; have := LX1.out; have := LX2.out; have := LY1.out; have := LY2.out; have := Htx.out; have := Hdy.out; simp only [List.length_append]; omega) hN2 _).mono ?_
          rintro e1 w1 ⟨rfl, R⟩
          have R2 := hid (show SW w1 w0 g (p ++ (X1 ++ Y1) ++ (X2 ++ Y2) ++ q) tl by simpa using R)
          clear R
          go_wp2
          go_meet
          exact R2.out
      case rest =>
      have T1 := hid hcut
      clear hcut S1 Hbb
      go_upto_region 41 with (fail)
      go_cut [199] from 192 to 199 (fun v wq => ∃ bb : Bool, v = .bool bb ∧ (bb = true ↔ (a < i ∧ i < mid)) ∧ wc = wq)
      case first =>
        by_cases c1 : a < i
        · have d1 : decide (a < i) = true := decide_eq_true c1
          have C1 := hid c1
          by_cases c2 : i < mid
          · have d2 : decide (i < mid) = true := decide_eq_true c2
            have C2 := hid c2
            clear c1 c2
            go_wp2
            go_meet
            exact ⟨true, rfl, iff_of_true rfl ⟨C1.out, C2.out⟩, rfl⟩
          · have d2 : decide (i < mid) = false := decide_eq_false c2
            have C2 := hid c2
            clear c1 c2
            go_wp2
            go_meet
            exact ⟨false, rfl, iff_of_false Bool.false_ne_true (fun h => C2.out h.2), rfl⟩
        · have d1 : decide (a < i) = false := decide_eq_false c1
          have C1 := hid c1
          clear c1
          go_wp2
          go_meet
          exact ⟨false, rfl, iff_of_false Bool.false_ne_true (fun h => C1.out h.1), rfl⟩
      case rest =>
      obtain ⟨bb, rfl, hbb, rfl⟩ := hcut
      have Hbb := hid hbb
      clear hbb
      go_upto_if 199 with (fail)
      go_cut [] from 200 to 205 (fun wd => ∃ L, Bub (X1 ++ Y1) L ∧ L.Pairwise LeR ∧ SW wd w0 g (p ++ L ++ (X2 ++ Y2) ++ q) tl)
      case first =>
        cases bb
        · have hz : X1 = [] ∨ Y1 = [] := by
            have h1 : ¬ (a < i ∧ i < mid) := fun h => absurd (Hbb.out.2 h) (by decide)
            have := LX1.out; have := LY1.out; have := Hi.out; have := Hmid.out
            rcases Nat.eq_zero_or_pos X1.length with h | h
            · exact .inl (List.eq_nil_of_length_eq_zero h)
            · exact .inr (List.eq_nil_of_length_eq_zero (by omega))
          have PZ := hid (show (X1 ++ Y1).Pairwise LeR by rcases hz with rfl | rfl; exact PY1.out; rw [List.append_nil]; exact PX1.out)
          clear hz
          go_wp2
          go_meet
          exact ⟨X1 ++ Y1, .refl _, PZ.out, T1.out⟩
        · have S2 := hid (show SW wc w0 g (p ++ (X1 ++ Y1) ++ ((X2 ++ Y2) ++ q)) tl by have := T1.out; simpa using this)
          have Hc := hid (Hbb.out.1 rfl)
          go_wp2_with fail
          refine (IH g cap N a i mid p X1 Y1 ((X2 ++ Y2) ++ q) tl w0 _ (by have := LX1.out; have := Hc.out; have := Hi.out; omega) (by have := LY1.out; have := Hc.out; have := Hi.out; have := Hmid.out; omega) (by have := LX1.out; have := LY1.out; have := Hn.out; have := Hd.out; have := Hx2.out; have := Htd.out; omega) PX1.out PY1.out S2.out Ha.out (by have := LX1.out; have := Hi.out; omega) (by have := LY1.out; have := Hi.out; have := Hmid.out; have := Htd.out; omega) (by have := HN.out; have := LX1.out; have := LX2.out; have := LY1.out; have := LY2.out; have := Htx.out; have := Hdy.out; simp only [List.length_append]; omega) hN2).mono ?_
          rintro e1 w1 ⟨rfl, L, hL1, hL2, R⟩
          have R2 := hid (show SW w1 w0 g (p ++ L ++ (X2 ++ Y2) ++ q) tl by simpa using R)
          have HL1 := hid hL1
          have HL2 := hid hL2
          clear R hL1 hL2
          go_wp2
          go_meet
          exact ⟨L, HL1.out, HL2.out, R2.out⟩
      case rest =>
      obtain ⟨L, hL1, hL2, hT⟩ := hcut
      have HL1 := hid hL1
      have HL2 := hid hL2
      have T2 := hid hT
      have LL := hid (show L.length = d by have h0 := hL1.len; have h1 := LX1.out; have h2 := LY1.out; have h3 := Htd.out; rw [List.length_append] at h0; omega)
      clear hL1 hL2 hT T1 Hbb
      go_upto_region 43 with (fail)
      go_cut [213] from 206 to 213 (fun v wq => ∃ bb : Bool, v = .bool bb ∧ (bb = true ↔ (mid < e ∧ e < b)) ∧ wc = wq)
      case first =>
        by_cases c1 : mid < e
        · have d1 : decide (mid < e) = true := decide_eq_true c1
          have C1 := hid c1
          by_cases c2 : e < b
          · have d2 : decide (e < b) = true := decide_eq_true c2
            have C2 := hid c2
            clear c1 c2
            go_wp2
            go_meet
            exact ⟨true, rfl, iff_of_true rfl ⟨C1.out, C2.out⟩, rfl⟩
          · have d2 : decide (e < b) = false := decide_eq_false c2
            have C2 := hid c2
            clear c1 c2
            go_wp2
            go_meet
            exact ⟨false, rfl, iff_of_false Bool.false_ne_true (fun h => C2.out h.2), rfl⟩
        · have d1 : decide (mid < e) = false := decide_eq_false c1
          have C1 := hid c1
          clear c1
          go_wp2
          go_meet
          exact ⟨false, rfl, iff_of_false Bool.false_ne_true (fun h => C1.out h.1), rfl⟩
      case rest =>
      obtain ⟨bb, rfl, hbb, rfl⟩ := hcut
      have Hbb := hid hbb
      clear hbb
      cases bb
      · have hz : X2 = [] ∨ Y2 = [] := by
          have h1 : ¬ (mid < e ∧ e < b) := fun h => absurd (Hbb.out.2 h) (by decide)
          have := LX2.out; have := LY2.out; have := He.out; have := Hmid.out; have := Hb.out; have := Hm.out; have := Htx.out; have := Htd.out; have := Hdy.out
          rcases Nat.eq_zero_or_pos X2.length with h | h
          · exact .inl (List.eq_nil_of_length_eq_zero h)
          · exact .inr (List.eq_nil_of_length_eq_zero (by omega))
        have PZ := hid (show (X2 ++ Y2).Pairwise LeR by rcases hz with rfl | rfl; exact PY2.out; rw [List.append_nil]; exact PX2.out)
        clear hz
        go_wp2
        go_end0
        obtain ⟨j1, j2⟩ := HJ.out _ _ HL1.out (.refl (X2 ++ Y2)) HL2.out PZ.out
        exact ⟨rfl, _, j1, j2, by have := T2.out; simpa using this⟩
      · have S2 := hid (show SW wc w0 g ((p ++ L) ++ (X2 ++ Y2) ++ q) tl from T2.out)
        have Hc := hid (Hbb.out.1 rfl)
        go_wp2_with fail
        refine (IH g cap N mid e b (p ++ L) X2 Y2 q tl w0 _ (by have := LX2.out; have := Hc.out; have := He.out; have := Hmid.out; have := Hm.out; have := Htd.out; omega) (by have := LY2.out; have := Hc.out; have := He.out; have := Hb.out; omega) (by have := LX2.out; have := LY2.out; have := Hn.out; have := Hd.out; have := Hx2.out; have := Htx.out; have := Hdy.out; have := Htd.out; omega) PX2.out PY2.out S2.out (by have := LL.out; have := Ha.out; have := Hmid.out; rw [List.length_append]; omega) (by have := LX2.out; have := He.out; have := Hmid.out; have := Hm.out; have := Htx.out; have := Htd.out; omega) (by have := LY2.out; have := He.out; have := Hb.out; have := Hdy.out; omega) (by have := HN.out; have := LL.out; have := LX2.out; have := LY2.out; have := Htx.out; have := Hdy.out; have := Htd.out; rw [List.length_append]; omega) hN2).mono ?_
        rintro e1 w1 ⟨rfl, R0, hL1, hL2, R⟩
        have R2 := hid R
        have HR1 := hid hL1
        have HR2 := hid hL2
        clear R hL1 hL2
        go_wp2
        go_end0
        obtain ⟨j1, j2⟩ := HJ.out _ _ HL1.out HR1.out HL2.out HR2.out
        exact ⟨rfl, _, j1, j2, by have := R2.out; simpa using this⟩

theorem sym_ok : ∀ n, SymOk n
  | 0 => fun g cap N a m b p X Y q tl w0 W h1 h2 h3 => by omega
  | n + 1 => by
    intro g cap N a m b p X Y q tl w0 W h1 h2 h3 hx hy h ha hm hb hN hN2
    by_cases hx1 : X.length = 1
    · obtain ⟨x, rfl⟩ := List.length_eq_one_iff.1 hx1
      exact symA_any g cap N a m b p Y q x tl w0 W (by simpa using h) ha (by simpa using hm) hb (by simp at hN; omega) hN2 hy
    · by_cases hy1 : Y.length = 1
      · obtain ⟨y, rfl⟩ := List.length_eq_one_iff.1 hy1
        exact symB_any g cap N a m b p X q y tl w0 W (by simpa using h) ha hm (by simpa using hb) (by simp at hN; omega) hN2 hx hx1
      · exact symG_any n (sym_ok n) g cap N a m b p X Y q tl w0 W (by omega) (by omega) h3 hx hy h ha hm hb hN hN2
end Go.Proofs.Ytlekobompjehdaa
