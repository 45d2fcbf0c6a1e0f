/-
  slices.symMergeCmpFunc over items: a row's two stretches become one; the cases in which one of them holds one item.
-/
import Derived.Test.YtlekobompjehdaaSrtD
namespace Go.Proofs.Ytlekobompjehdaa
open Go.RowKit Mg

/-- a search by halves: below i no, from j on yes -/
structure Srch (f : Nat → Prop) (hi i j : Nat) : Prop where
  le : i ≤ j
  top : j ≤ hi
  no : ∀ t, t < i → ¬ f t
  yes : ∀ t, j ≤ t → t < hi → f t
theorem Srch.start (f : Nat → Prop) (hi : Nat) : Srch f hi 0 hi := ⟨Nat.zero_le _, Nat.le_refl _, fun t h => by omega, fun t h1 h2 => by omega⟩
theorem Srch.up {f : Nat → Prop} {hi i j h : Nat} (s : Srch f hi i j) (hm : ∀ s t, s ≤ t → t < hi → f s → f t) (h2 : h < j) (hf : ¬ f h) : Srch f hi (h + 1) j :=
  ⟨h2, s.top, fun t ht hft => hf (hm t h (by omega) (by have := s.top; omega) hft), s.yes⟩
theorem Srch.down {f : Nat → Prop} {hi i j h : Nat} (s : Srch f hi i j) (hm : ∀ s t, s ≤ t → t < hi → f s → f t) (h1 : i ≤ h) (h2 : h < j) (hf : f h) : Srch f hi i h :=
  ⟨h1, by have := s.top; omega, s.no, fun t ht hh => hm h t ht hh hf⟩
theorem LeR_of_not {x y : IR} (h : ¬ LeR x y) : LeR y x := (LeR.tot x y).resolve_left h
theorem sorted_getD {Y : List IR} (h : Y.Pairwise LeR) {s t : Nat} (hst : s ≤ t) (ht : t < Y.length) : LeR (Y.getD s default) (Y.getD t default) := by
  rcases Nat.lt_or_eq_of_le hst with h1 | rfl
  · rw [List.getD_eq_getElem?_getD, List.getD_eq_getElem?_getD, List.getElem?_eq_getElem (by omega), List.getElem?_eq_getElem ht]
    exact List.pairwise_iff_getElem.1 h s t (by omega) ht h1
  · exact (LeR.tot _ _).elim id id
theorem split_getD (Y : List IR) {t : Nat} (h : t < Y.length) : Y = Y.take t ++ Y.getD t default :: Y.drop (t + 1) := by
  rw [List.getD_eq_getElem?_getD, List.getElem?_eq_getElem h]
  show _ = _ ++ Y[t] :: _
  rw [← List.drop_eq_getElem_cons h, List.take_append_drop]
theorem mem_take_getD {Y : List IR} {k : Nat} (hk : k ≤ Y.length) {y : IR} (h : y ∈ Y.take k) : ∃ t, t < k ∧ Y.getD t default = y := by
  obtain ⟨t, ht, rfl⟩ := List.mem_take_iff_getElem.1 h
  exact ⟨t, by omega, by rw [List.getD_eq_getElem?_getD, List.getElem?_eq_getElem (by omega)]; rfl⟩
theorem mem_drop_getD {Y : List IR} {k : Nat} {y : IR} (h : y ∈ Y.drop k) : ∃ t, k ≤ t ∧ t < Y.length ∧ Y.getD t default = y := by
  obtain ⟨t, ht, rfl⟩ := List.mem_drop_iff_getElem.1 h
  exact ⟨k + t, by omega, by omega, by rw [List.getD_eq_getElem?_getD, List.getElem?_eq_getElem (by omega)]; rfl⟩

set_option maxRecDepth 100000 in
set_option maxHeartbeats 8000000 in
theorem symA_any (g cap N a m b : Nat) (p Y q : List IR) (x : IR) (tl : List Value) (w0 W : World) (h : SW W w0 g (p ++ x :: (Y ++ q)) tl) (ha : a = p.length) (hm : m = a + 1) (hb : b = m + Y.length) (hN : N = p.length + 1 + Y.length + q.length) (hN2 : N ≤ 1000000) (hy : Y.Pairwise LeR) :
    Calls Try.prog 138 #[.slice (some ⟨g, 0, none⟩) N cap, .int .i64 (a : Nat), .int .i64 (m : Nat), .int .i64 (b : Nat), .func (.func 79) #[] #[]] W (SEnd p (x :: Y) q tl w0 g) := by
  have H := hid h
  have Ha := hid ha
  have Hm := hid hm
  have Hb := hid hb
  have HN := hid hN
  have Hy := hid hy
  have s1 : IntKind.i64.wrap ((m : Int) - (a : Int)) = 1 := (IntWalk.i64_in _ (by omega)).trans (by omega)
  have Hmono := hid (show ∀ s t, s ≤ t → t < Y.length → LeR x (Y.getD s default) → LeR x (Y.getD t default) from fun s t h1 h2 h3 => h3.tr (sorted_getD hy h1 h2))
  clear h ha hm hb hN hy
  go_enter Try.func138, Try.ntmps138
  go_upto_region 3 with (fail)
  go_loopw [10, 11] (fun iv jv wr => ∃ (i j i' j' : Nat), iv = .int .i64 i ∧ jv = .int .i64 j ∧ i = m + i' ∧ j = m + j' ∧ Srch (fun t => LeR x (Y.getD t default)) Y.length i' j' ∧ SW wr w0 g (p ++ x :: (Y ++ q)) tl) (fun iv jv _ => (intOf jv).toNat - (intOf iv).toNat)
  case atStart => exact ⟨m, b, 0, Y.length, rfl, rfl, rfl, Hb.out, .start _ _, H.out⟩
  case round =>
    obtain ⟨i, j, i', j', rfl, rfl, hi, hj, hs, hsw⟩ := hrel
    have S := hid hsw
    have Hs := hid hs
    have hle := hs.le
    have htop := hs.top
    clear hsw hs
    by_cases hlt : i' < j'
    · have d1 : decide (i < j) = true := decide_eq_true (by omega)
      obtain ⟨h, hh⟩ : ∃ h, h = (i + j) / 2 := ⟨_, rfl⟩
      obtain ⟨h', hh'⟩ : ∃ h', h' = (i' + j') / 2 := ⟨_, rfl⟩
      have e1 : h = m + h' := by omega
      have hhl : h' < Y.length := by omega
      have hb1 : i + j ≤ 4000000 := by have := HN.out; have := Ha.out; have := Hm.out; omega
      have t1 : IntKind.i64.wrap ((i : Int) + (j : Int)) = (i : Int) + (j : Int) := IntWalk.i64_in _ (by omega)
      have t2 : IntKind.i64.wrap ((h : Int) + 1) = ((h + 1 : Nat) : Int) := (IntWalk.i64_in _ (by omega)).trans (by omega)
      have th : (h : Int) < (N : Int) := by have := HN.out; have := Ha.out; have := Hm.out; omega
      have ta : (a : Int) < (N : Int) := by have := HN.out; have := Ha.out; omega
      have eh : ((i : Int) + (j : Int)) / 2 = (h : Int) := by omega
      have He1 := hid e1
      have Hhl := hid hhl
      have Hi := hid hi
      have Hj := hid hj
      have Hhh := hid (show i' ≤ h' ∧ h' < j' by omega)
      obtain ⟨x0, x1⟩ := S.out.mid Ha.out
      obtain ⟨y, hy⟩ : ∃ y, Y.getD h' default = y := ⟨_, rfl⟩
      have S1 := hid (show SW wr w0 g ((p ++ x :: Y.take h') ++ y :: (Y.drop (h' + 1) ++ q)) tl by
        have := S.out
        rw [split_getD Y hhl, hy] at this
        simpa using this)
      obtain ⟨y0, y1⟩ := S1.out.mid (i := h) (by have := Ha.out; have := Hm.out; simp; omega)
      have HY := hid hy
      clear hh hh' e1 hhl hi hj hy hle htop S1
      go_upto_region 5 with (fail)
      have k0 := cell_regrown x0
      have k1 := cell_regrown x1
      have m0 := cell_regrown y0
      have m1 := cell_regrown y1
      have cS : ∀ d' os, Calls Try.prog 79 #[.agg #[.int .i64 y.it.w, .slice y.A y.it.s.length y.c], .agg #[.int .i64 x.it.w, .slice x.A x.it.s.length x.c]] (Sort.grow (redrawn wr d') os) fun e w'' => e = .returned (.int .i64 (cfR y x)) ∧ ∃ p : Regrown, w'' = Sort.grow (redrawn wr p.d) p.os := fun d' os => Calls.regrown_of (byWeight_any y x _)
      refine wp_region_quiet_below (by kernel_rfl) (by kernel_rfl) ?_
      repeat (go_big_quiet_step (with_reducible exact cS _ _))
      refine wpQuiet_nil ?_
      intro w5 hw5
      obtain ⟨⟨dq, osq⟩, hw5⟩ := hw5
      have hb5 : Below wr.heap.size wr w5 := by rw [hw5]; exact below_regrown wr dq osq
      clear hw5 k0 k1 m0 m1 cS x0 x1 y0 y1
      have S5 := hid (S.out.below hb5)
      clear hb5 S eh
      by_cases hc : cfR y x < 0
      · rw [show decide (cfR y x < 0) = true from decide_eq_true hc]
        have Hc := hid ((cfR_lt y x).1 hc)
        clear hc
        go_wp2
        go_roundw
        case rel => exact ⟨h + 1, j, h' + 1, j', by go_num, rfl, by have := He1.out; omega, Hj.out, Hs.out.up Hmono.out Hhh.out.2 (by show ¬ LeR x (Y.getD h' default); rw [HY.out]; exact Hc.out), S5.out⟩
        case measure => have := Hhh.out; have := Hi.out; have := Hj.out; have := He1.out; simp [intOf]; omega
      · rw [show decide (cfR y x < 0) = false from decide_eq_false hc]
        have Hc := hid (show LeR x y from Classical.byContradiction fun h => hc ((cfR_lt y x).2 h))
        clear hc
        go_wp2
        go_roundw
        case rel => exact ⟨i, h, i', h', rfl, rfl, Hi.out, He1.out, Hs.out.down Hmono.out Hhh.out.1 Hhh.out.2 (by show LeR x (Y.getD h' default); rw [HY.out]; exact Hc.out), S5.out⟩
        case measure => have := Hhh.out; have := Hi.out; have := Hj.out; have := He1.out; simp [intOf]; omega
    · obtain rfl : i' = j' := by omega
      have d1 : decide (i < j) = false := decide_eq_false (by omega)
      obtain ⟨r, hr⟩ : ∃ r, r = a + i' := ⟨_, rfl⟩
      have t3 : IntKind.i64.wrap ((i : Int) - 1) = (r : Int) := (IntWalk.i64_in _ (by have := HN.out; have := Ha.out; have := Hm.out; omega)).trans (by have := Hm.out; omega)
      have Hr := hid hr
      have hrb : r ≤ 1000000 := by have := HN.out; have := Ha.out; omega
      have Htop := hid htop
      clear hi hj hr hle htop
      go_upto_region 9 with (fail)
      go_loopw [13] (fun kv wi => ∃ (k k' : Nat), kv = .int .i64 k ∧ k = a + k' ∧ k' ≤ i' ∧ SW wi w0 g ((p ++ Y.take k') ++ x :: (Y.drop k' ++ q)) tl) (fun kv _ => r - (intOf kv).toNat)
      case atStart => exact ⟨a, 0, rfl, rfl, Nat.zero_le _, by have := S.out; simpa using this⟩
      case round =>
        obtain ⟨k, k', rfl, hk, hk', hsw⟩ := hrel
        have T := hid hsw
        have Hk := hid hk
        clear hsw
        by_cases hlt : k' < i'
        · have d2 : decide (k < r) = true := decide_eq_true (by have := Hr.out; omega)
          obtain ⟨k1, hk1⟩ : ∃ k1, k1 = k + 1 := ⟨_, rfl⟩
          have t4 : IntKind.i64.wrap ((k : Int) + 1) = (k1 : Int) := (IntWalk.i64_in _ (by have := Hr.out; omega)).trans (by omega)
          have jl : k < k1 := by omega
          have tk1 : (k1 : Int) < (N : Int) := by have := HN.out; have := Ha.out; have := Htop.out; omega
          have tk : (k : Int) < (N : Int) := by omega
          have hkl : k' < Y.length := by have := Htop.out; omega
          have u1 : k = (p ++ Y.take k').length := by have := Ha.out; simp; omega
          obtain ⟨y, hy⟩ : ∃ y, Y.getD k' default = y := ⟨_, rfl⟩
          have ed : Y.drop k' = y :: Y.drop (k' + 1) := by
            have := List.drop_eq_getElem_cons hkl
            rwa [show Y[k'] = y by rw [← hy, List.getD_eq_getElem?_getD, List.getElem?_eq_getElem hkl]; rfl] at this
          have et : Y.take (k' + 1) = Y.take k' ++ [y] := by
            rw [List.take_succ_eq_append_getElem hkl, show Y[k'] = y by rw [← hy, List.getD_eq_getElem?_getD, List.getElem?_eq_getElem hkl]; rfl]
          have T1 := hid (show SW wr w0 g ((p ++ Y.take k') ++ x :: y :: (Y.drop (k' + 1) ++ q)) tl by have := T.out; rw [ed] at this; exact this)
          have T2 := hid (show SW wr w0 g ((p ++ Y.take k' ++ [x]) ++ y :: (Y.drop (k' + 1) ++ q)) tl by have := T1.out; simpa using this)
          obtain ⟨x0, x1⟩ := T1.out.mid u1
          obtain ⟨y0, y1⟩ := T2.out.mid (i := k1) (by rw [List.length_append, ← u1]; exact hk1)
          have R1 := hid (T1.out.drew.exch u1 hk1)
          have R2 := hid (T1.out.drew.exch' u1 hk1)
          have fz := fun i => T1.out.1.frozen i
          have Hk1 := hid hk1
          have Het := hid et
          have Hlt := hid hlt
          clear T T1 T2 hk hk' hk1 hkl u1 hy ed et hlt
          go_upto_region 11 with (fail)
          go_region
          all_goals (go_wp2; go_roundw)
          case rel =>
            refine ⟨k1, k' + 1, by go_num, by have := Hk.out; have := Hk1.out; omega, Hlt.out, ?_⟩
            rw [Het.out, ← List.append_assoc, List.append_assoc (p ++ Y.take k')]
            first
            | exact R1.out
            | exact R2.out
          case measure => have := Hlt.out; have := Hk.out; have := Hr.out; simp [intOf]; omega
        · obtain rfl : k' = i' := by omega
          have d2 : decide (k < r) = false := decide_eq_false (by have := Hr.out; omega)
          clear hk
          go_wp2
          go_end0
          have hs := Hs.out
          refine ⟨rfl, Y.take k' ++ x :: Y.drop k', ?_, ?_, by have := T.out; simpa using this⟩
          · have := (Bub.one x (Y.take k') (fun y hy => by obtain ⟨t, ht, rfl⟩ := mem_take_getD Htop.out hy; exact hs.no t ht)).ctx [] (Y.drop k')
            simpa using this
          · refine List.pairwise_append.2 ⟨Hy.out.sublist (List.take_sublist _ _), List.pairwise_cons.2 ⟨fun z hz => by obtain ⟨t, h1, h2, rfl⟩ := mem_drop_getD hz; exact hs.yes t h1 h2, Hy.out.sublist (List.drop_sublist _ _)⟩, fun s hs1 z hz => ?_⟩
            have hsx : LeR s x := by obtain ⟨t, ht, rfl⟩ := mem_take_getD Htop.out hs1; exact LeR_of_not (hs.no t ht)
            rcases List.mem_cons.1 hz with rfl | hz
            · exact hsx
            · obtain ⟨t, h1, h2, rfl⟩ := mem_drop_getD hz
              exact hsx.tr (hs.yes t h1 h2)
end Go.Proofs.Ytlekobompjehdaa
