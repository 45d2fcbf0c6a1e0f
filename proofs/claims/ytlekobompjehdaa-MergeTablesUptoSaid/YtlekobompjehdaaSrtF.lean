/-
  slices.symMergeCmpFunc over items: the second stretch holds one item.
-/
import Derived.Test.YtlekobompjehdaaSrtE
namespace Go.Proofs.Ytlekobompjehdaa
open Go.RowKit Mg

set_option maxRecDepth 100000 in
set_option maxHeartbeats 8000000 in
theorem symB_any (g cap N a m b : Nat) (p X q : List IR) (y : IR) (tl : List Value) (w0 W : World) (h : SW W w0 g (p ++ (X ++ y :: q)) tl) (ha : a = p.length) (hm : m = a + X.length) (hb : b = m + 1) (hN : N = p.length + X.length + 1 + q.length) (hN2 : N ≤ 1000000) (hx : X.Pairwise LeR) (hx2 : X.length ≠ 1) :
    Calls Try.prog 138 #[.slice (some ⟨g, 0, none⟩) N cap, .int .i64 (a : Nat), .int .i64 (m : Nat), .int .i64 (b : Nat), .func (.func 79) #[] #[]] W (SEnd p (X ++ [y]) q tl w0 g) := by
  have H := hid h
  have Ha := hid ha
  have Hm := hid hm
  have Hb := hid hb
  have HN := hid hN
  have Hx := hid hx
  obtain ⟨xn, hxn⟩ : ∃ xn, xn = X.length := ⟨_, rfl⟩
  have s1 : IntKind.i64.wrap ((m : Int) - (a : Int)) = (xn : Int) := (IntWalk.i64_in _ (by omega)).trans (by omega)
  have s2 : IntKind.i64.wrap ((b : Int) - (m : Int)) = 1 := (IntWalk.i64_in _ (by omega)).trans (by omega)
  have s3 : ((xn : Int) == 1) = false := by rw [beq_eq_false_iff_ne]; omega
  have Hmono := hid (show ∀ s t, s ≤ t → t < X.length → ¬ LeR (X.getD s default) y → ¬ LeR (X.getD t default) y from fun s t h1 h2 h3 h4 => h3 ((sorted_getD hx h1 h2).tr h4))
  clear h ha hm hb hN hx hxn
  go_enter Try.func138, Try.ntmps138
  go_upto_region 15 with (fail)
  go_loopw [14, 15] (fun iv jv wr => ∃ (i j i' j' : Nat), iv = .int .i64 i ∧ jv = .int .i64 j ∧ i = a + i' ∧ j = a + j' ∧ Srch (fun t => ¬ LeR (X.getD t default) y) X.length i' j' ∧ SW wr w0 g (p ++ (X ++ y :: q)) tl) (fun iv jv _ => (intOf jv).toNat - (intOf iv).toNat)
  case atStart => exact ⟨a, m, 0, X.length, rfl, rfl, rfl, Hm.out, .start _ _, H.out⟩
  case round =>
    obtain ⟨i, j, i', j', rfl, rfl, hi, hj, hs, hsw⟩ := hrel
    have S := hid hsw
    have Hs := hid hs
    have hle := hs.le
    have htop := hs.top
    clear hsw hs
    by_cases hlt : i' < j'
    · have d1 : decide (i < j) = true := decide_eq_true (by omega)
      obtain ⟨h, hh⟩ : ∃ h, h = (i + j) / 2 := ⟨_, rfl⟩
      obtain ⟨h', hh'⟩ : ∃ h', h' = (i' + j') / 2 := ⟨_, rfl⟩
      have e1 : h = a + h' := by omega
      have hhl : h' < X.length := by omega
      have hb1 : i + j ≤ 4000000 := by have := HN.out; have := Ha.out; have := Hm.out; omega
      have t1 : IntKind.i64.wrap ((i : Int) + (j : Int)) = (i : Int) + (j : Int) := IntWalk.i64_in _ (by omega)
      have t2 : IntKind.i64.wrap ((h : Int) + 1) = ((h + 1 : Nat) : Int) := (IntWalk.i64_in _ (by omega)).trans (by omega)
      have th : (h : Int) < (N : Int) := by have := HN.out; have := Ha.out; have := Hm.out; omega
      have ta : (m : Int) < (N : Int) := by have := HN.out; have := Ha.out; have := Hm.out; omega
      have eh : ((i : Int) + (j : Int)) / 2 = (h : Int) := by omega
      have He1 := hid e1
      have Hhl := hid hhl
      have Hi := hid hi
      have Hj := hid hj
      have Hhh := hid (show i' ≤ h' ∧ h' < j' by omega)
      have S0 := hid (show SW wr w0 g ((p ++ X) ++ y :: q) tl by have := S.out; simpa using this)
      obtain ⟨x0, x1⟩ := S0.out.mid (i := m) (by have := Ha.out; have := Hm.out; simp; omega)
      obtain ⟨x, hx⟩ : ∃ x, X.getD h' default = x := ⟨_, rfl⟩
      have S1 := hid (show SW wr w0 g ((p ++ X.take h') ++ x :: (X.drop (h' + 1) ++ y :: q)) tl by
        have := S.out
        rw [split_getD X hhl, hx] at this
        simpa using this)
      obtain ⟨y0, y1⟩ := S1.out.mid (i := h) (by have := Ha.out; have := Hm.out; simp; omega)
      have HX := hid hx
      clear hh hh' e1 hhl hi hj hx hle htop S1 S0
      go_upto_region 17 with (fail)
      have k0 := cell_regrown x0
      have k1 := cell_regrown x1
      have m0 := cell_regrown y0
      have m1 := cell_regrown y1
      have cS : ∀ d' os, Calls Try.prog 79 #[.agg #[.int .i64 y.it.w, .slice y.A y.it.s.length y.c], .agg #[.int .i64 x.it.w, .slice x.A x.it.s.length x.c]] (Sort.grow (redrawn wr d') os) fun e w'' => e = .returned (.int .i64 (cfR y x)) ∧ ∃ p : Regrown, w'' = Sort.grow (redrawn wr p.d) p.os := fun d' os => Calls.regrown_of (byWeight_any y x _)
      refine wp_region_quiet_below (by kernel_rfl) (by kernel_rfl) ?_
      repeat (go_big_quiet_step (with_reducible exact cS _ _))
      refine wpQuiet_nil ?_
      intro w5 hw5
      obtain ⟨⟨dq, osq⟩, hw5⟩ := hw5
      have hb5 : Below wr.heap.size wr w5 := by rw [hw5]; exact below_regrown wr dq osq
      clear hw5 k0 k1 m0 m1 cS x0 x1 y0 y1
      have S5 := hid (S.out.below hb5)
      clear hb5 S eh
      by_cases hc : cfR y x < 0
      · rw [show decide (cfR y x < 0) = true from decide_eq_true hc]
        have Hc := hid ((cfR_lt y x).1 hc)
        clear hc
        go_wp2
        go_roundw
        case rel => exact ⟨i, h, i', h', rfl, rfl, Hi.out, He1.out, Hs.out.down Hmono.out Hhh.out.1 Hhh.out.2 (by show ¬ LeR (X.getD h' default) y; rw [HX.out]; exact Hc.out), S5.out⟩
        case measure => have := Hhh.out; have := Hi.out; have := Hj.out; have := He1.out; simp [intOf]; omega
      · rw [show decide (cfR y x < 0) = false from decide_eq_false hc]
        have Hc := hid (show LeR x y from Classical.byContradiction fun h => hc ((cfR_lt y x).2 h))
        clear hc
        go_wp2
        go_roundw
        case rel => exact ⟨h + 1, j, h' + 1, j', by go_num, rfl, by have := He1.out; omega, Hj.out, Hs.out.up Hmono.out Hhh.out.2 (by show ¬ ¬ LeR (X.getD h' default) y; rw [HX.out]; exact fun h => h Hc.out), S5.out⟩
        case measure => have := Hhh.out; have := Hi.out; have := Hj.out; have := He1.out; simp [intOf]; omega
    · obtain rfl : i' = j' := by omega
      have d1 : decide (i < j) = false := decide_eq_false (by omega)
      have Hi := hid hi
      have Htop := hid htop
      have him : i ≤ 1000000 := by have := HN.out; have := Ha.out; omega
      clear hi hj hle htop
      go_upto_region 21 with (fail)
      go_loopw [17] (fun kv wi => ∃ (k k' : Nat), kv = .int .i64 k ∧ k = a + k' ∧ i' ≤ k' ∧ k' ≤ X.length ∧ SW wi w0 g ((p ++ X.take k') ++ y :: (X.drop k' ++ q)) tl) (fun kv _ => (intOf kv).toNat)
      case atStart => exact ⟨m, X.length, rfl, Hm.out, Htop.out, Nat.le_refl _, by have := S.out; simpa using this⟩
      case round =>
        obtain ⟨k, k', rfl, hk, hk', hkt, hsw⟩ := hrel
        have T := hid hsw
        have Hk := hid hk
        clear hsw
        by_cases hlt : i' < k'
        · have d2 : decide (i < k) = true := decide_eq_true (by have := Hi.out; omega)
          obtain ⟨k2, hk2⟩ : ∃ k2, k' = k2 + 1 := ⟨k' - 1, by omega⟩
          subst hk2
          obtain ⟨k1, hk1⟩ : ∃ k1, k1 = a + k2 := ⟨_, rfl⟩
          have hkb : k ≤ 1000000 := by have := HN.out; have := Ha.out; omega
          have t4 : IntKind.i64.wrap ((k : Int) - 1) = (k1 : Int) := (IntWalk.i64_in _ (by omega)).trans (by omega)
          have jl : k1 < k := by omega
          have tk : (k : Int) < (N : Int) := by have := HN.out; have := Ha.out; omega
          have tk1 : (k1 : Int) < (N : Int) := by omega
          have hkl : k2 < X.length := by omega
          have u1 : k1 = (p ++ X.take k2).length := by have := Ha.out; simp; omega
          have hk3 : k = k1 + 1 := by omega
          obtain ⟨x, hx⟩ : ∃ x, X.getD k2 default = x := ⟨_, rfl⟩
          have ed : X.drop k2 = x :: X.drop (k2 + 1) := by
            have := List.drop_eq_getElem_cons hkl
            rwa [show X[k2] = x by rw [← hx, List.getD_eq_getElem?_getD, List.getElem?_eq_getElem hkl]; rfl] at this
          have et : X.take (k2 + 1) = X.take k2 ++ [x] := by
            rw [List.take_succ_eq_append_getElem hkl, show X[k2] = x by rw [← hx, List.getD_eq_getElem?_getD, List.getElem?_eq_getElem hkl]; rfl]
          have T1 := hid (show SW wr w0 g ((p ++ X.take k2) ++ x :: y :: (X.drop (k2 + 1) ++ q)) tl by have := T.out; rw [et] at this; simpa using this)
          have T2 := hid (show SW wr w0 g ((p ++ X.take k2 ++ [x]) ++ y :: (X.drop (k2 + 1) ++ q)) tl by have := T1.out; simpa using this)
          obtain ⟨x0, x1⟩ := T1.out.mid u1
          obtain ⟨y0, y1⟩ := T2.out.mid (i := k) (by rw [List.length_append, ← u1]; exact hk3)
          have R1 := hid (T1.out.drew.exch u1 hk3)
          have R2 := hid (T1.out.drew.exch' u1 hk3)
          have fz := fun i => T1.out.1.frozen i
          have Hk1 := hid hk1
          have Hed := hid ed
          have Hlt := hid hlt
          have Hkt := hid hkt
          clear T T1 T2 hk hk' hk1 hkl u1 hx ed et hlt hkt hk3
          go_upto_region 23 with (fail)
          go_region
          all_goals (go_wp2; go_roundw)
          case rel =>
            refine ⟨k1, k2, by go_num, Hk1.out, by have := Hlt.out; omega, by have := Hkt.out; omega, ?_⟩
            rw [Hed.out]
            first
            | exact R1.out
            | exact R2.out
          case measure => have := Hk.out; have := Hk1.out; simp [intOf]; omega
        · obtain rfl : i' = k' := by omega
          have d2 : decide (i < k) = false := decide_eq_false (by have := Hi.out; omega)
          clear hk
          go_wp2
          go_end0
          have hs := Hs.out
          refine ⟨rfl, X.take i' ++ y :: X.drop i', ?_, ?_, by have := T.out; simpa using this⟩
          · have := (Bub.turn (X.drop i') [y] (fun x hx z hz => by rw [List.mem_singleton.1 hz]; obtain ⟨t, h1, h2, rfl⟩ := mem_drop_getD hx; exact hs.yes t h1 h2)).ctx (X.take i') []
            rw [List.append_nil, ← List.append_assoc, List.take_append_drop] at this
            simpa using this
          · have hle : ∀ s ∈ X.take i', LeR s y := fun s hs1 => by obtain ⟨t, ht, rfl⟩ := mem_take_getD Htop.out hs1; exact Classical.not_not.1 (hs.no t ht)
            have hgt : ∀ s ∈ X.drop i', LeR y s := fun s hs1 => by obtain ⟨t, h1, h2, rfl⟩ := mem_drop_getD hs1; exact LeR_of_not (hs.yes t h1 h2)
            refine List.pairwise_append.2 ⟨Hx.out.sublist (List.take_sublist _ _), List.pairwise_cons.2 ⟨hgt, Hx.out.sublist (List.drop_sublist _ _)⟩, fun s hs1 z hz => ?_⟩
            rcases List.mem_cons.1 hz with rfl | hz
            · exact hle s hs1
            · exact (hle s hs1).tr (hgt z hz)
end Go.Proofs.Ytlekobompjehdaa
