/-
  slices.insertionSortCmpFunc over items.
-/
import Derived.Test.YtlekobompjehdaaSrtC
import Derived.Lib.QuietBelow
import Derived.BigQuiet
import Derived.BigRegion
namespace Go.Proofs.Ytlekobompjehdaa
open Go.RowKit Mg

/-- a stretch of the row comes to order -/
def SEnd (p X q : List IR) (tl : List Value) (w0 : World) (g : Nat) (e : Ending) (w' : World) : Prop := e = .returned (.tuple #[]) ∧ ∃ X', Bub X X' ∧ X'.Pairwise LeR ∧ SW w' w0 g (p ++ X' ++ q) tl
def byW : Value := .func (.func 79) #[] #[]
section
variable {w w0 : World} {g : Nat} {tl : List Value} {u v : List IR} {x y : IR} {i j : Nat}
theorem SW.mid (h : SW w w0 g (u ++ x :: v) tl) (hi : i = u.length) : w.cell? ⟨g, i * 2, none⟩ = some (.int .i64 x.it.w) ∧ w.cell? ⟨g, i * 2 + 1, none⟩ = some (.slice x.A x.it.s.length x.c) := by
  have e := h.at_ (i := i) (by simp; omega)
  have ex : (u ++ x :: v)[i]'(by simp; omega) = x := by simp [hi]
  rwa [ex] at e
theorem SW.exch (h : SW w w0 g (u ++ y :: x :: v) tl) (hi : i = u.length) (hj : j = i + 1) : SW ((((w.setCell ⟨g, j * 2, none⟩ (.int .i64 y.it.w)).setCell ⟨g, j * 2 + 1, none⟩ (.slice y.A y.it.s.length y.c)).setCell ⟨g, i * 2, none⟩ (.int .i64 x.it.w)).setCell ⟨g, i * 2 + 1, none⟩ (.slice x.A x.it.s.length x.c)) w0 g (u ++ x :: y :: v) tl := by
  have h1 := (h.put (i := j) (by simp; omega) y).put (i := i) (by simp; omega) x
  have e : ((u ++ y :: x :: v).set j y).set i x = u ++ x :: y :: v := by
    rw [List.set_append_right _ _ (by omega), show j - u.length = 1 by omega, List.set_append_right _ _ (by omega), show i - u.length = 0 by omega]
    rfl
  rwa [e] at h1
theorem SW.exch' (h : SW w w0 g (u ++ y :: x :: v) tl) (hi : i = u.length) (hj : j = i + 1) : SW ((((w.setCell ⟨g, i * 2, none⟩ (.int .i64 x.it.w)).setCell ⟨g, i * 2 + 1, none⟩ (.slice x.A x.it.s.length x.c)).setCell ⟨g, j * 2, none⟩ (.int .i64 y.it.w)).setCell ⟨g, j * 2 + 1, none⟩ (.slice y.A y.it.s.length y.c)) w0 g (u ++ x :: y :: v) tl := by
  have h1 := (h.put (i := i) (by simp; omega) x).put (i := j) (by simp; omega) y
  have e : ((u ++ y :: x :: v).set i x).set j y = u ++ x :: y :: v := by
    rw [List.set_append_right _ _ (by omega), show i - u.length = 0 by omega, List.set_append_right _ _ (by omega), show j - u.length = 1 by omega]
    rfl
  rwa [e] at h1
end
theorem SW.drewN {w w0 : World} {g : Nat} {l : List IR} {tl : List Value} (h : SW w w0 g l tl) (n : Nat) : SW (w.drewN n) w0 g l tl := ⟨h.1.drewN n, ⟨h.2.os, h.2.tape, h.2.output, h.2.size, h.2.block⟩⟩
theorem ins_sorted {S1 S2 : List IR} {x : IR} (h : (S1 ++ S2).Pairwise LeR) (h1 : ∀ s ∈ S1, LeR s x) (h2 : ∀ s ∈ S2, ¬ LeR s x) : (S1 ++ x :: S2).Pairwise LeR := by
  obtain ⟨a, b, c⟩ := List.pairwise_append.1 h
  refine List.pairwise_append.2 ⟨a, List.pairwise_cons.2 ⟨fun s hs => (LeR.tot x s).resolve_right (h2 s hs), b⟩, fun s hs t ht => ?_⟩
  rcases List.mem_cons.1 ht with rfl | ht
  · exact h1 s hs
  · exact c s hs t ht
theorem ins_bub {X S S1 S2 : List IR} {x : IR} {k : Nat} (hx : X[k]? = some x) (hb : Bub (X.take k) S) (e : S1 ++ S2 = S) (h2 : ∀ s ∈ S2, ¬ LeR s x) : Bub (X.take (k + 1)) (S1 ++ x :: S2) := by
  rw [List.take_add_one, hx]
  have h1 := hb.ctx [] [x]
  have h3 := (Bub.turn S2 [x] (fun s hs z hz => by rw [List.mem_singleton.1 hz]; exact h2 s hs)).ctx S1 []
  subst e
  simp only [List.nil_append, List.append_assoc, List.append_nil, List.cons_append] at h1 h3 ⊢
  exact h1.tr h3
set_option maxRecDepth 100000 in
set_option maxHeartbeats 8000000 in
theorem insertion_any (g cap N a b : Nat) (p X q : List IR) (tl : List Value) (w0 W : World) (h : SW W w0 g (p ++ X ++ q) tl) (ha : a = p.length) (hb : b = a + X.length) (hN : N = (p ++ X ++ q).length) (hm : N ≤ 1000000) :
    Calls Try.prog 137 #[.slice (some ⟨g, 0, none⟩) N cap, .int .i64 (a : Nat), .int .i64 (b : Nat), .func (.func 79) #[] #[]] W (SEnd p X q tl w0 g) := by
  have H := hid h
  have Ha := hid ha
  have Hb := hid hb
  simp only [List.length_append] at hN
  obtain ⟨i1, hi1⟩ : ∃ i1, i1 = a + 1 := ⟨_, rfl⟩
  have s0 : IntKind.i64.wrap ((a : Int) + 1) = (i1 : Int) := (IntWalk.i64_in _ (by omega)).trans (by omega)
  have Hi1 := hid hi1
  have HN := hid hN
  clear h ha hb hi1 hN
  go_enter Try.func137, Try.ntmps137
  go_upto_region 1 with (fail)
  go_loopw [8] (fun iv wr => ∃ (ik k : Nat) (S : List IR), iv = .int .i64 ik ∧ ik = a + k ∧ 1 ≤ k ∧ (k ≤ X.length ∨ k = 1) ∧ Bub (X.take k) S ∧ S.Pairwise LeR ∧ SW wr w0 g (p ++ S ++ X.drop k ++ q) tl) (fun iv _ => b + 1 - (intOf iv).toNat)
  case atStart =>
    refine ⟨i1, 1, X.take 1, rfl, Hi1.out, Nat.le_refl _, .inr rfl, .refl _, ?_, ?_⟩
    · cases X with
      | nil => exact .nil
      | cons x t => exact List.pairwise_singleton _ _
    · rw [List.append_assoc p, List.take_append_drop]
      exact H.out
  case round =>
    obtain ⟨ik, k, S, rfl, hik, hk1, hk2, hbub, hso, hs⟩ := hrel
    have Hik := hid hik
    have Hbub := hid hbub
    have Hso := hid hso
    have Hk1 := hid hk1
    have Hk2 := hid hk2
    have HS := hid hs
    have hb' := Hb.out
    clear hs hbub hso
    by_cases hlt : k < X.length
    · have d1 : decide (ik < b) = true := decide_eq_true (by omega)
      have hlen : S.length = k := by rw [Hbub.out.len, List.length_take]; omega
      have hdrop := List.drop_eq_getElem_cons hlt
      obtain ⟨x, hx⟩ : ∃ x, X[k] = x := ⟨_, rfl⟩
      rw [hx] at hdrop
      have Hx : Hid (X[k]? = some x) := hid (by rw [List.getElem?_eq_getElem hlt, hx])
      have S0 := hid (show SW wr w0 g (p ++ S ++ x :: ([] ++ X.drop (k + 1) ++ q)) tl by
        have := HS.out
        rw [hdrop] at this
        simpa using this)
      have Hlt := hid hlt
      have Hlen := hid hlen
      have iks : IntKind.i64.wrap ((ik : Int) + 1) = ((ik + 1 : Nat) : Int) := (IntWalk.i64_in _ (by have := HN.out; have := Ha.out; omega)).trans (by omega)
      clear hx hdrop hlen hlt hik hk1 hk2 hb'
      go_upto_region 4 with (fail)
      go_loopw [9] (fun jv wi => ∃ (j : Nat) (S1 S2 : List IR), jv = .int .i64 j ∧ j = a + S1.length ∧ S1 ++ S2 = S ∧ (∀ s ∈ S2, ¬ LeR s x) ∧ SW wi w0 g (p ++ S1 ++ x :: (S2 ++ X.drop (k + 1) ++ q)) tl) (fun jv _ => (intOf jv).toNat)
      case atStart => exact ⟨ik, S, [], rfl, by rw [Hlen.out]; exact Hik.out, by simp, by simp, S0.out⟩
      case round =>
        obtain ⟨j, S1, S2, rfl, hj, he, h2, hs⟩ := hrel
        have Hj := hid hj
        have He := hid he
        have H2 := hid h2
        have T := hid hs
        have hjb : j ≤ 1000000 := by
          have := HN.out
          have := congrArg List.length he
          rw [List.length_append, Hlen.out] at this
          have := Hlt.out
          have := Ha.out
          omega
        clear hs he h2
        rcases List.eq_nil_or_concat S1 with rfl | ⟨S1', y, rfl⟩
        · have d2 : decide (a < j) = false := decide_eq_false (by simp at hj; omega)
          clear hj
          go_upto_region 4 with (fail)
          go_quiet (fail)
          go_wp2
          go_roundw
          case rel =>
            refine ⟨ik + 1, k + 1, [] ++ x :: S2, by go_num, by have := Hik.out; omega, by omega, .inl Hlt.out, ?_, ?_, ?_⟩
            · exact ins_bub Hx.out Hbub.out He.out H2.out
            · exact ins_sorted (by rw [He.out]; exact Hso.out) (fun _ h => by cases h) H2.out
            · have := T.out
              refine SW.drewN ?_ _
              simpa using this
          case measure => have := Hik.out; have := Hlt.out; have := Hb.out; simp [intOf]; omega
        · obtain ⟨j1, hj1⟩ : ∃ j1, j1 = a + S1'.length := ⟨_, rfl⟩
          have hjj : j = j1 + 1 := by simp at hj; omega
          have d2 : decide (a < j) = true := decide_eq_true (by omega)
          have sj : IntKind.i64.wrap ((j : Int) - 1) = (j1 : Int) := (IntWalk.i64_in _ (by omega)).trans (by omega)
          have tj : (j : Int) < (N : Int) := by
            have := HN.out
            have h := congrArg List.length He.out
            rw [List.length_append, List.concat_eq_append, List.length_append, Hlen.out, List.length_singleton] at h
            have := Hlt.out
            have := Ha.out
            omega
          have tj1 : (j1 : Int) < (N : Int) := by omega
          have Hj1 := hid hj1
          have Hjj := hid hjj
          have T2 := hid (show SW wr w0 g ((p ++ S1') ++ y :: x :: (S2 ++ X.drop (k + 1) ++ q)) tl by have := T.out; rw [List.concat_eq_append] at this; simpa using this)
          have T3 := hid (show SW wr w0 g ((p ++ S1' ++ [y]) ++ x :: (S2 ++ X.drop (k + 1) ++ q)) tl by have := T2.out; simpa using this)
          have u1 : j1 = (p ++ S1').length := by rw [List.length_append, ← Ha.out]; exact hj1
          have u2 : j = (p ++ S1' ++ [y]).length := by rw [List.length_append, ← u1]; exact hjj
          obtain ⟨y0, y1⟩ := T2.out.mid u1
          obtain ⟨x0, x1⟩ := T3.out.mid u2
          have U1 := hid u1
          clear hj hjj hj1 u1 u2
          have k0 := cell_regrown x0
          have k1 := cell_regrown x1
          have m0 := cell_regrown y0
          have m1 := cell_regrown y1
          have cS : ∀ d' os, Calls Try.prog 79 #[.agg #[.int .i64 x.it.w, .slice x.A x.it.s.length x.c], .agg #[.int .i64 y.it.w, .slice y.A y.it.s.length y.c]] (Sort.grow (redrawn wr d') os) fun e w'' => e = .returned (.int .i64 (cfR x y)) ∧ ∃ p : Regrown, w'' = Sort.grow (redrawn wr p.d) p.os := fun d' os => Calls.regrown_of (byWeight_any x y _)
          go_upto_region 4 with (fail)
          refine wp_region_quiet_below (by kernel_rfl) (by kernel_rfl) ?_
          repeat (go_big_quiet_step (with_reducible exact cS _ _))
          refine wpQuiet_nil ?_
          intro w5 hw5
          obtain ⟨⟨dq, osq⟩, hw5⟩ := hw5
          have hb5 : Below wr.heap.size wr w5 := by rw [hw5]; exact below_regrown wr dq osq
          have V2 := hid (T2.out.below hb5)
          have V3 := hid (T3.out.below hb5)
          clear hw5 hb5 k0 k1 m0 m1 cS x0 x1 y0 y1
          by_cases hc : cfR x y < 0
          · rw [show decide (cfR x y < 0) = true from decide_eq_true hc]
            have Hc := hid ((cfR_lt x y).1 hc)
            clear hc
            go_wp2_with fail
            clear V3
            obtain ⟨y0, y1⟩ := V2.out.mid U1.out
            have V4 := hid (show SW w5 w0 g ((p ++ S1' ++ [y]) ++ x :: (S2 ++ X.drop (k + 1) ++ q)) tl by have := V2.out; simpa using this)
            obtain ⟨x0, x1⟩ := V4.out.mid (i := j) (by rw [List.length_append, ← U1.out]; exact Hjj.out)
            have R1 := hid (V2.out.drew.exch U1.out Hjj.out)
            have R2 := hid (V2.out.drew.exch' U1.out Hjj.out)
            have fz := fun i => V2.out.1.frozen i
            have jl : j1 < j := by have := Hjj.out; omega
            clear V4 V2
            go_region
            all_goals (go_wp2; go_roundw)
            case rel =>
              refine ⟨j1, S1', y :: S2, by go_num, Hj1.out, by rw [← He.out, List.concat_eq_append]; simp, ?_, ?_⟩
              · intro s hs
                rcases List.mem_cons.1 hs with rfl | hs
                · exact Hc.out
                · exact H2.out s hs
              · first
                | exact R1.out
                | exact R2.out
            case measure => have := Hjj.out; simp [intOf]; omega
          · rw [show decide (cfR x y < 0) = false from decide_eq_false hc]
            have Hc := hid (show LeR y x from Classical.byContradiction fun h => hc ((cfR_lt x y).2 h))
            clear hc
            go_wp2
            go_roundw
            case rel =>
              refine ⟨ik + 1, k + 1, S1'.concat y ++ x :: S2, by go_num, by have := Hik.out; omega, by omega, .inl Hlt.out, ?_, ?_, ?_⟩
              · exact ins_bub Hx.out Hbub.out He.out H2.out
              · refine ins_sorted (by rw [He.out]; exact Hso.out) (fun s hs => ?_) H2.out
                have := Hso.out
                rw [← He.out, List.concat_eq_append] at this
                rw [List.concat_eq_append] at hs
                rcases List.mem_append.1 hs with hs | hs
                · exact ((List.pairwise_append.1 (List.pairwise_append.1 this).1).2.2 s hs y (by simp)).tr Hc.out
                · rw [List.mem_singleton.1 hs]; exact Hc.out
              · have := V2.out
                rw [List.concat_eq_append]
                simpa using this
            case measure => have := Hik.out; have := Hlt.out; have := Hb.out; simp [intOf]; omega
    · have d1 : decide (ik < b) = false := decide_eq_false (by omega)
      have hX : X.take k = X ∧ X.drop k = [] := ⟨List.take_of_length_le (by omega), List.drop_of_length_le (by omega)⟩
      go_wp2
      go_end0
      refine ⟨rfl, S, ?_, Hso.out, ?_⟩
      · have := Hbub.out; rwa [hX.1] at this
      · have := HS.out; rwa [hX.2, List.append_nil] at this
end Go.Proofs.Ytlekobompjehdaa
