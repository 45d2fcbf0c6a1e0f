/-
  inflate: a block.
-/
import Derived.Test.YtegmbjkpjglgpaaInfSyms
import Derived.Test.YtegmbjkpjglgpaaInfDyn
import Derived.Test.YtegmbjkpjglgpaaInfFix
import Derived.Deep.RegionWith
namespace Go.Proofs.Ytegmbjkpjglgpaa
open Go.RowKit

/-- how a block ends -/
def BlkEnd (v : Ev) (r : Except Int (Bool × Sk)) (e : Ending) (w' : World) : Prop :=
  match r with
  | .error k => (∃ b : Bool, e = .returned (.tuple #[.bool b, .iface 40 (.int .i64 k)])) ∧ Below v.B v.W0 w'
  | .ok (last, s2) => e = .returned (.tuple #[.bool last, .nilIface]) ∧ ∃ lp dp bs, St v w' s2 lp dp bs
theorem blkEnd_err {v : Ev} {r : Except Int (Bool × Sk)} {e : Ending} {w' : World} {k : Int} {b : Bool} (h : r = .error k) (he : e = .returned (.tuple #[.bool b, .iface 40 (.int .i64 k)])) (hb : Below v.B v.W0 w') : BlkEnd v r e w' := by rw [h]; exact ⟨⟨b, he⟩, hb⟩
theorem blkEnd_ok {v : Ev} {r : Except Int (Bool × Sk)} {e : Ending} {w' : World} {last : Bool} {s2 : Sk} {lp dp : Value} {bs : List (Nat × BM)} (h : r = .ok (last, s2)) (he : e = .returned (.tuple #[.bool last, .nilIface])) (hb : St v w' s2 lp dp bs) : BlkEnd v r e w' := by rw [h]; exact ⟨he, lp, dp, bs, hb⟩
/-- a part of a block, beside a block of ints more -/
theorem more_err {v : Ev} {x : Nat × Array Value} {lp dp : Value} {bs : List (Nat × BM)} {r : Except Int Sk} {e : Ending} {w' : World} {k : Int} (h : StEnd (v.more x) lp dp bs r e w') (hr : r = .error k) : e = .returned (.iface 40 (.int .i64 k)) ∧ Below v.B v.W0 w' ∧ Blk w' x.1 3 x.2 := by
  rw [hr] at h
  exact ⟨h.1, h.2.1, h.2.2 x (List.mem_cons_self ..)⟩
theorem more_ok {v : Ev} {x : Nat × Array Value} {lp dp : Value} {bs : List (Nat × BM)} {r : Except Int Sk} {e : Ending} {w' : World} {s2 : Sk} (h : StEnd (v.more x) lp dp bs r e w') (hr : r = .ok s2) : e = .returned .nilIface ∧ St v w' s2 lp dp bs ∧ Blk w' x.1 3 x.2 := by
  rw [hr] at h
  exact ⟨h.1, h.2.less.1, h.2.less.2⟩
theorem fixL_lens : lensB fixL = true ∧ lensB fixD = true := by constructor <;> kernel_rfl
set_option maxRecDepth 100000 in
set_option maxHeartbeats 8000000 in
theorem block_any (v : Ev) (s : Sk) (lp dp : Value) (bs : List (Nat × BM)) (W : World) (h : St v W s lp dp bs) :
    Calls Try.prog 89 #[.pointer (some ⟨v.g, 0, none⟩)] W (BlkEnd v (blockM (bitsL v.bl) v.most s)) := by
  have H := hid h
  clear h
  go_enter Try.func89, Try.ntmps89
  go_wp2_with fail
  have Sa := hid (H.out.below (below_alloc1 W (.cells #[.int .i64 1, .int .i64 2] 3)))
  have Ba := hid (Blk.new W 3 #[.int .i64 1, .int .i64 2])
  refine (takes_any v s lp dp bs W.heap.size 2 [1, 2] (by decide) (by decide) _ Sa.out Ba.out).mono ?_
  intro e w2 hT
  clear Sa Ba
  cases ht1 : tkM (bitsL v.bl) s.k 1 with
  | none =>
    have HE := hid (show blockM (bitsL v.bl) v.most s = .error 8 by unfold blockM; rw [ht1])
    have e1 : takesM (bitsL v.bl) [1, 2] s.k [] = none := by unfold takesM; rw [ht1]
    rw [e1] at hT
    obtain ⟨rfl, k1, hS2⟩ := hT
    have S2 := hid hS2
    clear hS2 ht1 e1
    go_wp2_with fail
    go_ret2
    exact blkEnd_err HE.out rfl S2.out.fr
  | some xi =>
    cases ht2 : tkM (bitsL v.bl) (s.k + 1) 2 with
    | none =>
      have HE := hid (show blockM (bitsL v.bl) v.most s = .error 8 by unfold blockM; rw [ht1]; dsimp only; rw [ht2])
      have e1 : takesM (bitsL v.bl) [1, 2] s.k [] = none := by unfold takesM; rw [ht1]; dsimp only; unfold takesM; rw [ht2]
      rw [e1] at hT
      obtain ⟨rfl, k1, hS2⟩ := hT
      have S2 := hid hS2
      clear hS2 ht1 ht2 e1
      go_wp2_with fail
      go_ret2
      exact blkEnd_err HE.out rfl S2.out.fr
    | some yi =>
      have e1 : takesM (bitsL v.bl) [1, 2] s.k [] = some (s.k + 1 + 2, [xi, yi]) := by unfold takesM; rw [ht1]; dsimp only; unfold takesM; rw [ht2]; rfl
      rw [e1] at hT
      obtain ⟨A2, c2, rfl, hown, hS2⟩ := hT
      have ha := tkM_bd (bitsL_bit v.bl) ht1
      have hb := tkM_bd (bitsL_bit v.bl) ht2
      obtain ⟨x, rfl⟩ := Int.eq_ofNat_of_zero_le ha.1
      obtain ⟨y, rfl⟩ := Int.eq_ofNat_of_zero_le hb.1
      have hy4 : y < 4 := by have : (2 : Int) ^ 2 = 4 := by decide
                             omega
      obtain ⟨q, cap, cur, e9, hh9, hc0, hc1⟩ : ∃ g cap cur, Value.slice A2 2 c2 = .slice (some ⟨g, 0, none⟩) 2 cap ∧ Blk w2 g 3 cur ∧ cur[0]? = some (.int .i64 (x : Int)) ∧ cur[1]? = some (.int .i64 (y : Int)) := by
        rcases hown.2 with ⟨_, h0⟩ | ⟨g, cap, cur, h1, h2, h3, h4, _, _, ht⟩
        · cases h0
        · refine ⟨g, cap, cur, h1, h3, ?_, ?_⟩
          · rw [← Array.getElem?_toList]
            have : (cur.toList.take (2 * 1))[0]? = some (.int .i64 (x : Int)) := by
              have := congrArg (fun l : List Value => l[0]?) ht
              exact this
            rw [List.getElem?_take] at this
            simpa using this
          · rw [← Array.getElem?_toList]
            have : (cur.toList.take (2 * 1))[1]? = some (.int .i64 (y : Int)) := by
              have := congrArg (fun l : List Value => l[1]?) ht
              exact this
            rw [List.getElem?_take] at this
            simpa using this
      injection e9 with e9 _ ec
      subst e9 ec
      have z0 : w2.cell? ⟨q, 0, none⟩ = some (.int .i64 (x : Int)) := (hh9.cell 0).trans hc0
      have z1 : w2.cell? ⟨q, 1, none⟩ = some (.int .i64 (y : Int)) := (hh9.cell 1).trans hc1
      have hq := hh9.lt
      have S2 := hid hS2
      have B2 := hid hh9
      have C0 := hid hc0
      have HM := hid (show blockM (bitsL v.bl) v.most s = (match (if (y : Int) = 0 then storedM (bitsL v.bl) v.most ⟨s.k + 3, s.size, s.toks⟩
        else if (y : Int) = 1 then symsAll fixL fixD (bitsL v.bl) v.most ⟨s.k + 3, s.size, s.toks⟩
        else if (y : Int) = 2 then (match dynM (bitsL v.bl) (s.k + 3) with
          | .error e => .error e
          | .ok (k2, l, d) => symsAll l d (bitsL v.bl) v.most ⟨k2, s.size, s.toks⟩)
        else .error 2) with
      | .error e => .error e
      | .ok s2 => .ok (decide ((x : Int) = 1), s2)) by unfold blockM; rw [ht1]; dsimp only; rw [ht2]; rfl)
      have hd : decide ((x : Int) = 1) = (x == 1) := by rw [Bool.eq_iff_iff, decide_eq_true_eq, beq_iff_eq]; omega
      have hd2 : ((x : Int) == 1) = (x == 1) := by rw [Bool.eq_iff_iff, beq_iff_eq, beq_iff_eq]; omega
      obtain ⟨lst, hlst⟩ : ∃ lst, lst = (x == 1) := ⟨_, rfl⟩
      rw [← hlst] at hd hd2
      have hd3 : (x == 1) = lst := hlst.symm
      rw [hd] at HM
      clear hown hS2 hh9 hc0 hc1 ht1 ht2 e1 ha hb hlst hd
      rcases (show y = 0 ∨ y = 1 ∨ y = 2 ∨ y = 3 by omega) with rfl | rfl | rfl | rfl
      · cases hst : storedM (bitsL v.bl) v.most ⟨s.k + 3, s.size, s.toks⟩ with
        | error ke =>
          have HE := hid (show blockM (bitsL v.bl) v.most s = .error ke by rw [HM.out, if_pos (by rfl), hst])
          have Hst := hid hst
          clear hst
          go_wp2_with fail
          go_region_with (go_at_call 116; refine (stored_any (v.more (q, cur)) ⟨s.k + 3, s.size, s.toks⟩ lp dp bs _ ((S2.out.more (x := (q, cur)) B2.out).below (below_drewN (Below.refl _ _) 1))).mono ?_; intro e w3 hP; obtain ⟨rfl, hb3, hq3⟩ := more_err hP Hst.out; have B3 := hid hb3; have z3 := (hq3.cell 0).trans C0.out; have hq3l := hq3.lt; clear hP hb3 hq3)
          all_goals
            go_wp2_with fail
            go_ret2
            exact blkEnd_err HE.out rfl B3.out
        | ok s2 =>
          have HE := hid (show blockM (bitsL v.bl) v.most s = .ok (lst, s2) by rw [HM.out, if_pos (by rfl), hst])
          have Hst := hid hst
          clear hst
          go_wp2_with fail
          go_region_with (go_at_call 116; refine (stored_any (v.more (q, cur)) ⟨s.k + 3, s.size, s.toks⟩ lp dp bs _ ((S2.out.more (x := (q, cur)) B2.out).below (below_drewN (Below.refl _ _) 1))).mono ?_; intro e w3 hP; obtain ⟨rfl, hb3, hq3⟩ := more_ok hP Hst.out; have B3 := hid hb3; have z3 := (hq3.cell 0).trans C0.out; have hq3l := hq3.lt; clear hP hb3 hq3)
          all_goals
            go_wp2_with fail
            go_ret2
            exact blkEnd_ok HE.out rfl B3.out
      · go_wp2_with fail
        refine (fixed_any (v.more (q, cur)) ⟨s.k + 3, s.size, s.toks⟩ lp dp bs _ (S2.out.more (x := (q, cur)) B2.out)).mono ?_
        intro e w3 hB
        obtain ⟨rfl, gl, bL, gd, bD, hBl, hBd, hS3⟩ := bnd_ok hB fixL_lens.1 fixL_lens.2
        have hS3 : St (v.more (q, cur)) w3 ⟨s.k + 3, s.size, s.toks⟩ (.pointer (some ⟨gl, 0, none⟩)) (.pointer (some ⟨gd, 0, none⟩)) [(gl, bL), (gd, bD)] := hS3
        have S3 := hid hS3
        have z3 := (hS3.less.2.cell 0).trans C0.out
        have hq3 := hS3.less.2.lt
        have Bl := hid hBl
        have Bd := hid hBd
        have Ll := hid fixL_lens.1
        have Ld := hid fixL_lens.2
        clear hS3 hBl hBd z0 z1 hq
        cases hst : symsAll fixL fixD (bitsL v.bl) v.most ⟨s.k + 3, s.size, s.toks⟩ with
        | error ke =>
          have HE := hid (show blockM (bitsL v.bl) v.most s = .error ke by rw [HM.out, if_neg (by decide), if_pos (by rfl), hst])
          have Hst := hid hst
          clear hst
          go_wp2_with fail
          go_region_with (go_at_call 119; refine (symbols_any (v.more (q, cur)) ⟨s.k + 3, s.size, s.toks⟩ gl gd bL bD fixL fixD [(gl, bL), (gd, bD)] (by simp) (by simp) Bl.out Bd.out Ll.out Ld.out _ (S3.out.below (below_drewN (Below.refl _ _) 1))).mono ?_; intro e w5 hP; obtain ⟨rfl, hb5, hq5⟩ := more_err hP Hst.out; have B5 := hid hb5; have z5 := (hq5.cell 0).trans C0.out; have hq5l := hq5.lt; clear hP hb5 hq5)
          all_goals
            go_wp2_with fail
            go_ret2
            exact blkEnd_err HE.out rfl B5.out
        | ok s2 =>
          have HE := hid (show blockM (bitsL v.bl) v.most s = .ok (lst, s2) by rw [HM.out, if_neg (by decide), if_pos (by rfl), hst])
          have Hst := hid hst
          clear hst
          go_wp2_with fail
          go_region_with (go_at_call 119; refine (symbols_any (v.more (q, cur)) ⟨s.k + 3, s.size, s.toks⟩ gl gd bL bD fixL fixD [(gl, bL), (gd, bD)] (by simp) (by simp) Bl.out Bd.out Ll.out Ld.out _ (S3.out.below (below_drewN (Below.refl _ _) 1))).mono ?_; intro e w5 hP; obtain ⟨rfl, hb5, hq5⟩ := more_ok hP Hst.out; have B5 := hid hb5; have z5 := (hq5.cell 0).trans C0.out; have hq5l := hq5.lt; clear hP hb5 hq5)
          all_goals
            go_wp2_with fail
            go_ret2
            exact blkEnd_ok HE.out rfl B5.out
      · cases hdy : dynM (bitsL v.bl) (s.k + 3) with
        | error ke =>
          have HE := hid (show blockM (bitsL v.bl) v.most s = .error ke by rw [HM.out, if_neg (by decide), if_neg (by decide), if_pos (by rfl), hdy])
          have Hdy := hid hdy
          clear hdy
          go_wp2_with fail
          refine (dynamic_any v ⟨s.k + 3, s.size, s.toks⟩ lp dp bs _ S2.out).mono ?_
          intro e w3 hP
          rw [Hdy.out] at hP
          obtain ⟨rfl, hb3⟩ := hP
          have B3 := hid hb3
          clear hb3
          go_wp2_with fail
          go_ret2
          exact blkEnd_err HE.out rfl B3.out
        | ok kr =>
          obtain ⟨k2, l, d⟩ := kr
          have Hdy := hid hdy
          clear hdy
          go_wp2_with fail
          refine (dynamic_any (v.more (q, cur)) ⟨s.k + 3, s.size, s.toks⟩ lp dp bs _ (S2.out.more (x := (q, cur)) B2.out)).mono ?_
          intro e w3 hP
          have hP : DynEnd (v.more (q, cur)) ⟨s.k + 3, s.size, s.toks⟩ (dynM (bitsL v.bl) (s.k + 3)) e w3 := hP
          rw [Hdy.out] at hP
          obtain ⟨hll, hdd, rfl, gl, bL, gd, bD, hBl, hBd, hS3⟩ := hP
          have hS3 : St (v.more (q, cur)) w3 ⟨k2, s.size, s.toks⟩ (.pointer (some ⟨gl, 0, none⟩)) (.pointer (some ⟨gd, 0, none⟩)) [(gl, bL), (gd, bD)] := hS3
          have S3 := hid hS3
          have z3 := (hS3.less.2.cell 0).trans C0.out
          have hq3 := hS3.less.2.lt
          have Bl := hid hBl
          have Bd := hid hBd
          have Ll := hid hll
          have Ld := hid hdd
          clear hS3 hBl hBd z0 z1 hq
          cases hst : symsAll l d (bitsL v.bl) v.most ⟨k2, s.size, s.toks⟩ with
          | error ke =>
            have HE := hid (show blockM (bitsL v.bl) v.most s = .error ke by rw [HM.out, if_neg (by decide), if_neg (by decide), if_pos (by rfl), Hdy.out]; dsimp only; rw [hst])
            have Hst := hid hst
            clear hst
            go_wp2_with fail
            go_region_with (go_at_call 119; refine (symbols_any (v.more (q, cur)) ⟨k2, s.size, s.toks⟩ gl gd bL bD l d [(gl, bL), (gd, bD)] (by simp) (by simp) Bl.out Bd.out Ll.out Ld.out _ (S3.out.below (below_drewN (Below.refl _ _) 1))).mono ?_; intro e w5 hP; obtain ⟨rfl, hb5, hq5⟩ := more_err hP Hst.out; have B5 := hid hb5; have z5 := (hq5.cell 0).trans C0.out; have hq5l := hq5.lt; clear hP hb5 hq5)
            all_goals
              go_wp2_with fail
              go_ret2
              exact blkEnd_err HE.out rfl B5.out
          | ok s2 =>
            have HE := hid (show blockM (bitsL v.bl) v.most s = .ok (lst, s2) by rw [HM.out, if_neg (by decide), if_neg (by decide), if_pos (by rfl), Hdy.out]; dsimp only; rw [hst])
            have Hst := hid hst
            clear hst
            go_wp2_with fail
            go_region_with (go_at_call 119; refine (symbols_any (v.more (q, cur)) ⟨k2, s.size, s.toks⟩ gl gd bL bD l d [(gl, bL), (gd, bD)] (by simp) (by simp) Bl.out Bd.out Ll.out Ld.out _ (S3.out.below (below_drewN (Below.refl _ _) 1))).mono ?_; intro e w5 hP; obtain ⟨rfl, hb5, hq5⟩ := more_ok hP Hst.out; have B5 := hid hb5; have z5 := (hq5.cell 0).trans C0.out; have hq5l := hq5.lt; clear hP hb5 hq5)
            all_goals
              go_wp2_with fail
              go_ret2
              exact blkEnd_ok HE.out rfl B5.out
      · have HE := hid (show blockM (bitsL v.bl) v.most s = .error 2 by rw [HM.out, if_neg (by decide), if_neg (by decide), if_neg (by decide)])
        go_wp2_with fail
        go_ret2
        exact blkEnd_err HE.out rfl S2.out.fr
end Go.Proofs.Ytegmbjkpjglgpaa
