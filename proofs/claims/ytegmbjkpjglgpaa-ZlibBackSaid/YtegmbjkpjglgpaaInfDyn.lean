/-
  inflate: the books of kind 2.
-/
import Derived.Test.YtegmbjkpjglgpaaInfSc
import Derived.Test.YtegmbjkpjglgpaaInfRow
namespace Go.Proofs.Ytegmbjkpjglgpaa
open Go.RowKit

/-- how the books' reading ends -/
def DynEnd (v : Ev) (s : Sk) (r : Except Int (Nat × List Int × List Int)) (e : Ending) (w' : World) : Prop :=
  match r with
  | .error k => e = .returned (.iface 40 (.int .i64 k)) ∧ Below v.B v.W0 w'
  | .ok (k1, l, d) => lensB l = true ∧ lensB d = true ∧ e = .returned .nilIface ∧ ∃ gl bL gd bD, BookOf l bL ∧ BookOf d bD ∧ St v w' ⟨k1, s.size, s.toks⟩ (.pointer (some ⟨gl, 0, none⟩)) (.pointer (some ⟨gd, 0, none⟩)) [(gl, bL), (gd, bD)]
theorem dynEnd_err {v : Ev} {s : Sk} {r : Except Int (Nat × List Int × List Int)} {e : Ending} {w' : World} {k : Int} (h : r = .error k) (he : e = .returned (.iface 40 (.int .i64 k))) (hb : Below v.B v.W0 w') : DynEnd v s r e w' := by rw [h]; exact ⟨he, hb⟩
theorem orderW (W : World) : Calls Try.prog 135 #[] W fun e w' => ∃ g, e = .returned (.slice (some ⟨g, 0, none⟩) 19 19) ∧ Blk w' g 3 (intsV (natsV ordT)).toArray ∧ W.heap.size ≤ g ∧ Below W.heap.size W w' := by
  go_enter Try.func135, Try.ntmps135
  go_wp2_with fail
  go_ret
  exact ⟨_, rfl, Blk.new _ _ _, Nat.le_refl _, below_alloc1 _ _⟩
def sm19 : List Int := List.replicate 19 0
theorem mk19 (w : World) : (Instr.makeSlice 53 (.int .i64 19) (.int .i64 19)).run Try.prog w = .ok (.slice (some ⟨w.heap.size, 0, none⟩) 19 19) (w.alloc (.cells (intsV sm19).toArray 3)) := by
  obtain ⟨i0, hi0, hz0, hz1, hz2⟩ := info_parts int_info
  have h := run_make (P := Try.prog) w 53 3 i0 (.int .i64 0) Try.underlying53 hi0 hz0 .i64 .i64 19 19 (by omega) (by omega) (by rw [hz2]; omega) (by omega)
  rw [hz1, show Int.toNat 19 = 19 from rfl, made_list _ _ rfl] at h
  have e : intsV sm19 = List.replicate 19 (Value.int .i64 0) := by simp [sm19, intsV]
  rw [e]
  exact h
theorem ordT_len : ordT.length = 19 ∧ ∀ x ∈ ordT, x < 19 := by decide
theorem BR.setI {w : World} {g gs i : Nat} {A : Option Addr} {c : Nat} {bl : List Int} {k : Nat} {cs : Array Value} (h : BR w g A c bl k) (hb : Blk w gs 3 cs) (x : Value) : BR (w.setCell ⟨gs, i, none⟩ x) g A c bl k :=
  ⟨h.blk.far (fun e => by
    have e : g = gs := e
    subst e
    have h2 := h.blk
    unfold Blk at h2 hb
    rw [hb] at h2
    injection h2 with h2
    injection h2 with _ h2
    exact absurd h2 (by decide)) x, ownsRow_setCell_other (a := ⟨gs, i, none⟩) h.row (fun e => own_blk_ne h.row hb (by decide) e.symm) x, h.ok, h.len, h.at_⟩
theorem IRow.blk {w : World} {g : Nat} {l : List Int} (h : Blk w g 3 (intsV l).toArray) : IRow w (some ⟨g, 0, none⟩) l := by
  refine .inr ⟨g, 0, _, rfl, h, fun j u hu => ?_⟩
  rw [intsV_eq] at hu
  rw [Nat.zero_add]
  simpa using hu
theorem blk_setI {w : World} {g i : Nat} {l : List Int} {x : Int} (h : Blk w g 3 (intsV l).toArray) : Blk (w.setCell ⟨g, i, none⟩ (.int .i64 x)) g 3 (intsV (l.set i x)).toArray := by
  have h2 := h.set_ i (.int .i64 x)
  have e : (intsV l).toArray.setIfInBounds i (.int .i64 x) = (intsV (l.set i x)).toArray := by
    rw [List.setIfInBounds_toArray]
    unfold intsV
    rw [List.map_set]
  rw [e] at h2
  exact h2
theorem bnd_ok {v : Ev} {s : Sk} {l d : List Int} {e : Ending} {w' : World} (h : BndEnd v s l d e w') (hl : lensB l = true) (hd : lensB d = true) : e = .returned .nilIface ∧ ∃ gl bL gd bD, BookOf l bL ∧ BookOf d bD ∧ St v w' s (.pointer (some ⟨gl, 0, none⟩)) (.pointer (some ⟨gd, 0, none⟩)) [(gl, bL), (gd, bD)] := by
  rcases h with ⟨_, _, he, hx⟩ | ⟨hn, _⟩
  · exact ⟨he, hx⟩
  · rcases hn with hn | hn
    · rw [hl] at hn; cases hn
    · rw [hd] at hn; cases hn
set_option maxRecDepth 100000 in
set_option maxHeartbeats 8000000 in
theorem dynamic_any (v : Ev) (s : Sk) (lp dp : Value) (bs : List (Nat × BM)) (W : World) (h : St v W s lp dp bs) :
    Calls Try.prog 118 #[.pointer (some ⟨v.g, 0, none⟩)] W (DynEnd v s (dynM (bitsL v.bl) s.k)) := by
  have H := hid h
  clear h
  cases ha : tkM (bitsL v.bl) s.k 5 with
  | none =>
    have HE := hid (show dynM (bitsL v.bl) s.k = .error 8 by unfold dynM; rw [ha])
    have Ha := hid ha
    clear ha
    go_enter Try.func118, Try.ntmps118
    go_wp2_with fail
    refine (count_any v s _ _ bs 257 286 (by decide) _ H.out).mono ?_
    intro e w1 hC
    unfold CntEnd at hC
    rw [Ha.out] at hC
    obtain ⟨rfl, hb1⟩ := hC
    have B1 := hid hb1
    clear hb1
    go_wp2_with fail
    go_ret
    exact dynEnd_err HE.out rfl B1.out
  | some ai =>
    have hab := tkM_bd (bitsL_bit v.bl) ha
    have h5 : (2 : Int) ^ 5 = 32 := by decide
    obtain ⟨a, rfl⟩ := Int.eq_ofNat_of_zero_le hab.1
    have ha32 : a < 32 := by omega
    have M1 := hid (show dynM (bitsL v.bl) s.k = (if (286 : Int) < 257 + (a : Int) then .error 2 else
      match tkM (bitsL v.bl) (s.k + 5) 5 with
      | none => .error 8
      | some b => if 30 < 1 + b then .error 2 else
        match tkM (bitsL v.bl) (s.k + 10) 4 with
        | none => .error 8
        | some c => match smallM (bitsL v.bl) (ordT.take (c.toNat + 4)) (s.k + 14) (List.replicate 19 0) with
          | .error e => .error e
          | .ok (k2, sm) => if fullB sm = false then .error 2 else
            match rowM sm (bitsL v.bl) (258 + a + b.toNat) (258 + a + b.toNat) k2 [] with
            | .error e => .error e
            | .ok (k3, row) => if fullB (row.take (257 + a)) = false ∨ row.getD 256 0 = 0 ∨ (fullB (row.drop (257 + a)) = false ∧ 1 < (row.drop (257 + a)).sum) then .error 2
              else .ok (k3, row.take (257 + a), row.drop (257 + a))) by unfold dynM; rw [ha]; rfl)
    have Ha := hid ha
    clear ha hab
    go_enter Try.func118, Try.ntmps118
    go_wp2_with fail
    refine (count_any v s _ _ bs 257 286 (by decide) _ H.out).mono ?_
    intro e w1 hC
    unfold CntEnd at hC
    rw [Ha.out] at hC
    dsimp only at hC
    by_cases h1 : (286 : Int) < 257 + (a : Int)
    · rw [if_pos h1] at hC
      obtain ⟨rfl, hb1⟩ := hC
      have B1 := hid hb1
      have HE := hid (M1.out.trans (if_pos h1))
      clear hb1 h1
      go_wp2_with fail
      go_ret
      exact dynEnd_err HE.out rfl B1.out
    · rw [if_neg h1] at hC
      obtain ⟨rfl, hS1⟩ := hC
      have S1 := hid hS1
      have M2 := hid (M1.out.trans (if_neg h1))
      have ha29 : a ≤ 29 := by omega
      clear hS1 h1 M1 Ha
      go_wp2_with fail
      refine (count_any v ⟨s.k + 5, s.size, s.toks⟩ _ _ bs 1 30 (by decide) _ S1.out).mono ?_
      intro e w2 hC
      unfold CntEnd at hC
      cases hb : tkM (bitsL v.bl) (s.k + 5) 5 with
      | none =>
        have HE := hid (show dynM (bitsL v.bl) s.k = .error 8 by rw [M2.out, hb])
        simp only [hb] at hC
        obtain ⟨rfl, hb1⟩ := hC
        have B1 := hid hb1
        clear hb1 hb
        go_wp2_with fail
        go_ret
        exact dynEnd_err HE.out rfl B1.out
      | some bi =>
        have hbb := tkM_bd (bitsL_bit v.bl) hb
        obtain ⟨b, rfl⟩ := Int.eq_ofNat_of_zero_le hbb.1
        have hb32 : b < 32 := by omega
        simp only [hb] at hC
        by_cases h2 : (30 : Int) < 1 + (b : Int)
        · rw [if_pos h2] at hC
          obtain ⟨rfl, hb1⟩ := hC
          have B1 := hid hb1
          have HE := hid (show dynM (bitsL v.bl) s.k = .error 2 by rw [M2.out, hb]; exact if_pos h2)
          clear hb1 h2 hb hbb
          go_wp2_with fail
          go_ret
          exact dynEnd_err HE.out rfl B1.out
        · rw [if_neg h2] at hC
          obtain ⟨rfl, hS2⟩ := hC
          have S2 := hid hS2
          have hb29 : b ≤ 29 := by omega
          have M3 := hid (show dynM (bitsL v.bl) s.k = (match tkM (bitsL v.bl) (s.k + 10) 4 with
            | none => .error 8
            | some c => match smallM (bitsL v.bl) (ordT.take (c.toNat + 4)) (s.k + 14) (List.replicate 19 0) with
              | .error e => .error e
              | .ok (k2, sm) => if fullB sm = false then .error 2 else
                match rowM sm (bitsL v.bl) (258 + a + b) (258 + a + b) k2 [] with
                | .error e => .error e
                | .ok (k3, row) => if fullB (row.take (257 + a)) = false ∨ row.getD 256 0 = 0 ∨ (fullB (row.drop (257 + a)) = false ∧ 1 < (row.drop (257 + a)).sum) then .error 2
                  else .ok (k3, row.take (257 + a), row.drop (257 + a))) by rw [M2.out, hb]; exact if_neg h2)
          obtain ⟨T2, tc2, hk2, _⟩ := hS2.tok
          unfold workCs at hk2
          have c0 := hk2.cell 0
          simp only [List.getElem?_toArray, List.getElem?_cons_zero] at c0
          have hgw := hk2.lt
          clear hS2 h2 hb hbb M2 hk2
          cases hc : tkM (bitsL v.bl) (s.k + 5 + 5) 4 with
          | none =>
            have HE := hid (show dynM (bitsL v.bl) s.k = .error 8 by rw [M3.out, show s.k + 10 = s.k + 5 + 5 by omega, hc])
            have Hc := hid hc
            clear hc
            go_wp2_with fail
            refine (takeSt_none v ⟨s.k + 5 + 5, s.size, s.toks⟩ _ _ bs 4 (by decide) _ S2.out Hc.out).mono ?_
            rintro e w3 ⟨rfl, hS3, _⟩
            have S3 := hid hS3
            clear hS3
            go_wp2_with fail
            go_ret
            exact dynEnd_err HE.out rfl S3.out.fr
          | some ci =>
            have hcb := tkM_bd (bitsL_bit v.bl) hc
            have h4 : (2 : Int) ^ 4 = 16 := by decide
            obtain ⟨cc, rfl⟩ := Int.eq_ofNat_of_zero_le hcb.1
            have hc16 : cc < 16 := by omega
            have M4 := hid (show dynM (bitsL v.bl) s.k = (match smallM (bitsL v.bl) (ordT.take (cc + 4)) (s.k + 14) (List.replicate 19 0) with
              | .error e => .error e
              | .ok (k2, sm) => if fullB sm = false then .error 2 else
                match rowM sm (bitsL v.bl) (258 + a + b) (258 + a + b) k2 [] with
                | .error e => .error e
                | .ok (k3, row) => if fullB (row.take (257 + a)) = false ∨ row.getD 256 0 = 0 ∨ (fullB (row.drop (257 + a)) = false ∧ 1 < (row.drop (257 + a)).sum) then .error 2
                  else .ok (k3, row.take (257 + a), row.drop (257 + a))) by rw [M3.out, show s.k + 10 = s.k + 5 + 5 by omega, hc]; rfl)
            have Hc := hid hc
            clear hc hcb M3
            go_wp2_with fail
            refine (takeSt_some v ⟨s.k + 5 + 5, s.size, s.toks⟩ _ _ bs 4 (by decide) cc _ S2.out Hc.out).mono ?_
            rintro e w3 ⟨rfl, hS3, _⟩
            have S3 := hid hS3
            clear hS3 c0 hgw Hc
            go_wp2_with fail
            refine (orderW w3).mono ?_
            rintro e w4 ⟨go0, rfl, _, _, hb4⟩
            have S4 := hid (S3.out.below hb4)
            have sz4 := hb4.size
            clear hb4 S3
            have hmk := mk19
            go_wp2_with fail
            clear hmk
            have R5 := hid (S4.out.rd.below (below_alloc1 w4 (.cells (intsV sm19).toArray 3)))
            have G5 := hid (gr_below1 (World.grownBy.refl w4 (some v.gr)) (below_alloc1 w4 (.cells (intsV sm19).toArray 3)))
            have Q5 := hid (Blk.new w4 3 (intsV sm19).toArray)
            generalize w4.alloc (.cells (intsV sm19).toArray 3) = w5 at *
            obtain ⟨gs, hgs⟩ : ∃ gs, gs = w4.heap.size := ⟨_, rfl⟩
            rw [← hgs] at Q5 ⊢
            refine (orderW w5).mono ?_
            rintro e w6 ⟨go1, rfl, hO6, hgo, hb6⟩
            have R6 := hid (R5.out.below hb6)
            have G6 := hid (gr_below1 G5.out hb6)
            have Q6 := hid (Q5.out.below hb6 Q5.out.lt)
            have O6 := hid hO6
            have hne : gs < go1 := Nat.lt_of_lt_of_le Q5.out.lt hgo
            have Hgs := hid hgs
            clear hb6 hO6 R5 G5 Q5 hgo hgs sz4
            have tw4 : IntKind.i64.wrap ((cc : Int) + 4) = ((cc + 4 : Nat) : Int) := (IntWalk.i64_in _ (by omega)).trans (by omega)
            obtain ⟨c4, hc4⟩ : ∃ c4, c4 = cc + 4 := ⟨_, rfl⟩
            rw [← hc4] at tw4 M4
            have hc19 : c4 ≤ 19 := by omega
            clear hc4 hc16
            go_wp2_with fail
            go_loopw [47] (fun v47 wr => ∃ (j k : Nat) (sm : List Int), j ≤ c4 ∧ v47 = .int .i64 (j : Int) ∧ Hid (smallM (bitsL v.bl) (ordT.take c4) (s.k + 14) (List.replicate 19 0) = smallM (bitsL v.bl) ((ordT.take c4).drop j) k sm) ∧ Hid (sm.length = 19) ∧ Hid (Blk wr gs 3 (intsV sm).toArray) ∧ Hid (Blk wr go1 3 (intsV (natsV ordT)).toArray) ∧ Hid (BR wr v.gr v.A v.c v.bl k) ∧ Hid (w4.grownBy wr (some v.gr))) (fun i _ => c4 - (intOf i).toNat)
            case atStart => exact ⟨0, s.k + 5 + 5 + 4, sm19, by omega, rfl, hid rfl, hid (by unfold sm19; rw [List.length_replicate]), Q6, O6, R6, G6⟩
            clear Q6 O6 R6 G6
            case round =>
              obtain ⟨j, k, sm, hj, rfl, He, Hl, Q, O, R, G⟩ := hrel
              by_cases hlt : j < c4
              · have dj : decide (j < c4) = true := decide_eq_true hlt
                have hjo : j < (ordT.take c4).length := by rw [List.length_take, ordT_len.1]; omega
                obtain ⟨o, ho⟩ : ∃ o, o = (ordT.take c4)[j] := ⟨_, rfl⟩
                have hd : (ordT.take c4).drop j = o :: (ordT.take c4).drop (j + 1) := by rw [ho]; exact List.drop_eq_getElem_cons hjo
                have ho2 : ordT[j]? = some o := by
                  have : (ordT.take c4)[j]? = some o := by rw [ho]; exact List.getElem?_eq_getElem hjo
                  rw [List.getElem?_take, if_pos hlt] at this
                  exact this
                have ho19 : o < 19 := ordT_len.2 o (List.mem_of_getElem? ho2)
                have q0 : w6.cell? ⟨0, 0, none⟩ = w6.cell? ⟨0, 0, none⟩ := rfl
                have q0 : wr.cell? ⟨go1, j, none⟩ = some (.int .i64 (o : Int)) := (O.out.cell j).trans (by simp [intsV, natsV, ho2])
                have S := hid (S4.out.turn R.out G.out)
                obtain ⟨T, tc, hk, _⟩ := S.out.tok
                unfold workCs at hk
                have c0 := hk.cell 0
                simp only [List.getElem?_toArray, List.getElem?_cons_zero] at c0
                have hgw := hk.lt
                have hgow := O.out.lt
                have Hd := hid hd
                clear hk ho hd ho2 hjo
                cases ht : tkM (bitsL v.bl) k 3 with
                | none =>
                  have HE := hid (show dynM (bitsL v.bl) s.k = .error 8 by rw [M4.out, He.out, Hd.out, smallM, ht])
                  have Ht := hid ht
                  clear ht
                  go_wp2_with fail
                  refine (takeSt_none v ⟨k, s.size, s.toks⟩ _ _ bs 3 (by decide) _ S.out Ht.out).mono ?_
                  rintro e w7 ⟨rfl, hS7, hg7⟩
                  have S7 := hid hS7
                  have Q7 := hid (blk_turn S.out hg7 Q.out)
                  have hgs7 := Q7.out.lt
                  have fz := Q7.out.frozen o
                  have qs : ∃ x, w7.cell? ⟨gs, o, none⟩ = some (.int .i64 x) := ⟨sm[o]'(by rw [Hl.out]; exact ho19), (Q7.out.cell o).trans (by simp [intsV, List.getElem?_eq_getElem (show o < sm.length by rw [Hl.out]; exact ho19)])⟩
                  obtain ⟨x, qs⟩ := qs
                  clear hS7 hg7 c0
                  go_wp2_with fail
                  go_ret
                  exact dynEnd_err HE.out rfl (S7.out.fr.setCell (p := ⟨gs, o, none⟩) (by
                    obtain ⟨T4, tc4, hk4, _⟩ := S4.out.tok
                    have := hk4.lt
                    have := S4.out.gB
                    show v.B ≤ gs
                    rw [Hgs.out]; omega) _)
                | some x3 =>
                  have HE := hid (show smallM (bitsL v.bl) (ordT.take c4) (s.k + 14) (List.replicate 19 0) = smallM (bitsL v.bl) ((ordT.take c4).drop (j + 1)) (k + 3) (sm.set o x3) by rw [He.out, Hd.out, smallM, ht])
                  have Ht := hid ht
                  clear ht
                  go_wp2_with fail
                  refine (takeSt_some v ⟨k, s.size, s.toks⟩ _ _ bs 3 (by decide) x3 _ S.out Ht.out).mono ?_
                  rintro e w7 ⟨rfl, hS7, hg7⟩
                  have S7 := hid hS7
                  have Q7 := hid (blk_turn S.out hg7 Q.out)
                  have O7 := hid (blk_turn S.out hg7 O.out)
                  have G7 := hid (gr_trans1 G.out hg7)
                  have hgs7 := Q7.out.lt
                  have fz := Q7.out.frozen o
                  have qs : ∃ x, w7.cell? ⟨gs, o, none⟩ = some (.int .i64 x) := ⟨sm[o]'(by rw [Hl.out]; exact ho19), (Q7.out.cell o).trans (by simp [intsV, List.getElem?_eq_getElem (show o < sm.length by rw [Hl.out]; exact ho19)])⟩
                  obtain ⟨x, qs⟩ := qs
                  clear hS7 hg7 c0 Q O G R S q0 hgw hgow
                  go_wp2_with fail
                  have R8 := hid (S7.out.rd.setI (gs := gs) (i := o) Q7.out (.int .i64 x3))
                  have Q8 := hid (blk_setI (i := o) (x := x3) Q7.out)
                  have O8 := hid (O7.out.far (p := ⟨gs, o, none⟩) (by show go1 ≠ gs; omega) (.int .i64 x3))
                  have G8 := hid (gr_belowC G7.out ((Below.refl w7.heap.size w7).mono G7.out.size |>.setCell (p := ⟨gs, o, none⟩) (by show w4.heap.size ≤ gs; rw [Hgs.out]; exact Nat.le_refl _) (.int .i64 x3)))
                  exact ⟨⟨j + 1, k + 3, sm.set o x3, by omega, by go_num, HE, hid (by rw [List.length_set]; exact Hl.out), Q8, O8, R8, G8⟩, by simp [intOf]; omega⟩
              · have dj : decide (j < c4) = false := decide_eq_false hlt
                have HE := hid (show smallM (bitsL v.bl) (ordT.take c4) (s.k + 14) (List.replicate 19 0) = .ok (k, sm) by
                  rw [He.out, List.drop_eq_nil_of_le (by rw [List.length_take, ordT_len.1]; omega), smallM])
                have S := hid (S4.out.turn R.out G.out)
                have I := hid (IRow.blk Q.out)
                have hfu := full_any (some ⟨gs, 0, none⟩) 19 sm wr I.out.rdi (by unfold maxLen; rw [Hl.out]; omega)
                have hnb := newBook_any (some ⟨gs, 0, none⟩) 19 sm wr I.out.rdi (fun h => by cases h) (by rw [Hl.out]; decide)
                rw [Hl.out] at hfu hnb
                have Hfu := hid hfu
                have Hnb := hid hnb
                obtain ⟨la, hla⟩ : ∃ la, la = 257 + a := ⟨_, rfl⟩
                obtain ⟨lb, hlb⟩ : ∃ lb, lb = 1 + b := ⟨_, rfl⟩
                obtain ⟨sz, hszz⟩ : ∃ sz, sz = 258 + a + b := ⟨_, rfl⟩
                have M5 := hid (show dynM (bitsL v.bl) s.k = (if fullB sm = false then .error 2 else
                  match rowM sm (bitsL v.bl) sz sz k [] with
                  | .error e => .error e
                  | .ok (k3, row) => if fullB (row.take la) = false ∨ row.getD 256 0 = 0 ∨ (fullB (row.drop la) = false ∧ 1 < (row.drop la).sum) then .error 2
                    else .ok (k3, row.take la, row.drop la)) by rw [M4.out, HE.out, hla, hszz])
                rw [show (257 : Int) + (a : Int) = (la : Int) by omega, show (1 : Int) + (b : Int) = (lb : Int) by omega]
                have tws : IntKind.i64.wrap ((la : Int) + (lb : Int)) = (sz : Int) := (IntWalk.i64_in _ (by omega)).trans (by omega)
                have hsz2 : la + 1 ≤ sz ∧ sz ≤ 316 ∧ 257 ≤ la := by omega
                clear hfu hnb hla hlb hszz M4 He G Q O R HE
                go_wp2_with fail
                refine Hfu.out.mono ?_
                rintro e w7 ⟨rfl, rfl⟩
                by_cases hf : fullB sm = false
                · have HE := hid (M5.out.trans (if_pos hf))
                  rw [hf]
                  clear hf
                  go_wp2_with fail
                  go_ret
                  exact dynEnd_err HE.out rfl S.out.fr
                · have M6 := hid (M5.out.trans (if_neg hf))
                  rw [Bool.not_eq_false] at hf
                  have Hlens := hid (full_lens hf)
                  rw [hf]
                  clear hf M5 Hfu
                  go_wp2_with fail
                  refine Hnb.out.mono ?_
                  rintro e w8 (⟨hlf, _⟩ | ⟨_, gb, bb, rfl, _, hK8, hB8, hb8⟩)
                  · rw [Hlens.out] at hlf; cases hlf
                  · have S8 := hid ((S.out.below hb8).books (bs' := [(gb, bb)]) (by simpa using hK8))
                    have HB8 := hid hB8
                    clear hK8 hB8 hb8 Hnb I S
                    go_wp2_with fail
                    refine (row_any v ⟨k, s.size, s.toks⟩ _ _ [(gb, bb)] gb bb sm (by simp) HB8.out Hlens.out sz (by omega) _ S8.out).mono ?_
                    intro e w9 hR
                    unfold RowEnd at hR
                    cases hrm : rowM sm (bitsL v.bl) sz sz k [] with
                    | error ke =>
                      rw [hrm] at hR
                      obtain ⟨rfl, hb9⟩ := hR
                      have HE := hid (show dynM (bitsL v.bl) s.k = .error ke by rw [M6.out, hrm])
                      have B9 := hid hb9
                      clear hrm hb9
                      go_wp2_with fail
                      go_ret
                      exact dynEnd_err HE.out rfl B9.out
                    | ok kr =>
                      obtain ⟨k3, row⟩ := kr
                      rw [hrm] at hR
                      obtain ⟨A9, c9, rfl, hown9, hS9⟩ := hR
                      have hbd := rowM_bd (bitsL_bit v.bl) (by rw [Hl.out]; exact Nat.le_refl _) sz k [] k3 row (by simp) (Nat.zero_le _) (by simp) hrm
                      have M7 := hid (show dynM (bitsL v.bl) s.k = (if fullB (row.take la) = false ∨ row.getD 256 0 = 0 ∨ (fullB (row.drop la) = false ∧ 1 < (row.drop la).sum) then .error 2
                        else .ok (k3, row.take la, row.drop la)) by rw [M6.out, hrm])
                      have I9 := hid (IRow.own hown9)
                      have S9 := hid hS9
                      have Hbd := hid hbd.1
                      have Hlen := hid hbd.2
                      rw [hbd.2] at hown9 ⊢
                      have O9 := hid hown9
                      obtain ⟨g9, cap, cur, e9, _, hh9, hcap, _⟩ : ∃ g cap cur, Value.slice A9 sz c9 = .slice (some ⟨g, 0, none⟩) sz cap ∧ w8.heap.size ≤ g ∧ w9.heap[g]? = some (.cells cur 3 (0, 0)) ∧ sz ≤ cap ∧ True := by
                        rcases hown9.2 with ⟨_, h0⟩ | ⟨g, cap, cur, h1, h2, h3, h4, _⟩
                        · omega
                        · exact ⟨g, cap, cur, h1, h2, h3, h4, trivial⟩
                      injection e9 with e9 _ ec
                      subst e9 ec
                      clear hrm hS9 hbd hown9 hh9 M6 S8
                      go_wp2_with fail
                      obtain ⟨l1, hl1⟩ : ∃ l1, l1 = row.take la := ⟨_, rfl⟩
                      obtain ⟨d1, hd1⟩ : ∃ d1, d1 = row.drop la := ⟨_, rfl⟩
                      have l1l : l1.length = la := by rw [hl1, List.length_take, Hlen.out]; omega
                      have d1l : d1.length = sz - la := by rw [hd1, List.length_drop, Hlen.out]
                      have J1 := hid (show IRow w9 (some ⟨g9, 0, none⟩) l1 by have := I9.out.part 0 la; rw [List.drop_zero, ← hl1] at this; exact this)
                      have J2 := hid (show IRow w9 (some ⟨g9, la, none⟩) d1 by have := I9.out.part la (sz - la); rw [← hd1, ← d1l, List.take_length, Nat.zero_add] at this; exact this)
                      have F1 := full_any (some ⟨g9, 0, none⟩) c9 l1 w9 J1.out.rdi (by unfold maxLen; omega)
                      rw [l1l] at F1
                      have hdb : ∀ x ∈ d1, 0 ≤ x ∧ x ≤ 100 := fun x hx => Hbd.out x (List.mem_of_mem_drop (by rw [hd1] at hx; exact hx))
                      have F2 := hid (full_any (some ⟨g9, la, none⟩) (c9 - la) d1 w9 J2.out.rdi (by unfold maxLen; omega))
                      have F3 := hid (few_any (some ⟨g9, la, none⟩) (c9 - la) d1 w9 J2.out.rdi (by omega) hdb)
                      obtain ⟨dl, hdl⟩ : ∃ dl, dl = sz - la := ⟨_, rfl⟩
                      rw [← hdl] at d1l
                      rw [d1l] at F2 F3
                      have tsl : sz - la = dl := hdl.symm
                      have Hdb := hid hdb
                      rw [← hl1, ← hd1] at M7
                      have L1l := hid l1l
                      have D1l := hid d1l
                      have hg9 := O9.out
                      have x256 : w9.cell? ⟨g9, 256, none⟩ = some (.int .i64 (row.getD 256 0)) := by
                        obtain ⟨g', u, e, _, _, hu, hc⟩ := own_cell (j := 256) O9.out (by omega)
                        injection e with e
                        injection e with e
                        subst e
                        rw [hc]
                        unfold intsV at hu
                        rw [List.getElem?_map] at hu
                        rw [List.getD_eq_getElem?_getD]
                        cases hx : row[256]? with
                        | none => rw [hx] at hu; cases hu
                        | some z => rw [hx] at hu; exact hu.symm
                      obtain ⟨r256, hr⟩ : ∃ r256, r256 = row.getD 256 0 := ⟨_, rfl⟩
                      rw [← hr] at x256 M7
                      have hg9l : g9 < w9.heap.size := by obtain ⟨g', u, e, _, h, _⟩ := own_cell (j := 256) O9.out (by omega); injection e with e; injection e with e; rw [e]; exact h
                      clear hl1 hd1 l1l d1l hdb hr hdl hg9
                      refine F1.mono ?_
                      rintro e w10 ⟨rfl, rfl⟩
                      clear F1
                      cases hf1 : fullB l1 with
                      | false =>
                        have HE := hid (M7.out.trans (if_pos (.inl hf1)))
                        clear hf1
                        go_wp2_with fail
                        go_ret
                        exact dynEnd_err HE.out rfl S9.out.fr
                      | true =>
                        by_cases h0 : r256 = 0
                        · have HE := hid (M7.out.trans (if_pos (.inr (.inl h0))))
                          have n0 : (r256 == 0) = true := by rw [beq_iff_eq]; exact h0
                          clear hf1 h0
                          go_wp2_with fail
                          go_ret
                          exact dynEnd_err HE.out rfl S9.out.fr
                        · have n0 : (r256 == 0) = false := by rw [beq_eq_false_iff_ne]; exact h0
                          have Hf1 := hid hf1
                          have H0 := hid h0
                          clear hf1 h0
                          go_wp2_with fail
                          refine F2.out.mono ?_
                          rintro e w11 ⟨rfl, rfl⟩
                          cases hf2 : fullB d1 with
                          | false =>
                            have Hf2 := hid hf2
                            clear hf2 F2
                            go_wp2_with fail
                            refine F3.out.mono ?_
                            rintro e w12 ⟨rfl, rfl⟩
                            by_cases hsu : d1.sum ≤ 1
                            · have HE := hid (M7.out.trans (if_neg (by rw [Hf1.out, Hf2.out]; intro h; rcases h with h | h | ⟨_, h⟩; exact absurd h (by decide); exact H0.out h; omega)))
                              have Hdl := hid (few_lens (l := d1) (by rw [D1l.out]; omega) (fun x hx => (Hdb.out x hx).1) hsu)
                              rw [decide_eq_true hsu]
                              clear hsu F3
                              have BW := hid (show ∀ w, Below w9.heap.size w9 w → Calls Try.prog 133 #[.pointer (some ⟨v.g, 0, none⟩), .slice (some ⟨g9, 0, none⟩) la c9, .slice (some ⟨g9, la, none⟩) dl (c9 - la)] w (BndEnd v ⟨k3, s.size, s.toks⟩ l1 d1) from fun w hb => by
                                have h := bindW_any v ⟨k3, s.size, s.toks⟩ lp dp [(gb, bb)] (some ⟨g9, 0, none⟩) (some ⟨g9, la, none⟩) c9 (c9 - la) l1 d1 (by rw [L1l.out]; omega) (by rw [D1l.out]; omega) (fun h => by cases h) (fun h => by cases h) w (S9.out.below hb) (J1.out.hold (HoldT.below hb)) (J2.out.hold (HoldT.below hb))
                                rw [L1l.out, D1l.out] at h
                                exact h)
                              have Hl1 := hid (full_lens Hf1.out)
                              go_wp2_with fail
                              go_region_with (go_at_call 133; refine (BW.out _ (below_drewN (Below.refl _ _) 1)).mono ?_; intro e w13 hB; obtain ⟨rfl, hx⟩ := bnd_ok hB Hl1.out Hdl.out; have X := hid hx; clear hB hx)
                              all_goals
                                go_wp2_with fail
                                go_ret
                                unfold DynEnd
                                rw [HE.out]
                                exact ⟨Hl1.out, Hdl.out, rfl, X.out⟩
                            · have HE := hid (M7.out.trans (if_pos (.inr (.inr ⟨Hf2.out, by omega⟩))))
                              rw [decide_eq_false hsu]
                              clear hsu F3
                              go_wp2_with fail
                              go_ret
                              exact dynEnd_err HE.out rfl S9.out.fr
                          | true =>
                            have HE := hid (M7.out.trans (if_neg (by rw [Hf1.out, hf2]; intro h; rcases h with h | h | ⟨h, _⟩; exact absurd h (by decide); exact H0.out h; exact absurd h (by decide))))
                            have Hdl := hid (full_lens hf2)
                            clear hf2 F2 F3
                            have BW := hid (show ∀ w, Below w9.heap.size w9 w → Calls Try.prog 133 #[.pointer (some ⟨v.g, 0, none⟩), .slice (some ⟨g9, 0, none⟩) la c9, .slice (some ⟨g9, la, none⟩) dl (c9 - la)] w (BndEnd v ⟨k3, s.size, s.toks⟩ l1 d1) from fun w hb => by
                              have h := bindW_any v ⟨k3, s.size, s.toks⟩ lp dp [(gb, bb)] (some ⟨g9, 0, none⟩) (some ⟨g9, la, none⟩) c9 (c9 - la) l1 d1 (by rw [L1l.out]; omega) (by rw [D1l.out]; omega) (fun h => by cases h) (fun h => by cases h) w (S9.out.below hb) (J1.out.hold (HoldT.below hb)) (J2.out.hold (HoldT.below hb))
                              rw [L1l.out, D1l.out] at h
                              exact h)
                            have Hl1 := hid (full_lens Hf1.out)
                            go_wp2_with fail
                            go_region_with (go_at_call 133; refine (BW.out _ (below_drewN (Below.refl _ _) 1)).mono ?_; intro e w13 hB; obtain ⟨rfl, hx⟩ := bnd_ok hB Hl1.out Hdl.out; have X := hid hx; clear hB hx)
                            all_goals
                              go_wp2_with fail
                              go_ret
                              unfold DynEnd
                              rw [HE.out]
                              exact ⟨Hl1.out, Hdl.out, rfl, X.out⟩

end Go.Proofs.Ytegmbjkpjglgpaa
