/-
  inflate: a match, a block's symbols.
  inflate: a block's symbols.
-/
import Derived.Test.YtegmbjkpjglgpaaInfSto
import Derived.Deep.RegionWith
import Derived.StillTailTactics
namespace Go.Proofs.Ytegmbjkpjglgpaa
open Go.RowKit

/-- a book's reading puts the reader alone on -/
theorem symSt_err {v : Ev} {s : Sk} {lp dp : Value} {bs : List (Nat × BM)} {W w' : World} {r : Except Int (Nat × Nat)} {e : Ending} {k : Int} (h : SymEnd v s lp dp bs W r e w') (hr : r = .error k) : e = .returned (.tuple #[.int .i64 0, .iface 40 (.int .i64 k)]) ∧ Frm v w' := by
  rw [hr] at h
  obtain ⟨_, rfl, k1, h1⟩ := h
  exact ⟨rfl, h1.frm⟩
theorem symSt_ok {v : Ev} {s : Sk} {lp dp : Value} {bs : List (Nat × BM)} {W w' : World} {r : Except Int (Nat × Nat)} {e : Ending} {y k1 : Nat} (h : SymEnd v s lp dp bs W r e w') (hr : r = .ok (y, k1)) : e = .returned (.tuple #[.int .i64 (y : Int), .nilIface]) ∧ St v w' ⟨k1, s.size, s.toks⟩ lp dp bs := by
  rw [hr] at h
  exact h.2
theorem lbase_bd : ∀ i : Fin 29, 3 ≤ lbase (257 + (i.val : Int)) ∧ lbase (257 + (i.val : Int)) + 2 ^ (lextra (257 + (i.val : Int))).toNat ≤ 259 := by decide
theorem dbase_bd : ∀ i : Fin 30, 1 ≤ dbase (i.val : Int) ∧ dbase (i.val : Int) + 2 ^ (dextra (i.val : Int)).toNat ≤ 32769 := by decide
set_option maxRecDepth 100000 in
set_option maxHeartbeats 8000000 in
theorem match_any (v : Ev) (s : Sk) (lp : Value) (gb : Nat) (b : BM) (d : List Int) (bs : List (Nat × BM)) (hb : (gb, b) ∈ bs) (hB : BookOf d b) (hd : lensB d = true) (y : Nat) (hy : 257 ≤ y) (W : World) (h : St v W s lp (.pointer (some ⟨gb, 0, none⟩)) bs) :
    Calls Try.prog 141 #[.pointer (some ⟨v.g, 0, none⟩), .int .i64 (y : Int)] W (StEnd v lp (.pointer (some ⟨gb, 0, none⟩)) bs (matchM d (bitsL v.bl) v.most y s)) := by
  have H := hid h
  have Hb := hid hb
  have HB := hid hB
  have Hd := hid hd
  clear h hb hB hd
  by_cases hy2 : 285 < y
  · have HE := hid (show matchM d (bitsL v.bl) v.most y s = .error 2 from if_pos hy2)
    have LB := hid (fun w => lbase_no (y : Int) (.inr (by omega)) w)
    clear hy hy2
    go_enter Try.func141, Try.ntmps141
    go_wp2_with fail
    refine ((LB.out _)).mono ?_
    rintro e w1 ⟨rfl, rfl⟩
    go_wp2_with fail
    go_ret
    exact stEnd_err HE.out rfl H.out.frm
  · obtain ⟨x1, hx1⟩ : ∃ x1 : Nat, (x1 : Int) = lextra y := ⟨(lextra y).toNat, Int.toNat_of_nonneg (by unfold lextra; omega)⟩
    have hx1b : x1 ≤ 32 := by have : lextra y ≤ 32 := by unfold lextra; omega
                              omega
    have LB := hid (fun w => lbase_yes (y : Int) (by omega) (by omega) w)
    have hbb : 3 ≤ lbase y ∧ lbase y + 2 ^ (lextra y).toNat ≤ 259 := by
      have h := lbase_bd ⟨y - 257, by omega⟩
      have e : (257 : Int) + ((y - 257 : Nat) : Int) = (y : Int) := by omega
      simp only [e] at h
      exact h
    obtain ⟨lb, hlb⟩ : ∃ lb, lb = lbase y := ⟨_, rfl⟩
    rw [← hlb] at hbb
    have HM := hid (show matchM d (bitsL v.bl) v.most y s = _ from if_neg hy2)
    have ht : (lextra y).toNat = x1 := by omega
    rw [ht] at hbb
    have HT := hid ht
    have HX := hid hx1
    have HL := hid hlb
    obtain ⟨T, tc, hk, _⟩ := H.out.tok
    unfold workCs at hk
    have c0 := hk.cell 0
    simp only [List.getElem?_toArray, List.getElem?_cons_zero] at c0
    have hgw := hk.lt
    clear hy hy2 ht hx1 hlb hk
    cases ht1 : tkM (bitsL v.bl) s.k x1 with
    | none =>
      have HE := hid (show matchM d (bitsL v.bl) v.most y s = .error 8 by rw [HM.out, HT.out, ht1])
      have Ht1 := hid ht1
      clear ht1
      go_enter Try.func141, Try.ntmps141
      go_wp2_with fail
      refine ((LB.out _)).mono ?_
      rintro e w1 ⟨rfl, rfl⟩
      rw [← HX.out, ← HL.out]
      go_wp2_with fail
      refine (takeSt_none v s _ _ bs x1 hx1b _ H.out Ht1.out).mono ?_
      rintro e w2 ⟨rfl, hS2, _⟩
      have S2 := hid hS2
      clear hS2
      go_wp2_with fail
      go_ret
      exact stEnd_err HE.out rfl S2.out.frm
    | some n1 =>
      have hn1 := tkM_bd (bitsL_bit v.bl) ht1
      have tb : lb + n1 ≤ 258 := by omega
      have Ht1 := hid ht1
      clear ht1
      cases hs : symM d (bitsL v.bl) (s.k + x1) with
      | error ke =>
        have HE := hid (show matchM d (bitsL v.bl) v.most y s = .error ke by rw [HM.out, HT.out, Ht1.out]; dsimp only; rw [hs])
        have HS := hid hs
        clear hs
        go_enter Try.func141, Try.ntmps141
        go_wp2_with fail
        refine ((LB.out _)).mono ?_
        rintro e w1 ⟨rfl, rfl⟩
        rw [← HX.out, ← HL.out]
        go_wp2_with fail
        refine (takeSt_some v s _ _ bs x1 hx1b n1 _ H.out Ht1.out).mono ?_
        rintro e w2 ⟨rfl, hS2, _⟩
        have S2 := hid hS2
        obtain ⟨T2, tc2, hk2, _⟩ := hS2.tok
        clear c0 hgw hS2
        unfold workCs at hk2
        have c0 := hk2.cell 0
        have c1 := hk2.cell 1
        have c2 := hk2.cell 2
        have c3 := hk2.cell 3
        have c4 := hk2.cell 4
        have c5 := hk2.cell 5
        simp only [List.getElem?_toArray, List.getElem?_cons_zero, List.getElem?_cons_succ] at c0 c1 c2 c3 c4 c5
        have hgw := hk2.lt
        clear hk2
        go_wp2_with fail
        go_region_with (go_at_call 140; refine (symSt v ⟨s.k + x1, s.size, s.toks⟩ _ _ bs gb b d Hb.out HB.out Hd.out _ (S2.out.below (below_drewN (Below.refl _ _) 1))).mono ?_; intro e w3 hR; obtain ⟨rfl, hb3⟩ := symSt_err hR HS.out; have B3 := hid hb3; clear hR hb3)
        all_goals
          go_wp2_with fail
          go_ret
          exact stEnd_err HE.out rfl B3.out
      | ok tk =>
        obtain ⟨t, k2⟩ := tk
        have HS := hid hs
        clear hs
        go_enter Try.func141, Try.ntmps141
        go_wp2_with fail
        refine ((LB.out _)).mono ?_
        rintro e w1 ⟨rfl, rfl⟩
        rw [← HX.out, ← HL.out]
        go_wp2_with fail
        refine (takeSt_some v s _ _ bs x1 hx1b n1 _ H.out Ht1.out).mono ?_
        rintro e w2 ⟨rfl, hS2, _⟩
        have S2 := hid hS2
        obtain ⟨T2, tc2, hk2, _⟩ := hS2.tok
        clear c0 hgw hS2
        unfold workCs at hk2
        have c0 := hk2.cell 0
        have c1 := hk2.cell 1
        have c2 := hk2.cell 2
        have c3 := hk2.cell 3
        have c4 := hk2.cell 4
        have c5 := hk2.cell 5
        simp only [List.getElem?_toArray, List.getElem?_cons_zero, List.getElem?_cons_succ] at c0 c1 c2 c3 c4 c5
        have hgw := hk2.lt
        clear hk2
        go_wp2_with fail
        go_region_with (go_at_call 140; refine (symSt v ⟨s.k + x1, s.size, s.toks⟩ _ _ bs gb b d Hb.out HB.out Hd.out _ (S2.out.below (below_drewN (Below.refl _ _) 1))).mono ?_; intro e w3 hR; obtain ⟨rfl, hS3⟩ := symSt_ok hR HS.out; have S3 := hid hS3; clear hR hS3)
        all_goals
          have HM2 := hid (show matchM d (bitsL v.bl) v.most y s = (if 29 < t then .error 2 else match tkM (bitsL v.bl) k2 (dextra t).toNat with | none => .error 8 | some m => putM v.most (lbase y + n1, dbase t + m) ⟨k2 + (dextra t).toNat, s.size, s.toks⟩) by rw [HM.out, HT.out, Ht1.out]; dsimp only; rw [HS.out]; rfl)
          clear c0 c1 c2 c3 c4 c5 hgw
          by_cases h29 : 29 < t
          · have HE := hid (HM2.out.trans (if_pos h29))
            have DB := hid (fun w => dbase_no (t : Int) (.inr (by omega)) w)
            clear h29
            go_wp2_with fail
            refine ((DB.out _)).mono ?_
            rintro e w4 ⟨rfl, rfl⟩
            go_wp2_with fail
            go_ret
            exact stEnd_err HE.out rfl S3.out.frm
          · obtain ⟨x2, hx2⟩ : ∃ x2 : Nat, (x2 : Int) = dextra t := ⟨(dextra t).toNat, Int.toNat_of_nonneg (by unfold dextra; omega)⟩
            have hx2b : x2 ≤ 32 := by have : dextra t ≤ 32 := by unfold dextra; omega
                                      omega
            have DB := hid (fun w => dbase_yes (t : Int) (by omega) (by omega) w)
            have ht2 : (dextra t).toNat = x2 := by omega
            have hdb : 1 ≤ dbase t ∧ dbase t + 2 ^ x2 ≤ 32769 := by
              have h := dbase_bd ⟨t, by omega⟩
              rw [ht2] at h
              exact h
            obtain ⟨db, hdb2⟩ : ∃ db, db = dbase t := ⟨_, rfl⟩
            rw [← hdb2] at hdb
            have HE := hid (HM2.out.trans (if_neg h29))
            have HD := hid hdb2
            have HX2 := hid hx2
            have HT2 := hid ht2
            clear h29 hdb2 hx2 ht2
            go_wp2_with fail
            refine ((DB.out _)).mono ?_
            rintro e w4 ⟨rfl, rfl⟩
            rw [← HX2.out, ← HD.out]
            obtain ⟨T3, tc3, hk3, _⟩ := S3.out.tok
            unfold workCs at hk3
            have c0 := hk3.cell 0
            simp only [List.getElem?_toArray, List.getElem?_cons_zero] at c0
            have hgw := hk3.lt
            clear hk3
            cases ht3 : tkM (bitsL v.bl) k2 x2 with
            | none =>
              have HE2 := hid (show matchM d (bitsL v.bl) v.most y s = .error 8 by rw [HE.out, HT2.out, ht3])
              have Ht3 := hid ht3
              clear ht3
              go_wp2_with fail
              refine (takeSt_none v ⟨k2, s.size, s.toks⟩ _ _ bs x2 hx2b _ S3.out Ht3.out).mono ?_
              rintro e w5 ⟨rfl, hS5, _⟩
              have S5 := hid hS5
              clear hS5
              go_wp2_with fail
              go_ret
              exact stEnd_err HE2.out rfl S5.out.frm
            | some m =>
              have hm := tkM_bd (bitsL_bit v.bl) ht3
              have tb2 : db + m ≤ 32768 := by omega
              have HE2 := hid (show matchM d (bitsL v.bl) v.most y s = putM v.most (lb + n1, db + m) ⟨k2 + x2, s.size, s.toks⟩ by rw [HE.out, HT2.out, ht3, HL.out, HD.out])
              have Ht3 := hid ht3
              clear ht3
              go_wp2_with fail
              refine (takeSt_some v ⟨k2, s.size, s.toks⟩ _ _ bs x2 hx2b m _ S3.out Ht3.out).mono ?_
              rintro e w5 ⟨rfl, hS5, _⟩
              have S5 := hid hS5
              obtain ⟨T5, tc5, hk5, _⟩ := hS5.tok
              clear hS5 c0 hgw
              have hgw := hk5.lt
              clear hk5
              have tw1 : IntKind.i64.wrap (lb + n1) = lb + n1 := IntWalk.i64_in _ (by omega)
              have tw2 : IntKind.i64.wrap (db + m) = db + m := IntWalk.i64_in _ (by omega)
              go_wp2_with fail
              refine (putW_any v ⟨k2 + x2, s.size, s.toks⟩ (lb + n1) (db + m) _ _ bs _ S5.out (.inr ⟨by omega, by omega, by omega⟩)).mono ?_
              intro e w6 hP
              unfold PutW at hP
              cases hp : putM v.most (lb + n1, db + m) ⟨k2 + x2, s.size, s.toks⟩ with
              | error kp =>
                rw [hp] at hP
                obtain ⟨rfl, hS6⟩ := hP
                have S6 := hid hS6
                have HE3 := hid (HE2.out.trans hp)
                clear hS6 hp
                go_wp2_with fail
                go_ret
                exact stEnd_err HE3.out rfl S6.out.frm
              | ok s6 =>
                rw [hp] at hP
                obtain ⟨rfl, hS6⟩ := hP
                have S6 := hid hS6
                have HE3 := hid (HE2.out.trans hp)
                clear hS6 hp
                go_wp2_with fail
                go_ret
                exact stEnd_ok HE3.out rfl S6.out
end Go.Proofs.Ytegmbjkpjglgpaa

namespace Go.Proofs.Ytegmbjkpjglgpaa
open Go.RowKit

theorem rdC_len (l : Cd.SL) (bt : Nat → Nat) (N : Nat) : ∀ (f n c s m : Nat), Cd.rdC l bt N f n c = .sym s m → n ≤ m ∧ m ≤ N
  | 0, _, _, _, _, h => by cases h
  | f + 1, n, c, s, m, h => by
    unfold Cd.rdC at h
    split at h
    · cases h
    · split at h
      · injection h with h1 h2
        omega
      · split at h
        · have := rdC_len l bt N f _ _ _ _ h
          omega
        · cases h
theorem symM_gt {l L : List Int} {k y k1 : Nat} (h : symM l L k = .ok (y, k1)) : k < k1 ∧ k1 ≤ L.length := by
  unfold symM at h
  split at h
  · cases h
  · cases hr : Cd.rdC (slOf l) (btF L k) (L.length - k) 16 1 0 with
    | sym s n =>
      rw [hr] at h
      injection h with h
      injection h with h1 h2
      have := rdC_len _ _ _ _ _ _ _ _ hr
      omega
    | short => rw [hr] at h; cases h
    | bad => rw [hr] at h; cases h
theorem putM_k {most : Int} {t : Int × Int} {s s2 : Sk} (h : putM most t s = .ok s2) : s2.k = s.k := by
  unfold putM at h
  split at h
  · cases h
  · split at h
    · cases h
    · injection h with h; rw [← h]
theorem matchM_ge {d L : List Int} {most : Int} {y : Nat} {s s2 : Sk} (h : matchM d L most y s = .ok s2) : s.k ≤ s2.k := by
  unfold matchM at h
  split at h
  · cases h
  · split at h
    · cases h
    · split at h
      · cases h
      · rename_i hs
        have h1 := symM_gt hs
        split at h
        · cases h
        · split at h
          · cases h
          · have := putM_k h
            simp only at this
            omega
def kOf (g : Nat) (w : World) : Nat := (intOf ((w.cell? ⟨g, 2, none⟩).getD undef)).toNat
theorem kOf_st {v : Ev} {w : World} {s : Sk} {lp dp : Value} {bs : List (Nat × BM)} (h : St v w s lp dp bs) : kOf v.gr w = s.k := by
  unfold kOf
  rw [h.rd.blk.cell 2]
  rfl
set_option maxRecDepth 100000 in
set_option maxHeartbeats 8000000 in
theorem symbols_any (v : Ev) (s : Sk) (gl gd : Nat) (bL bD : BM) (l d : List Int) (bs : List (Nat × BM)) (hbl : (gl, bL) ∈ bs) (hbd : (gd, bD) ∈ bs) (hBl : BookOf l bL) (hBd : BookOf d bD) (hl : lensB l = true) (hd : lensB d = true) (W : World) (h : St v W s (.pointer (some ⟨gl, 0, none⟩)) (.pointer (some ⟨gd, 0, none⟩)) bs) :
    Calls Try.prog 119 #[.pointer (some ⟨v.g, 0, none⟩)] W (StEnd v (.pointer (some ⟨gl, 0, none⟩)) (.pointer (some ⟨gd, 0, none⟩)) bs (symsAll l d (bitsL v.bl) v.most s)) := by
  have H := hid h
  have Hbl := hid hbl
  have Hbd := hid hbd
  have HBl := hid hBl
  have HBd := hid hBd
  have Hl := hid hl
  have Hd := hid hd
  obtain ⟨N, hN⟩ : ∃ N, N = (bitsL v.bl).length := ⟨_, rfl⟩
  have HN := hid hN
  have Hs := hid (show symsAll l d (bitsL v.bl) v.most s = symsM l d (bitsL v.bl) v.most (N + 1 - s.k) s by unfold symsAll; rw [← hN])
  clear h hbl hbd hBl hBd hl hd hN
  go_enter Try.func119, Try.ntmps119
  go_wp2_with fail
  go_loopw [4] (fun _ wr => ∃ (sj : Sk) (f : Nat), Hid (N + 1 ≤ f + sj.k) ∧ Hid (symsAll l d (bitsL v.bl) v.most s = symsM l d (bitsL v.bl) v.most f sj) ∧ Hid (St v wr sj (.pointer (some ⟨gl, 0, none⟩)) (.pointer (some ⟨gd, 0, none⟩)) bs)) (fun _ wr => N + 1 - kOf v.gr wr)
  case atStart => exact ⟨s, _, hid (by omega), Hs, H⟩
  case round =>
    obtain ⟨sj, f, Hk, He, S⟩ := hrel
    have hkN : sj.k ≤ N := by rw [HN.out, bitsL_length]; exact S.out.rd.at_
    obtain ⟨f1, hf1⟩ : ∃ f1, f = f1 + 1 := ⟨f - 1, by have := Hk.out; omega⟩
    have Hf1 := hid hf1
    have Hm := hid (kOf_st S.out)
    obtain ⟨T, tc, hk, _⟩ := S.out.tok
    unfold workCs at hk
    have c0 := hk.cell 0
    have c1 := hk.cell 1
    have c2 := hk.cell 2
    have c3 := hk.cell 3
    have c4 := hk.cell 4
    have c5 := hk.cell 5
    simp only [List.getElem?_toArray, List.getElem?_cons_zero, List.getElem?_cons_succ] at c0 c1 c2 c3 c4 c5
    have hgw := hk.lt
    have HkN := hid hkN
    clear hk hf1 hkN
    cases hs : symM l (bitsL v.bl) sj.k with
    | error ke =>
      have HE := hid (show symsAll l d (bitsL v.bl) v.most s = .error ke by rw [He.out, Hf1.out, symsM, hs])
      have HS := hid hs
      clear hs
      go_wp2_with fail
      go_region_with (go_at_call 140; refine (symSt v sj _ _ bs gl bL l Hbl.out HBl.out Hl.out _ (S.out.below (below_drewN (Below.refl _ _) 1))).mono ?_; intro e w3 hR; obtain ⟨rfl, hb3⟩ := symSt_err hR HS.out; have B3 := hid hb3; clear hR hb3)
      all_goals
        go_wp2_with fail
        go_ret
        exact stEnd_err HE.out rfl B3.out
    | ok yk =>
      obtain ⟨y, k1⟩ := yk
      have hgt := symM_gt hs
      have HE := hid (show symsAll l d (bitsL v.bl) v.most s = (if y = 256 then .ok ⟨k1, sj.size, sj.toks⟩ else
        match (if y < 256 then putM v.most (0, (y : Int)) ⟨k1, sj.size, sj.toks⟩ else matchM d (bitsL v.bl) v.most y ⟨k1, sj.size, sj.toks⟩) with
        | .error e => .error e
        | .ok s2 => symsM l d (bitsL v.bl) v.most f1 s2) by rw [He.out, Hf1.out, symsM, hs]; rfl)
      have HS := hid hs
      have Hgt := hid hgt
      clear hs hgt
      go_wp2_with fail
      go_region_with (go_at_call 140; refine (symSt v sj _ _ bs gl bL l Hbl.out HBl.out Hl.out _ (S.out.below (below_drewN (Below.refl _ _) 1))).mono ?_; intro e w3 hR; obtain ⟨rfl, hS3⟩ := symSt_ok hR HS.out; have S3 := hid hS3; clear hR hS3)
      all_goals
        clear c0 c1 c2 c3 c4 c5 hgw
        obtain ⟨T3, tc3, hk3, _⟩ := S3.out.tok
        have hgw := hk3.lt
        clear hk3
        by_cases h256 : y = 256
        · have HE2 := hid (HE.out.trans (if_pos h256))
          have n0 : ((y : Int) == 256) = true := by rw [beq_iff_eq]; omega
          have n1 : (y == 256) = true := by rw [beq_iff_eq]; omega
          clear h256
          go_wp2_with fail
          go_ret
          exact stEnd_ok HE2.out rfl S3.out
        · have HE2 := hid (HE.out.trans (if_neg h256))
          have n0 : ((y : Int) == 256) = false := by rw [beq_eq_false_iff_ne]; omega
          have n1 : (y == 256) = false := by rw [beq_eq_false_iff_ne]; omega
          by_cases hlt : y < 256
          · have d0 : decide (y < 256) = true := decide_eq_true hlt
            have d1 : decide ((y : Int) < 256) = true := decide_eq_true (by omega)
            rw [if_pos hlt] at HE2
            clear h256 hlt
            go_wp2_with fail
            refine (putW_any v ⟨k1, sj.size, sj.toks⟩ 0 (y : Int) _ _ bs _ S3.out (.inl rfl)).mono ?_
            intro e w5 hP
            unfold PutW at hP
            cases hp : putM v.most (0, (y : Int)) ⟨k1, sj.size, sj.toks⟩ with
            | error kp =>
              rw [hp] at hP
              obtain ⟨rfl, hS6⟩ := hP
              have S6 := hid hS6
              have HE3 := hid (show symsAll l d (bitsL v.bl) v.most s = .error kp by rw [HE2.out, hp])
              clear hS6 hp
              go_wp2_with fail
              go_ret
              exact stEnd_err HE3.out rfl S6.out.frm
            | ok s6 =>
              rw [hp] at hP
              obtain ⟨rfl, hS6⟩ := hP
              have S6 := hid hS6
              have HE3 := hid (show symsAll l d (bitsL v.bl) v.most s = symsM l d (bitsL v.bl) v.most f1 s6 by rw [HE2.out, hp])
              have Hk6 := hid (show s6.k = k1 from putM_k hp)
              clear hS6 hp
              go_wp2_with fail
              exact ⟨⟨s6, f1, hid (by have := Hk.out; have := Hf1.out; have := Hgt.out; have := Hk6.out; omega), HE3, S6⟩, by rw [Hm.out, kOf_st S6.out, Hk6.out]; have := Hgt.out; have := HkN.out; omega⟩
          · have d0 : decide (y < 256) = false := decide_eq_false hlt
            have d1 : decide ((y : Int) < 256) = false := decide_eq_false (by omega)
            have hy7 : 257 ≤ y := by omega
            rw [if_neg hlt] at HE2
            clear h256 hlt
            go_wp2_with fail
            refine (match_any v ⟨k1, sj.size, sj.toks⟩ _ gd bD d bs Hbd.out HBd.out Hd.out y hy7 _ S3.out).mono ?_
            intro e w5 hP
            unfold StEnd at hP
            cases hp : matchM d (bitsL v.bl) v.most y ⟨k1, sj.size, sj.toks⟩ with
            | error kp =>
              rw [hp] at hP
              obtain ⟨rfl, hS6⟩ := hP
              have S6 := hid hS6
              have HE3 := hid (show symsAll l d (bitsL v.bl) v.most s = .error kp by rw [HE2.out, hp])
              clear hS6 hp
              go_wp2_with fail
              go_ret
              exact stEnd_err HE3.out rfl S6.out
            | ok s6 =>
              rw [hp] at hP
              obtain ⟨rfl, hS6⟩ := hP
              have S6 := hid hS6
              have HE3 := hid (show symsAll l d (bitsL v.bl) v.most s = symsM l d (bitsL v.bl) v.most f1 s6 by rw [HE2.out, hp])
              have Hk6 := hid (show k1 ≤ s6.k from matchM_ge hp)
              clear hS6 hp
              go_wp2_with fail
              exact ⟨⟨s6, f1, hid (by have := Hk.out; have := Hf1.out; have := Hgt.out; have := Hk6.out; omega), HE3, S6⟩, by rw [Hm.out, kOf_st S6.out]; have := Hgt.out; have := HkN.out; have := Hk6.out; omega⟩
end Go.Proofs.Ytegmbjkpjglgpaa
