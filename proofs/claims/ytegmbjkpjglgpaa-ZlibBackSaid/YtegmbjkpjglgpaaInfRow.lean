/-
  inflate: lengths, by a book of lengths.
-/
import Derived.Test.YtegmbjkpjglgpaaInfBnd
import Derived.Test.YtegmbjkpjglgpaaInfSyms
import Derived.Test.YtegmbjkpjglgpaaRepB
namespace Go.Proofs.Ytegmbjkpjglgpaa
open Go.RowKit

theorem rowM_step {sm L : List Int} {size f k : Nat} {out : List Int} {y k1 : Nat} (h : ¬ size ≤ out.length) (hs : symM sm L k = .ok (y, k1)) (hn : ¬ (y = 16 ∧ out = [])) (e : Nat) (l val : Int) (he : (if y = 16 then 2 else if y = 17 then 3 else if y = 18 then 7 else 0) = e) (hl : (if y = 16 then 3 else if y = 17 then 3 else if y = 18 then 11 else 1) = l) (hv : (if y = 16 then out.getD (out.length - 1) 0 else if y = 17 then 0 else if y = 18 then 0 else (y : Int)) = val) :
    rowM sm L size (f + 1) k out = match tkM L k1 e with
      | none => .error 8
      | some v => if (size : Int) - out.length < v + l then .error 2 else rowM sm L size f (k1 + e) (out ++ List.replicate (v + l).toNat val) := by
  rw [rowM, if_neg h, hs]
  dsimp only
  rw [if_neg hn, he, hl, hv]
  cases tkM L k1 e <;> rfl
theorem rdi_one (w : World) (x : Int) : RdI (w.alloc (.cells #[.int .i64 x] 3)) (w.alloc (.cells #[.int .i64 x] 3)).heap.size (some ⟨w.heap.size, 0, none⟩) [x] := by
  refine IRow.rdi (.inr ⟨w.heap.size, 0, _, rfl, Blk.new w _ _, fun j u hu => ?_⟩)
  rw [intsV_eq] at hu
  simpa [intsV] using hu
def lenOfV : Value → Nat
  | .slice _ n _ => n
  | _ => 0
theorem intsV_app (l m : List Int) : intsV (l ++ m) = intsV l ++ intsV m := by simp [intsV]
/-- how the lengths' reading ends -/
def RowEnd (v : Ev) (s : Sk) (lp dp : Value) (bs : List (Nat × BM)) (W : World) (r : Except Int (Nat × List Int)) (e : Ending) (w' : World) : Prop :=
  match r with
  | .error k => e = .returned (.tuple #[.slice none 0 0, .iface 40 (.int .i64 k)]) ∧ Below v.B v.W0 w'
  | .ok (k1, out) => ∃ A c, e = .returned (.tuple #[.slice A out.length c, .nilIface]) ∧ w'.ownsRow W.heap.size 3 1 (.slice A out.length c) out.length (intsV out) ∧ St v w' ⟨k1, s.size, s.toks⟩ lp dp bs
theorem rowEnd_err {v : Ev} {s : Sk} {lp dp : Value} {bs : List (Nat × BM)} {W : World} {r : Except Int (Nat × List Int)} {e : Ending} {w' : World} {k : Int} (h : r = .error k) (he : e = .returned (.tuple #[.slice none 0 0, .iface 40 (.int .i64 k)])) (hb : Below v.B v.W0 w') : RowEnd v s lp dp bs W r e w' := by rw [h]; exact ⟨he, hb⟩
set_option maxRecDepth 100000 in
set_option maxHeartbeats 8000000 in
theorem row_any (v : Ev) (s : Sk) (lp dp : Value) (bs : List (Nat × BM)) (gb : Nat) (b : BM) (sm : List Int) (hb : (gb, b) ∈ bs) (hB : BookOf sm b) (hl : lensB sm = true) (size : Nat) (hsz : size ≤ 1000) (W : World) (h : St v W s lp dp bs) :
    Calls Try.prog 138 #[.pointer (some ⟨v.g, 0, none⟩), .pointer (some ⟨gb, 0, none⟩), .int .i64 (size : Int)] W (RowEnd v s lp dp bs W (rowM sm (bitsL v.bl) size size s.k [])) := by
  have H := hid h
  have Hb := hid hb
  have HB := hid hB
  have Hl := hid hl
  obtain ⟨i0, hi0, hz0, hz1, hz2⟩ := info_parts int_info
  have Hi0 := hid hi0
  have Hz0 := hid hz0
  have Hz1 := hid hz1
  have Hz2 := hid hz2
  clear h hb hB hl hi0 hz0 hz1 hz2
  go_enter Try.func138, Try.ntmps138
  go_wp2_with fail
  go_loopw [8] (fun v8 wr => ∃ (f n k : Nat) (A' : Option Addr) (c' : Nat) (out : List Int), v8 = .slice A' n c' ∧ n ≤ size ∧ Hid (size ≤ f + n) ∧ Hid (n = out.length) ∧ Hid (rowM sm (bitsL v.bl) size size s.k [] = rowM sm (bitsL v.bl) size f k out) ∧ Hid (wr.ownsRow W.heap.size 3 1 (.slice A' n c') n (intsV out)) ∧ Hid (BR wr v.gr v.A v.c v.bl k) ∧ Hid (W.grownBy wr (some v.gr))) (fun v8 _ => size - lenOfV v8)
  case atStart => exact ⟨size, 0, s.k, none, 0, [], rfl, by omega, hid (by omega), hid rfl, hid rfl, hid (World.ownsRow_nil _ _ _ _), hid H.out.rd, hid (World.grownBy.refl _ _)⟩
  case round =>
    obtain ⟨f, n, k, A', c', out, rfl, hns, Hf, Hn, He, Ho, R, G⟩ := hrel
    by_cases hlt : n < size
    · have d1 : decide (n < size) = true := decide_eq_true hlt
      have d2 : decide ((n : Int) < (size : Int)) = true := decide_eq_true (by omega)
      obtain ⟨fu, hfu⟩ : ∃ fu, f = fu + 1 := ⟨f - 1, by have := Hf.out; omega⟩
      have Hfu := hid hfu
      have S := hid (H.out.turn R.out G.out)
      obtain ⟨T, tc, hk, _⟩ := S.out.tok
      unfold workCs at hk
      have c0 := hk.cell 0
      simp only [List.getElem?_toArray, List.getElem?_cons_zero] at c0
      have hgw := hk.lt
      have Hge := hid (show ¬ size ≤ out.length by rw [← Hn.out]; omega)
      clear hk hfu
      cases hs : symM sm (bitsL v.bl) k with
      | error ke =>
        have HE := hid (show rowM sm (bitsL v.bl) size size s.k [] = .error ke by rw [He.out, Hfu.out, rowM, if_neg Hge.out, hs])
        have HS := hid hs
        clear hs
        go_wp2_with fail
        refine (symSt v ⟨k, s.size, s.toks⟩ _ _ bs gb b sm Hb.out HB.out Hl.out _ S.out).mono ?_
        intro e w3 hR
        obtain ⟨rfl, hb3⟩ := symSt_err hR HS.out
        have B3 := hid hb3
        clear hR hb3
        go_wp2_with fail
        go_ret2
        exact rowEnd_err HE.out rfl B3.out.1
      | ok yk =>
        obtain ⟨y, k1⟩ := yk
        have HS := hid hs
        clear hs
        go_wp2_with fail
        refine (symSt v ⟨k, s.size, s.toks⟩ _ _ bs gb b sm Hb.out HB.out Hl.out _ S.out).mono ?_
        intro e w3 hR
        have hg3 := hR.1
        obtain ⟨rfl, hS3⟩ := symSt_ok hR HS.out
        have S3 := hid hS3
        have O3 := hid (own_turn S.out hg3 Ho.out)
        have G3 := hid (gr_trans1 G.out hg3)
        obtain ⟨T3, tc3, hk3, _⟩ := hS3.tok
        clear hR hS3 hg3 c0 hgw S Ho G R
        unfold workCs at hk3
        have c0 := hk3.cell 0
        simp only [List.getElem?_toArray, List.getElem?_cons_zero] at c0
        have hgw := hk3.lt
        clear hk3
        by_cases h16 : y = 16
        · have n16 : ((y : Int) == 16) = true := by rw [beq_iff_eq]; omega
          have n16b : (y == 16) = true := by rw [beq_iff_eq]; omega
          by_cases hn0 : n = 0
          · have HE := hid (show rowM sm (bitsL v.bl) size size s.k [] = .error 2 by rw [He.out, Hfu.out, rowM, if_neg Hge.out, HS.out]; dsimp only; rw [if_pos ⟨h16, List.eq_nil_of_length_eq_zero (by rw [← Hn.out]; exact hn0)⟩])
            have d0 : (n == 0) = true := by rw [beq_iff_eq]; exact hn0
            have d0b : ((n : Int) == 0) = true := by rw [beq_iff_eq]; omega
            clear h16 hn0
            go_wp2_with fail
            go_ret2
            exact rowEnd_err HE.out rfl S3.out.fr
          · have d0 : (n == 0) = false := by rw [beq_eq_false_iff_ne]; exact hn0
            have d0b : ((n : Int) == 0) = false := by rw [beq_eq_false_iff_ne]; omega
            obtain ⟨ab, u, rfl, _, hab, hu, q0⟩ := own_cell (j := n - 1) O3.out (by omega)
            obtain ⟨vl, rfl⟩ : ∃ vl, u = .int .i64 vl := by
              unfold intsV at hu
              rw [List.getElem?_map] at hu
              cases hx : out[n - 1]? with
              | none => rw [hx] at hu; cases hu
              | some x => rw [hx] at hu; exact ⟨x, (Option.some.inj hu).symm⟩
            have hvl : out.getD (out.length - 1) 0 = vl := by
              unfold intsV at hu
              rw [List.getElem?_map] at hu
              rw [← Hn.out, List.getD_eq_getElem?_getD]
              cases hx : out[n - 1]? with
              | none => rw [hx] at hu; cases hu
              | some x => rw [hx] at hu; injection hu with hu; injection hu
            obtain ⟨n1, hn1⟩ : ∃ n1, n1 = n - 1 := ⟨_, rfl⟩
            have tw1 : IntKind.i64.wrap ((n : Int) - 1) = (n1 : Int) := (IntWalk.i64_in _ (by omega)).trans (by omega)
            have hn1n : n1 < n := by omega
            rw [← hn1] at q0
            have HX := hid (fun (Z : Except Int (Nat × List Int)) (hZ : (match tkM (bitsL v.bl) k1 2 with | none => .error 8 | some x => if (size : Int) - out.length < x + 3 then .error 2 else rowM sm (bitsL v.bl) size fu (k1 + 2) (out ++ List.replicate (x + 3).toNat vl)) = Z) => (show rowM sm (bitsL v.bl) size size s.k [] = Z by
              rw [He.out, Hfu.out, rowM_step (f := fu) Hge.out HS.out (fun h => hn0 (by rw [Hn.out, h.2]; rfl)) 2 3 vl (by rw [if_pos h16]) (by rw [if_pos h16]) (by rw [if_pos h16, hvl])]; exact hZ))
            clear h16 hn0 hn1 hu hvl
            cases ht : tkM (bitsL v.bl) k1 2 with
            | none =>
              have HE := hid (HX.out (.error 8) (by rw [ht]))
              have Ht := hid ht
              clear ht
              go_wp2_with fail
              refine (takeSt_none v ⟨k1, s.size, s.toks⟩ _ _ bs 2 (by decide) _ S3.out Ht.out).mono ?_
              rintro e w4 ⟨rfl, hS4, _⟩
              have S4 := hid hS4
              clear hS4
              go_wp2_with fail
              go_ret2
              exact rowEnd_err HE.out rfl S4.out.fr
            | some xi =>
              have hxb := tkM_bd (bitsL_bit v.bl) ht
              obtain ⟨x, rfl⟩ := Int.eq_ofNat_of_zero_le hxb.1
              have hx128 : x < 128 := by have h7 := pow_mono (show 2 ≤ 7 by omega); have : (2 : Int) ^ 7 = 128 := by decide
                                         omega
              obtain ⟨cnt, hcnt⟩ : ∃ cnt, cnt = x + 3 := ⟨_, rfl⟩
              obtain ⟨rem, hrem⟩ : ∃ rem, rem = size - n := ⟨_, rfl⟩
              have tw2 : IntKind.i64.wrap ((x : Int) + 3) = (cnt : Int) := (IntWalk.i64_in _ (by omega)).trans (by omega)
              have tw3 : IntKind.i64.wrap ((size : Int) - (n : Int)) = (rem : Int) := (IntWalk.i64_in _ (by omega)).trans (by omega)
              have HXs := hid (HX.out _ (by rw [ht]))
              have Ht := hid ht
              have Hcnt := hid hcnt
              have Hrem := hid hrem
              have hc1 : 1 ≤ cnt ∧ cnt ≤ 139 := by omega
              have hr1 : rem + n = size := by omega
              clear ht hcnt hrem hxb
              by_cases hbig : rem < cnt
              · have db : decide (rem < cnt) = true := decide_eq_true hbig
                have db2 : decide ((rem : Int) < (cnt : Int)) = true := decide_eq_true (by omega)
                have HE := hid (HXs.out.trans (if_pos (by rw [← Hn.out]; have := Hcnt.out; have := Hrem.out; omega)))
                clear hbig
                go_wp2_with fail
                refine (takeSt_some v ⟨k1, s.size, s.toks⟩ _ _ bs 2 (by decide) x _ S3.out Ht.out).mono ?_
                rintro e w4 ⟨rfl, hS4, _⟩
                have S4 := hid hS4
                clear hS4
                go_wp2_with fail
                go_ret2
                exact rowEnd_err HE.out rfl S4.out.fr
              · have db : decide (rem < cnt) = false := decide_eq_false hbig
                have db2 : decide ((rem : Int) < (cnt : Int)) = false := decide_eq_false (by omega)
                have HE := hid (HXs.out.trans (if_neg (by rw [← Hn.out]; have := Hcnt.out; have := Hrem.out; omega)))
                have Hcn := hid (show (((x : Nat) : Int) + 3).toNat = cnt by have := Hcnt.out; omega)
                have hbg : cnt ≤ rem := by omega
                clear hbig
                go_wp2_with fail
                refine (takeSt_some v ⟨k1, s.size, s.toks⟩ _ _ bs 2 (by decide) x _ S3.out Ht.out).mono ?_
                rintro e w4 ⟨rfl, hS4, hg4⟩
                have S4 := hid hS4
                have O4 := hid (own_turn S3.out hg4 O3.out)
                have G4 := hid (gr_trans1 G3.out hg4)
                clear hS4 hg4 S3 O3 G3 c0 hgw q0 hab
                go_wp2_with fail
                refine (repeat_any w4.heap.size 1 vl cnt _ (by omega) (by omega) (rdi_one w4 vl)).mono ?_
                rintro e w5 ⟨gq, rfl, hgq, hBq, hb5⟩
                have hb45 := (below_alloc1 w4 (.cells #[.int .i64 vl] 3)).trans (hb5.mono (by simp))
                have O5 := hid (own_below O4.out hb45 (Nat.le_refl _))
                have R5 := hid (S4.out.rd.below hb45)
                have G5 := hid (gr_below1 G4.out hb45)
                have Q5 := hid (own_rd (own_of_blk (base := 0) (n := cnt) hBq (Nat.zero_le _) (by rw [intsV_length, List.length_replicate]) (by unfold maxLen; omega)))
                clear hgq hBq hb5 hb45 S4 O4 G4
                go_wp2_with (at_builtin; refine wpList_app _ rfl _ _ _ rfl W.heap.size 3 i0 (.int .i64 0) 1 8 Try.underlying53 Hi0.out Hz0.out Hz1.out Hz2.out rfl (by omega) (some ⟨ab, 0, none⟩) n c' (intsV out) rfl O5.out _ _ cnt cnt (intsV (List.replicate cnt vl)) rfl Q5.out (by simp) intsV_cells (by simp only [maxLen]; omega) (by omega) (by have := G5.out.size; omega) ?_; intro A6 c6 w6 ha6; have Ha6 := hid ha6; clear ha6)
                obtain ⟨hown6, hgr6, hb6, _⟩ := Ha6.out
                refine ⟨⟨fu, n + cnt, k1 + 2, A6, c6, out ++ List.replicate cnt vl, rfl, by omega, hid (by have := Hf.out; have := Hfu.out; omega), hid (by rw [List.length_append, Hn.out, List.length_replicate]), hid (by rw [HE.out, Hcn.out]), hid (by rw [intsV_app]; exact hown6), hid (R5.out.app O5.out hgr6), hid (gr_belowC G5.out hb6)⟩, by simp [lenOfV]; omega⟩
        · have n16 : ((y : Int) == 16) = false := by rw [beq_eq_false_iff_ne]; omega
          have n16b : (y == 16) = false := by rw [beq_eq_false_iff_ne]; omega
          by_cases h17 : y = 17
          · have n17 : ((y : Int) == 17) = true := by rw [beq_iff_eq]; omega
            have n17b : (y == 17) = true := by rw [beq_iff_eq]; omega
            have HX := hid (fun (Z : Except Int (Nat × List Int)) (hZ : (match tkM (bitsL v.bl) k1 3 with | none => .error 8 | some x => if (size : Int) - out.length < x + 3 then .error 2 else rowM sm (bitsL v.bl) size fu (k1 + 3) (out ++ List.replicate (x + 3).toNat 0)) = Z) => (show rowM sm (bitsL v.bl) size size s.k [] = Z by
              rw [He.out, Hfu.out, rowM_step (f := fu) Hge.out HS.out (fun h => h16 h.1) 3 3 0 (by rw [if_neg h16, if_pos h17]) (by rw [if_neg h16, if_pos h17]) (by rw [if_neg h16, if_pos h17])]; exact hZ))
            clear h16 h17
            cases ht : tkM (bitsL v.bl) k1 3 with
            | none =>
              have HE := hid (HX.out (.error 8) (by rw [ht]))
              have Ht := hid ht
              clear ht
              go_wp2_with fail
              refine (takeSt_none v ⟨k1, s.size, s.toks⟩ _ _ bs 3 (by decide) _ S3.out Ht.out).mono ?_
              rintro e w4 ⟨rfl, hS4, _⟩
              have S4 := hid hS4
              clear hS4
              go_wp2_with fail
              go_ret2
              exact rowEnd_err HE.out rfl S4.out.fr
            | some xi =>
              have hxb := tkM_bd (bitsL_bit v.bl) ht
              obtain ⟨x, rfl⟩ := Int.eq_ofNat_of_zero_le hxb.1
              have hx128 : x < 128 := by have h7 := pow_mono (show 3 ≤ 7 by omega); have : (2 : Int) ^ 7 = 128 := by decide
                                         omega
              obtain ⟨cnt, hcnt⟩ : ∃ cnt, cnt = x + 3 := ⟨_, rfl⟩
              obtain ⟨rem, hrem⟩ : ∃ rem, rem = size - n := ⟨_, rfl⟩
              have tw2 : IntKind.i64.wrap ((x : Int) + 3) = (cnt : Int) := (IntWalk.i64_in _ (by omega)).trans (by omega)
              have tw3 : IntKind.i64.wrap ((size : Int) - (n : Int)) = (rem : Int) := (IntWalk.i64_in _ (by omega)).trans (by omega)
              have HXs := hid (HX.out _ (by rw [ht]))
              have Ht := hid ht
              have Hcnt := hid hcnt
              have Hrem := hid hrem
              have hc1 : 1 ≤ cnt ∧ cnt ≤ 139 := by omega
              have hr1 : rem + n = size := by omega
              clear ht hcnt hrem hxb
              by_cases hbig : rem < cnt
              · have db : decide (rem < cnt) = true := decide_eq_true hbig
                have db2 : decide ((rem : Int) < (cnt : Int)) = true := decide_eq_true (by omega)
                have HE := hid (HXs.out.trans (if_pos (by rw [← Hn.out]; have := Hcnt.out; have := Hrem.out; omega)))
                clear hbig
                go_wp2_with fail
                refine (takeSt_some v ⟨k1, s.size, s.toks⟩ _ _ bs 3 (by decide) x _ S3.out Ht.out).mono ?_
                rintro e w4 ⟨rfl, hS4, _⟩
                have S4 := hid hS4
                clear hS4
                go_wp2_with fail
                go_ret2
                exact rowEnd_err HE.out rfl S4.out.fr
              · have db : decide (rem < cnt) = false := decide_eq_false hbig
                have db2 : decide ((rem : Int) < (cnt : Int)) = false := decide_eq_false (by omega)
                have HE := hid (HXs.out.trans (if_neg (by rw [← Hn.out]; have := Hcnt.out; have := Hrem.out; omega)))
                have Hcn := hid (show (((x : Nat) : Int) + 3).toNat = cnt by have := Hcnt.out; omega)
                have hbg : cnt ≤ rem := by omega
                clear hbig
                go_wp2_with fail
                refine (takeSt_some v ⟨k1, s.size, s.toks⟩ _ _ bs 3 (by decide) x _ S3.out Ht.out).mono ?_
                rintro e w4 ⟨rfl, hS4, hg4⟩
                have S4 := hid hS4
                have O4 := hid (own_turn S3.out hg4 O3.out)
                have G4 := hid (gr_trans1 G3.out hg4)
                clear hS4 hg4 S3 O3 G3 c0 hgw 
                go_wp2_with fail
                refine (repeat_any w4.heap.size 1 0 cnt _ (by omega) (by omega) (rdi_one w4 0)).mono ?_
                rintro e w5 ⟨gq, rfl, hgq, hBq, hb5⟩
                have hb45 := (below_alloc1 w4 (.cells #[.int .i64 0] 3)).trans (hb5.mono (by simp))
                have O5 := hid (own_below O4.out hb45 (Nat.le_refl _))
                have R5 := hid (S4.out.rd.below hb45)
                have G5 := hid (gr_below1 G4.out hb45)
                have Q5 := hid (own_rd (own_of_blk (base := 0) (n := cnt) hBq (Nat.zero_le _) (by rw [intsV_length, List.length_replicate]) (by unfold maxLen; omega)))
                clear hgq hBq hb5 hb45 S4 O4 G4
                go_wp2_with (at_builtin; refine wpList_app _ rfl _ _ _ rfl W.heap.size 3 i0 (.int .i64 0) 1 8 Try.underlying53 Hi0.out Hz0.out Hz1.out Hz2.out rfl (by omega) A' n c' (intsV out) rfl O5.out _ _ cnt cnt (intsV (List.replicate cnt 0)) rfl Q5.out (by simp) intsV_cells (by simp only [maxLen]; omega) (by omega) (by have := G5.out.size; omega) ?_; intro A6 c6 w6 ha6; have Ha6 := hid ha6; clear ha6)
                obtain ⟨hown6, hgr6, hb6, _⟩ := Ha6.out
                refine ⟨⟨fu, n + cnt, k1 + 3, A6, c6, out ++ List.replicate cnt 0, rfl, by omega, hid (by have := Hf.out; have := Hfu.out; omega), hid (by rw [List.length_append, Hn.out, List.length_replicate]), hid (by rw [HE.out, Hcn.out]), hid (by rw [intsV_app]; exact hown6), hid (R5.out.app O5.out hgr6), hid (gr_belowC G5.out hb6)⟩, by simp [lenOfV]; omega⟩
          · have n17 : ((y : Int) == 17) = false := by rw [beq_eq_false_iff_ne]; omega
            have n17b : (y == 17) = false := by rw [beq_eq_false_iff_ne]; omega
            by_cases h18 : y = 18
            · have n18 : ((y : Int) == 18) = true := by rw [beq_iff_eq]; omega
              have n18b : (y == 18) = true := by rw [beq_iff_eq]; omega
              have HX := hid (fun (Z : Except Int (Nat × List Int)) (hZ : (match tkM (bitsL v.bl) k1 7 with | none => .error 8 | some x => if (size : Int) - out.length < x + 11 then .error 2 else rowM sm (bitsL v.bl) size fu (k1 + 7) (out ++ List.replicate (x + 11).toNat 0)) = Z) => (show rowM sm (bitsL v.bl) size size s.k [] = Z by
                rw [He.out, Hfu.out, rowM_step (f := fu) Hge.out HS.out (fun h => h16 h.1) 7 11 0 (by rw [if_neg h16, if_neg h17, if_pos h18]) (by rw [if_neg h16, if_neg h17, if_pos h18]) (by rw [if_neg h16, if_neg h17, if_pos h18])]; exact hZ))
              clear h16 h17 h18
              cases ht : tkM (bitsL v.bl) k1 7 with
              | none =>
                have HE := hid (HX.out (.error 8) (by rw [ht]))
                have Ht := hid ht
                clear ht
                go_wp2_with fail
                refine (takeSt_none v ⟨k1, s.size, s.toks⟩ _ _ bs 7 (by decide) _ S3.out Ht.out).mono ?_
                rintro e w4 ⟨rfl, hS4, _⟩
                have S4 := hid hS4
                clear hS4
                go_wp2_with fail
                go_ret2
                exact rowEnd_err HE.out rfl S4.out.fr
              | some xi =>
                have hxb := tkM_bd (bitsL_bit v.bl) ht
                obtain ⟨x, rfl⟩ := Int.eq_ofNat_of_zero_le hxb.1
                have hx128 : x < 128 := by have h7 := pow_mono (show 7 ≤ 7 by omega); have : (2 : Int) ^ 7 = 128 := by decide
                                           omega
                obtain ⟨cnt, hcnt⟩ : ∃ cnt, cnt = x + 11 := ⟨_, rfl⟩
                obtain ⟨rem, hrem⟩ : ∃ rem, rem = size - n := ⟨_, rfl⟩
                have tw2 : IntKind.i64.wrap ((x : Int) + 11) = (cnt : Int) := (IntWalk.i64_in _ (by omega)).trans (by omega)
                have tw3 : IntKind.i64.wrap ((size : Int) - (n : Int)) = (rem : Int) := (IntWalk.i64_in _ (by omega)).trans (by omega)
                have HXs := hid (HX.out _ (by rw [ht]))
                have Ht := hid ht
                have Hcnt := hid hcnt
                have Hrem := hid hrem
                have hc1 : 1 ≤ cnt ∧ cnt ≤ 139 := by omega
                have hr1 : rem + n = size := by omega
                clear ht hcnt hrem hxb
                by_cases hbig : rem < cnt
                · have db : decide (rem < cnt) = true := decide_eq_true hbig
                  have db2 : decide ((rem : Int) < (cnt : Int)) = true := decide_eq_true (by omega)
                  have HE := hid (HXs.out.trans (if_pos (by rw [← Hn.out]; have := Hcnt.out; have := Hrem.out; omega)))
                  clear hbig
                  go_wp2_with fail
                  refine (takeSt_some v ⟨k1, s.size, s.toks⟩ _ _ bs 7 (by decide) x _ S3.out Ht.out).mono ?_
                  rintro e w4 ⟨rfl, hS4, _⟩
                  have S4 := hid hS4
                  clear hS4
                  go_wp2_with fail
                  go_ret2
                  exact rowEnd_err HE.out rfl S4.out.fr
                · have db : decide (rem < cnt) = false := decide_eq_false hbig
                  have db2 : decide ((rem : Int) < (cnt : Int)) = false := decide_eq_false (by omega)
                  have HE := hid (HXs.out.trans (if_neg (by rw [← Hn.out]; have := Hcnt.out; have := Hrem.out; omega)))
                  have Hcn := hid (show (((x : Nat) : Int) + 11).toNat = cnt by have := Hcnt.out; omega)
                  have hbg : cnt ≤ rem := by omega
                  clear hbig
                  go_wp2_with fail
                  refine (takeSt_some v ⟨k1, s.size, s.toks⟩ _ _ bs 7 (by decide) x _ S3.out Ht.out).mono ?_
                  rintro e w4 ⟨rfl, hS4, hg4⟩
                  have S4 := hid hS4
                  have O4 := hid (own_turn S3.out hg4 O3.out)
                  have G4 := hid (gr_trans1 G3.out hg4)
                  clear hS4 hg4 S3 O3 G3 c0 hgw 
                  go_wp2_with fail
                  refine (repeat_any w4.heap.size 1 0 cnt _ (by omega) (by omega) (rdi_one w4 0)).mono ?_
                  rintro e w5 ⟨gq, rfl, hgq, hBq, hb5⟩
                  have hb45 := (below_alloc1 w4 (.cells #[.int .i64 0] 3)).trans (hb5.mono (by simp))
                  have O5 := hid (own_below O4.out hb45 (Nat.le_refl _))
                  have R5 := hid (S4.out.rd.below hb45)
                  have G5 := hid (gr_below1 G4.out hb45)
                  have Q5 := hid (own_rd (own_of_blk (base := 0) (n := cnt) hBq (Nat.zero_le _) (by rw [intsV_length, List.length_replicate]) (by unfold maxLen; omega)))
                  clear hgq hBq hb5 hb45 S4 O4 G4
                  go_wp2_with (at_builtin; refine wpList_app _ rfl _ _ _ rfl W.heap.size 3 i0 (.int .i64 0) 1 8 Try.underlying53 Hi0.out Hz0.out Hz1.out Hz2.out rfl (by omega) A' n c' (intsV out) rfl O5.out _ _ cnt cnt (intsV (List.replicate cnt 0)) rfl Q5.out (by simp) intsV_cells (by simp only [maxLen]; omega) (by omega) (by have := G5.out.size; omega) ?_; intro A6 c6 w6 ha6; have Ha6 := hid ha6; clear ha6)
                  obtain ⟨hown6, hgr6, hb6, _⟩ := Ha6.out
                  refine ⟨⟨fu, n + cnt, k1 + 7, A6, c6, out ++ List.replicate cnt 0, rfl, by omega, hid (by have := Hf.out; have := Hfu.out; omega), hid (by rw [List.length_append, Hn.out, List.length_replicate]), hid (by rw [HE.out, Hcn.out]), hid (by rw [intsV_app]; exact hown6), hid (R5.out.app O5.out hgr6), hid (gr_belowC G5.out hb6)⟩, by simp [lenOfV]; omega⟩
            · have n18 : ((y : Int) == 18) = false := by rw [beq_eq_false_iff_ne]; omega
              have n18b : (y == 18) = false := by rw [beq_eq_false_iff_ne]; omega
              have HX := hid (fun (Z : Except Int (Nat × List Int)) (hZ : (match tkM (bitsL v.bl) k1 0 with | none => .error 8 | some x => if (size : Int) - out.length < x + 1 then .error 2 else rowM sm (bitsL v.bl) size fu (k1 + 0) (out ++ List.replicate (x + 1).toNat (y : Int))) = Z) => (show rowM sm (bitsL v.bl) size size s.k [] = Z by
                rw [He.out, Hfu.out, rowM_step (f := fu) Hge.out HS.out (fun h => h16 h.1) 0 1 (y : Int) (by rw [if_neg h16, if_neg h17, if_neg h18]) (by rw [if_neg h16, if_neg h17, if_neg h18]) (by rw [if_neg h16, if_neg h17, if_neg h18])]; exact hZ))
              clear h16 h17 h18
              cases ht : tkM (bitsL v.bl) k1 0 with
              | none =>
                have HE := hid (HX.out (.error 8) (by rw [ht]))
                have Ht := hid ht
                clear ht
                go_wp2_with fail
                refine (takeSt_none v ⟨k1, s.size, s.toks⟩ _ _ bs 0 (by decide) _ S3.out Ht.out).mono ?_
                rintro e w4 ⟨rfl, hS4, _⟩
                have S4 := hid hS4
                clear hS4
                go_wp2_with fail
                go_ret2
                exact rowEnd_err HE.out rfl S4.out.fr
              | some xi =>
                have hxb := tkM_bd (bitsL_bit v.bl) ht
                obtain ⟨x, rfl⟩ := Int.eq_ofNat_of_zero_le hxb.1
                have hx128 : x < 128 := by have h7 := pow_mono (show 0 ≤ 7 by omega); have : (2 : Int) ^ 7 = 128 := by decide
                                           omega
                obtain ⟨cnt, hcnt⟩ : ∃ cnt, cnt = x + 1 := ⟨_, rfl⟩
                obtain ⟨rem, hrem⟩ : ∃ rem, rem = size - n := ⟨_, rfl⟩
                have tw2 : IntKind.i64.wrap ((x : Int) + 1) = (cnt : Int) := (IntWalk.i64_in _ (by omega)).trans (by omega)
                have tw3 : IntKind.i64.wrap ((size : Int) - (n : Int)) = (rem : Int) := (IntWalk.i64_in _ (by omega)).trans (by omega)
                have HXs := hid (HX.out _ (by rw [ht]))
                have Ht := hid ht
                have Hcnt := hid hcnt
                have Hrem := hid hrem
                have hc1 : 1 ≤ cnt ∧ cnt ≤ 139 := by omega
                have hr1 : rem + n = size := by omega
                clear ht hcnt hrem hxb
                by_cases hbig : rem < cnt
                · have db : decide (rem < cnt) = true := decide_eq_true hbig
                  have db2 : decide ((rem : Int) < (cnt : Int)) = true := decide_eq_true (by omega)
                  have HE := hid (HXs.out.trans (if_pos (by rw [← Hn.out]; have := Hcnt.out; have := Hrem.out; omega)))
                  clear hbig
                  go_wp2_with fail
                  refine (takeSt_some v ⟨k1, s.size, s.toks⟩ _ _ bs 0 (by decide) x _ S3.out Ht.out).mono ?_
                  rintro e w4 ⟨rfl, hS4, _⟩
                  have S4 := hid hS4
                  clear hS4
                  go_wp2_with fail
                  go_ret2
                  exact rowEnd_err HE.out rfl S4.out.fr
                · have db : decide (rem < cnt) = false := decide_eq_false hbig
                  have db2 : decide ((rem : Int) < (cnt : Int)) = false := decide_eq_false (by omega)
                  have HE := hid (HXs.out.trans (if_neg (by rw [← Hn.out]; have := Hcnt.out; have := Hrem.out; omega)))
                  have Hcn := hid (show (((x : Nat) : Int) + 1).toNat = cnt by have := Hcnt.out; omega)
                  have hbg : cnt ≤ rem := by omega
                  clear hbig
                  go_wp2_with fail
                  refine (takeSt_some v ⟨k1, s.size, s.toks⟩ _ _ bs 0 (by decide) x _ S3.out Ht.out).mono ?_
                  rintro e w4 ⟨rfl, hS4, hg4⟩
                  have S4 := hid hS4
                  have O4 := hid (own_turn S3.out hg4 O3.out)
                  have G4 := hid (gr_trans1 G3.out hg4)
                  clear hS4 hg4 S3 O3 G3 c0 hgw 
                  go_wp2_with fail
                  refine (repeat_any w4.heap.size 1 (y : Int) cnt _ (by omega) (by omega) (rdi_one w4 (y : Int))).mono ?_
                  rintro e w5 ⟨gq, rfl, hgq, hBq, hb5⟩
                  have hb45 := (below_alloc1 w4 (.cells #[.int .i64 (y : Int)] 3)).trans (hb5.mono (by simp))
                  have O5 := hid (own_below O4.out hb45 (Nat.le_refl _))
                  have R5 := hid (S4.out.rd.below hb45)
                  have G5 := hid (gr_below1 G4.out hb45)
                  have Q5 := hid (own_rd (own_of_blk (base := 0) (n := cnt) hBq (Nat.zero_le _) (by rw [intsV_length, List.length_replicate]) (by unfold maxLen; omega)))
                  clear hgq hBq hb5 hb45 S4 O4 G4
                  go_wp2_with (at_builtin; refine wpList_app _ rfl _ _ _ rfl W.heap.size 3 i0 (.int .i64 0) 1 8 Try.underlying53 Hi0.out Hz0.out Hz1.out Hz2.out rfl (by omega) A' n c' (intsV out) rfl O5.out _ _ cnt cnt (intsV (List.replicate cnt (y : Int))) rfl Q5.out (by simp) intsV_cells (by simp only [maxLen]; omega) (by omega) (by have := G5.out.size; omega) ?_; intro A6 c6 w6 ha6; have Ha6 := hid ha6; clear ha6)
                  obtain ⟨hown6, hgr6, hb6, _⟩ := Ha6.out
                  refine ⟨⟨fu, n + cnt, k1 + 0, A6, c6, out ++ List.replicate cnt (y : Int), rfl, by omega, hid (by have := Hf.out; have := Hfu.out; omega), hid (by rw [List.length_append, Hn.out, List.length_replicate]), hid (by rw [HE.out, Hcn.out]), hid (by rw [intsV_app]; exact hown6), hid (R5.out.app O5.out hgr6), hid (gr_belowC G5.out hb6)⟩, by simp [lenOfV]; omega⟩
    · have d1 : decide (n < size) = false := decide_eq_false hlt
      have d2 : decide ((n : Int) < (size : Int)) = false := decide_eq_false (by omega)
      have HE := hid (show rowM sm (bitsL v.bl) size size s.k [] = .ok (k, out) by
        rw [He.out]
        cases f with
        | zero => rfl
        | succ f => rw [rowM, if_pos (by rw [← Hn.out]; omega)])
      go_wp2_with fail
      go_ret2
      unfold RowEnd
      rw [HE.out]
      refine ⟨A', c', ?_, ?_, H.out.turn R.out G.out⟩
      · rw [← Hn.out]; rfl
      · rw [← Hn.out]; exact Ho.out
end Go.Proofs.Ytegmbjkpjglgpaa
