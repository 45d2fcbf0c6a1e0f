/-
  inflate: a block of kind 0.
-/
import Derived.Test.YtegmbjkpjglgpaaInfTake
import Derived.Test.YtegmbjkpjglgpaaInfPut
namespace Go.Proofs.Ytegmbjkpjglgpaa
open Go.RowKit

theorem xor16 {a b : Nat} (ha : a < 65536) : a ^^^ b = 65535 ↔ a + b = 65535 := by
  have hc : a ^^^ 65535 = 65535 - a := by
    apply Nat.eq_of_testBit_eq
    intro i
    rw [Nat.testBit_xor, show 65535 - a = 2 ^ 16 - (a + 1) by omega, Nat.testBit_two_pow_sub_succ (by omega), show 65535 = 2 ^ 16 - 1 by rfl, Nat.testBit_two_pow_sub_one]
    by_cases hi : i < 16
    · simp [hi]
    · have : a.testBit i = false := Nat.testBit_lt_two_pow (Nat.lt_of_lt_of_le ha (Nat.pow_le_pow_right (n := 2) (by decide) (show 16 ≤ i by omega)))
      simp [hi, this]
  constructor
  · intro h
    have : b = a ^^^ 65535 := by rw [← h, ← Nat.xor_assoc, Nat.xor_self, Nat.zero_xor]
    omega
  · intro h
    have : b = a ^^^ 65535 := by omega
    rw [this, ← Nat.xor_assoc, Nat.xor_self, Nat.zero_xor]
theorem i64_xor16 (a b : Nat) (ha : a < 65536) (hb : b < 65536) : bits .xor .i64 (a : Int) (b : Int) = ((a ^^^ b : Nat) : Int) := by
  have hx : a ^^^ b < 2 ^ 16 := Nat.xor_lt_two_pow (by omega) (by omega)
  have h1 : (BitVec.ofInt 64 (a : Int)).toNat = a := by
    rw [BitVec.ofInt_natCast, BitVec.toNat_ofNat]; exact Nat.mod_eq_of_lt (by omega)
  have h2 : (BitVec.ofInt 64 (b : Int)).toNat = b := by
    rw [BitVec.ofInt_natCast, BitVec.toNat_ofNat]; exact Nat.mod_eq_of_lt (by omega)
  show IntKind.i64.wrap ((BitVec.ofInt 64 (a : Int) ^^^ BitVec.ofInt 64 (b : Int)).toNat : Int) = _
  rw [BitVec.toNat_xor, h1, h2, wraps62 _ (by omega) (by omega)]
/-- how a block's part ends -/
def StEnd (v : Ev) (lp dp : Value) (bs : List (Nat × BM)) (r : Except Int Sk) (e : Ending) (w' : World) : Prop :=
  match r with
  | .error k => e = .returned (.iface 40 (.int .i64 k)) ∧ Frm v w'
  | .ok s2 => e = .returned .nilIface ∧ St v w' s2 lp dp bs
theorem stEnd_err {v : Ev} {lp dp : Value} {bs : List (Nat × BM)} {r : Except Int Sk} {e : Ending} {w' : World} {k : Int} (h : r = .error k) (he : e = .returned (.iface 40 (.int .i64 k))) (hb : Frm v w') : StEnd v lp dp bs r e w' := by rw [h]; exact ⟨he, hb⟩
theorem stEnd_ok {v : Ev} {lp dp : Value} {bs : List (Nat × BM)} {r : Except Int Sk} {e : Ending} {w' : World} {s2 : Sk} (h : r = .ok s2) (he : e = .returned .nilIface) (hb : St v w' s2 lp dp bs) : StEnd v lp dp bs r e w' := by rw [h]; exact ⟨he, hb⟩
theorem alignSt (v : Ev) (s : Sk) (lp dp : Value) (bs : List (Nat × BM)) (W : World) (h : St v W s lp dp bs) :
    Calls Try.prog 130 #[.pointer (some ⟨v.gr, 0, none⟩)] W fun e w' => e = .returned (.tuple #[]) ∧ St v w' ⟨(s.k + 7) / 8 * 8, s.size, s.toks⟩ lp dp bs := by
  refine (align_any v.gr v.A v.c v.bl s.k W h.rd).mono ?_
  rintro e w1 ⟨rfl, hr, hg⟩
  exact ⟨rfl, h.turn hr hg⟩
set_option maxRecDepth 100000 in
set_option maxHeartbeats 8000000 in
theorem stored_any (v : Ev) (s : Sk) (lp dp : Value) (bs : List (Nat × BM)) (W : World) (h : St v W s lp dp bs) :
    Calls Try.prog 116 #[.pointer (some ⟨v.g, 0, none⟩)] W (StEnd v lp dp bs (storedM (bitsL v.bl) v.most s)) := by
  have H := hid h
  obtain ⟨T, tc, hk, _⟩ := h.tok
  unfold workCs at hk
  have c0 := hk.cell 0
  simp only [List.getElem?_toArray, List.getElem?_cons_zero] at c0
  have hgw := hk.lt
  clear h hk
  obtain ⟨k0, hk0⟩ : ∃ k0, k0 = (s.k + 7) / 8 * 8 := ⟨_, rfl⟩
  have Hk0 := hid hk0
  clear hk0
  go_enter Try.func116, Try.ntmps116
  go_wp2_with fail
  refine (alignSt v s lp dp bs _ H.out).mono ?_
  rintro e w1 ⟨rfl, hS1⟩
  rw [← Hk0.out] at hS1
  have S1 := hid hS1
  clear hS1 c0 hgw
  go_wp2_with fail
  have Sa := hid (S1.out.below (below_alloc1 w1 (.cells #[.int .i64 16, .int .i64 16] 3)))
  have Ba := hid (Blk.new w1 3 #[.int .i64 16, .int .i64 16])
  refine (takes_any v ⟨k0, s.size, s.toks⟩ lp dp bs w1.heap.size 2 [16, 16] (by decide) (by decide) _ Sa.out Ba.out).mono ?_
  intro e w2 hT
  clear Sa Ba
  cases ht1 : tkM (bitsL v.bl) k0 16 with
  | none =>
    have HE := hid (show storedM (bitsL v.bl) v.most s = .error 8 by unfold storedM; rw [← Hk0.out, ht1])
    have e1 : takesM (bitsL v.bl) [16, 16] k0 [] = none := by unfold takesM; rw [ht1]
    rw [e1] at hT
    obtain ⟨rfl, k1, hS2⟩ := hT
    have S2 := hid hS2
    clear hS2 ht1 e1
    go_wp2_with fail
    go_ret
    exact stEnd_err HE.out rfl S2.out.frm
  | some a =>
    cases ht2 : tkM (bitsL v.bl) (k0 + 16) 16 with
    | none =>
      have HE := hid (show storedM (bitsL v.bl) v.most s = .error 8 by unfold storedM; rw [← Hk0.out, ht1]; dsimp only; rw [ht2])
      have e1 : takesM (bitsL v.bl) [16, 16] k0 [] = none := by unfold takesM; rw [ht1]; dsimp only; unfold takesM; rw [ht2]
      rw [e1] at hT
      obtain ⟨rfl, k1, hS2⟩ := hT
      have S2 := hid hS2
      clear hS2 ht1 ht2 e1
      go_wp2_with fail
      go_ret
      exact stEnd_err HE.out rfl S2.out.frm
    | some b =>
      have e1 : takesM (bitsL v.bl) [16, 16] k0 [] = some (k0 + 16 + 16, [a, b]) := by unfold takesM; rw [ht1]; dsimp only; unfold takesM; rw [ht2]; rfl
      rw [e1] at hT
      obtain ⟨A2, c2, rfl, hown, hS2⟩ := hT
      have ha := tkM_bd (bitsL_bit v.bl) ht1
      have hb := tkM_bd (bitsL_bit v.bl) ht2
      obtain ⟨x, rfl⟩ := Int.eq_ofNat_of_zero_le ha.1
      obtain ⟨y, rfl⟩ := Int.eq_ofNat_of_zero_le hb.1
      have hx : x < 65536 := by have : (2 : Int) ^ 16 = 65536 := by decide
                                omega
      have hy : y < 65536 := by have : (2 : Int) ^ 16 = 65536 := by decide
                                omega
      obtain ⟨q, off, rfl, hq, z0⟩ := int_at (own_rdi hown) (j := 0) (by simp)
      obtain ⟨q', off', e2, hq', z1⟩ := int_at (own_rdi hown) (j := 1) (by simp)
      injection e2 with e2
      injection e2 with e2 e3
      subst e2 e3
      simp only [List.getElem_cons_zero, List.getElem_cons_succ, Nat.add_zero] at z0 z1
      have S2 := hid hS2
      have Ht1 := hid ht1
      have Ht2 := hid ht2
      have xe := i64_xor16 x y hx hy
      have HM := hid (show storedM (bitsL v.bl) v.most s = (if (x : Int) + (y : Int) ≠ 65535 then .error 2 else if v.most < s.size + (x : Int) then .error 4 else bytesM (bitsL v.bl) x ⟨k0 + 32, s.size, s.toks⟩) by
        unfold storedM
        rw [← Hk0.out, ht1]
        dsimp only
        rw [ht2]
        rfl)
      have hx16 := xor16 (b := y) hx
      clear hS2 hown ht1 ht2 e1 ha hb hq'
      obtain ⟨z, hz⟩ : ∃ z, z = x ^^^ y := ⟨_, rfl⟩
      rw [← hz] at xe hx16
      clear hz
      go_wp2_with fail
      by_cases hxy : x + y = 65535
      · obtain rfl := hx16.2 hxy
        have HM2 := hid (HM.out.trans (if_neg (by omega)))
        obtain ⟨T, tc, hk, _⟩ := S2.out.tok
        unfold workCs at hk
        have m0 := hk.cell 0
        have m1 := hk.cell 1
        have m2 := hk.cell 2
        simp only [List.getElem?_toArray, List.getElem?_cons_zero, List.getElem?_cons_succ] at m0 m1 m2
        have hgw := hk.lt
        obtain ⟨hs0, hs1, hs2, _⟩ := S2.out.sz
        simp only at hs0 hs1 hs2
        obtain ⟨most, hmost⟩ : ∃ most, most = v.most := ⟨_, rfl⟩
        obtain ⟨sz, hsz⟩ : ∃ sz, sz = s.size := ⟨_, rfl⟩
        rw [← hmost] at m1 hs1 hs2
        rw [← hsz] at m2 hs0 hs1
        have tm : IntKind.i64.wrap (most - sz) = most - sz := IntWalk.i64_in _ (by omega)
        have Hmost := hid hmost
        have Hsz := hid hsz
        clear hk hmost hsz hxy HM hx16
        by_cases hbig : most - sz < (x : Int)
        · have db : decide (most - sz < (x : Int)) = true := decide_eq_true hbig
          have HE := hid (HM2.out.trans (if_pos (by rw [← Hmost.out, ← Hsz.out]; omega)))
          clear hbig
          go_quiet (fail)
          go_wp2_with fail
          go_quiet (fail)
          go_wp2_with fail
          go_ret
          exact stEnd_err HE.out rfl (S2.out.below (below_drewN (Below.refl _ _) _)).frm
        · have db : decide (most - sz < (x : Int)) = false := decide_eq_false hbig
          have HE := hid (HM2.out.trans (if_neg (by rw [← Hmost.out, ← Hsz.out]; omega)))
          have Hbig := hid (show sz + x ≤ most by omega)
          clear hbig HM2
          go_quiet (fail)
          go_wp2_with fail
          go_quiet (fail)
          go_wp2_with fail
          have S3 := hid (fun z => S2.out.below (below_drewN (Below.refl _ _) z))
          generalize hw3 : w2.drewN _ = w3
          have S3 := hid (show St v w3 _ lp dp bs by rw [← hw3]; exact S3.out _)
          clear hw3
          clear z0 z1 m0 m1 m2 hgw hq S2
          go_loopw [53] (fun v53 wr => ∃ (j : Nat) (sj : Sk), j ≤ x ∧ v53 = .int .i64 (j : Int) ∧ Hid (storedM (bitsL v.bl) v.most s = bytesM (bitsL v.bl) (x - j) sj) ∧ Hid (sj.size = sz + j) ∧ Hid (St v wr sj lp dp bs)) (fun i _ => x - (intOf i).toNat)
          case atStart => exact ⟨0, ⟨k0 + 32, s.size, s.toks⟩, by omega, rfl, HE, hid (by rw [Hsz.out]; simp), S3⟩
          clear S3
          case round =>
            obtain ⟨j, sj, hj, rfl, He, Hs, S⟩ := hrel
            by_cases hlt : j < x
            · have dj : decide (j < x) = true := decide_eq_true hlt
              obtain ⟨T2, tc2, hk, _⟩ := S.out.tok
              unfold workCs at hk
              have m0 := hk.cell 0
              simp only [List.getElem?_toArray, List.getElem?_cons_zero] at m0
              have hgw := hk.lt
              obtain ⟨f, hf⟩ : ∃ f, x - j = f + 1 := ⟨x - j - 1, by omega⟩
              have Hf := hid hf
              clear hk hf
              cases ht : tkM (bitsL v.bl) sj.k 8 with
              | none =>
                have HE2 := hid (show storedM (bitsL v.bl) v.most s = .error 8 by rw [He.out, Hf.out, bytesM, ht])
                have Ht := hid ht
                clear ht
                go_wp2_with fail
                refine (takeSt_none v sj lp dp bs 8 (by decide) _ S.out Ht.out).mono ?_
                rintro e w4 ⟨rfl, hS4, _⟩
                have S4 := hid hS4
                clear hS4
                go_wp2_with fail
                go_ret
                exact stEnd_err HE2.out rfl S4.out.frm
              | some b8 =>
                have HE2 := hid (show storedM (bitsL v.bl) v.most s = bytesM (bitsL v.bl) (x - (j + 1)) ⟨sj.k + 8, sj.size + 1, sj.toks ++ [(0, b8)]⟩ by rw [He.out, Hf.out, bytesM, ht, show x - (j + 1) = f by have := Hf.out; omega])
                have Ht := hid ht
                clear ht
                go_wp2_with fail
                refine (takeSt_some v sj lp dp bs 8 (by decide) b8 _ S.out Ht.out).mono ?_
                rintro e w4 ⟨rfl, hS4, _⟩
                have S4 := hid hS4
                obtain ⟨T4, tc4, hk4, _⟩ := hS4.tok
                clear hS4 m0 hgw
                have hgw := hk4.lt
                go_wp2_with fail
                refine (putW_any v ⟨sj.k + 8, sj.size, sj.toks⟩ 0 b8 lp dp bs _ S4.out (.inl rfl)).mono ?_
                intro e w5 hP
                have e5 : putM v.most (0, b8) ⟨sj.k + 8, sj.size, sj.toks⟩ = .ok ⟨sj.k + 8, sj.size + 1, sj.toks ++ [(0, b8)]⟩ := by
                  unfold putM
                  rw [if_neg (by simp), if_neg (by show ¬ v.most < sj.size + 1; rw [Hs.out, ← Hmost.out]; have := Hbig.out; omega)]
                  rfl
                unfold PutW at hP
                rw [e5] at hP
                obtain ⟨rfl, hS5⟩ := hP
                have S5 := hid hS5
                clear hS5 e5
                go_wp2_with fail
                exact ⟨⟨j + 1, _, by omega, by go_num, HE2, hid (by show sj.size + 1 = _; rw [Hs.out]; push_cast; omega), S5⟩, by simp [intOf]; omega⟩
            · have dj : decide (j < x) = false := decide_eq_false hlt
              have HE2 := hid (show storedM (bitsL v.bl) v.most s = .ok sj by rw [He.out, show x - j = 0 by omega, bytesM])
              go_wp2_with fail
              go_ret
              exact stEnd_ok HE2.out rfl S.out
      · have n0 : (((z : Int)) == 65535) = false := by rw [beq_eq_false_iff_ne]; intro h; exact hxy (hx16.1 (by omega))
        have HE := hid (HM.out.trans (if_pos (by omega)))
        clear hxy hx16 HM
        go_quiet (fail)
        go_wp2_with fail
        go_ret
        exact stEnd_err HE.out rfl (S2.out.below (below_drewN (Below.refl _ _) _)).frm
end Go.Proofs.Ytegmbjkpjglgpaa
