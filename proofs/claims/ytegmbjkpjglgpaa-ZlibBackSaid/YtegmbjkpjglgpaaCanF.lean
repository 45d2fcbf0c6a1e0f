/-
  (*canon.Book).Read: a symbol by the rows of a book.
-/
import Derived.Test.YtegmbjkpjglgpaaCanD
import Derived.Test.YtegmbjkpjglgpaaRdr
namespace Go.Proofs.Ytegmbjkpjglgpaa
open Go.RowKit

def FN (l : List Int) (n : Nat) : Nat := (fstC (codesL l) (selN l (ordL l) n)).toNat
theorem selN_rowOf (l : List Int) (n : Nat) : selN l (ordL l) n = Cd.rowOf (slOf l) n := by
  unfold selN Cd.rowOf slOf
  rw [List.filter_map, List.map_map]
  have e : ((fun x : Nat × Nat => x.1) ∘ fun s => (s, lenOf l s)) = id := rfl
  rw [e, List.map_id]
  refine List.filter_congr fun s _ => ?_
  show (lenOf l s == n) = decide (lenOf l s = n)
  rw [Bool.eq_iff_iff, beq_iff_eq, decide_eq_true_eq]
theorem fst_nat {l : List Int} (hl : lensB l = true) (n : Nat) (h1 : 1 ≤ n) (h16 : n ≤ 16) : fstC (codesL l) (selN l (ordL l) n) = ((FN l n : Nat) : Int) ∧ FN l n ≤ 65536 ∧ (selN l (ordL l) n ≠ [] → FN l n = Cd.low (slOf l) n / Cd.pw n) := by
  have hr : selN l (ordL l) n = rowF l n := (selN_rowOf l n).trans (rowOf_sl l n h1 h16)
  unfold FN
  rw [hr]
  cases e : rowF l n with
  | nil => exact ⟨rfl, by simp [fstC], fun h => absurd rfl h⟩
  | cons s r =>
    have h2 := first_at hl h1 h16 e
    have h3 : Cd.low (slOf l) n ≤ 65536 := by
      have := Cd.low_mono (slOf l) (show n ≤ 17 by omega)
      rw [Cd.low_top (sl_ok hl)] at this
      exact Nat.le_trans this (sl_ok hl).kraft
    have h4 : Cd.low (slOf l) n / Cd.pw n ≤ Cd.low (slOf l) n := Nat.div_le_self _ _
    have e2 : fstC (codesL l) (s :: r) = ((Cd.low (slOf l) n / Cd.pw n : Nat) : Int) := h2
    rw [e2]
    generalize Cd.low (slOf l) n / Cd.pw n = q at *
    exact ⟨by simp, by simp; omega, fun _ => by simp⟩
def btF (L : List Int) (k : Nat) (i : Nat) : Nat := (L.getD (k + i) 0).toNat
theorem btF_le {L : List Int} (h : ∀ x ∈ L, isBit x) (k i : Nat) : btF L k i ≤ 1 ∧ ((btF L k i : Nat) : Int) = L.getD (k + i) 0 := by
  unfold btF
  rcases getD_bit h (k + i) with e | e <;> rw [e] <;> exact ⟨by decide, by decide⟩
/-- a symbol read by a book's rows -/
def rdB (l : List Int) (ln cd : Nat) (L : List Int) (k : Nat) (f n c o : Nat) : Cd.Rd := Cd.rdP (FN l) (fun n => selN l (ordL l) n) ln cd (btF L k) (L.length - k) f n c o
theorem below_alloc1 (w : World) (o : Obj) : Below w.heap.size w (w.alloc o) := (Below.refl _ _).alloc (Nat.le_refl _) o
/-- how a book's reading ends -/
def RdEnd (r : Cd.Rd) (gr : Nat) (A : Option Addr) (c : Nat) (bl : List Int) (k : Nat) (W : World) (e : Ending) (w' : World) : Prop :=
  W.grownBy w' (some gr) ∧ match r with
  | .sym s n => e = .returned (.tuple #[.int .i64 (s : Int), .nilIface]) ∧ BR w' gr A c bl (k + n)
  | .short => e = .returned (.tuple #[.int .i64 0, .iface 40 (.int .i64 8)]) ∧ ∃ k', BR w' gr A c bl k'
  | .bad => e = .returned (.tuple #[.int .i64 0, .iface 40 (.int .i64 2)]) ∧ ∃ k', BR w' gr A c bl k'
set_option maxRecDepth 100000 in
set_option maxHeartbeats 8000000 in
theorem read_any (gb : Nat) (b : BM) (l : List Int) (m : List Nat) (s ln cd gr : Nat) (A : Option Addr) (ca : Nat) (bl : List Int) (k : Nat) (W : World) (hK : BK W gb b) (hB : BookOf l b) (hl : lensB l = true) (hL : LastOf l m s ln cd) (hR : BR W gr A ca bl k) :
    Calls Try.prog 140 #[.pointer (some ⟨gb, 0, none⟩), .pointer (some ⟨gr, 0, none⟩)] W (RdEnd (rdB l ln cd (bitsL bl) k 17 1 0 (ordL l).length) gr A ca bl k W) := by
  have K := hid hK
  have HB := hid hB
  have Hl := hid hl
  have HL := hid hL
  have R := hid hR
  have q2 := (bk_cell0 hK).2.2
  have hgw := hK.blk.lt
  obtain ⟨O, hO⟩ : ∃ O, O = (ordL l).length := ⟨_, rfl⟩
  have hO1 : 1 ≤ O := by rw [hO, hL.ord]; simp
  have hO5 : O ≤ 512 := by rw [hO]; exact Nat.le_trans ordL_len (lensB_iff.1 hl).1
  rw [hB.ord, ← hO] at q2
  rw [← hO]
  have HO := hid hO
  clear hK hB hl hL hR hO
  go_enter Try.func140, Try.ntmps140
  go_upto_region 3 with (fail)
  go_quiet (fail)
  have K0 := hid (K.out.below (below_drewN (Below.refl W.heap.size W) nq))
  have R0 := hid (R.out.below (below_drewN (Below.refl W.heap.size W) nq))
  have G0 := hid (gr_below1 (World.grownBy.refl W (some gr)) (below_drewN (Below.refl W.heap.size W) nq))
  generalize W.drewN nq = w0 at *
  clear q2 hgw K R
  go_wp2_with fail
  go_loopw [6, 7, 8] (fun v6 v7 v8 wr => ∃ f n c o : Nat, f + n = 18 ∧ 1 ≤ n ∧ n ≤ 17 ∧ v6 = .int .i64 (c : Int) ∧ v7 = .int .i64 (o : Int) ∧ v8 = .int .i64 (n : Int) ∧ c < 65536 ∧ o ≤ 512 ∧ Hid (c < 2 ^ (n - 1)) ∧ Hid (o = Cd.openN (slOf l) n) ∧ Hid (rdB l ln cd (bitsL bl) k 17 1 0 O = rdB l ln cd (bitsL bl) k f n c o) ∧ Hid (BR wr gr A ca bl (k + (n - 1))) ∧ Hid (BK wr gb b) ∧ Hid (W.grownBy wr (some gr))) (fun _ _ n _ => 18 - (intOf n).toNat)
  case atStart => exact ⟨17, 1, 0, O, by omega, by omega, by omega, rfl, rfl, rfl, by omega, hO5, hid (by decide), hid (by rw [Cd.openN_one (sl_ok Hl.out), HO.out]; simp [slOf]), hid rfl, R0, K0, G0⟩
  clear K0 R0 G0
  case round =>
    obtain ⟨f, n, c, o, hfn, hn1, hn17, rfl, rfl, rfl, hc16, ho5, Hc, Ho, HR, R, K, G⟩ := hrel
    by_cases ho0 : 0 < o
    · have hn16 : n ≤ 16 := by
        rcases Nat.lt_or_ge 16 n with h | h
        · have h2 := Ho.out
          rw [show n = 17 by omega, Cd.openN_zero (sl_ok Hl.out)] at h2
          omega
        · exact h
      obtain ⟨fu, hf1⟩ : ∃ fu, f = fu + 1 := ⟨f - 1, by omega⟩
      have d0 : decide ((0 : Int) < (o : Int)) = true := decide_eq_true (by omega)
      have d0b : decide (0 < o) = true := decide_eq_true ho0
      have Hf1 := hid hf1
      clear hf1
      have hat := R.out.at_
      obtain ⟨kk, hkk⟩ : ∃ kk, kk = k + (n - 1) := ⟨_, rfl⟩
      rw [← hkk] at R hat
      have Hkk := hid hkk
      have hN : (bitsL bl).length = 8 * bl.length := bitsL_length bl
      by_cases hsh : 8 * bl.length < kk + 1
      · have HE := hid (show rdB l ln cd (bitsL bl) k 17 1 0 O = .short by
          rw [HR.out, Hf1.out]
          unfold rdB Cd.rdP
          rw [if_neg (by omega), if_pos (by rw [hN]; omega)])
        clear hkk hN
        go_wp2_with fail
        refine (take_end gr A ca bl kk 1 (by omega) _ R.out hsh).mono ?_
        rintro e w1 ⟨rfl, hR1, hg1⟩
        have R1 := hid hR1
        have G1 := hid (gr_trans1 G.out hg1)
        clear hR1 hg1
        go_wp2_with fail
        go_ret2
        unfold RdEnd
        rw [HE.out]
        exact ⟨G1.out, rfl, _, R1.out⟩
      · have hNn : ¬ (bitsL bl).length - k < n := by rw [hN]; omega
        have HNn := hid hNn
        clear hkk hN hNn
        go_wp2_with fail
        refine (take_ok gr A ca bl kk 1 (by omega) _ R.out (by omega)).mono ?_
        rintro e w1 ⟨rfl, hR1, hg1⟩
        have R1 := hid hR1
        have G1 := hid (gr_trans1 G.out hg1)
        have K1 := hid (K.out.grown hg1 R.out.blk (by decide) (by decide))
        clear hR1 hg1 R K G
        rw [numL_one]
        obtain ⟨bt, hbt⟩ : ∃ bt, bt = btF (bitsL bl) k (n - 1) := ⟨_, rfl⟩
        have hb2 := btF_le (bitsL_bit bl) k (n - 1)
        rw [← hbt, ← Hkk.out] at hb2
        rw [← hb2.2]
        have hb1 := hb2.1
        obtain ⟨c', hc'⟩ : ∃ c', c' = 2 * c + bt := ⟨_, rfl⟩
        have hor : bits .or .i64 ((c : Int) * 2) (bt : Int) = (c' : Int) := by
          rw [i64_join 1 ((c : Int) * 2) (bt : Int) (by omega) (by omega) (by omega) (by omega) (by omega) (by omega), hc']
          omega
        have Hc' := hid hc'
        have Hbt := hid hbt
        have hcb : c' ≤ 131071 := by omega
        have hc2 : c' < 2 ^ (n + 1 - 1) := by have := Hc.out; rw [show n + 1 - 1 = (n - 1) + 1 by omega, Nat.pow_succ]; omega
        have hc16' : c' < 65536 := Nat.lt_of_lt_of_le hc2 (Nat.pow_le_pow_right (by decide) (show n + 1 - 1 ≤ 16 by omega))
        have Hc2 := hid hc2
        clear hc2
        clear hc' hbt hb2
        go_upto_region 11 with (fail)
        have hrow := HB.out.rows n (by omega)
        obtain ⟨hF1, hF2, _⟩ := fst_nat Hl.out n hn1 hn16
        rw [← hrow.1] at hF1
        have f1 : w1.cell? ⟨gb, 3 + n * 2, none⟩ = some (.int .i64 ((FN l n : Nat) : Int)) := (K1.out.blk.cell _).trans ((cell_first b n (by omega)).trans (by rw [hrow.2, hF1]))
        have f2 : w1.cell? ⟨gb, 3 + n * 2 + 1, none⟩ = some (.slice (b.SA n) (b.S n).length (b.Sc n)) := (K1.out.blk.cell _).trans (cell_syms b n (by omega))
        have hgw := K1.out.blk.lt
        have hown := K1.out.row n (by omega)
        obtain ⟨mm, hmm⟩ : ∃ mm, mm = (b.S n).length := ⟨_, rfl⟩
        obtain ⟨F, hF⟩ : ∃ F, F = FN l n := ⟨_, rfl⟩
        rw [← hF] at f1 hF2
        rw [← hmm] at f2
        have Hmm := hid hmm
        have HF := hid hF
        have hsel := hid hrow.1
        have Hown := hid hown
        have hmo : mm ≤ o := by
          rw [hmm, hrow.1, selN_rowOf, Ho.out, Cd.openN_succ]
          omega
        clear hrow hF1 hmm hF hown
        rcases Nat.lt_or_ge c' F with hlo | hlo
        · obtain ⟨at_, hat_⟩ : ∃ at_ : Int, at_ = (c' : Int) - (F : Int) := ⟨_, rfl⟩
          have tw : IntKind.i64.wrap ((c' : Int) - (F : Int)) = at_ := (IntWalk.i64_in _ (by omega)).trans (by omega)
          have dn : decide ((0 : Int) ≤ at_) = false := decide_eq_false (by omega)
          have Hno := hid (show ¬ (F ≤ c' ∧ c' - F < mm) by omega)
          clear hat_ hlo
          obtain ⟨o', ho'⟩ : ∃ o', o' = o - mm := ⟨_, rfl⟩
          have tw2 : IntKind.i64.wrap ((o : Int) - (mm : Int)) = (o' : Int) := (IntWalk.i64_in _ (by omega)).trans (by omega)
          have ho5' : o' ≤ 512 := by omega
          have Ho' := hid ho'
          have Hon := hid (show o' = Cd.openN (slOf l) (n + 1) by have h1 := Hmm.out; have h2 := Cd.openN_succ (slOf l) n; rw [← selN_rowOf, ← hsel.out, ← h1, ← Ho.out] at h2; omega)
          have hb2 := below_alloc1 w1 (.cells #[.int .i64 (F : Int), .slice (b.SA n) mm (b.Sc n)] 199)
          have R2 := hid (R1.out.below hb2)
          have K2 := hid (K1.out.below hb2)
          have G2 := hid (gr_below1 G1.out hb2)
          clear ho' hb2
          go_upto_region 16 with (fail)
          generalize w1.alloc (.cells #[.int .i64 (F : Int), .slice (b.SA n) mm (b.Sc n)] 199) = w2 at *
          clear R1 K1 G1 f1 f2 hgw hat
          by_cases h16 : n < 16
          · have d1 : decide (n < 16) = true := decide_eq_true h16
            have d2 : decide ((n : Int) < 16) = true := decide_eq_true (by omega)
            go_wp2_with fail
            refine (beyond_any gb b l m s ln cd c' n w2 K2.out HB.out Hl.out HL.out (by omega)).mono ?_
            rintro e w3 ⟨rfl, hb3⟩
            have R3 := hid (R2.out.below hb3)
            have K3 := hid (K2.out.below hb3)
            have G3 := hid (gr_below1 G2.out hb3)
            clear hb3 R2 K2 G2
            by_cases hq : ln < n ∨ cd / 2 ^ (ln - n) < c'
            · have HE := hid (show rdB l ln cd (bitsL bl) k 17 1 0 O = .bad by
                rw [HR.out, Hf1.out]
                unfold rdB Cd.rdP
                rw [if_neg (by omega), if_neg HNn.out, ← HF.out, ← Hbt.out, ← Hc'.out, ← hsel.out, ← Hmm.out, if_neg Hno.out, if_pos ⟨h16, hq⟩])
              rw [decide_eq_true hq]
              go_wp2_with fail
              go_ret2
              unfold RdEnd
              rw [HE.out]
              exact ⟨G3.out, rfl, _, R3.out⟩
            · have HE := hid (show rdB l ln cd (bitsL bl) k 17 1 0 O = rdB l ln cd (bitsL bl) k fu (n + 1) c' o' by
                rw [HR.out, Hf1.out]
                unfold rdB
                rw [Cd.rdP, if_neg (by omega), if_neg HNn.out, ← HF.out, ← Hbt.out, ← Hc'.out, ← hsel.out, ← Hmm.out, if_neg Hno.out, if_neg (fun h => hq h.2), ← Ho'.out])
              rw [decide_eq_false hq]
              go_wp2_with fail
              exact ⟨⟨fu, n + 1, c', o', by have := Hf1.out; omega, by omega, by omega, rfl, rfl, rfl, hc16', ho5', Hc2, Hon, HE, hid (by rw [show k + (n + 1 - 1) = kk + 1 by have := Hkk.out; omega]; exact R3.out), K3, G3⟩, by simp only [intOf]; omega⟩
          · have d1 : decide (n < 16) = false := decide_eq_false h16
            have d2 : decide ((n : Int) < 16) = false := decide_eq_false (by omega)
            have HE := hid (show rdB l ln cd (bitsL bl) k 17 1 0 O = rdB l ln cd (bitsL bl) k fu (n + 1) c' o' by
              rw [HR.out, Hf1.out]
              unfold rdB
              rw [Cd.rdP, if_neg (by omega), if_neg HNn.out, ← HF.out, ← Hbt.out, ← Hc'.out, ← hsel.out, ← Hmm.out, if_neg Hno.out, if_neg (fun h => h16 h.1), ← Ho'.out])
            go_wp2_with fail
            exact ⟨⟨fu, n + 1, c', o', by have := Hf1.out; omega, by omega, by omega, rfl, rfl, rfl, hc16', ho5', Hc2, Hon, HE, hid (by rw [show k + (n + 1 - 1) = kk + 1 by have := Hkk.out; omega]; exact R2.out), K2, G2⟩, by simp only [intOf]; omega⟩
        · obtain ⟨a, ha⟩ : ∃ a, a = c' - F := ⟨_, rfl⟩
          have tw : IntKind.i64.wrap ((c' : Int) - (F : Int)) = (a : Int) := (IntWalk.i64_in _ (by omega)).trans (by omega)
          have dn : decide ((0 : Int) ≤ (a : Int)) = true := decide_eq_true (by omega)
          by_cases ham : a < mm
          · have dm : decide ((a : Int) < (mm : Int)) = true := decide_eq_true (by omega)
            have dm2 : decide (a < mm) = true := decide_eq_true ham
            have hrs : RdI w1 w1.heap.size (b.SA n) (natsV (b.S n)) := own_rdi (by have h := Hown.out; unfold OwnN at h; rw [natsV_length]; exact h)
            obtain ⟨b3, off3, hA3, hb3, x3⟩ := int_at hrs (j := a) (by rw [natsV_length, ← Hmm.out]; exact ham)
            obtain ⟨sv, hsv⟩ : ∃ sv, sv = (b.S n).getD a 0 := ⟨_, rfl⟩
            have e3 : (natsV (b.S n))[a]'(by rw [natsV_length, ← Hmm.out]; exact ham) = (sv : Int) := by
              rw [hsv, List.getD_eq_getElem?_getD, List.getElem?_eq_getElem (by rw [← Hmm.out]; exact ham)]
              simp [natsV]
            rw [e3] at x3
            rw [hA3] at f2
            have HE := hid (show rdB l ln cd (bitsL bl) k 17 1 0 O = .sym sv n by
              rw [HR.out, Hf1.out]
              unfold rdB Cd.rdP
              rw [if_neg (by omega), if_neg HNn.out, ← HF.out, ← Hbt.out, ← Hc'.out, ← hsel.out, ← Hmm.out, if_pos ⟨hlo, by rw [← ha]; exact ham⟩, ← ha, hsv])
            have Hkn := hid (show kk + 1 = k + n by have := Hkk.out; omega)
            have Ga := hid (gr_below1 G1.out (below_alloc1 w1 (.cells #[.int .i64 (F : Int), .slice (some ⟨b3, off3, none⟩) mm (b.Sc n)] 199)))
            clear ha hsv e3 hrs hA3 hlo
            go_wp2_with fail
            go_ret2
            unfold RdEnd
            rw [HE.out]
            refine ⟨Ga.out, rfl, ?_⟩
            rw [← Hkn.out]
            exact R1.out.below (below_alloc1 _ _)
          · have dm : decide ((a : Int) < (mm : Int)) = false := decide_eq_false (by omega)
            have dm2 : decide (a < mm) = false := decide_eq_false ham
            have Hno := hid (show ¬ (F ≤ c' ∧ c' - F < mm) by omega)
            clear ha hlo ham
            obtain ⟨o', ho'⟩ : ∃ o', o' = o - mm := ⟨_, rfl⟩
            have tw2 : IntKind.i64.wrap ((o : Int) - (mm : Int)) = (o' : Int) := (IntWalk.i64_in _ (by omega)).trans (by omega)
            have ho5' : o' ≤ 512 := by omega
            have Ho' := hid ho'
            have Hon := hid (show o' = Cd.openN (slOf l) (n + 1) by have h1 := Hmm.out; have h2 := Cd.openN_succ (slOf l) n; rw [← selN_rowOf, ← hsel.out, ← h1, ← Ho.out] at h2; omega)
            have hb2 := below_alloc1 w1 (.cells #[.int .i64 (F : Int), .slice (b.SA n) mm (b.Sc n)] 199)
            have R2 := hid (R1.out.below hb2)
            have K2 := hid (K1.out.below hb2)
            have G2 := hid (gr_below1 G1.out hb2)
            clear ho' hb2
            go_upto_region 16 with (fail)
            generalize w1.alloc (.cells #[.int .i64 (F : Int), .slice (b.SA n) mm (b.Sc n)] 199) = w2 at *
            clear R1 K1 G1 f1 f2 hgw hat
            by_cases h16 : n < 16
            · have d1 : decide (n < 16) = true := decide_eq_true h16
              have d2 : decide ((n : Int) < 16) = true := decide_eq_true (by omega)
              go_wp2_with fail
              refine (beyond_any gb b l m s ln cd c' n w2 K2.out HB.out Hl.out HL.out (by omega)).mono ?_
              rintro e w3 ⟨rfl, hb3⟩
              have R3 := hid (R2.out.below hb3)
              have K3 := hid (K2.out.below hb3)
              have G3 := hid (gr_below1 G2.out hb3)
              clear hb3 R2 K2 G2
              by_cases hq : ln < n ∨ cd / 2 ^ (ln - n) < c'
              · have HE := hid (show rdB l ln cd (bitsL bl) k 17 1 0 O = .bad by
                  rw [HR.out, Hf1.out]
                  unfold rdB Cd.rdP
                  rw [if_neg (by omega), if_neg HNn.out, ← HF.out, ← Hbt.out, ← Hc'.out, ← hsel.out, ← Hmm.out, if_neg Hno.out, if_pos ⟨h16, hq⟩])
                rw [decide_eq_true hq]
                go_wp2_with fail
                go_ret2
                unfold RdEnd
                rw [HE.out]
                exact ⟨G3.out, rfl, _, R3.out⟩
              · have HE := hid (show rdB l ln cd (bitsL bl) k 17 1 0 O = rdB l ln cd (bitsL bl) k fu (n + 1) c' o' by
                  rw [HR.out, Hf1.out]
                  unfold rdB
                  rw [Cd.rdP, if_neg (by omega), if_neg HNn.out, ← HF.out, ← Hbt.out, ← Hc'.out, ← hsel.out, ← Hmm.out, if_neg Hno.out, if_neg (fun h => hq h.2), ← Ho'.out])
                rw [decide_eq_false hq]
                go_wp2_with fail
                exact ⟨⟨fu, n + 1, c', o', by have := Hf1.out; omega, by omega, by omega, rfl, rfl, rfl, hc16', ho5', Hc2, Hon, HE, hid (by rw [show k + (n + 1 - 1) = kk + 1 by have := Hkk.out; omega]; exact R3.out), K3, G3⟩, by simp only [intOf]; omega⟩
            · have d1 : decide (n < 16) = false := decide_eq_false h16
              have d2 : decide ((n : Int) < 16) = false := decide_eq_false (by omega)
              have HE := hid (show rdB l ln cd (bitsL bl) k 17 1 0 O = rdB l ln cd (bitsL bl) k fu (n + 1) c' o' by
                rw [HR.out, Hf1.out]
                unfold rdB
                rw [Cd.rdP, if_neg (by omega), if_neg HNn.out, ← HF.out, ← Hbt.out, ← Hc'.out, ← hsel.out, ← Hmm.out, if_neg Hno.out, if_neg (fun h => h16 h.1), ← Ho'.out])
              go_wp2_with fail
              exact ⟨⟨fu, n + 1, c', o', by have := Hf1.out; omega, by omega, by omega, rfl, rfl, rfl, hc16', ho5', Hc2, Hon, HE, hid (by rw [show k + (n + 1 - 1) = kk + 1 by have := Hkk.out; omega]; exact R2.out), K2, G2⟩, by simp only [intOf]; omega⟩
    · have d0 : decide ((0 : Int) < (o : Int)) = false := decide_eq_false (by omega)
      have d0b : decide (0 < o) = false := decide_eq_false ho0
      have HE := hid (show rdB l ln cd (bitsL bl) k 17 1 0 O = .bad by
        rw [HR.out]
        unfold rdB
        cases f with
        | zero => rfl
        | succ f => rw [Cd.rdP, if_pos (by omega)])
      go_wp2_with fail
      go_ret2
      unfold RdEnd
      rw [HE.out]
      exact ⟨G.out, rfl, _, R.out⟩
end Go.Proofs.Ytegmbjkpjglgpaa
