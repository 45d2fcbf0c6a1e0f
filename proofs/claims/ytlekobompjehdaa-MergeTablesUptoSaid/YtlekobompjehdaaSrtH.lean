/-
  slices.stableCmpFunc and SortStableFunc over items: a stable order.
-/
import Derived.Test.YtlekobompjehdaaSrtG
namespace Go.Proofs.Ytlekobompjehdaa
open Go.RowKit Mg

def AllB (bs : Nat) (Bs : List (List IR)) : Prop := ∀ B ∈ Bs, B.length = bs ∧ B.Pairwise LeR
theorem AllB.snoc {bs : Nat} {Bs : List (List IR)} {Z : List IR} (h : AllB bs Bs) (h1 : Z.length = bs) (h2 : Z.Pairwise LeR) : AllB bs (Bs ++ [Z]) := by
  intro B hB
  rcases List.mem_append.1 hB with hB | hB
  · exact h B hB
  · rw [List.mem_singleton.1 hB]; exact ⟨h1, h2⟩
theorem flat_snoc (Bs : List (List IR)) (Z : List IR) : (Bs ++ [Z]).flatten = Bs.flatten ++ Z := by simp
theorem all_done {bs n : Nat} {Bs : List (List IR)} {last : List IR} (h : AllB bs Bs) (hl : last.Pairwise LeR) (hb : 0 < bs) (hn : n ≤ bs) (he : n = (Bs.flatten ++ last).length) : (Bs.flatten ++ last).Pairwise LeR := by
  match Bs, h with
  | [], _ => simpa using hl
  | [B], h =>
    obtain ⟨h1, h2⟩ := h B (by simp)
    simp only [List.flatten_cons, List.flatten_nil, List.append_nil, List.length_append] at he ⊢
    rw [List.eq_nil_of_length_eq_zero (l := last) (by omega), List.append_nil]
    exact h2
  | B :: C :: t, h =>
    have h1 := (h B (by simp)).1
    have h2 := (h C (by simp)).1
    simp only [List.flatten_cons, List.length_append] at he
    omega
set_option maxRecDepth 100000 in
set_option maxHeartbeats 600000 in
theorem stable_any (g cap n : Nat) (X : List IR) (tl : List Value) (w0 W : World) (h : SW W w0 g X tl) (hn : n = X.length) (hm : n ≤ 1000000) :
    Calls Try.prog 114 #[.slice (some ⟨g, 0, none⟩) n cap, .int .i64 (n : Nat), .func (.func 79) #[] #[]] W (SEnd [] X [] tl w0 g) := by
  have H := hid h
  have Hn := hid hn
  clear h hn
  go_enter Try.func114, Try.ntmps114
  go_upto_region 2 with (fail)
  go_loopw [7, 8] (fun av bv wr => ∃ (a b : Nat) (Bs : List (List IR)) (R : List IR), av = .int .i64 a ∧ bv = .int .i64 b ∧ a = Bs.flatten.length ∧ b = a + 20 ∧ AllB 20 Bs ∧ Bub X (Bs.flatten ++ R) ∧ SW wr w0 g (Bs.flatten ++ R) tl) (fun av _ _ => n + 1 - (intOf av).toNat)
  case atStart => exact ⟨0, 20, [], X, rfl, rfl, rfl, rfl, fun _ h => (by cases h), .refl _, H.out⟩
  case round =>
    obtain ⟨a, b, Bs, R, rfl, rfl, ha, hb, hB, hbub, hs⟩ := hrel
    have S := hid hs
    have Hbub := hid hbub
    have HB := hid hB
    have hlen : n = a + R.length := by
      have h1 := hbub.len
      have h2 := Hn.out
      rw [List.length_append] at h1
      omega
    have Ha := hid ha
    have Hb := hid hb
    have Hlen := hid hlen
    clear hs hbub hB ha
    by_cases hlt : b ≤ n
    · have d1 : decide (b ≤ n) = true := decide_eq_true hlt
      have t1 : IntKind.i64.wrap ((b : Int) + 20) = ((b + 20 : Nat) : Int) := (IntWalk.i64_in _ (by omega)).trans (by omega)
      have L1 := hid (show (R.take 20).length = 20 by rw [List.length_take, Nat.min_eq_left (by omega)])
      have L2 := hid (show (R.drop 20).length = R.length - 20 by rw [List.length_drop])
      have ht := hid (List.take_append_drop 20 R)
      have S1 := hid (show SW wr w0 g (Bs.flatten ++ R.take 20 ++ R.drop 20) tl by rw [List.append_assoc, ht.out]; exact S.out)
      have B1 := hid (show Bub X (Bs.flatten ++ R.take 20 ++ R.drop 20) by rw [List.append_assoc, ht.out]; exact Hbub.out)
      have Hlt := hid hlt
      clear hlen hb S Hbub ht hlt
      generalize R.take 20 = R1 at *
      generalize R.drop 20 = R2 at *
      go_wp2_with fail
      refine (insertion_any g cap n a b Bs.flatten R1 R2 tl w0 _ S1.out Ha.out (by have := L1.out; have := Hb.out; omega) (by have := L1.out; have := L2.out; have := Hlen.out; have := Hlt.out; have := Hb.out; have := Ha.out; simp only [List.length_append]; omega) hm).mono ?_
      rintro e w1 ⟨rfl, Z, hZ1, hZ2, hS⟩
      have HS := hid hS
      have HZ1 := hid hZ1
      have HZ2 := hid hZ2
      have HL := hid (show Z.length = 20 by rw [hZ1.len]; exact L1.out)
      clear hS hZ1 hZ2
      go_wp2
      go_roundw
      case rel =>
        refine ⟨b, b + 20, Bs ++ [Z], R2, rfl, by go_num, ?_, rfl, HB.out.snoc HL.out HZ2.out, ?_, ?_⟩
        · rw [flat_snoc, List.length_append, HL.out, ← Ha.out]; exact Hb.out
        · rw [flat_snoc]
          exact B1.out.tr (HZ1.out.ctx _ _)
        · rw [flat_snoc]
          exact HS.out
      case measure => have := Hlt.out; have := Hb.out; simp [intOf]; omega
    · have d1 : decide (b ≤ n) = false := decide_eq_false hlt
      have HR := hid (show R.length < 20 by omega)
      have S1 := hid (show SW wr w0 g (Bs.flatten ++ R ++ []) tl by rw [List.append_nil]; exact S.out)
      clear hlen hb S hlt
      go_wp2_with fail
      refine (insertion_any g cap n a n Bs.flatten R [] tl w0 _ S1.out Ha.out Hlen.out (by have := Hlen.out; have := Ha.out; simp only [List.length_append, List.length_nil]; omega) hm).mono ?_
      rintro e w1 ⟨rfl, Z, hZ1, hZ2, hS⟩
      have HZ2 := hid hZ2
      have HZL := hid (show Z.length < 20 by rw [hZ1.len]; exact HR.out)
      have HS := hid (show SW w1 w0 g (Bs.flatten ++ Z) tl by rwa [List.append_nil] at hS)
      have B1 := hid (show Bub X (Bs.flatten ++ Z) by
        have := Hbub.out.tr (show Bub (Bs.flatten ++ R) (Bs.flatten ++ Z) by have := hZ1.ctx Bs.flatten []; simpa using this)
        exact this)
      clear hS hZ1 hZ2 Ha Hb Hlen Hbub S1 HR
      go_upto_region 7 with (fail)
      go_loopw [6] (fun sv wr => ∃ (bs : Nat) (Cs : List (List IR)) (last : List IR), sv = .int .i64 bs ∧ 0 < bs ∧ bs ≤ 4000000 ∧ AllB bs Cs ∧ last.length < bs ∧ last.Pairwise LeR ∧ Bub X (Cs.flatten ++ last) ∧ SW wr w0 g (Cs.flatten ++ last) tl) (fun sv _ => n - (intOf sv).toNat)
      case atStart => exact ⟨20, Bs, Z, rfl, by omega, by omega, HB.out, HZL.out, HZ2.out, B1.out, HS.out⟩
      case round =>
        clear HB HZL HZ2 B1 HS
        obtain ⟨bs, Cs, last, rfl, hbs, hbs2, hC, hll, hlp, hbub, hs⟩ := hrel
        have S := hid hs
        have Hbub := hid hbub
        have HC := hid hC
        have Hlp := hid hlp
        have Hll := hid hll
        have Hbs := hid hbs
        have hlen : n = (Cs.flatten ++ last).length := by rw [hbub.len]; exact Hn.out
        have Hlen := hid hlen
        clear hs hbub hC hlp hll hlen hbs2
        by_cases hlt : bs < n
        · have d2 : decide (bs < n) = true := decide_eq_true hlt
          obtain ⟨b2, hb2⟩ : ∃ b2, b2 = 2 * bs := ⟨_, rfl⟩
          have t1 : IntKind.i64.wrap (2 * (bs : Int)) = (b2 : Int) := (IntWalk.i64_in _ (by omega)).trans (by omega)
          have t2 : IntKind.i64.wrap ((bs : Int) * 2) = (b2 : Int) := (IntWalk.i64_in _ (by omega)).trans (by omega)
          have Hb2 := hid hb2
          have hb2l : b2 ≤ 4000000 := by omega
          have Hlt := hid hlt
          have hbn : bs ≤ 1000000 := by omega
          clear hb2 hlt
          go_upto_region 9 with (fail)
          go_loopw [7, 8] (fun av bv wr => ∃ (a b : Nat) (Ds Es : List (List IR)), av = .int .i64 a ∧ bv = .int .i64 b ∧ a = Ds.flatten.length ∧ b = a + b2 ∧ AllB b2 Ds ∧ AllB bs Es ∧ n = (Ds.flatten ++ Es.flatten ++ last).length ∧ Bub X (Ds.flatten ++ Es.flatten ++ last) ∧ SW wr w0 g (Ds.flatten ++ Es.flatten ++ last) tl) (fun av _ _ => n + 1 - (intOf av).toNat)
          case atStart => exact ⟨0, b2, [], Cs, rfl, rfl, rfl, (by omega), fun _ h => (by cases h), HC.out, Hlen.out, Hbub.out, S.out⟩
          case round =>
            clear S Hbub HC Hlen
            obtain ⟨a, b, Ds, Es, rfl, rfl, ha, hb, hD, hE, hlen, hbub, hs⟩ := hrel
            have S := hid hs
            have Hbub := hid hbub
            have HD := hid hD
            have Ha := hid ha
            have Hlen := hid hlen
            have Hb := hid hb
            clear hs hbub hD
            have hbb : b ≤ 10000000 := by simp only [List.length_append] at hlen; omega
            by_cases hlt2 : b ≤ n
            · have d3 : decide (b ≤ n) = true := decide_eq_true hlt2
              obtain ⟨B, C, Es', rfl⟩ : ∃ B C Es', Es = B :: C :: Es' := by
                match Es, hE, hlen with
                | [], _, hlen => exfalso; have := Hll.out; have := Hb2.out; simp only [List.flatten_nil, List.append_nil, List.length_append] at hlen; omega
                | [B], hE, hlen => exfalso; have := Hll.out; have := Hb2.out; have := (hE B (by simp)).1; simp only [List.flatten_cons, List.flatten_nil, List.append_nil, List.length_append] at hlen; omega
                | B :: C :: Es', _, _ => exact ⟨B, C, Es', rfl⟩
              obtain ⟨B1, B2⟩ := hE B (by simp)
              obtain ⟨C1, C2⟩ := hE C (by simp)
              obtain ⟨md, hmd⟩ : ∃ md, md = a + bs := ⟨_, rfl⟩
              have t3 : IntKind.i64.wrap ((a : Int) + (bs : Int)) = (md : Int) := (IntWalk.i64_in _ (by omega)).trans (by omega)
              have t4 : IntKind.i64.wrap ((b : Int) + (b2 : Int)) = ((b + b2 : Nat) : Int) := (IntWalk.i64_in _ (by omega)).trans (by omega)
              have Hmd := hid hmd
              have HB1 := hid B1
              have HB2 := hid B2
              have HC1 := hid C1
              have HC2 := hid C2
              have HE := hid (show AllB bs Es' from fun D hD => hE D (by simp [hD]))
              have S1 := hid (show SW wr w0 g (Ds.flatten ++ (B ++ C) ++ (Es'.flatten ++ last)) tl by have := S.out; simpa using this)
              have Bu := hid (show Bub X (Ds.flatten ++ (B ++ C) ++ (Es'.flatten ++ last)) by have := Hbub.out; simpa using this)
              have HN := hid (show n = Ds.flatten.length + B.length + C.length + (Es'.flatten ++ last).length by have := Hlen.out; simp only [List.flatten_cons, List.length_append] at this ⊢; omega)
              have Hlt2 := hid hlt2
              clear S Hbub Hlen hlen hE B1 B2 C1 C2 hmd ha hb hlt2
              go_wp2_with fail
              refine (sym_ok (B.length + C.length) g cap n a md b Ds.flatten B C (Es'.flatten ++ last) tl w0 _ (by have := HB1.out; omega) (by have := HC1.out; omega) (Nat.le_refl _) HB2.out HC2.out S1.out Ha.out (by have := HB1.out; have := Hmd.out; omega) (by have := HC1.out; have := Hmd.out; have := Hb.out; have := Hb2.out; omega) HN.out hm).mono ?_
              rintro e w2 ⟨rfl, Z2, hZ1, hZ2, hS⟩
              have HS := hid hS
              have HZ1 := hid hZ1
              have HZ2 := hid hZ2
              have HL := hid (show Z2.length = b2 by have h1 := hZ1.len; have := HB1.out; have := HC1.out; have := Hb2.out; rw [List.length_append] at h1; omega)
              clear hS hZ1 hZ2
              go_wp2
              go_roundw
              case rel =>
                refine ⟨b, b + b2, Ds ++ [Z2], Es', rfl, by go_num, ?_, rfl, HD.out.snoc HL.out HZ2.out, HE.out, ?_, ?_, ?_⟩
                · rw [flat_snoc, List.length_append, HL.out, ← Ha.out]; exact Hb.out
                · rw [flat_snoc]
                  have := HN.out; have := HL.out; have := HB1.out; have := HC1.out; have := Hb2.out
                  simp only [List.length_append] at *
                  omega
                · rw [flat_snoc, List.append_assoc (Ds.flatten ++ Z2)]
                  exact Bu.out.tr (HZ1.out.ctx _ _)
                · rw [flat_snoc, List.append_assoc (Ds.flatten ++ Z2)]
                  exact HS.out
              case measure => have := Hlt2.out; have := Hb.out; have := Hb2.out; simp [intOf]; omega
            · have d3 : decide (b ≤ n) = false := decide_eq_false hlt2
              obtain ⟨md, hmd⟩ : ∃ md, md = a + bs := ⟨_, rfl⟩
              have t3 : IntKind.i64.wrap ((a : Int) + (bs : Int)) = (md : Int) := (IntWalk.i64_in _ (by omega)).trans (by omega)
              have Hmd := hid hmd
              rcases Es with _ | ⟨B, _ | ⟨C, Es'⟩⟩
              · have d4 : decide (md < n) = false := decide_eq_false (by have := Hll.out; simp only [List.flatten_nil, List.append_nil, List.length_append] at hlen; omega)
                clear hlen Hlen hE ha hb hmd hlt2
                go_wp2
                go_roundw
                case rel => exact ⟨b2, Ds, last, rfl, by have := Hb2.out; have := Hbs.out; omega, hb2l, HD.out, by have := Hb2.out; have := Hll.out; omega, Hlp.out, by have := Hbub.out; simpa using this, by have := S.out; simpa using this⟩
                case measure => have := Hb2.out; have := Hbs.out; have := Hlt.out; simp [intOf]; omega
              · obtain ⟨B1, B2⟩ := hE B (by simp)
                have HB1 := hid B1
                have HB2 := hid B2
                simp only [List.flatten_cons, List.flatten_nil, List.append_nil, List.length_append] at hlen
                have HN := hid hlen
                have S1 := hid (show SW wr w0 g (Ds.flatten ++ (B ++ last) ++ []) tl by have := S.out; simpa using this)
                have Bu := hid (show Bub X (Ds.flatten ++ (B ++ last)) by have := Hbub.out; simpa using this)
                by_cases hz : last.length = 0
                · have d4 : decide (md < n) = false := decide_eq_false (by omega)
                  have hz2 := hid (List.eq_nil_of_length_eq_zero hz)
                  clear hlen hE ha hb hmd hlt2 B1 B2 hz
                  go_wp2
                  go_roundw
                  case rel => exact ⟨b2, Ds, B, rfl, by have := Hb2.out; have := Hbs.out; omega, hb2l, HD.out, by have := Hb2.out; have := HB1.out; have := Hbs.out; omega, HB2.out, by have := Bu.out; rwa [hz2.out, List.append_nil] at this, by have := S1.out; rwa [hz2.out, List.append_nil, List.append_nil] at this⟩
                  case measure => have := Hb2.out; have := Hbs.out; have := Hlt.out; simp [intOf]; omega
                · have d4 : decide (md < n) = true := decide_eq_true (by omega)
                  have Hz := hid hz
                  clear hlen hE ha hb hmd hlt2 B1 B2 hz
                  go_wp2_with fail
                  refine (sym_ok (B.length + last.length) g cap n a md n Ds.flatten B last [] tl w0 _ (by have := HB1.out; have := Hbs.out; omega) Hz.out (Nat.le_refl _) HB2.out Hlp.out S1.out Ha.out (by have := HB1.out; have := Hmd.out; omega) (by have := HB1.out; have := Hmd.out; have := HN.out; have := Ha.out; omega) (by have := HN.out; simp only [List.length_nil]; omega) hm).mono ?_
                  rintro e w2 ⟨rfl, Z2, hZ1, hZ2, hS⟩
                  have HS := hid (show SW w2 w0 g (Ds.flatten ++ Z2) tl by rwa [List.append_nil] at hS)
                  have HZ1 := hid hZ1
                  have HZ2 := hid hZ2
                  have HL := hid (show Z2.length < b2 by have h1 := hZ1.len; have := HB1.out; have := Hll.out; have := Hb2.out; rw [List.length_append] at h1; omega)
                  clear hS hZ1 hZ2
                  go_wp2
                  go_roundw
                  case rel => exact ⟨b2, Ds, Z2, rfl, by have := Hb2.out; have := Hbs.out; omega, hb2l, HD.out, HL.out, HZ2.out, Bu.out.tr (by have := HZ1.out.ctx Ds.flatten []; simpa using this), HS.out⟩
                  case measure => have := Hb2.out; have := Hbs.out; have := Hlt.out; simp [intOf]; omega
              · exfalso
                have h1 := (hE B (by simp)).1
                have h2 := (hE C (by simp)).1
                have h3 := Hb2.out
                simp only [List.flatten_cons, List.length_append] at hlen
                omega
        · have d2 : decide (bs < n) = false := decide_eq_false hlt
          have Hd := hid (all_done HC.out Hlp.out hbs (by omega) Hlen.out)
          clear hlt hbs
          go_wp2
          go_end0
          exact ⟨rfl, _, Hbub.out, Hd.out, by have := S.out; simpa using this⟩
end Go.Proofs.Ytlekobompjehdaa
