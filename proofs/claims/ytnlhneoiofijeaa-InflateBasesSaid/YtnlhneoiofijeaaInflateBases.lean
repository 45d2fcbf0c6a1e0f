/-
  InflateBases: for every two numbers the law returns true: the bases and extra bits of symbols are the written ones, and a length's or distance's symbol is the last whose base is not above it. No condition.
-/
import Derived.Test.YtnlhneoiofijeaaInfSymJ
import Derived.Deep.DeepCutAuto
import Derived.Deep.CutRange
namespace Go.Proofs.Ytnlhneoiofijeaa.InflateBases
open Go.ChangeShapes Go.WideShapes Go.ChangeAt Go.RowKit Go.Proofs.Ytnlhneoiofijeaa

/-- LengthBase and DistBase at every number -/
def lok (s : Int) : Bool := decide (257 ≤ s ∧ s ≤ 285)
def lbT (s : Int) : Int := if lok s = true then lbase s else 0
def leT (s : Int) : Int := if lok s = true then lextra s else 0
def dok (s : Int) : Bool := decide (0 ≤ s ∧ s ≤ 29)
def dbT (s : Int) : Int := if dok s = true then dbase s else 0
def deT (s : Int) : Int := if dok s = true then dextra s else 0
theorem lenb_any (s : Int) (w : World) : Calls Try.prog 31 #[.int .i64 s] w fun e w' => e = .returned (.tuple #[.int .i64 (lbT s), .int .i64 (leT s), .bool (lok s)]) ∧ w = w' := by
  by_cases h : 257 ≤ s ∧ s ≤ 285
  · have hk : lok s = true := by unfold lok; simp; omega
    rw [lbT, leT, if_pos hk, if_pos hk, hk]
    exact lbase_yes s h.1 h.2 w
  · have hk : lok s = false := by unfold lok; simp; omega
    rw [lbT, leT, if_neg (by simp [hk]), if_neg (by simp [hk]), hk]
    exact lbase_no s (by omega) w
theorem distb_any (s : Int) (w : World) : Calls Try.prog 32 #[.int .i64 s] w fun e w' => e = .returned (.tuple #[.int .i64 (dbT s), .int .i64 (deT s), .bool (dok s)]) ∧ w = w' := by
  by_cases h : 0 ≤ s ∧ s ≤ 29
  · have hk : dok s = true := by unfold dok; simp; omega
    rw [dbT, deT, if_pos hk, if_pos hk, hk]
    exact dbase_yes s h.1 h.2 w
  · have hk : dok s = false := by unfold dok; simp; omega
    rw [dbT, deT, if_neg (by simp [hk]), if_neg (by simp [hk]), hk]
    exact dbase_no s (by omega) w

/-- a number's symbol, if it has one -/
def LEnd (n : Int) (s : Int) (ok : Bool) : Prop := (ok = true ∧ 3 ≤ n ∧ n ≤ 258 ∧ ∃ j : Nat, j < 29 ∧ s = 257 + j ∧ lbase (257 + j) ≤ n ∧ (28 ≤ j ∨ (j < 28 ∧ n < lbase (257 + (j + 1))))) ∨ (ok = false ∧ s = 0 ∧ (n < 3 ∨ 258 < n))
def DEnd (n : Int) (s : Int) (ok : Bool) : Prop := (ok = true ∧ 1 ≤ n ∧ n ≤ 32768 ∧ ∃ j : Nat, j < 30 ∧ s = j ∧ dbase j ≤ n ∧ (29 ≤ j ∨ (j < 29 ∧ n < dbase (j + 1)))) ∨ (ok = false ∧ s = 0 ∧ (n < 1 ∨ 32768 < n))
theorem lsym_end (n : Int) (w : World) : Calls Try.prog 33 #[.int .i64 n] w fun e w' => ∃ s ok, LEnd n s ok ∧ e = .returned (.tuple #[.int .i64 s, .bool ok]) ∧ w = w' := by
  by_cases h : 3 ≤ n ∧ n ≤ 258
  · exact (lsymJ n h.1 h.2 w).mono fun e w' ⟨j, hj, he, h1, h2, hw⟩ => ⟨_, true, .inl ⟨rfl, h.1, h.2, j, hj, rfl, h1, h2⟩, he, hw⟩
  · exact (lsym_no n (by omega) w).mono fun e w' ⟨he, hw⟩ => ⟨0, false, .inr ⟨rfl, rfl, by omega⟩, he, hw⟩
theorem dsym_end (n : Int) (w : World) : Calls Try.prog 34 #[.int .i64 n] w fun e w' => ∃ s ok, DEnd n s ok ∧ e = .returned (.tuple #[.int .i64 s, .bool ok]) ∧ w = w' := by
  by_cases h : 1 ≤ n ∧ n ≤ 32768
  · exact (dsymJ n h.1 h.2 w).mono fun e w' ⟨j, hj, he, h1, h2, hw⟩ => ⟨_, true, .inl ⟨rfl, h.1, h.2, j, hj, rfl, h1, h2⟩, he, hw⟩
  · exact (dsym_no n (by omega) w).mono fun e w' ⟨he, hw⟩ => ⟨0, false, .inr ⟨rfl, rfl, by omega⟩, he, hw⟩

set_option maxRecDepth 100000 in
set_option maxHeartbeats 8000000 in
theorem walk (s n : Int) (W : World) :
    Calls Try.prog 8 #[.int .i64 s, .int .i64 n] W fun e w' => e = .returned (.bool true) ∧ Below W.heap.size W w' := by
  go_enter Try.func8, Try.ntmps8
  go_wp2_with fail
  refine (lens_any _).mono ?_
  rintro e w1 ⟨rfl, hb1, hz1, ha1, hb1'⟩
  go_wp2_with fail
  refine (dists_any _).mono ?_
  rintro e w2 ⟨rfl, hb2, hz2, ha2, hb2'⟩
  have Hbb := hid (hb1.trans (hb2.mono (show W.heap.size ≤ w1.heap.size by omega)))
  have C1 := hid (fun (k : Nat) (hk : k < 29) => (hb2.cell (p := ⟨W.heap.size, k, none⟩) (by show W.heap.size < w1.heap.size; omega)).trans (ha1 k hk))
  have C2 := hid (fun (k : Nat) (hk : k < 29) => (hb2.cell (p := ⟨W.heap.size + 1, k, none⟩) (by show W.heap.size + 1 < w1.heap.size; omega)).trans (hb1' k hk))
  have C3 := hid ha2
  have C4 := hid hb2'
  clear ha1 hb1' ha2 hb2' hb1 hb2 hz1 hz2
  go_wp2_with fail
  refine (lenb_any s _).mono ?_
  rintro e w3 ⟨rfl, rfl⟩
  go_upto_region 5 with (fail)
  go_cut [37] from 16 to 37 (fun v w => v = .bool (lok s) ∧ w2 = w)
  case first =>
    have hk : Hid (lok s = (decide (257 ≤ s) && decide (s ≤ 285))) := by unfold lok Hid; simp
    go_wp2
    all_goals
      go_meet
      exact ⟨by rw [hk.out]; first | rfl | (simp; omega) | (congr 1; simp; omega), rfl⟩
  case rest =>
    obtain ⟨rfl, rfl⟩ := hcut
    go_upto_if 37 with (fail)
    go_cut [38] from 9 to 64 (fun _ w => w2 = w)
    case first =>
      cases hk : lok s
      · have e1 : lbT s = 0 := by unfold lbT; rw [if_neg (by simp [hk])]
        have e2 : leT s = 0 := by unfold leT; rw [if_neg (by simp [hk])]
        go_wp2
        go_meet
        rfl
      · have hb : 257 ≤ s ∧ s ≤ 285 := by unfold lok at hk; simpa using hk
        obtain ⟨k, rfl⟩ : ∃ k : Nat, s = 257 + k := ⟨(s - 257).toNat, by omega⟩
        have hk29 : k < 29 := by omega
        have e1 : lbT (257 + (k : Int)) = lbase (257 + k) := by unfold lbT; rw [if_pos hk]
        have e2 : leT (257 + (k : Int)) = lextra (257 + k) := by unfold leT; rw [if_pos hk]
        have c1 : w2.cell? ⟨W.heap.size, k, none⟩ = some (.int .i64 (lbase (257 + k))) := C1.out k hk29
        have c2 : w2.cell? ⟨W.heap.size + 1, k, none⟩ = some (.int .i64 (lextra (257 + k))) := C2.out k hk29
        have e3 : Go.RowKit.wrap64 (257 + (k : Int) - 257) = k := by unfold Go.RowKit.wrap64; omega
        go_wp2
        go_meet
        rfl
    case rest =>
      subst hcut
      go_wp2_with fail
      refine (distb_any s _).mono ?_
      rintro e w3 ⟨rfl, rfl⟩
      go_upto_region 11 with (fail)
      go_cut [76] from 65 to 76 (fun v w => v = .bool (dok s) ∧ w2 = w)
      case first =>
        have hk : Hid (dok s = (decide (0 ≤ s) && decide (s < 30))) := by unfold dok Hid; rw [Bool.eq_iff_iff]; simp; omega
        go_wp2
        all_goals
          go_meet
          exact ⟨by rw [hk.out]; first | rfl | (simp; omega) | (congr 1; simp; omega), rfl⟩
      case rest =>
        obtain ⟨rfl, rfl⟩ := hcut
        go_upto_if 76 with (fail)
        go_cut [77] from 9 to 103 (fun _ w => w2 = w)
        case first =>
          cases hk : dok s
          · have e1 : dbT s = 0 := by unfold dbT; rw [if_neg (by simp [hk])]
            have e2 : deT s = 0 := by unfold deT; rw [if_neg (by simp [hk])]
            go_wp2
            go_meet
            rfl
          · have hb : 0 ≤ s ∧ s ≤ 29 := by unfold dok at hk; simpa using hk
            obtain ⟨k, rfl⟩ : ∃ k : Nat, s = k := ⟨s.toNat, by omega⟩
            have hk29 : k < 30 := by omega
            have e1 : dbT (k : Int) = dbase k := by unfold dbT; rw [if_pos hk]
            have e2 : deT (k : Int) = dextra k := by unfold deT; rw [if_pos hk]
            have c1 : w2.cell? ⟨w1.heap.size, k, none⟩ = some (.int .i64 (dbase k)) := C3.out k hk29
            have c2 : w2.cell? ⟨w1.heap.size + 1, k, none⟩ = some (.int .i64 (dextra k)) := C4.out k hk29
            go_wp2
            go_meet
            rfl
        case rest =>
          subst hcut
          go_wp2_with fail
          refine (lsym_end n _).mono ?_
          rintro e w3 ⟨x, ok, hend, rfl, rfl⟩
          go_upto_region 17 with (fail)
          go_cut [157] from 104 to 157 (fun v w => v = .bool false ∧ w2 = w)
          case first =>
            rcases hend with ⟨rfl, h1, h2, k, hk, rfl, h3, h4⟩ | ⟨rfl, rfl, h1⟩
            · have c1 : w2.cell? ⟨W.heap.size, k, none⟩ = some (.int .i64 (lbase (257 + k))) := C1.out k hk
              rcases h4 with h4 | ⟨h4, h5⟩
              · go_wp2
                go_meet
                exact ⟨by first | rfl | (simp; omega) | (congr 1; simp; omega), rfl⟩
              · have c2 : w2.cell? ⟨W.heap.size, 257 + k - 256, none⟩ = some (.int .i64 (lbase (257 + (k + 1)))) := by rw [show 257 + k - 256 = k + 1 by omega]; exact C1.out (k + 1) (by omega)
                go_wp2
                go_meet
                exact ⟨by first | rfl | (simp; omega) | (congr 1; simp; omega), rfl⟩
            · rcases h1 with h1 | h1
              all_goals
                go_wp2
                go_meet
                exact ⟨by first | rfl | (simp; omega) | (congr 1; simp; omega), rfl⟩
          case rest =>
            obtain ⟨rfl, rfl⟩ := hcut
            clear hend
            go_wp2_with fail
            refine (dsym_end n _).mono ?_
            rintro e w3 ⟨y, ok', hend, rfl, rfl⟩
            go_upto_region 20 with (fail)
            go_cut [210] from 158 to 210 (fun v w => v = .bool false ∧ w2 = w)
            case first =>
              rcases hend with ⟨rfl, h1, h2, k, hk, rfl, h3, h4⟩ | ⟨rfl, rfl, h1⟩
              · have c1 : w2.cell? ⟨w1.heap.size, k, none⟩ = some (.int .i64 (dbase k)) := C3.out k hk
                rcases h4 with h4 | ⟨h4, h5⟩
                · go_wp2
                  go_meet
                  exact ⟨by first | rfl | (simp; omega) | (congr 1; simp; omega), rfl⟩
                · have c2 : w2.cell? ⟨w1.heap.size, k + 1, none⟩ = some (.int .i64 (dbase (k + 1))) := C3.out (k + 1) (by omega)
                  go_wp2
                  go_meet
                  exact ⟨by first | rfl | (simp; omega) | (congr 1; simp; omega), rfl⟩
              · rcases h1 with h1 | h1
                all_goals
                  go_wp2
                  go_meet
                  exact ⟨by first | rfl | (simp; omega) | (congr 1; simp; omega), rfl⟩
            case rest =>
              obtain ⟨rfl, rfl⟩ := hcut
              clear hend
              go_wp2_with fail
              refine (lsym258 _).mono ?_
              rintro e w3 ⟨rfl, rfl⟩
              go_wp2_with fail
              go_ret
              exact ⟨rfl, Hbb.out⟩

set_option maxRecDepth 100000 in
theorem lifted (os : Os) (started : os.Started) (H : Type) (enc : TypeId × Value → H) :
    ReturnsInHanded {} Try.checked os 8 .any (Rows.inflateBasesSpec.pre6 enc Try.prog Try.f8 Rows.inflateBasesRow.domain false) (Rows.inflateBasesSpec.post enc Try.prog Try.f8 false true false false) :=
  law_lifted own laidOut started (by kernel_rfl) Try.func8 rfl rfl Try.underlying4
    (by rw [Try.params8]; intro t ht; simp at ht; subst ht; exact ⟨by kernel_rfl, of_decide_eq_true (by kernel_rfl)⟩)
    (by
      intro ds h
      match ds, h with
      | [_, _], _ => exact ⟨rfl, rfl, rfl⟩)
    (ChangeSpec.witness6 (enc := enc) (C := Try.checked) false ⟨#[], #[.int .i64 0, .int .i64 0], []⟩ 8 (by kernel_rfl) (by kernel_rfl) (by kernel_rfl) (by kernel_rfl))
    (by
      intro W base args ds ps hval hA
      rw [Try.params8] at hA hval
      obtain ⟨v0, vs0, d0, ds0, p0, q0, hargs, rfl, rfl, h0, r0⟩ := trodAll_cons hA
      obtain ⟨v1, vs1, d1, ds1, p1, q1, rfl, rfl, rfl, h1, r1⟩ := trodAll_cons r0
      obtain ⟨rfl, rfl, rfl⟩ := trodAll_nil r1
      obtain rfl : args = #[v0, v1] := by cases args; simp_all
      obtain ⟨a0, rfl, rfl, rfl, _⟩ := open_int Try.underlying3 (hval 0 3 v0 rfl rfl) h0
      obtain ⟨a1, rfl, rfl, rfl, _⟩ := open_int Try.underlying3 (hval 1 3 v1 rfl rfl) h1
      exact walk a0 a1 W)

theorem over : Rows.inflateBasesRow.holds Try.pinned (OpenSpec.ofChange Rows.inflateBasesSpec) :=
  OpenClaim.holds_of_wide 8 Try.f8 rfl rfl rfl rfl rfl rfl rfl ⟨rfl, rfl, rfl, rfl, rfl⟩ rfl rfl rfl rfl rfl (by kernel_rfl) Try.func8 (by kernel_rfl)
    (of_decide_eq_true (by kernel_rfl)) (by unfold Func.isWrapper; first | (rw [if_pos (by decide +kernel)]; kernel_rfl) | (rw [if_neg (by decide +kernel)]; exact ⟨rfl, rfl⟩))
    (fun os started H enc _ => lifted os started H enc)

theorem proved : Rows.InflateBasesSaid := over
#print axioms proved
end Go.Proofs.Ytnlhneoiofijeaa.InflateBases
