/-
  MergeCosts: what lengths cost, and which arguments are refused.
-/
import Derived.Test.YtnlhneoiofijeaaSound
namespace Go.Proofs.Ytnlhneoiofijeaa.MergeCosts
open Go.ChangeShapes Go.WideShapes Go.ChangeAt Go.RowKit Go.Proofs.Ytnlhneoiofijeaa

/-- what the first j cost -/
def costTo (cs ls : List Int) : Nat → Int
  | 0 => 0
  | j + 1 => costTo cs ls j + cs.getD j 0 * ls.getD j 0

def badl (n : Int) : Bool := decide (n < 0 ∨ 16 < n)
theorem badl_false {n : Int} : badl n = false ↔ 0 ≤ n ∧ n ≤ 16 := by unfold badl; simp
theorem badl_true {n : Int} : badl n = true ↔ n < 0 ∨ 16 < n := by unfold badl; simp

theorem mul_bd {x y : Int} (h1 : 0 ≤ x) (h2 : x ≤ 1099511627776) (h3 : 0 ≤ y) (h4 : y ≤ 16) : 0 ≤ x * y ∧ x * y ≤ 17592186044416 := by
  refine ⟨Int.mul_nonneg h1 h3, ?_⟩
  have a := Int.mul_le_mul h2 h4 h3 (by omega)
  omega

theorem all_at {p : Int → Bool} {l : List Int} (h : l.any p = false) {j : Nat} (hj : j < l.length) : p l[j] = false := by
  have := List.any_eq_false.1 h l[j] (List.getElem_mem hj)
  simpa using this

theorem cost_bd (cs ls : List Int) (hc : cs.any badc = false) (hl : ls.any badl = false) : ∀ j : Nat, j ≤ cs.length → j ≤ ls.length → 0 ≤ costTo cs ls j ∧ costTo cs ls j ≤ j * 17592186044416
  | 0, _, _ => by simp [costTo]
  | j + 1, h1, h2 => by
    have ih := cost_bd cs ls hc hl j (by omega) (by omega)
    have e1 : cs.getD j 0 = cs[j] := by simp [List.getD, List.getElem?_eq_getElem (show j < cs.length by omega)]
    have e2 : ls.getD j 0 = ls[j] := by simp [List.getD, List.getElem?_eq_getElem (show j < ls.length by omega)]
    have b1 := badc_false.1 (all_at hc (show j < cs.length by omega))
    have b2 := badl_false.1 (all_at hl (show j < ls.length by omega))
    have b := mul_bd b1.1 b1.2 b2.1 b2.2
    simp only [costTo, e1, e2]
    constructor
    · omega
    · have : ((j + 1 : Nat) : Int) * 17592186044416 = j * 17592186044416 + 17592186044416 := by push_cast; omega
      omega

set_option maxHeartbeats 1000000 in
theorem lawcost_any (A B : Option Addr) (c d : Nat) (cs ls : List Int) (W : World) (K : Nat) (hr1 : RdI W K A cs) (hr2 : RdI W K B ls) (hlen : cs.length = ls.length) (hm : cs.length ≤ 300)
    (hc : cs.any badc = false) (hl : ls.any badl = false) :
    Calls Try.prog 28 #[.slice A cs.length c, .slice B ls.length d] W fun e w' => e = .returned (.int .i64 (costTo cs ls cs.length)) ∧ ∃ n, w' = W.drewN n := by
  have Hr1 := hid hr1
  have Hr2 := hid hr2
  have Hlen := hid hlen
  have Hc := hid hc
  have Hl := hid hl
  have hle : cs.length ≤ ls.length := by omega
  clear hr1 hr2 hlen hc hl
  go_enter Try.func28, Try.ntmps28
  go_wp2
  go_loopw [5, 9] (fun s i wr => ∃ j n : Nat, j ≤ cs.length ∧ i = .int .i64 j ∧ s = .int .i64 (costTo cs ls j) ∧ wr = W.drewN n) (fun _ i _ => cs.length - (intOf i).toNat)
  case atStart => exact ⟨0, 0, by omega, rfl, rfl, rfl⟩
  case round =>
    obtain ⟨j, n, hj, rfl, rfl, rfl⟩ := hrel
    by_cases hlt : j < cs.length
    · obtain ⟨b, off, rfl, hbb, h0⟩ := int_at Hr1.out hlt
      obtain ⟨b', off', rfl, hbb', h0'⟩ := int_at Hr2.out (show j < ls.length by omega)
      have Hs := hid (show costTo cs ls (j + 1) = costTo cs ls j + cs[j] * ls[j] by simp [costTo, List.getD, List.getElem?_eq_getElem hlt, List.getElem?_eq_getElem (show j < ls.length by omega)])
      have b1 := badc_false.1 (all_at Hc.out hlt)
      have b2 := badl_false.1 (all_at Hl.out (show j < ls.length by omega))
      obtain ⟨m1, m2⟩ := mul_bd b1.1 b1.2 b2.1 b2.2
      obtain ⟨s1, s2⟩ := cost_bd cs ls Hc.out Hl.out j (by omega) (by omega)
      have s3 : costTo cs ls j ≤ 5277655813324800 := by omega
      clear b1 b2 s2
      generalize cs[j] = x at *
      generalize ls[j] = y at *
      generalize costTo cs ls j = z at *
      have hj2 : j < ls.length := by omega
      go_wp2
      go_quiet (fail)
      go_wp2
      go_roundw
      case rel => exact ⟨j + 1, n + nq, by omega, by go_num, by rw [Hs.out], by simp⟩
      case measure => simp [intOf]; omega
    · go_wp2
      go_ret
      have e : j = cs.length := by omega
      subst e
      exact ⟨rfl, n, rfl⟩


def ErrForm (W : World) (e : Ending) (w' : World) : Prop := e = .returned (.tuple #[.int .i64 0, .iface 47 (.int .i64 6)]) ∧ W = w'

theorem cost_len (A B : Option Addr) (c d : Nat) (cs ls : List Int) (W : World) (h : cs.length ≠ ls.length) :
    Calls Try.prog 26 #[.slice A cs.length c, .slice B ls.length d] W (ErrForm W) := by
  have h1 : ((cs.length : Int) != ls.length) = true := by rw [bne_iff_ne]; omega
  clear h
  go_enter Try.func26, Try.ntmps26
  go_wp2
  go_ret2
  exact ⟨rfl, rfl⟩

theorem cost_sound (A B : Option Addr) (c d : Nat) (cs ls : List Int) (W : World) (K : Nat) (hr1 : RdI W K A cs) (hm : cs.length ≤ maxLen) (h : goodc cs 300 = false) (hlen : cs.length = ls.length) :
    Calls Try.prog 26 #[.slice A cs.length c, .slice B ls.length d] W (ErrForm W) := by
  have H := hid (sound_any A c cs 300 W K hr1 hm false h)
  have h1 : ((cs.length : Int) != ls.length) = false := by rw [bne_eq_false_iff_eq]; omega
  clear hr1 hm h hlen
  go_enter Try.func26, Try.ntmps26
  go_wp2_with (refine H.out.mono ?_; rintro e w' ⟨rfl, rfl⟩)
  go_ret2
  exact ⟨rfl, rfl⟩

def CostEnd (cs ls : List Int) (W : World) (g : Bool) (e : Ending) (w' : World) : Prop :=
  match g with
  | true => ErrForm W e w'
  | false => e = .returned (.tuple #[.int .i64 (costTo cs ls cs.length), .nilIface]) ∧ W = w'

set_option maxHeartbeats 1000000 in
theorem cost_all (A B : Option Addr) (c d : Nat) (cs ls : List Int) (W : World) (K : Nat) (hr1 : RdI W K A cs) (hr2 : RdI W K B ls) (hm : cs.length ≤ maxLen) (h : goodc cs 300 = true) (hlen : cs.length = ls.length) :
    Calls Try.prog 26 #[.slice A cs.length c, .slice B ls.length d] W (CostEnd cs ls W (ls.any badl)) := by
  have H := hid (sound_any A c cs 300 W K hr1 hm true h)
  have h1 : ((cs.length : Int) != ls.length) = false := by rw [bne_eq_false_iff_eq]; omega
  have hc := (goodc_true.1 h).2
  have hm3 : cs.length ≤ 300 := by have := (goodc_true.1 h).1; omega
  have Hr1 := hid hr1
  have Hr2 := hid hr2
  have Hlen := hid hlen
  have Hc := hid hc
  have hle : cs.length ≤ ls.length := by omega
  have hle' : ls.length ≤ cs.length := by omega
  clear hr1 hr2 hlen hc hm h
  go_enter Try.func26, Try.ntmps26
  go_wp2_with (refine H.out.mono ?_; rintro e w' ⟨rfl, rfl⟩)
  go_loop [6, 22] (fun s i => ∃ j : Nat, j ≤ ls.length ∧ i = .int .i64 j ∧ s = .int .i64 (costTo cs ls j) ∧ (ls.take j).any badl = false) (fun _ i => ls.length - (intOf i).toNat)
  case atStart => exact ⟨0, by omega, rfl, rfl, rfl⟩
  case round =>
    obtain ⟨j, hj, rfl, rfl, hno⟩ := hrel
    have Hno := hid hno
    clear hno
    by_cases hlt : j < ls.length
    · obtain ⟨b, off, rfl, hbb, h0⟩ := int_at Hr1.out (show j < cs.length by omega)
      obtain ⟨b', off', rfl, hbb', h0'⟩ := int_at Hr2.out hlt
      have Hs := hid (show costTo cs ls (j + 1) = costTo cs ls j + cs[j] * ls[j] by simp [costTo, List.getD, List.getElem?_eq_getElem hlt, List.getElem?_eq_getElem (show j < cs.length by omega)])
      have Ht := hid (any_take badl ls j hlt)
      have b1 := badc_false.1 (all_at Hc.out (show j < cs.length by omega))
      have Hmem := hid (List.getElem_mem hlt)
      have hcb : 0 ≤ costTo cs ls j ∧ costTo cs ls j ≤ 5277655813324800 := by
        have hl2 : (ls.take j).any badl = false := Hno.out
        have e : ∀ i : Nat, i ≤ j → costTo cs ls i = costTo cs (ls.take j) i := by
          intro i
          induction i with
          | zero => intro _; rfl
          | succ i ih => intro hi; simp only [costTo, ih (by omega)]; congr 2; simp [List.getD, List.getElem?_take_of_lt (show i < j by omega)]
        have := cost_bd cs (ls.take j) Hc.out hl2 j (by omega) (by rw [List.length_take]; omega)
        rw [← e j (Nat.le_refl _)] at this
        omega
      obtain ⟨s1, s3⟩ := hcb
      cases hb : badl ls[j]
      · have b2 := badl_false.1 hb
        have Hb := hid hb
        clear hb
        obtain ⟨m1, m2⟩ := mul_bd b1.1 b1.2 b2.1 b2.2
        obtain ⟨b21, b22⟩ := b2
        clear b1
        generalize cs[j] = x at *
        generalize ls[j] = y at *
        generalize costTo cs ls j = z at *
        have hj2 : j < cs.length := by omega
        go_wp2
        go_round
        case rel => exact ⟨j + 1, by omega, by go_num, by rw [Hs.out], by rw [Ht.out, Hno.out, Hb.out]; rfl⟩
        case measure => simp [intOf]; omega
      · have b2 := badl_true.1 hb
        have Hany := hid (List.any_eq_true.2 ⟨ls[j], Hmem.out, hb⟩)
        clear hb b1
        generalize cs[j] = x at *
        generalize ls[j] = y at *
        generalize costTo cs ls j = z at *
        have hj2 : j < cs.length := by omega
        rcases b2 with b2 | b2
        all_goals
          go_wp2
          go_ret2
          rw [Hany.out]
          exact ⟨rfl, rfl⟩
    · go_wp2
      go_ret2
      have e : j = ls.length := by omega
      subst e
      have := Hno.out
      rw [List.take_length] at this
      rw [this, ← Hlen.out]
      exact ⟨rfl, rfl⟩

end Go.Proofs.Ytnlhneoiofijeaa.MergeCosts
