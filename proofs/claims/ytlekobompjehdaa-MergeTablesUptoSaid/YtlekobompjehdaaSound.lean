/-
  Counts in form: burnishref05.Good, merge.sound and what it calls.
-/
import Derived.Test.YtlekobompjehdaaBase
namespace Go.Proofs.Ytlekobompjehdaa
open Go.RowKit

/-- a count that is out of form -/
def badc (n : Int) : Bool := decide (n < 0 ∨ 1099511627776 < n)
theorem badc_false {n : Int} : badc n = false ↔ 0 ≤ n ∧ n ≤ 1099511627776 := by unfold badc; simp
theorem badc_true {n : Int} : badc n = true ↔ n < 0 ∨ 1099511627776 < n := by unfold badc; simp

theorem badc_yes (n : Int) (h : badc n = true) (w : World) : Calls Try.prog 77 #[.int .i64 n] w fun e w' => e = .returned (.bool true) ∧ w = w' := by
  rcases badc_true.1 h with h1 | h1
  all_goals
    clear h
    go_enter Try.func77, Try.ntmps77
    go_wp2
    go_ret
    exact ⟨rfl, rfl⟩
theorem badc_no (n : Int) (h : badc n = false) (w : World) : Calls Try.prog 77 #[.int .i64 n] w fun e w' => e = .returned (.bool false) ∧ w = w' := by
  obtain ⟨h1, h2⟩ := badc_false.1 h
  clear h
  go_enter Try.func77, Try.ntmps77
  go_wp2
  go_ret
  exact ⟨ret_bool (by simp; omega), rfl⟩

def SomeIdx (l : List Int) (W : World) (e : Ending) (w' : World) : Prop := ∃ r : Int, e = .returned (.int .i64 r) ∧ ((r < 0 ∧ l.any badc = false) ∨ (0 ≤ r ∧ l.any badc = true)) ∧ W = w'

theorem any_take (p : Int → Bool) (l : List Int) (j : Nat) (hj : j < l.length) : (l.take (j + 1)).any p = ((l.take j).any p || p l[j]) := by
  rw [List.take_succ_eq_append_getElem hj, List.any_append]; simp

theorem index_any (A : Option Addr) (c : Nat) (l : List Int) (W : World) (B : Nat) (hr : RdI W B A l) (hm : l.length ≤ maxLen) :
    Calls Try.prog 113 #[.slice A l.length c, .func (.func 77) #[] #[]] W (SomeIdx l W) := by
  unfold maxLen at hm
  have Hr := hid hr
  clear hr
  go_enter Try.func113, Try.ntmps113
  go_wp2
  go_loop [8] (fun i => ∃ j : Nat, j ≤ l.length ∧ i = .int .i64 j ∧ (l.take j).any badc = false) (fun i => l.length - (intOf i).toNat)
  case atStart => exact ⟨0, by omega, rfl, rfl⟩
  case round =>
    obtain ⟨j, hj, rfl, hno⟩ := hrel
    have Hno := hid hno
    clear hno
    by_cases hlt : j < l.length
    · obtain ⟨b, off, rfl, hbb, h0⟩ := int_at Hr.out hlt
      have Hs := hid (any_take badc l j hlt)
      cases hb : badc l[j]
      · have Hb := hid hb
        clear hb
        go_wp2_with (refine (badc_no _ Hb.out _).mono ?_; rintro e w' ⟨rfl, rfl⟩)
        go_round
        case rel => exact ⟨j + 1, by omega, by go_num, by rw [Hs.out, Hno.out, Hb.out]; rfl⟩
        case measure => simp [intOf]; omega
      · have Hb := hid hb
        clear hb
        go_wp2_with (refine (badc_yes _ Hb.out _).mono ?_; rintro e w' ⟨rfl, rfl⟩)
        go_ret
        exact ⟨j, rfl, .inr ⟨by omega, List.any_eq_true.2 ⟨l[j], List.getElem_mem hlt, Hb.out⟩⟩, rfl⟩
    · go_wp2
      go_ret
      have e : j = l.length := by omega
      subst e
      exact ⟨-1, rfl, .inl ⟨by omega, by have := Hno.out; rwa [List.take_length] at this⟩, rfl⟩

theorem contains_any (A : Option Addr) (c : Nat) (l : List Int) (W : World) (B : Nat) (hr : RdI W B A l) (hm : l.length ≤ maxLen) (g : Bool) (hg : l.any badc = g) :
    Calls Try.prog 76 #[.slice A l.length c, .func (.func 77) #[] #[]] W fun e w' => e = .returned (.bool g) ∧ W = w' := by
  have Hg := hid hg
  clear hg
  have H := hid (index_any A c l W B hr hm)
  clear hr hm
  go_enter Try.func76, Try.ntmps76
  go_wp2_with (refine H.out.mono ?_; rintro e w' ⟨r, rfl, hr, rfl⟩)
  go_ret
  refine ⟨ret_bool ?_, rfl⟩
  rcases hr with ⟨h1, h2⟩ | ⟨h1, h2⟩
  · have := Hg.out.symm.trans h2; subst this; simp; omega
  · have := Hg.out.symm.trans h2; subst this; simp; omega

/-- counts in form, at most m of them -/
def goodc (l : List Int) (m : Int) : Bool := decide ((l.length : Int) ≤ m) && !l.any badc
theorem goodc_true {l : List Int} {m : Int} : goodc l m = true ↔ (l.length : Int) ≤ m ∧ l.any badc = false := by unfold goodc; simp
theorem goodc_false {l : List Int} {m : Int} : goodc l m = false ↔ m < (l.length : Int) ∨ ((l.length : Int) ≤ m ∧ l.any badc = true) := by
  unfold goodc
  by_cases h : (l.length : Int) ≤ m <;> simp [h] <;> omega

theorem sound_any (A : Option Addr) (c : Nat) (l : List Int) (m : Int) (W : World) (B : Nat) (hr : RdI W B A l) (hm : l.length ≤ maxLen) (g : Bool) (hg : goodc l m = g) :
    Calls Try.prog 46 #[.slice A l.length c, .int .i64 m] W fun e w' => e = .returned (.bool g) ∧ W = w' := by
  cases g
  · rcases goodc_false.1 hg with h1 | ⟨h1, h2⟩
    · clear hg hr hm
      go_enter Try.func46, Try.ntmps46
      go_wp2
      go_ret
      exact ⟨rfl, rfl⟩
    · have H := hid (contains_any A c l W B hr hm true h2)
      clear hg hr hm h2
      go_enter Try.func46, Try.ntmps46
      go_wp2_with (refine H.out.mono ?_; rintro e w' ⟨rfl, rfl⟩)
      go_ret
      exact ⟨rfl, rfl⟩
  · obtain ⟨h1, h2⟩ := goodc_true.1 hg
    have H := hid (contains_any A c l W B hr hm false h2)
    clear hg hr hm h2
    go_enter Try.func46, Try.ntmps46
    go_wp2_with (refine H.out.mono ?_; rintro e w' ⟨rfl, rfl⟩)
    go_ret
    exact ⟨rfl, rfl⟩

theorem good_any (A : Option Addr) (c : Nat) (l : List Int) (m : Int) (W : World) (B : Nat) (hr : RdI W B A l) (hm : l.length ≤ maxLen) (g : Bool) (hg : goodc l m = g) :
    Calls Try.prog 15 #[.slice A l.length c, .int .i64 m] W fun e w' => e = .returned (.bool g) ∧ W = w' := by
  unfold maxLen at hm
  have Hr := hid hr
  clear hr
  by_cases hlen : (l.length : Int) ≤ m
  · have Hg := hid hg
    clear hg
    go_enter Try.func15, Try.ntmps15
    go_wp2
    go_loop [5] (fun i => ∃ j : Nat, j ≤ l.length ∧ i = .int .i64 j ∧ (l.take j).any badc = false) (fun i => l.length - (intOf i).toNat)
    case atStart => exact ⟨0, by omega, rfl, rfl⟩
    case round =>
      obtain ⟨j, hj, rfl, hno⟩ := hrel
      have Hno := hid hno
      clear hno
      by_cases hlt : j < l.length
      · obtain ⟨b, off, rfl, hbb, h0⟩ := int_at Hr.out hlt
        have Hs := hid (any_take badc l j hlt)
        have Hmem := hid (List.getElem_mem hlt)
        generalize hx : l[j] = x at *
        clear hx
        cases hb : badc x
        · obtain ⟨h1, h2⟩ := badc_false.1 hb
          have Hb := hid hb
          clear hb
          go_wp2
          go_round
          case rel => exact ⟨j + 1, by omega, by go_num, by rw [Hs.out, Hno.out, Hb.out]; rfl⟩
          case measure => simp [intOf]; omega
        · have Hb := hid hb
          rcases badc_true.1 hb with h1 | h1
          all_goals
            clear hb
            go_wp2
            go_ret
            exact ⟨ret_bool ((goodc_false.2 (.inr ⟨hlen, List.any_eq_true.2 ⟨x, Hmem.out, Hb.out⟩⟩)).symm.trans Hg.out), rfl⟩
      · go_wp2
        go_ret
        have e : j = l.length := by omega
        subst e
        exact ⟨ret_bool ((goodc_true.2 ⟨hlen, by have := Hno.out; rwa [List.take_length] at this⟩).symm.trans Hg.out), rfl⟩
  · have : g = false := by rw [← hg, goodc_false]; omega
    subst this
    clear hg
    go_enter Try.func15, Try.ntmps15
    go_wp2
    go_ret
    exact ⟨rfl, rfl⟩

end Go.Proofs.Ytlekobompjehdaa
