/-
  slices.Index, Contains and Equal of ints; sample.depths, deep, step, Narrow, Widen; raster.narrow.
-/
import Derived.Test.YtphhoihhmphbdaaBase
namespace Go.Proofs.Ytphhoihhmphbdaa
open Go.RowKit

def IdxEnd (l : List Int) (v : Int) (W : World) (e : Ending) (w' : World) : Prop := ∃ r : Int, e = .returned (.int .i64 r) ∧ ((r < 0 ∧ v ∉ l) ∨ (0 ≤ r ∧ v ∈ l)) ∧ W = w'
theorem mem_take_succ {l : List Int} {v : Int} {j : Nat} (hj : j < l.length) (h : v ∉ l.take j) (hv : l[j] ≠ v) : v ∉ l.take (j + 1) := by
  rw [List.take_succ_eq_append_getElem hj]
  intro hm
  rcases List.mem_append.1 hm with h1 | h1
  · exact h h1
  · simp at h1; exact hv h1.symm
set_option maxHeartbeats 1000000 in
theorem index_any (A : Option Addr) (c : Nat) (l : List Int) (v : Int) (W : World) (B : Nat) (hr : RdI W B A l) (hm : l.length ≤ 1000000) :
    Calls Try.prog 137 #[.slice A l.length c, .int .i64 v] W (IdxEnd l v W) := by
  have Hr := hid hr
  clear hr
  go_enter Try.func137, Try.ntmps137
  go_wp2
  go_loop [8] (fun i => ∃ j : Nat, j ≤ l.length ∧ i = .int .i64 j ∧ v ∉ l.take j) (fun i => l.length - (intOf i).toNat)
  case atStart => exact ⟨0, by omega, rfl, by simp⟩
  case round =>
    obtain ⟨j, hj, rfl, hno⟩ := hrel
    have Hno := hid hno
    clear hno
    by_cases hlt : j < l.length
    · obtain ⟨b, off, rfl, hbb, q0⟩ := int_at Hr.out hlt
      by_cases hv : l[j] = v
      · have Hm := hid (show v ∈ l from hv ▸ List.getElem_mem hlt)
        have hq : (v == l[j]) = true := beq_iff_eq.2 hv.symm
        generalize l[j] = x at *
        clear hv
        go_wp2
        go_ret
        exact ⟨j, rfl, .inr ⟨by omega, Hm.out⟩, rfl⟩
      · have Hm := hid (mem_take_succ hlt Hno.out hv)
        have hq : (v == l[j]) = false := beq_eq_false_iff_ne.2 (fun h => hv h.symm)
        generalize l[j] = x at *
        clear hv
        go_wp2
        go_round
        case rel => exact ⟨j + 1, by omega, by go_num, Hm.out⟩
        case measure => simp [intOf]; omega
    · go_wp2
      go_ret
      have e : j = l.length := by omega
      subst e
      exact ⟨-1, rfl, .inl ⟨by omega, by have := Hno.out; rwa [List.take_length] at this⟩, rfl⟩

theorem contains_any (A : Option Addr) (c : Nat) (l : List Int) (v : Int) (W : World) (B : Nat) (hr : RdI W B A l) (hm : l.length ≤ 1000000) (g : Bool) (hg : g = decide (v ∈ l)) :
    Calls Try.prog 113 #[.slice A l.length c, .int .i64 v] W fun e w' => e = .returned (.bool g) ∧ W = w' := by
  have Hg := hid hg
  have H := hid (index_any A c l v W B hr hm)
  clear hg hr hm
  go_enter Try.func113, Try.ntmps113
  go_wp2_with fail
  refine H.out.mono ?_
  rintro e w' ⟨r, rfl, hr, rfl⟩
  have Hr := hid hr
  clear hr
  go_wp2
  go_ret
  refine ⟨ret_bool ?_, rfl⟩
  rw [Hg.out]
  rcases Hr.out with ⟨h1, h2⟩ | ⟨h1, h2⟩
  · simp [h2]; omega
  · simp [h1, h2]

set_option maxHeartbeats 1000000 in
theorem equal_any (A B : Option Addr) (c d : Nat) (l m : List Int) (W : World) (K : Nat) (hr : RdI W K A l) (hr2 : RdI W K B m) (hm : l.length ≤ 1000000) (hm2 : m.length ≤ 1000000) (g : Bool) (hg : g = decide (l = m)) :
    Calls Try.prog 89 #[.slice A l.length c, .slice B m.length d] W fun e w' => e = .returned (.bool g) ∧ ∃ n, w' = W.drewN n := by
  have Hr := hid hr
  have Hr2 := hid hr2
  have Hg := hid hg
  clear hr hr2 hg
  by_cases hl : l.length = m.length
  · go_enter Try.func89, Try.ntmps89
    go_wp2
    go_loopw [13] (fun i wr => ∃ j n : Nat, j ≤ l.length ∧ i = .int .i64 j ∧ l.take j = m.take j ∧ wr = W.drewN n) (fun i _ => l.length - (intOf i).toNat)
    case atStart => exact ⟨0, 0, by omega, rfl, rfl, rfl⟩
    case round =>
      obtain ⟨j, n, hj, rfl, ht, rfl⟩ := hrel
      have Ht := hid ht
      clear ht
      by_cases hlt : j < l.length
      · have hlt2 : j < m.length := by omega
        obtain ⟨b, off, rfl, hbb, q0⟩ := int_at Hr.out hlt
        obtain ⟨b2, off2, rfl, hbb2, p0⟩ := int_at Hr2.out hlt2
        by_cases hv : l[j] = m[j]
        · have Hm := hid (show l.take (j + 1) = m.take (j + 1) by rw [List.take_succ_eq_append_getElem hlt, List.take_succ_eq_append_getElem hlt2, Ht.out, hv])
          have hq : (l[j] != m[j]) = false := by rw [bne_eq_false_iff_eq]; exact hv
          generalize l[j] = x at *
          generalize m[j] = y at *
          clear hv hl
          go_wp2
          go_quiet (fail)
          go_wp2
          go_roundw
          case rel => exact ⟨j + 1, n + nq, by omega, by go_num, Hm.out, by simp⟩
          case measure => simp [intOf]; omega
        · have Hm := hid (show ¬ l = m from fun h => by subst h; exact hv rfl)
          have hq : (l[j] != m[j]) = true := bne_iff_ne.2 hv
          generalize l[j] = x at *
          generalize m[j] = y at *
          clear hv hl
          go_wp2
          go_quiet (fail)
          go_wp2
          go_ret
          exact ⟨ret_bool (by rw [Hg.out, decide_eq_false Hm.out]), n + nq, by simp⟩
      · have e : j = l.length := by omega
        have Hm := hid (show l = m by have := Ht.out; rwa [e, List.take_length, hl, List.take_length] at this)
        go_wp2
        go_ret
        exact ⟨ret_bool (by rw [Hg.out, decide_eq_true Hm.out]), n, rfl⟩
  · have Hm := hid (show ¬ l = m from fun h => hl (by rw [h]))
    have hq : ((l.length : Int) != (m.length : Int)) = true := bne_iff_ne.2 (by omega)
    have hq2 : (l.length != m.length) = true := bne_iff_ne.2 hl
    clear hl
    go_enter Try.func89, Try.ntmps89
    go_wp2
    go_ret
    exact ⟨ret_bool (by rw [Hg.out, decide_eq_false Hm.out]), 0, rfl⟩

/-- the depths that there are -/
def deepOk (d : Int) : Prop := d = 1 ∨ d = 2 ∨ d = 4 ∨ d = 8 ∨ d = 16
instance (d : Int) : Decidable (deepOk d) := by unfold deepOk; exact inferInstance
def deepB (d : Int) : Bool := decide (deepOk d)
/-- by how much two neighbours of a depth differ -/
def stp (d : Int) : Int := if d = 1 then 65535 else if d = 2 then 21845 else if d = 4 then 4369 else if d = 8 then 257 else 1
/-- the greatest number of a depth, and one -/
def pw (d : Int) : Int := if d = 1 then 2 else if d = 2 then 4 else if d = 4 then 16 else if d = 8 then 256 else 65536

theorem depths_any (W : World) : Calls Try.prog 120 #[] W fun e w' => e = .returned (.slice (some ⟨W.heap.size, 0, none⟩) 5 5) ∧ RdI w' w'.heap.size (some ⟨W.heap.size, 0, none⟩) [1, 2, 4, 8, 16] ∧ Below W.heap.size W w' := by
  go_enter Try.func120, Try.ntmps120
  go_wp2
  go_ret
  exact ⟨rfl, by have h := RdI.new (w := W) (t := 3) (l := [1, 2, 4, 8, 16]) rfl; simpa using h, (Below.refl _ _).alloc (Nat.le_refl _) _⟩
theorem deep_mem (d : Int) : deepB d = decide (d ∈ [1, 2, 4, 8, (16 : Int)]) := decide_eq_decide.2 (by unfold deepOk; simp)
theorem deep_any (d : Int) (W : World) : Calls Try.prog 84 #[.int .i64 d] W fun e w' => e = .returned (.bool (deepB d)) ∧ Below W.heap.size W w' := by
  go_enter Try.func84, Try.ntmps84
  go_wp2_with fail
  refine (depths_any W).mono ?_
  rintro e w1 ⟨rfl, hr, hb⟩
  have Hb := hid hb
  have Hr := hid hr
  clear hr hb
  go_wp2_with fail
  refine (contains_any (some ⟨W.heap.size, 0, none⟩) 5 [1, 2, 4, 8, 16] d w1 _ Hr.out (by simp) (deepB d) (deep_mem d)).mono ?_
  rintro e w2 ⟨rfl, rfl⟩
  go_wp2
  go_ret
  exact ⟨rfl, Hb.out⟩

theorem step_any1 (W : World) : Calls Try.prog 126 #[.int .i64 1] W fun e w' => e = .returned (.int .i64 65535) ∧ W = w' := by
  go_enter Try.func126, Try.ntmps126
  go_wp2
  go_ret
  exact ⟨rfl, rfl⟩
theorem step_any2 (W : World) : Calls Try.prog 126 #[.int .i64 2] W fun e w' => e = .returned (.int .i64 21845) ∧ W = w' := by
  go_enter Try.func126, Try.ntmps126
  go_wp2
  go_ret
  exact ⟨rfl, rfl⟩
theorem step_any4 (W : World) : Calls Try.prog 126 #[.int .i64 4] W fun e w' => e = .returned (.int .i64 4369) ∧ W = w' := by
  go_enter Try.func126, Try.ntmps126
  go_wp2
  go_ret
  exact ⟨rfl, rfl⟩
theorem step_any8 (W : World) : Calls Try.prog 126 #[.int .i64 8] W fun e w' => e = .returned (.int .i64 257) ∧ W = w' := by
  go_enter Try.func126, Try.ntmps126
  go_wp2
  go_ret
  exact ⟨rfl, rfl⟩
theorem step_any16 (W : World) : Calls Try.prog 126 #[.int .i64 16] W fun e w' => e = .returned (.int .i64 1) ∧ W = w' := by
  go_enter Try.func126, Try.ntmps126
  go_wp2
  go_ret
  exact ⟨rfl, rfl⟩
theorem step_any (d : Int) (hd : deepOk d) (W : World) : Calls Try.prog 126 #[.int .i64 d] W fun e w' => e = .returned (.int .i64 (stp d)) ∧ W = w' := by
  rcases hd with rfl | rfl | rfl | rfl | rfl
  · exact step_any1 W
  · exact step_any2 W
  · exact step_any4 W
  · exact step_any8 W
  · exact step_any16 W
theorem stp_bd (d : Int) : 1 ≤ stp d ∧ stp d ≤ 65535 := by unfold stp; (repeat' split) <;> omega
theorem pw_bd (d : Int) : 2 ≤ pw d ∧ pw d ≤ 65536 := by unfold pw; (repeat' split) <;> omega
theorem stp_pw (d : Int) (h : deepOk d) : stp d * (pw d - 1) = 65535 := by rcases h with rfl | rfl | rfl | rfl | rfl <;> rfl

/-- is a number of 16 bits widened from a depth? -/
def narrowOk (n d : Int) : Bool := deepB d && decide (0 ≤ n ∧ n ≤ 65535) && decide (n % stp d = 0)
def NarEnd (n d : Int) (W : World) (e : Ending) (w' : World) : Prop := e = .returned (.tuple #[.int .i64 (if narrowOk n d = true then n / stp d else 0), .bool (narrowOk n d)]) ∧ Below W.heap.size W w'
theorem narEnd_no {n d : Int} {W w' : World} (h : narrowOk n d = false) (hb : Below W.heap.size W w') : NarEnd n d W (.returned (.tuple #[.int .i64 0, .bool false])) w' := by unfold NarEnd; rw [h]; exact ⟨rfl, hb⟩
set_option maxHeartbeats 1000000 in
theorem narrow_any (n d : Int) (W : World) : Calls Try.prog 115 #[.int .i64 n, .int .i64 d] W (NarEnd n d W) := by
  cases hd : deepB d
  · have Hn := hid (show narrowOk n d = false by unfold narrowOk; rw [hd]; rfl)
    have Hd := hid hd
    clear hd
    go_enter Try.func115, Try.ntmps115
    go_wp2_with fail
    refine (deep_any d W).mono ?_
    rintro e w1 ⟨rfl, hb⟩
    rw [Hd.out]
    go_wp2
    go_ret2
    exact narEnd_no Hn.out hb
  · have Hd := hid hd
    have hok : deepOk d := by unfold deepB at hd; simpa using hd
    have Hok := hid hok
    by_cases h0 : n < 0
    · have Hn := hid (show narrowOk n d = false by unfold narrowOk; rw [decide_eq_false (p := 0 ≤ n ∧ n ≤ 65535) (by omega)]; simp)
      clear hd hok
      go_enter Try.func115, Try.ntmps115
      go_wp2_with fail
      refine (deep_any d W).mono ?_
      rintro e w1 ⟨rfl, hb⟩
      rw [Hd.out]
      go_wp2
      go_ret2
      exact narEnd_no Hn.out hb
    by_cases h1 : 65535 < n
    · have Hn := hid (show narrowOk n d = false by unfold narrowOk; rw [decide_eq_false (p := 0 ≤ n ∧ n ≤ 65535) (by omega)]; simp)
      have d0 : decide (n < 0) = false := decide_eq_false h0
      clear hd hok
      go_enter Try.func115, Try.ntmps115
      go_wp2_with fail
      refine (deep_any d W).mono ?_
      rintro e w1 ⟨rfl, hb⟩
      rw [Hd.out]
      go_wp2
      go_ret2
      exact narEnd_no Hn.out hb
    have d0 : decide (n < 0) = false := decide_eq_false h0
    have d1 : decide (65535 < n) = false := decide_eq_false h1
    obtain ⟨s1, s2⟩ := stp_bd d
    have sne : (stp d == 0) = false := beq_eq_false_iff_ne.2 (by omega)
    by_cases h2 : n % stp d = 0
    · have Hn := hid (show narrowOk n d = true by unfold narrowOk; rw [hd, decide_eq_true (p := 0 ≤ n ∧ n ≤ 65535) (by omega), decide_eq_true h2]; rfl)
      clear hd hok
      have Hs := hid (fun W => step_any d Hok.out W)
      generalize hs : stp d = s at *
      have Hss := hid hs
      clear hs
      go_enter Try.func115, Try.ntmps115
      go_wp2_with fail
      refine (deep_any d W).mono ?_
      rintro e w1 ⟨rfl, hb⟩
      rw [Hd.out]
      go_wp2_with fail
      refine (Hs.out _).mono ?_
      rintro e w2 ⟨rfl, rfl⟩
      go_wp2_with fail
      refine (Hs.out _).mono ?_
      rintro e w2 ⟨rfl, rfl⟩
      go_wp2
      go_ret2
      unfold NarEnd
      rw [Hn.out, Hss.out]
      exact ⟨rfl, hb⟩
    · have Hn := hid (show narrowOk n d = false by unfold narrowOk; rw [decide_eq_false h2]; simp)
      clear hd hok
      have Hs := hid (fun W => step_any d Hok.out W)
      generalize stp d = s at *
      have h3 : (n % s != 0) = true := bne_iff_ne.2 h2
      clear h2
      go_enter Try.func115, Try.ntmps115
      go_wp2_with fail
      refine (deep_any d W).mono ?_
      rintro e w1 ⟨rfl, hb⟩
      rw [Hd.out]
      go_wp2_with fail
      refine (Hs.out _).mono ?_
      rintro e w2 ⟨rfl, rfl⟩
      go_wp2
      go_ret2
      exact narEnd_no Hn.out hb

theorem rnarrow_any (n : Int) (W : World) : Calls Try.prog 77 #[.int .i64 n] W fun e w' => e = .returned (.bool (narrowOk n 8)) ∧ Below W.heap.size W w' := by
  go_enter Try.func77, Try.ntmps77
  go_wp2_with fail
  refine (narrow_any n 8 W).mono ?_
  rintro e w1 ⟨rfl, hb⟩
  generalize (if narrowOk n 8 = true then n / stp 8 else 0) = x
  go_wp2
  go_ret
  exact ⟨rfl, hb⟩

/-- what sample.Widen ends in -/
def WidEnd (n d : Int) (W : World) (e : Ending) (w' : World) : Prop :=
  (if 0 ≤ n ∧ n < pw d then e = .returned (.tuple #[.int .i64 (n * stp d), .nilIface]) else e = .returned (.tuple #[.int .i64 0, .iface 42 (.int .i64 7)])) ∧ Below W.heap.size W w'
theorem widEnd_no {n d : Int} {W w' : World} (h : ¬ (0 ≤ n ∧ n < pw d)) (hb : Below W.heap.size W w') : WidEnd n d W (.returned (.tuple #[.int .i64 0, .iface 42 (.int .i64 7)])) w' := by unfold WidEnd; rw [if_neg h]; exact ⟨rfl, hb⟩
theorem widEnd_yes {n d : Int} {W w' : World} {x : Int} (hx : x = n * stp d) (h : 0 ≤ n ∧ n < pw d) (hb : Below W.heap.size W w') : WidEnd n d W (.returned (.tuple #[.int .i64 x, .nilIface])) w' := by unfold WidEnd; rw [if_pos h, hx]; exact ⟨rfl, hb⟩
set_option maxHeartbeats 1000000 in
theorem widen_any1 (n : Int) (W : World) : Calls Try.prog 88 #[.int .i64 n, .int .i64 1] W (WidEnd n 1 W) := by
  have Hd := hid (show deepB 1 = true from rfl)
  have Hp := hid (show pw 1 = 2 from rfl)
  by_cases h0 : n < 0
  · have Hn := hid (show ¬ (0 ≤ n ∧ n < pw 1) by rw [Hp.out]; omega)
    go_enter Try.func88, Try.ntmps88
    go_wp2_with fail
    refine (deep_any 1 W).mono ?_
    rintro e w1 ⟨rfl, hb⟩
    rw [Hd.out]
    go_wp2
    go_ret2
    exact widEnd_no Hn.out hb
  · have d0 : decide (n < 0) = false := decide_eq_false h0
    by_cases h1 : n < 2
    · have Hn := hid (show 0 ≤ n ∧ n < pw 1 by rw [Hp.out]; omega)
      have hq : n / 2 = 0 := by omega
      go_enter Try.func88, Try.ntmps88
      go_wp2_with fail
      refine (deep_any 1 W).mono ?_
      rintro e w1 ⟨rfl, hb⟩
      rw [Hd.out]
      go_wp2_with fail
      refine (step_any1 _).mono ?_
      rintro e w2 ⟨rfl, rfl⟩
      go_wp2
      go_ret2
      exact widEnd_yes (by show _ = n * 65535; first | rfl | omega) Hn.out hb
    · have Hn := hid (show ¬ (0 ≤ n ∧ n < pw 1) by rw [Hp.out]; omega)
      have hq : (n / 2 != 0) = true := bne_iff_ne.2 (by omega)
      go_enter Try.func88, Try.ntmps88
      go_wp2_with fail
      refine (deep_any 1 W).mono ?_
      rintro e w1 ⟨rfl, hb⟩
      rw [Hd.out]
      go_wp2
      go_ret2
      exact widEnd_no Hn.out hb
set_option maxHeartbeats 1000000 in
theorem widen_any2 (n : Int) (W : World) : Calls Try.prog 88 #[.int .i64 n, .int .i64 2] W (WidEnd n 2 W) := by
  have Hd := hid (show deepB 2 = true from rfl)
  have Hp := hid (show pw 2 = 4 from rfl)
  by_cases h0 : n < 0
  · have Hn := hid (show ¬ (0 ≤ n ∧ n < pw 2) by rw [Hp.out]; omega)
    go_enter Try.func88, Try.ntmps88
    go_wp2_with fail
    refine (deep_any 2 W).mono ?_
    rintro e w1 ⟨rfl, hb⟩
    rw [Hd.out]
    go_wp2
    go_ret2
    exact widEnd_no Hn.out hb
  · have d0 : decide (n < 0) = false := decide_eq_false h0
    by_cases h1 : n < 4
    · have Hn := hid (show 0 ≤ n ∧ n < pw 2 by rw [Hp.out]; omega)
      have hq : n / 4 = 0 := by omega
      go_enter Try.func88, Try.ntmps88
      go_wp2_with fail
      refine (deep_any 2 W).mono ?_
      rintro e w1 ⟨rfl, hb⟩
      rw [Hd.out]
      go_wp2_with fail
      refine (step_any2 _).mono ?_
      rintro e w2 ⟨rfl, rfl⟩
      go_wp2
      go_ret2
      exact widEnd_yes (by show _ = n * 21845; first | rfl | omega) Hn.out hb
    · have Hn := hid (show ¬ (0 ≤ n ∧ n < pw 2) by rw [Hp.out]; omega)
      have hq : (n / 4 != 0) = true := bne_iff_ne.2 (by omega)
      go_enter Try.func88, Try.ntmps88
      go_wp2_with fail
      refine (deep_any 2 W).mono ?_
      rintro e w1 ⟨rfl, hb⟩
      rw [Hd.out]
      go_wp2
      go_ret2
      exact widEnd_no Hn.out hb
set_option maxHeartbeats 1000000 in
theorem widen_any4 (n : Int) (W : World) : Calls Try.prog 88 #[.int .i64 n, .int .i64 4] W (WidEnd n 4 W) := by
  have Hd := hid (show deepB 4 = true from rfl)
  have Hp := hid (show pw 4 = 16 from rfl)
  by_cases h0 : n < 0
  · have Hn := hid (show ¬ (0 ≤ n ∧ n < pw 4) by rw [Hp.out]; omega)
    go_enter Try.func88, Try.ntmps88
    go_wp2_with fail
    refine (deep_any 4 W).mono ?_
    rintro e w1 ⟨rfl, hb⟩
    rw [Hd.out]
    go_wp2
    go_ret2
    exact widEnd_no Hn.out hb
  · have d0 : decide (n < 0) = false := decide_eq_false h0
    by_cases h1 : n < 16
    · have Hn := hid (show 0 ≤ n ∧ n < pw 4 by rw [Hp.out]; omega)
      have hq : n / 16 = 0 := by omega
      go_enter Try.func88, Try.ntmps88
      go_wp2_with fail
      refine (deep_any 4 W).mono ?_
      rintro e w1 ⟨rfl, hb⟩
      rw [Hd.out]
      go_wp2_with fail
      refine (step_any4 _).mono ?_
      rintro e w2 ⟨rfl, rfl⟩
      go_wp2
      go_ret2
      exact widEnd_yes (by show _ = n * 4369; first | rfl | omega) Hn.out hb
    · have Hn := hid (show ¬ (0 ≤ n ∧ n < pw 4) by rw [Hp.out]; omega)
      have hq : (n / 16 != 0) = true := bne_iff_ne.2 (by omega)
      go_enter Try.func88, Try.ntmps88
      go_wp2_with fail
      refine (deep_any 4 W).mono ?_
      rintro e w1 ⟨rfl, hb⟩
      rw [Hd.out]
      go_wp2
      go_ret2
      exact widEnd_no Hn.out hb
set_option maxHeartbeats 1000000 in
theorem widen_any8 (n : Int) (W : World) : Calls Try.prog 88 #[.int .i64 n, .int .i64 8] W (WidEnd n 8 W) := by
  have Hd := hid (show deepB 8 = true from rfl)
  have Hp := hid (show pw 8 = 256 from rfl)
  by_cases h0 : n < 0
  · have Hn := hid (show ¬ (0 ≤ n ∧ n < pw 8) by rw [Hp.out]; omega)
    go_enter Try.func88, Try.ntmps88
    go_wp2_with fail
    refine (deep_any 8 W).mono ?_
    rintro e w1 ⟨rfl, hb⟩
    rw [Hd.out]
    go_wp2
    go_ret2
    exact widEnd_no Hn.out hb
  · have d0 : decide (n < 0) = false := decide_eq_false h0
    by_cases h1 : n < 256
    · have Hn := hid (show 0 ≤ n ∧ n < pw 8 by rw [Hp.out]; omega)
      have hq : n / 256 = 0 := by omega
      go_enter Try.func88, Try.ntmps88
      go_wp2_with fail
      refine (deep_any 8 W).mono ?_
      rintro e w1 ⟨rfl, hb⟩
      rw [Hd.out]
      go_wp2_with fail
      refine (step_any8 _).mono ?_
      rintro e w2 ⟨rfl, rfl⟩
      go_wp2
      go_ret2
      exact widEnd_yes (by show _ = n * 257; first | rfl | omega) Hn.out hb
    · have Hn := hid (show ¬ (0 ≤ n ∧ n < pw 8) by rw [Hp.out]; omega)
      have hq : (n / 256 != 0) = true := bne_iff_ne.2 (by omega)
      go_enter Try.func88, Try.ntmps88
      go_wp2_with fail
      refine (deep_any 8 W).mono ?_
      rintro e w1 ⟨rfl, hb⟩
      rw [Hd.out]
      go_wp2
      go_ret2
      exact widEnd_no Hn.out hb
set_option maxHeartbeats 1000000 in
theorem widen_any16 (n : Int) (W : World) : Calls Try.prog 88 #[.int .i64 n, .int .i64 16] W (WidEnd n 16 W) := by
  have Hd := hid (show deepB 16 = true from rfl)
  have Hp := hid (show pw 16 = 65536 from rfl)
  by_cases h0 : n < 0
  · have Hn := hid (show ¬ (0 ≤ n ∧ n < pw 16) by rw [Hp.out]; omega)
    go_enter Try.func88, Try.ntmps88
    go_wp2_with fail
    refine (deep_any 16 W).mono ?_
    rintro e w1 ⟨rfl, hb⟩
    rw [Hd.out]
    go_wp2
    go_ret2
    exact widEnd_no Hn.out hb
  · have d0 : decide (n < 0) = false := decide_eq_false h0
    by_cases h1 : n < 65536
    · have Hn := hid (show 0 ≤ n ∧ n < pw 16 by rw [Hp.out]; omega)
      have hq : n / 65536 = 0 := by omega
      go_enter Try.func88, Try.ntmps88
      go_wp2_with fail
      refine (deep_any 16 W).mono ?_
      rintro e w1 ⟨rfl, hb⟩
      rw [Hd.out]
      go_wp2_with fail
      refine (step_any16 _).mono ?_
      rintro e w2 ⟨rfl, rfl⟩
      go_wp2
      go_ret2
      exact widEnd_yes (by show _ = n * 1; first | rfl | omega) Hn.out hb
    · have Hn := hid (show ¬ (0 ≤ n ∧ n < pw 16) by rw [Hp.out]; omega)
      have hq : (n / 65536 != 0) = true := bne_iff_ne.2 (by omega)
      go_enter Try.func88, Try.ntmps88
      go_wp2_with fail
      refine (deep_any 16 W).mono ?_
      rintro e w1 ⟨rfl, hb⟩
      rw [Hd.out]
      go_wp2
      go_ret2
      exact widEnd_no Hn.out hb
theorem widen_any (n d : Int) (hd : deepOk d) (W : World) : Calls Try.prog 88 #[.int .i64 n, .int .i64 d] W (WidEnd n d W) := by
  rcases hd with rfl | rfl | rfl | rfl | rfl
  · exact widen_any1 n W
  · exact widen_any2 n W
  · exact widen_any4 n W
  · exact widen_any8 n W
  · exact widen_any16 n W

end Go.Proofs.Ytphhoihhmphbdaa
