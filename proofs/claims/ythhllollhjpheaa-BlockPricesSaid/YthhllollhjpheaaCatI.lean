/-
  slices.Grow of nil and slices.Concat at one instance, over cells.
-/
import Derived.Test.YthhllollhjpheaaSrtA
import Derived.Lib.AppendZerosOnto
namespace Go.Proofs.Ythhllollhjpheaa
open Go.RowKit

/-- a slice value's parts -/
abbrev Sl := Option Addr × Nat × Nat
def slv (s : Sl) : Value := .slice s.1 s.2.1 s.2.2

theorem cat_infoI : (Try.prog.info? 3).map (fun i => (i.zero, i.size, i.bytes)) = some (some (.int .i64 0), 1, 8) := by kernel_rfl

/-- what slices.Grow of nil hands back: an empty row, with room -/
def GrownI (W : World) (e : Ending) (w' : World) : Prop := ∃ A c, e = .returned (.slice A 0 c) ∧ w'.ownsRow W.heap.size 3 1 (.slice A 0 c) 0 [] ∧ Below W.heap.size W w'
set_option maxRecDepth 100000 in
set_option maxHeartbeats 1000000 in
theorem growI_any (n : Nat) (hn : n * 8 ≤ 140737488355328) (W : World) : Calls Try.prog 82 #[.slice none 0 0, .int .i64 n] W (GrownI W) := by
  by_cases h0 : n = 0
  · subst h0
    go_enter Try.func82, Try.ntmps82
    go_wp2
    go_ret
    exact ⟨none, 0, rfl, World.ownsRow_nil _ _ _ _, Below.refl _ _⟩
  · obtain ⟨i0, hi0, hz0, hz1, hz2⟩ := info_parts cat_infoI
    have hr := fun ty => Lib.run_append_nil_zeros (P := Try.prog) W 48 3 ty 3 i0 (.int .i64 0) .i64 .i64 Try.underlying48 Try.underlying3 hi0 hz0 n (by omega) (by rw [hz1]; omega) (by omega) (by rw [hz2]; omega)
    have hge := grownCap_ge W n 0 3
    have hle : grownCap W n 0 3 ≤ 9223372036854775807 := by
      have := grownCap_le_maxLen W n 0 3 (by unfold maxLen; omega)
      unfold maxLen at this
      exact this
    generalize grownCap W n 0 3 = C at *
    obtain ⟨cs, hcs⟩ : ∃ cs : Array Value, cs = Builtin.zeroCells (Value.cells (.int .i64 0)) n ++ Builtin.zeroCells (Value.cells (.int .i64 0)) (C - n) := ⟨_, rfl⟩
    rw [← hcs] at hr
    have hsz : cs.size = C * 1 := by
      rw [hcs]
      simp only [Array.size_append, size_zeroCells, Value.cells]
      simp
      try omega
    have Hr := hid hr
    have Hsz := hid hsz
    have hpos : (0 : Int) < n := by omega
    clear hr hi0 hz0 hz1 hz2 hcs hsz h0
    go_enter Try.func82, Try.ntmps82
    go_wp2_with (at_builtin; refine Lib.wpList_append_run _ rfl _ _ _ _ rfl _ _ rfl rfl _ _ (Hr.out _) ?_)
    go_ret
    refine ⟨some ⟨W.heap.size, 0, none⟩, C, rfl, ⟨rfl, .inr ⟨W.heap.size, C, cs, rfl, Nat.le_refl _, (Blk.new W.drew 3 cs), Nat.zero_le _, by unfold maxLen; exact hle, Hsz.out, by simp⟩⟩, ?_⟩
    exact ((Below.refl _ _).drew).alloc (by simp) _

/-- slices in a list of slices: what cells they hold -/
def PartsCI (w : World) (B gl : Nat) (R : List Sl) (P : List (List Value)) : Prop :=
  Blk w gl 48 (R.map slv).toArray ∧ R.length = P.length ∧ ∀ (k : Nat) (s : Sl) (l : List Value), R[k]? = some s → P[k]? = some l → Rd w B 1 s.1 s.2.1 l ∧ ∀ u ∈ l, u.oneCell' = true
theorem partsCI_at {w : World} {B gl k : Nat} {R : List Sl} {P : List (List Value)} (h : PartsCI w B gl R P) (hk : k < R.length) :
    ∃ (A : Option Addr) (n c : Nat) (l : List Value), P[k]? = some l ∧ w.cell? ⟨gl, k, none⟩ = some (.slice A n c) ∧ Rd w B 1 A n l ∧ ∀ u ∈ l, u.oneCell' = true := by
  obtain ⟨h1, h2, h3⟩ := h
  have e1 : R[k]? = some R[k] := List.getElem?_eq_getElem hk
  have e2 : P[k]? = some (P[k]'(by omega)) := List.getElem?_eq_getElem _
  obtain ⟨h5, h6⟩ := h3 k _ _ e1 e2
  generalize R[k] = s at *
  obtain ⟨A, n, c⟩ := s
  refine ⟨A, n, c, _, e2, ?_, h5, h6⟩
  rw [h1.cell k, List.getElem?_toArray, List.getElem?_map, e1]
  rfl
theorem flatCI_take (P : List (List Value)) (k : Nat) (l : List Value) (h : P[k]? = some l) : (P.take (k + 1)).flatten = (P.take k).flatten ++ l := by
  obtain ⟨hk, rfl⟩ := List.getElem?_eq_some_iff.1 h
  rw [List.take_succ_eq_append_getElem hk, List.flatten_append]
  simp
theorem flatCI_le (P : List (List Value)) (k : Nat) : (P.take k).flatten.length ≤ P.flatten.length := by
  conv => rhs; rw [← List.take_append_drop k P]
  rw [List.flatten_append, List.length_append]
  omega

theorem rdCI_nil {w : World} {B n : Nat} {A : Option Addr} {xs : List Value} (h : Rd w B 1 A n xs) (hA : A = none) : n = 0 := by
  rcases Nat.eq_zero_or_pos n with h0 | h0
  · exact h0
  · obtain ⟨b, off, hA', _⟩ := h.at_ (k := 0) h0 (by omega)
    rw [hA] at hA'; cases hA'
/-- what slices.Concat hands back -/
def CattedI (n : Nat) (xs : List Value) (W : World) (e : Ending) (w' : World) : Prop :=
  ∃ A c, e = .returned (.slice A n c) ∧ w'.ownsRow W.heap.size 3 1 (.slice A n c) n xs ∧ Below W.heap.size W w'
set_option maxRecDepth 100000 in
set_option maxHeartbeats 2000000 in
theorem concatI_any (gl mc N : Nat) (R : List Sl) (P : List (List Value)) (W : World) (hp : PartsCI W W.heap.size gl R P) (hn : R.length ≤ 1000000) (hN : P.flatten.length = N * 1) (hm : N * 8 ≤ 70368744177664) :
    Calls Try.prog 68 #[.slice (some ⟨gl, 0, none⟩) R.length mc] W (CattedI N P.flatten W) := by
  obtain ⟨i0, hi0, hz0, hz1, hz2⟩ := info_parts cat_infoI
  have Hi0 := hid hi0
  have Hz0 := hid hz0
  have Hz1 := hid hz1
  have Hz2 := hid hz2
  have Hp := hid hp
  have HN := hid hN
  have hm2 : N ≤ 70368744177664 := by omega
  clear hi0 hz0 hz1 hz2 hp hN
  go_enter Try.func68, Try.ntmps68
  go_wp2
  go_loop [3, 11] (fun a i => ∃ k q : Nat, k ≤ R.length ∧ i = .int .i64 k ∧ a = .int .i64 q ∧ (P.take k).flatten.length = q * 1) (fun _ i => R.length - (intOf i).toNat)
  case atStart => exact ⟨0, 0, by omega, rfl, rfl, by simp⟩
  case round =>
    obtain ⟨k, q, hk, rfl, rfl, hq⟩ := hrel
    have Hq := hid hq
    have hqN : q ≤ N := by
      have h1 := flatCI_le P k
      rw [hq, HN.out] at h1
      omega
    clear hq
    by_cases hlt : k < R.length
    · obtain ⟨A, n, c, l, hP, q0, hr, _⟩ := partsCI_at Hp.out hlt
      have Hfl := hid (flatCI_take P k l hP)
      have Hl : Hid (l.length = n * 1) := hr.1
      have hqn : q + n ≤ N := by
        have h1 := flatCI_le P (k + 1)
        rw [Hfl.out, List.length_append, Hq.out, Hl.out, HN.out] at h1
        omega
      clear hP hr
      go_wp2
      go_round
      case rel => exact ⟨k + 1, q + n, by omega, by go_num, by go_num, by rw [Hfl.out, List.length_append, Hq.out, Hl.out]; omega⟩
      case measure => simp [intOf]; omega
    · have e : k = R.length := by omega
      subst e
      have hqe : q = N := by
        have h1 := Hq.out
        rw [Hp.out.2.1, List.take_length, HN.out] at h1
        omega
      subst hqe
      go_wp2_with fail
      refine (growI_any q (by omega) _).mono ?_
      rintro e w1 ⟨A1, c1, rfl, hown1, hb1⟩
      have Hown1 := hid hown1
      have Hb1 := hid hb1
      clear hown1 hb1
      go_wp2_with fail
      go_loopw [6, 27] (fun ov i wr => ∃ (k n : Nat) (A' : Option Addr) (c' : Nat), k ≤ R.length ∧ i = .int .i64 k ∧ ov = .slice A' n c' ∧ wr.ownsRow W.heap.size 3 1 (.slice A' n c') n (P.take k).flatten ∧ Below W.heap.size W wr) (fun _ i _ => R.length - (intOf i).toNat)
      case atStart => exact ⟨0, 0, A1, c1, by omega, rfl, rfl, by simpa using Hown1.out, Hb1.out⟩
      case round =>
        obtain ⟨k, n, A', c', hk, rfl, rfl, hown, hb⟩ := hrel
        have Hown := hid hown
        have Hb := hid hb
        have hsz := hb.size
        clear hown hb
        by_cases hlt2 : k < R.length
        · obtain ⟨A, m, c, l, hP, q0, hr, hone⟩ := partsCI_at Hp.out hlt2
          have q1 := Hb.out.cell (p := ⟨gl, k, none⟩) Hp.out.1.lt
          rw [q0] at q1
          have Hfl := hid (flatCI_take P k l hP)
          have Hl : Hid (l.length = m * 1) := hr.1
          have hqn : n + m ≤ q := by
            have h1 := flatCI_le P (k + 1)
            have h2 := Hown.out.1
            rw [Hfl.out, List.length_append, Hl.out, HN.out] at h1
            omega
          have Hr := hid (hr.below Hb.out (Nat.le_refl _))
          have Hnil := hid (fun (h : A = none) => rdCI_nil hr h)
          have Hone := hid hone
          clear hP hr hone q0
          go_wp2_with (at_builtin; refine wpList_app _ rfl _ _ _ rfl W.heap.size 3 i0 (.int .i64 0) 1 8 Try.underlying48 Hi0.out Hz0.out Hz1.out Hz2.out rfl (by omega) A' n c' _ rfl Hown.out _ A m c l rfl Hr.out Hnil.out Hone.out (by simp only [maxLen]; omega) (by omega) hsz ?_; rintro A4 c4 w4 ⟨hown4, hgr4, hb4, _⟩)
          go_roundw
          case rel => exact ⟨k + 1, n + m, A4, c4, by omega, by go_num, rfl, by rw [Hfl.out]; exact hown4, Hb.out.trans hb4⟩
          case measure => simp [intOf]; omega
        · have e2 : k = R.length := by omega
          subst e2
          have ht : (P.take R.length).flatten = P.flatten := by rw [Hp.out.2.1, List.take_length]
          have hne : n = q := by
            have h1 := Hown.out.1
            rw [ht, HN.out] at h1
            omega
          subst hne
          have Ht := hid ht
          clear ht
          go_wp2
          go_ret
          exact ⟨A', c', rfl, by have := Hown.out; rwa [Ht.out] at this, Hb.out⟩

end Go.Proofs.Ythhllollhjpheaa
