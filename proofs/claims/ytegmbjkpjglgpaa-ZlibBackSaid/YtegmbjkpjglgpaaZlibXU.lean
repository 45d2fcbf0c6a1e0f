/-
  slices.Grow of nil and slices.Concat at one instance, over cells.
  zlib.Wrap: what it ends in.
-/
import Derived.Test.YtegmbjkpjglgpaaApUA
import Derived.Test.YtegmbjkpjglgpaaZuA
import Derived.Lib.AppendZerosOnto
import Derived.Deep.DeepCutAuto
import Derived.Deep.CutRange
import Derived.Deep.CutBlock
namespace Go.Proofs.Ytegmbjkpjglgpaa
open Go.RowKit

theorem cat_infoB : (Try.prog.info? 5).map (fun i => (i.zero, i.size, i.bytes)) = some (some (.int .u8 0), 1, 1) := by kernel_rfl

/-- what slices.Grow of nil hands back: an empty row, with room -/
def GrownB (W : World) (e : Ending) (w' : World) : Prop := ∃ A c, e = .returned (.slice A 0 c) ∧ w'.ownsRow W.heap.size 5 1 (.slice A 0 c) 0 [] ∧ Below W.heap.size W w'
set_option maxRecDepth 100000 in
set_option maxHeartbeats 1000000 in
theorem growB_any (n : Nat) (hn : n * 1 ≤ 140737488355328) (W : World) : Calls Try.prog 103 #[.slice none 0 0, .int .i64 n] W (GrownB W) := by
  by_cases h0 : n = 0
  · subst h0
    go_enter Try.func103, Try.ntmps103
    go_wp2
    go_ret
    exact ⟨none, 0, rfl, World.ownsRow_nil _ _ _ _, Below.refl _ _⟩
  · obtain ⟨i0, hi0, hz0, hz1, hz2⟩ := info_parts cat_infoB
    have hr := fun ty => Lib.run_append_nil_zeros (P := Try.prog) W 42 3 ty 5 i0 (.int .u8 0) .i64 .i64 Try.underlying42 Try.underlying3 hi0 hz0 n (by omega) (by rw [hz1]; omega) (by omega) (by rw [hz2]; omega)
    have hge := grownCap_ge W n 0 5
    have hle : grownCap W n 0 5 ≤ 9223372036854775807 := by
      have := grownCap_le_maxLen W n 0 5 (by unfold maxLen; omega)
      unfold maxLen at this
      exact this
    generalize grownCap W n 0 5 = C at *
    obtain ⟨cs, hcs⟩ : ∃ cs : Array Value, cs = Builtin.zeroCells (Value.cells (.int .u8 0)) n ++ Builtin.zeroCells (Value.cells (.int .u8 0)) (C - n) := ⟨_, rfl⟩
    rw [← hcs] at hr
    have hsz : cs.size = C * 1 := by
      rw [hcs]
      simp only [Array.size_append, size_zeroCells, Value.cells]
      simp
      try omega
    have Hr := hid hr
    have Hsz := hid hsz
    have hpos : (0 : Int) < n := by omega
    clear hr hi0 hz0 hz1 hz2 hcs hsz h0
    go_enter Try.func103, Try.ntmps103
    go_wp2_with (at_builtin; refine Lib.wpList_append_run _ rfl _ _ _ _ rfl _ _ rfl rfl _ _ (Hr.out _) ?_)
    go_ret
    refine ⟨some ⟨W.heap.size, 0, none⟩, C, rfl, ⟨rfl, .inr ⟨W.heap.size, C, cs, rfl, Nat.le_refl _, (Blk.new W.drew 5 cs), Nat.zero_le _, by unfold maxLen; exact hle, Hsz.out, by simp⟩⟩, ?_⟩
    exact ((Below.refl _ _).drew).alloc (by simp) _

/-- slices in a list of slices: what cells they hold -/
def PartsCB (w : World) (B gl : Nat) (R : List SlU) (P : List (List Value)) : Prop :=
  Blk w gl 42 (R.map slvU).toArray ∧ R.length = P.length ∧ ∀ (k : Nat) (s : SlU) (l : List Value), R[k]? = some s → P[k]? = some l → Rd w B 1 s.1 s.2.1 l ∧ ∀ u ∈ l, u.oneCell' = true
theorem partsCB_at {w : World} {B gl k : Nat} {R : List SlU} {P : List (List Value)} (h : PartsCB w B gl R P) (hk : k < R.length) :
    ∃ (A : Option Addr) (n c : Nat) (l : List Value), P[k]? = some l ∧ w.cell? ⟨gl, k, none⟩ = some (.slice A n c) ∧ Rd w B 1 A n l ∧ ∀ u ∈ l, u.oneCell' = true := by
  obtain ⟨h1, h2, h3⟩ := h
  have e1 : R[k]? = some R[k] := List.getElem?_eq_getElem hk
  have e2 : P[k]? = some (P[k]'(by omega)) := List.getElem?_eq_getElem _
  obtain ⟨h5, h6⟩ := h3 k _ _ e1 e2
  generalize R[k] = s at *
  obtain ⟨A, n, c⟩ := s
  refine ⟨A, n, c, _, e2, ?_, h5, h6⟩
  rw [h1.cell k, List.getElem?_toArray, List.getElem?_map, e1]
  rfl
theorem flatCB_take (P : List (List Value)) (k : Nat) (l : List Value) (h : P[k]? = some l) : (P.take (k + 1)).flatten = (P.take k).flatten ++ l := by
  obtain ⟨hk, rfl⟩ := List.getElem?_eq_some_iff.1 h
  rw [List.take_succ_eq_append_getElem hk, List.flatten_append]
  simp
theorem flatCB_le (P : List (List Value)) (k : Nat) : (P.take k).flatten.length ≤ P.flatten.length := by
  conv => rhs; rw [← List.take_append_drop k P]
  rw [List.flatten_append, List.length_append]
  omega

theorem rdCB_nil {w : World} {B n : Nat} {A : Option Addr} {xs : List Value} (h : Rd w B 1 A n xs) (hA : A = none) : n = 0 := by
  rcases Nat.eq_zero_or_pos n with h0 | h0
  · exact h0
  · obtain ⟨b, off, hA', _⟩ := h.at_ (k := 0) h0 (by omega)
    rw [hA] at hA'; cases hA'
/-- what slices.Concat hands back -/
def CattedB (n : Nat) (xs : List Value) (W : World) (e : Ending) (w' : World) : Prop :=
  ∃ A c, e = .returned (.slice A n c) ∧ w'.ownsRow W.heap.size 5 1 (.slice A n c) n xs ∧ Below W.heap.size W w'
set_option maxRecDepth 100000 in
set_option maxHeartbeats 2000000 in
theorem concatB_any (gl mc N : Nat) (R : List SlU) (P : List (List Value)) (W : World) (hp : PartsCB W W.heap.size gl R P) (hn : R.length ≤ 1000000) (hN : P.flatten.length = N * 1) (hm : N * 1 ≤ 70368744177664) :
    Calls Try.prog 69 #[.slice (some ⟨gl, 0, none⟩) R.length mc] W (CattedB N P.flatten W) := by
  obtain ⟨i0, hi0, hz0, hz1, hz2⟩ := info_parts cat_infoB
  have Hi0 := hid hi0
  have Hz0 := hid hz0
  have Hz1 := hid hz1
  have Hz2 := hid hz2
  have Hp := hid hp
  have HN := hid hN
  have hm2 : N ≤ 70368744177664 := by omega
  clear hi0 hz0 hz1 hz2 hp hN
  go_enter Try.func69, Try.ntmps69
  go_wp2
  go_loop [3, 11] (fun a i => ∃ k q : Nat, k ≤ R.length ∧ i = .int .i64 k ∧ a = .int .i64 q ∧ (P.take k).flatten.length = q * 1) (fun _ i => R.length - (intOf i).toNat)
  case atStart => exact ⟨0, 0, by omega, rfl, rfl, by simp⟩
  case round =>
    obtain ⟨k, q, hk, rfl, rfl, hq⟩ := hrel
    have Hq := hid hq
    have hqN : q ≤ N := by
      have h1 := flatCB_le P k
      rw [hq, HN.out] at h1
      omega
    clear hq
    by_cases hlt : k < R.length
    · obtain ⟨A, n, c, l, hP, q0, hr, _⟩ := partsCB_at Hp.out hlt
      have Hfl := hid (flatCB_take P k l hP)
      have Hl : Hid (l.length = n * 1) := hr.1
      have hqn : q + n ≤ N := by
        have h1 := flatCB_le P (k + 1)
        rw [Hfl.out, List.length_append, Hq.out, Hl.out, HN.out] at h1
        omega
      clear hP hr
      go_wp2
      go_round
      case rel => exact ⟨k + 1, q + n, by omega, by go_num, by go_num, by rw [Hfl.out, List.length_append, Hq.out, Hl.out]; omega⟩
      case measure => simp [intOf]; omega
    · have e : k = R.length := by omega
      subst e
      have hqe : q = N := by
        have h1 := Hq.out
        rw [Hp.out.2.1, List.take_length, HN.out] at h1
        omega
      subst hqe
      go_wp2_with fail
      refine (growB_any q (by omega) _).mono ?_
      rintro e w1 ⟨A1, c1, rfl, hown1, hb1⟩
      have Hown1 := hid hown1
      have Hb1 := hid hb1
      clear hown1 hb1
      go_wp2_with fail
      go_loopw [6, 27] (fun ov i wr => ∃ (k n : Nat) (A' : Option Addr) (c' : Nat), k ≤ R.length ∧ i = .int .i64 k ∧ ov = .slice A' n c' ∧ wr.ownsRow W.heap.size 5 1 (.slice A' n c') n (P.take k).flatten ∧ Below W.heap.size W wr) (fun _ i _ => R.length - (intOf i).toNat)
      case atStart => exact ⟨0, 0, A1, c1, by omega, rfl, rfl, by simpa using Hown1.out, Hb1.out⟩
      case round =>
        obtain ⟨k, n, A', c', hk, rfl, rfl, hown, hb⟩ := hrel
        have Hown := hid hown
        have Hb := hid hb
        have hsz := hb.size
        clear hown hb
        by_cases hlt2 : k < R.length
        · obtain ⟨A, m, c, l, hP, q0, hr, hone⟩ := partsCB_at Hp.out hlt2
          have q1 := Hb.out.cell (p := ⟨gl, k, none⟩) Hp.out.1.lt
          rw [q0] at q1
          have Hfl := hid (flatCB_take P k l hP)
          have Hl : Hid (l.length = m * 1) := hr.1
          have hqn : n + m ≤ q := by
            have h1 := flatCB_le P (k + 1)
            have h2 := Hown.out.1
            rw [Hfl.out, List.length_append, Hl.out, HN.out] at h1
            omega
          have Hr := hid (hr.below Hb.out (Nat.le_refl _))
          have Hnil := hid (fun (h : A = none) => rdCB_nil hr h)
          have Hone := hid hone
          clear hP hr hone q0
          go_wp2_with (at_builtin; refine wpList_app _ rfl _ _ _ rfl W.heap.size 5 i0 (.int .u8 0) 1 1 Try.underlying42 Hi0.out Hz0.out Hz1.out Hz2.out rfl (by omega) A' n c' _ rfl Hown.out _ A m c l rfl Hr.out Hnil.out Hone.out (by simp only [maxLen]; omega) (by omega) hsz ?_; rintro A4 c4 w4 ⟨hown4, hgr4, hb4, _⟩)
          go_roundw
          case rel => exact ⟨k + 1, n + m, A4, c4, by omega, by go_num, rfl, by rw [Hfl.out]; exact hown4, Hb.out.trans hb4⟩
          case measure => simp [intOf]; omega
        · have e2 : k = R.length := by omega
          subst e2
          have ht : (P.take R.length).flatten = P.flatten := by rw [Hp.out.2.1, List.take_length]
          have hne : n = q := by
            have h1 := Hown.out.1
            rw [ht, HN.out] at h1
            omega
          subst hne
          have Ht := hid ht
          clear ht
          go_wp2
          go_ret
          exact ⟨A', c', rfl, by have := Hown.out; rwa [Ht.out] at this, Hb.out⟩

end Go.Proofs.Ytegmbjkpjglgpaa

namespace Go.Proofs.Ytegmbjkpjglgpaa
open Go.RowKit

/-- the second byte of the head -/
def fit (k : Nat) : Int := (31 - 256 * (16 * (k : Int) + 8) % 31) % 31
theorem fit_bd (k : Nat) : 0 ≤ fit k ∧ fit k ≤ 30 := by unfold fit; omega
/-- the bytes of a wrapped text -/
def wrapped (k : Nat) (packed text : List Int) : List Int := [16 * (k : Int) + 8, fit k] ++ packed ++ be 4 (adler text)
theorem adler_bd (l : List Int) : 0 ≤ adler l ∧ adler l < 4294967296 := by
  have := adlF_bd l
  unfold adler; omega
/-- what the two wrappers end in -/
def WrapEnd (good bad : Value) (packed text : List Int) (window : Int) (W : World) (e : Ending) (w' : World) : Prop :=
  ((∃ (k : Nat) (A : Option Addr) (c : Nat), k < 8 ∧ window = 256 * 2 ^ k ∧ e = .returned (.tuple #[.slice A (packed.length + 6) c, good]) ∧
      w'.ownsRow W.heap.size 5 1 (.slice A (packed.length + 6) c) (packed.length + 6) (bytesV (wrapped k packed text))) ∨
    ((∀ k : Nat, k < 8 → window ≠ 256 * 2 ^ k) ∧ e = .returned (.tuple #[.slice none 0 0, bad]))) ∧ Below W.heap.size W w'
theorem wrapEnd_good {good bad : Value} {packed text : List Int} {window : Int} {W w' : World} {k c : Nat} {A : Option Addr} (hk : k < 8) (hw : window = 256 * 2 ^ k)
    (hown : w'.ownsRow W.heap.size 5 1 (.slice A (packed.length + 6) c) (packed.length + 6) (bytesV (wrapped k packed text))) (hb : Below W.heap.size W w') :
    WrapEnd good bad packed text window W (.returned (.tuple #[.slice A (packed.length + 6) c, good])) w' := ⟨.inl ⟨k, A, c, hk, hw, rfl, hown⟩, hb⟩
theorem wrapEnd_bad {good bad : Value} {packed text : List Int} {window : Int} {W w' : World} (h : ∀ k : Nat, k < 8 → window ≠ 256 * 2 ^ k) (hb : Below W.heap.size W w') :
    WrapEnd good bad packed text window W (.returned (.tuple #[.slice none 0 0, bad])) w' := ⟨.inr ⟨h, rfl⟩, hb⟩

/-- which window has which number -/
def WinIs (window : Int) (k : Nat) : Prop := (k < 8 ∧ window = 256 * 2 ^ k) ∨ (k = 8 ∧ ∀ k' : Nat, k' < 8 → window ≠ 256 * 2 ^ k')

set_option maxRecDepth 100000 in
set_option maxHeartbeats 4000000 in
theorem progWrap_any (A B : Option Addr) (c d : Nat) (packed text : List Int) (window : Int) (W : World) (hr : Rd W W.heap.size 1 A packed.length (bytesV packed)) (ht : Rd W W.heap.size 1 B text.length (bytesV text))
    (hb : ∀ x ∈ text, isB x) (hp : packed.length ≤ 1000000) (htl : text.length ≤ 1000000) :
    Calls Try.prog 35 #[.slice A packed.length c, .slice B text.length d, .int .i64 window] W (WrapEnd .nilIface (.iface 40 (.int .i64 6)) packed text window W) := by
  have Hr := hid hr
  have Ht := hid ht
  have Hb := hid hb
  clear hr ht hb
  go_enter Try.func35, Try.ntmps35
  go_upto_block 0 with (fail)
  go_cut [8] from 11 to 46 (fun i w => ∃ k : Nat, i = .int .i64 k ∧ WinIs window k ∧ W = w)
  case first =>
    go_wp2_with fail
    go_loop [8] (fun i => ∃ k : Nat, k ≤ 8 ∧ i = .int .i64 k ∧ ∀ k' : Nat, k' < k → window ≠ 256 * 2 ^ k') (fun i => 8 - (intOf i).toNat)
    case atStart => exact ⟨0, by omega, rfl, fun k' h => absurd h (by omega)⟩
    case round =>
      obtain ⟨k, hk, rfl, hno⟩ := hrel
      have Hno := hid hno
      clear hno
      have hk8 : k = 0 ∨ k = 1 ∨ k = 2 ∨ k = 3 ∨ k = 4 ∨ k = 5 ∨ k = 6 ∨ k = 7 ∨ k = 8 := by omega
      clear hk
      rcases hk8 with rfl | rfl | rfl | rfl | rfl | rfl | rfl | rfl | rfl
      · by_cases hw : window = 256
        · have Hwin : Hid (WinIs window 0) := .inl ⟨by omega, by omega⟩
          subst hw
          go_wp2
          go_meet
          exact ⟨0, rfl, Hwin.out, rfl⟩
        · have hq : ((256 : Int) != window) = true := bne_iff_ne.2 (fun h => hw h.symm)
          have Hne := hid (show window ≠ 256 * 2 ^ 0 by omega)
          clear hw
          go_wp2
          go_round
          case rel =>
            refine ⟨1, by omega, by go_num, fun k' hk' => ?_⟩
            rcases (by omega : k' < 0 ∨ k' = 0) with h1 | rfl
            · exact Hno.out k' h1
            · exact Hne.out
          case measure => simp [intOf]
      · by_cases hw : window = 512
        · have Hwin : Hid (WinIs window 1) := .inl ⟨by omega, by omega⟩
          subst hw
          go_wp2
          go_meet
          exact ⟨1, rfl, Hwin.out, rfl⟩
        · have hq : ((512 : Int) != window) = true := bne_iff_ne.2 (fun h => hw h.symm)
          have Hne := hid (show window ≠ 256 * 2 ^ 1 by omega)
          clear hw
          go_wp2
          go_round
          case rel =>
            refine ⟨2, by omega, by go_num, fun k' hk' => ?_⟩
            rcases (by omega : k' < 1 ∨ k' = 1) with h1 | rfl
            · exact Hno.out k' h1
            · exact Hne.out
          case measure => simp [intOf]
      · by_cases hw : window = 1024
        · have Hwin : Hid (WinIs window 2) := .inl ⟨by omega, by omega⟩
          subst hw
          go_wp2
          go_meet
          exact ⟨2, rfl, Hwin.out, rfl⟩
        · have hq : ((1024 : Int) != window) = true := bne_iff_ne.2 (fun h => hw h.symm)
          have Hne := hid (show window ≠ 256 * 2 ^ 2 by omega)
          clear hw
          go_wp2
          go_round
          case rel =>
            refine ⟨3, by omega, by go_num, fun k' hk' => ?_⟩
            rcases (by omega : k' < 2 ∨ k' = 2) with h1 | rfl
            · exact Hno.out k' h1
            · exact Hne.out
          case measure => simp [intOf]
      · by_cases hw : window = 2048
        · have Hwin : Hid (WinIs window 3) := .inl ⟨by omega, by omega⟩
          subst hw
          go_wp2
          go_meet
          exact ⟨3, rfl, Hwin.out, rfl⟩
        · have hq : ((2048 : Int) != window) = true := bne_iff_ne.2 (fun h => hw h.symm)
          have Hne := hid (show window ≠ 256 * 2 ^ 3 by omega)
          clear hw
          go_wp2
          go_round
          case rel =>
            refine ⟨4, by omega, by go_num, fun k' hk' => ?_⟩
            rcases (by omega : k' < 3 ∨ k' = 3) with h1 | rfl
            · exact Hno.out k' h1
            · exact Hne.out
          case measure => simp [intOf]
      · by_cases hw : window = 4096
        · have Hwin : Hid (WinIs window 4) := .inl ⟨by omega, by omega⟩
          subst hw
          go_wp2
          go_meet
          exact ⟨4, rfl, Hwin.out, rfl⟩
        · have hq : ((4096 : Int) != window) = true := bne_iff_ne.2 (fun h => hw h.symm)
          have Hne := hid (show window ≠ 256 * 2 ^ 4 by omega)
          clear hw
          go_wp2
          go_round
          case rel =>
            refine ⟨5, by omega, by go_num, fun k' hk' => ?_⟩
            rcases (by omega : k' < 4 ∨ k' = 4) with h1 | rfl
            · exact Hno.out k' h1
            · exact Hne.out
          case measure => simp [intOf]
      · by_cases hw : window = 8192
        · have Hwin : Hid (WinIs window 5) := .inl ⟨by omega, by omega⟩
          subst hw
          go_wp2
          go_meet
          exact ⟨5, rfl, Hwin.out, rfl⟩
        · have hq : ((8192 : Int) != window) = true := bne_iff_ne.2 (fun h => hw h.symm)
          have Hne := hid (show window ≠ 256 * 2 ^ 5 by omega)
          clear hw
          go_wp2
          go_round
          case rel =>
            refine ⟨6, by omega, by go_num, fun k' hk' => ?_⟩
            rcases (by omega : k' < 5 ∨ k' = 5) with h1 | rfl
            · exact Hno.out k' h1
            · exact Hne.out
          case measure => simp [intOf]
      · by_cases hw : window = 16384
        · have Hwin : Hid (WinIs window 6) := .inl ⟨by omega, by omega⟩
          subst hw
          go_wp2
          go_meet
          exact ⟨6, rfl, Hwin.out, rfl⟩
        · have hq : ((16384 : Int) != window) = true := bne_iff_ne.2 (fun h => hw h.symm)
          have Hne := hid (show window ≠ 256 * 2 ^ 6 by omega)
          clear hw
          go_wp2
          go_round
          case rel =>
            refine ⟨7, by omega, by go_num, fun k' hk' => ?_⟩
            rcases (by omega : k' < 6 ∨ k' = 6) with h1 | rfl
            · exact Hno.out k' h1
            · exact Hne.out
          case measure => simp [intOf]
      · by_cases hw : window = 32768
        · have Hwin : Hid (WinIs window 7) := .inl ⟨by omega, by omega⟩
          subst hw
          go_wp2
          go_meet
          exact ⟨7, rfl, Hwin.out, rfl⟩
        · have hq : ((32768 : Int) != window) = true := bne_iff_ne.2 (fun h => hw h.symm)
          have Hne := hid (show window ≠ 256 * 2 ^ 7 by omega)
          clear hw
          go_wp2
          go_round
          case rel =>
            refine ⟨8, by omega, by go_num, fun k' hk' => ?_⟩
            rcases (by omega : k' < 7 ∨ k' = 7) with h1 | rfl
            · exact Hno.out k' h1
            · exact Hne.out
          case measure => simp [intOf]
      · go_wp2
        go_meet
        exact ⟨8, rfl, .inr ⟨rfl, Hno.out⟩, rfl⟩
  case rest =>
    obtain ⟨k, rfl, hwin, rfl⟩ := hcut
    rcases hwin with ⟨hk, hwin⟩ | ⟨rfl, hno⟩
    · have Hwin := hid hwin
      clear hwin
      have hj : bits .or .i64 ((k : Int) * 16) 8 = 16 * (k : Int) + 8 := by rw [i64_join 4 ((k : Int) * 16) 8 (by omega) (by omega) (by omega) (by omega) (by omega) (by omega)]; omega
      have hm1 : (16 * (k : Int) + 8) % 256 = 16 * (k : Int) + 8 := by omega
      have d7 : decide ((7 : Int) < (k : Int)) = false := decide_eq_false (by omega)
      have Hfit := hid (show -((16 * (k : Int) + 8) * 256 % 31) % 31 = fit k by unfold fit; omega)
      go_wp2_with fail
      rw [Hfit.out]
      have hl : ([16 * (k : Int) + 8, fit k] ++ packed).length = packed.length + 2 := by simp
      have hpc : PartsCB ((W.alloc (.cells #[.int .u8 (16 * (k : Int) + 8), .int .u8 (fit k)] 5)).alloc (.cells #[.slice (some ⟨W.heap.size, 0, none⟩) 2 2, .slice A packed.length c] 42)) (W.heap.size + 2) (W.heap.size + 1)
          [(some ⟨W.heap.size, 0, none⟩, 2, 2), (A, packed.length, c)] [[.int .u8 (16 * (k : Int) + 8), .int .u8 (fit k)], bytesV packed] := by
        refine ⟨?_, rfl, ?_⟩
        · have h := Blk.new (W.alloc (.cells #[.int .u8 (16 * (k : Int) + 8), .int .u8 (fit k)] 5)) 42 #[.slice (some ⟨W.heap.size, 0, none⟩) 2 2, .slice A packed.length c]
          rw [World.size_alloc] at h
          exact h
        · intro i s l hs hl
          match i with
          | 0 =>
            simp at hs hl
            subst hs hl
            exact ⟨((rd_two W _ _ _).alloc (by simp) _).more (by omega), by simp [Value.oneCell']⟩
          | 1 =>
            simp at hs hl
            subst hs hl
            exact ⟨((Hr.out.alloc (Nat.le_refl _) _).alloc (by simp) _).more (by omega), bytesV_cells⟩
          | i + 2 => simp at hs
      have hcat := concatB_any (W.heap.size + 1) 2 (packed.length + 2) [(some ⟨W.heap.size, 0, none⟩, 2, 2), (A, packed.length, c)] [[.int .u8 (16 * (k : Int) + 8), .int .u8 (fit k)], bytesV packed] ((W.alloc (.cells #[.int .u8 (16 * (k : Int) + 8), .int .u8 (fit k)] 5)).alloc (.cells #[.slice (some ⟨W.heap.size, 0, none⟩) 2 2, .slice A packed.length c] 42)) (by simpa using hpc) (by simp) (by simp [bytesV]) (by omega)
      refine hcat.mono ?_
      rintro e w3 ⟨A3, c3, rfl, hown3, hb3⟩
      have hfl : [[Value.int .u8 (16 * (k : Int) + 8), .int .u8 (fit k)], bytesV packed].flatten = bytesV ([16 * (k : Int) + 8, fit k] ++ packed) := by simp [bytesV]
      rw [hfl] at hown3
      have Hown3 := hid hown3
      have Hb3 := hid ((((Below.refl _ _).alloc (Nat.le_refl _) _).alloc (by simp) _).trans (hb3.mono (show W.heap.size ≤ _ by simp; omega)))
      have hz3 := Hb3.out.size
      clear hpc hcat hown3 hb3 hfl hj hm1
      go_wp2_with fail
      have hpa : Parts (w3.alloc (.cells #[.slice B text.length d] 42)) (w3.heap.size + 1) w3.heap.size [(B, text.length, d)] [text] := by
        refine ⟨Blk.new w3 _ _, rfl, ?_⟩
        intro i s l hs hl
        match i with
        | 0 =>
          simp at hs hl
          subst hs hl
          exact ⟨rfl, ((Ht.out.below Hb3.out (Nat.le_refl _)).alloc hz3 _).more (by omega)⟩
        | i + 1 => simp at hs
      refine (adler_any w3.heap.size 1 [(B, text.length, d)] [text] _ _ hpa (by intro l hl; simp at hl; subst hl; exact Hb.out) (by simp) (by intro l hl; simp at hl; subst hl; omega)).mono ?_
      rintro e w4 ⟨rfl, rfl⟩
      clear hpa
      go_wp2_with fail
      have hput := put4_any A3 c3 ([16 * (k : Int) + 8, fit k] ++ packed) (adler text) (w3.alloc (.cells #[.slice B text.length d] 42)) (by rw [hl]; exact ((own_rd Hown3.out).alloc (Nat.le_refl _) _).more (by simp)) (by intro h; subst h; exact own_nil Hown3.out) (by rw [hl]; omega)
      rw [hl] at hput
      refine hput.mono ?_
      rintro e w5 ⟨he, hb5⟩
      have had := adler_bd text
      rw [if_neg (by omega)] at he
      obtain ⟨A5, c5, rfl, hown5⟩ := he
      rw [hl] at hown5
      have hown6 := own_base hown5 (show W.heap.size ≤ _ by simp; omega)
      have hb6 := (Hb3.out.alloc hz3 (.cells #[.slice B text.length d] 42)).trans (hb5.mono (by simp; omega))
      clear hown5 hb5 hput had
      go_wp2_with fail
      go_ret2
      exact wrapEnd_good hk Hwin.out hown6 hb6
    · have Hno := hid hno
      clear hno
      go_wp2
      go_ret2
      exact wrapEnd_bad Hno.out (Below.refl _ _)

end Go.Proofs.Ytegmbjkpjglgpaa
