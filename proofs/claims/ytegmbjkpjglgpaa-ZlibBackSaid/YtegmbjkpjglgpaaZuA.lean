/-
  sums.Adler over parts; burnishref01.Adler.
  burnishref07.Head, burnishref01.Number of four bytes, burnishref07.Wrap; zlib.Wrap.
  zlib.head.
  zlib.far; the number that four bytes are.
  The number that four bytes are: sums.Take and burnishref01.Take; a slice of a row from a place on.
-/
import Derived.Test.YtegmbjkpjglgpaaApUA
import Derived.Test.YtegmbjkpjglgpaaBits
import Derived.Test.YtegmbjkpjglgpaaPut
import Derived.Deep.DeepCutAuto
import Derived.Deep.CutRange
import Derived.Deep.CutBlock
namespace Go.Proofs.Ytegmbjkpjglgpaa
open Go.RowKit

/-- one byte more of an Adler sum -/
def adl (s : Int × Int) (c : Int) : Int × Int := ((s.1 + c) % 65521, (s.2 + (s.1 + c) % 65521) % 65521)
def adlF (l : List Int) : Int × Int := l.foldl adl (1, 0)
def adler (l : List Int) : Int := 65536 * (adlF l).2 + (adlF l).1
theorem adl_bd {s : Int × Int} (c : Int) : 0 ≤ (adl s c).1 ∧ (adl s c).1 < 65521 ∧ 0 ≤ (adl s c).2 ∧ (adl s c).2 < 65521 := by unfold adl; simp only; omega
theorem adlF_bd (l : List Int) : 0 ≤ (adlF l).1 ∧ (adlF l).1 < 65521 ∧ 0 ≤ (adlF l).2 ∧ (adlF l).2 < 65521 := by
  unfold adlF
  rcases List.eq_nil_or_concat l with rfl | ⟨r, c, rfl⟩
  · simp
  · rw [List.concat_eq_append, List.foldl_append]; exact adl_bd c
theorem adlF_snoc (l : List Int) (c : Int) : adlF (l ++ [c]) = adl (adlF l) c := by unfold adlF; rw [List.foldl_append]; rfl

set_option maxHeartbeats 1000000 in
theorem refAdler_any (A : Option Addr) (c : Nat) (l : List Int) (W : World) (B : Nat) (hr : Rd W B 1 A l.length (bytesV l)) (hb : ∀ x ∈ l, isB x) (hm : l.length ≤ 10000000) :
    Calls Try.prog 66 #[.slice A l.length c] W fun e w' => e = .returned (.int .i64 (adler l)) ∧ W = w' := by
  have Hr := hid hr
  have Hb := hid hb
  clear hr hb
  go_enter Try.func66, Try.ntmps66
  go_wp2
  go_loop [3, 4, 5] (fun a b i => ∃ j : Nat, j ≤ l.length ∧ i = .int .i64 j ∧ a = .int .i64 (adlF (l.take j)).1 ∧ b = .int .i64 (adlF (l.take j)).2) (fun _ _ i => l.length - (intOf i).toNat)
  case atStart => exact ⟨0, by omega, rfl, rfl, rfl⟩
  case round =>
    obtain ⟨j, hj, rfl, rfl, rfl⟩ := hrel
    have hbd := adlF_bd (l.take j)
    by_cases hlt : j < l.length
    · obtain ⟨b, off, rfl, hbb, q0⟩ := byte_at Hr.out hlt
      have hs : adlF (l.take (j + 1)) = adl (adlF (l.take j)) l[j] := by rw [List.take_succ_eq_append_getElem hlt, adlF_snoc]
      have hx := Hb.out l[j] (List.getElem_mem hlt)
      rw [List.getD_eq_getElem?_getD, List.getElem?_eq_getElem hlt, Option.getD_some] at q0
      unfold isB at hx
      have Hs := hid hs
      clear hs
      generalize l[j] = x at *
      generalize adlF (l.take j) = s at *
      obtain ⟨sa, sb⟩ := s
      simp only at hbd
      obtain ⟨s1, s2, s3, s4⟩ := hbd
      obtain ⟨x1, x2⟩ := hx
      have hnext : ∀ a b : Int, (a = if 65521 ≤ sa + x then sa + x - 65521 else sa + x) → (b = if 65521 ≤ sb + a then sb + a - 65521 else sb + a) → adl (sa, sb) x = (a, b) := by
        intro a b ha hb
        unfold adl
        simp only [Prod.mk.injEq]
        constructor
        · rw [ha]; split <;> omega
        · have : (sa + x) % 65521 = a := by rw [ha]; split <;> omega
          rw [this, hb]; split <;> omega
      have Hnext := hid hnext
      clear hnext
      by_cases h1 : 65521 ≤ sa + x
      · by_cases h2 : 65521 ≤ sb + (sa + x - 65521)
        · go_wp2
          go_round
          case rel => exact ⟨j + 1, by omega, by go_num, by rw [Hs.out, Hnext.out _ _ rfl rfl, if_pos h1], by rw [Hs.out, Hnext.out _ _ rfl rfl, if_pos h1, if_pos h2]⟩
          case measure => simp [intOf]; omega
        · go_wp2
          go_round
          case rel => exact ⟨j + 1, by omega, by go_num, by rw [Hs.out, Hnext.out _ _ rfl rfl, if_pos h1], by rw [Hs.out, Hnext.out _ _ rfl rfl, if_pos h1, if_neg h2]⟩
          case measure => simp [intOf]; omega
      · by_cases h2 : 65521 ≤ sb + (sa + x)
        · go_wp2
          go_round
          case rel => exact ⟨j + 1, by omega, by go_num, by rw [Hs.out, Hnext.out _ _ rfl rfl, if_neg h1], by rw [Hs.out, Hnext.out _ _ rfl rfl, if_neg h1, if_pos h2]⟩
          case measure => simp [intOf]; omega
        · go_wp2
          go_round
          case rel => exact ⟨j + 1, by omega, by go_num, by rw [Hs.out, Hnext.out _ _ rfl rfl, if_neg h1], by rw [Hs.out, Hnext.out _ _ rfl rfl, if_neg h1, if_neg h2]⟩
          case measure => simp [intOf]; omega
    · have e : j = l.length := by omega
      subst e
      rw [List.take_length] at *
      obtain ⟨s1, s2, s3, s4⟩ := hbd
      go_wp2
      go_ret
      exact ⟨rfl, rfl⟩

/-- slices of bytes in a list of slices: what they hold -/
def Parts (w : World) (B gl : Nat) (R : List SlU) (P : List (List Int)) : Prop :=
  Blk w gl 42 (R.map slvU).toArray ∧ R.length = P.length ∧ ∀ (k : Nat) (s : SlU) (l : List Int), R[k]? = some s → P[k]? = some l → s.2.1 = l.length ∧ Rd w B 1 s.1 l.length (bytesV l)
theorem parts_at {w : World} {B gl k : Nat} {R : List SlU} {P : List (List Int)} (h : Parts w B gl R P) (hk : k < R.length) :
    ∃ (A : Option Addr) (c : Nat) (l : List Int), P[k]? = some l ∧ R[k]? = some (A, l.length, c) ∧ w.cell? ⟨gl, k, none⟩ = some (.slice A l.length c) ∧ Rd w B 1 A l.length (bytesV l) := by
  obtain ⟨h1, h2, h3⟩ := h
  have e1 : R[k]? = some R[k] := List.getElem?_eq_getElem hk
  have e2 : P[k]? = some (P[k]'(by omega)) := List.getElem?_eq_getElem _
  obtain ⟨h4, h5⟩ := h3 k _ _ e1 e2
  generalize R[k] = s at *
  obtain ⟨A, n, c⟩ := s
  simp only at h4 h5
  subst h4
  refine ⟨A, c, _, e2, e1, ?_, h5⟩
  rw [h1.cell k, List.getElem?_toArray, List.getElem?_map, e1]
  rfl
theorem flat_take (P : List (List Int)) (k : Nat) (l : List Int) (h : P[k]? = some l) : (P.take (k + 1)).flatten = (P.take k).flatten ++ l := by
  obtain ⟨hk, rfl⟩ := List.getElem?_eq_some_iff.1 h
  rw [List.take_succ_eq_append_getElem hk, List.flatten_append]
  simp

set_option maxHeartbeats 1000000 in
theorem adler_any (gl mc : Nat) (R : List SlU) (P : List (List Int)) (W : World) (B : Nat) (hp : Parts W B gl R P) (hb : ∀ l ∈ P, ∀ x ∈ l, isB x) (hn : R.length ≤ 100) (hm : ∀ l ∈ P, l.length ≤ 10000000) :
    Calls Try.prog 63 #[.slice (some ⟨gl, 0, none⟩) R.length mc] W fun e w' => e = .returned (.int .i64 (adler P.flatten)) ∧ W = w' := by
  have Hp := hid hp
  have Hb := hid hb
  have Hm := hid hm
  clear hp hb hm
  go_enter Try.func63, Try.ntmps63
  go_wp2
  go_loop [3, 4, 11] (fun a b i => ∃ k : Nat, k ≤ R.length ∧ i = .int .i64 k ∧ a = .int .i64 (adlF (P.take k).flatten).1 ∧ b = .int .i64 (adlF (P.take k).flatten).2) (fun _ _ i => R.length - (intOf i).toNat)
  case atStart => exact ⟨0, by omega, rfl, rfl, rfl⟩
  case round =>
    obtain ⟨k, hk, rfl, rfl, rfl⟩ := hrel
    have hbd0 := adlF_bd (P.take k).flatten
    by_cases hlt : k < R.length
    · obtain ⟨A, c, l, hP, hR, q0, hr⟩ := parts_at Hp.out hlt
      have hlm := Hm.out l (List.mem_of_getElem? hP)
      have Hlb := hid (Hb.out l (List.mem_of_getElem? hP))
      have Hfl := hid (flat_take P k l hP)
      have Hr := hid hr
      clear hP hR hr
      generalize (P.take k).flatten = p at *
      go_wp2
      go_loop [3, 4, 17] (fun a b i => ∃ j : Nat, j ≤ l.length ∧ i = .int .i64 j ∧ a = .int .i64 (adlF (p ++ l.take j)).1 ∧ b = .int .i64 (adlF (p ++ l.take j)).2) (fun _ _ i => l.length - (intOf i).toNat)
      case atStart => exact ⟨0, by omega, rfl, by simp, by simp⟩
      case round =>
        obtain ⟨j, hj, rfl, rfl, rfl⟩ := hrel
        have hbd := adlF_bd (p ++ l.take j)
        by_cases hlt2 : j < l.length
        · obtain ⟨b, off, rfl, hbb, q1⟩ := byte_at Hr.out hlt2
          have hs : adlF (p ++ l.take (j + 1)) = adl (adlF (p ++ l.take j)) l[j] := by rw [List.take_succ_eq_append_getElem hlt2, ← List.append_assoc, adlF_snoc]
          have hx := Hlb.out l[j] (List.getElem_mem hlt2)
          rw [List.getD_eq_getElem?_getD, List.getElem?_eq_getElem hlt2, Option.getD_some] at q1
          unfold isB at hx
          have Hs := hid hs
          clear hs hbd0
          generalize l[j] = x at *
          generalize adlF (p ++ l.take j) = s at *
          obtain ⟨sa, sb⟩ := s
          simp only at hbd
          obtain ⟨s1, s2, s3, s4⟩ := hbd
          obtain ⟨x1, x2⟩ := hx
          go_wp2
          go_round
          case rel => exact ⟨j + 1, by omega, by go_num, by rw [Hs.out]; rfl, by rw [Hs.out]; rfl⟩
          case measure => simp [intOf]; omega
        · have e : j = l.length := by omega
          subst e
          rw [List.take_length] at *
          go_wp2
          go_round
          case rel => exact ⟨k + 1, by omega, by go_num, by rw [Hfl.out], by rw [Hfl.out]⟩
          case measure => simp [intOf]; omega
    · have e : k = R.length := by omega
      subst e
      have hl : (P.take R.length).flatten = P.flatten := by rw [Hp.out.2.1, List.take_length]
      rw [hl]
      clear hl hbd0
      have hbd := adlF_bd P.flatten
      have Ha := hid (show adler P.flatten = 65536 * (adlF P.flatten).2 + (adlF P.flatten).1 from rfl)
      generalize adlF P.flatten = s at *
      obtain ⟨sa, sb⟩ := s
      simp only at *
      obtain ⟨s1, s2, s3, s4⟩ := hbd
      have Hj := hid (i64_join 16 (sb * 65536) sa (by omega) (by omega) (by omega) (by omega) (by omega) (by omega))
      go_wp2
      go_ret
      exact ⟨ret_int (by show bits .or .i64 _ _ = _; rw [Hj.out, Ha.out]; omega), rfl⟩

end Go.Proofs.Ytegmbjkpjglgpaa

namespace Go.Proofs.Ytegmbjkpjglgpaa
open Go.RowKit

theorem pow_bd : ∀ j : Nat, j ≤ 7 → (1 : Int) ≤ 2 ^ j ∧ (2 : Int) ^ j ≤ 128 := by decide
/-- what burnishref07.Head says of two bytes -/
def headN (a b : Int) : Int × Int := if a % 16 ≠ 8 ∨ 7 < a / 16 ∨ (256 * a + b) % 31 ≠ 0 then (0, 2) else if b / 32 % 2 = 1 then (0, 3) else (256 * 2 ^ (a / 16).toNat, 0)
def HeadEnd (r : Int × Int) (W : World) (e : Ending) (w' : World) : Prop := e = .returned (.tuple #[.int .i64 r.1, .int .i64 r.2]) ∧ W = w'
set_option maxHeartbeats 1000000 in
theorem refHead_any (a b : Int) (a0 : 0 ≤ a) (a1 : a ≤ 255) (b0 : 0 ≤ b) (b1 : b ≤ 255) (W : World) : Calls Try.prog 64 #[.int .u8 a, .int .u8 b] W (HeadEnd (headN a b) W) := by
  by_cases h1 : a % 16 = 8
  · by_cases h2 : 7 < a / 16
    · have Hh := hid (show headN a b = (0, 2) by unfold headN; rw [if_pos (.inr (.inl h2))])
      go_enter Try.func64, Try.ntmps64
      go_wp2
      go_ret2
      exact ⟨by rw [Hh.out]; rfl, rfl⟩
    · by_cases h3 : (256 * a + b) % 31 = 0
      · by_cases h4 : b / 32 % 2 = 1
        · have Hh := hid (show headN a b = (0, 3) by unfold headN; rw [if_neg (by omega), if_pos h4])
          go_enter Try.func64, Try.ntmps64
          go_wp2
          go_ret2
          exact ⟨by rw [Hh.out]; rfl, rfl⟩
        · have Hh := hid (show headN a b = (256 * 2 ^ (a / 16).toNat, 0) by unfold headN; rw [if_neg (by omega), if_neg h4])
          have h5 : (b / 32 % 2 == 1) = false := beq_eq_false_iff_ne.2 h4
          obtain ⟨w, hw⟩ := Int.eq_ofNat_of_zero_le (show 0 ≤ a / 16 by omega)
          have hw7 : w ≤ 7 := by omega
          have d7 : decide ((7 : Int) < (w : Int)) = false := decide_eq_false (by omega)
          clear h4
          go_enter Try.func64, Try.ntmps64
          go_wp2
          go_loop [7, 8] (fun nv i => ∃ j : Nat, j ≤ w ∧ i = .int .i64 j ∧ nv = .int .i64 (256 * 2 ^ j)) (fun _ i => w - (intOf i).toNat)
          case atStart => exact ⟨0, by omega, rfl, rfl⟩
          case round =>
            obtain ⟨j, hj, rfl, rfl⟩ := hrel
            by_cases hlt : j < w
            · obtain ⟨p1, p2⟩ := pow_bd j (by omega)
              have Hs := hid (show (2 : Int) ^ (j + 1) = 2 * 2 ^ j by rw [Int.pow_succ]; omega)
              generalize (2 : Int) ^ j = p at *
              go_wp2
              go_round
              case rel => exact ⟨j + 1, by omega, by go_num, by rw [Hs.out]; congr 1; omega⟩
              case measure => simp [intOf]; omega
            · have e : j = w := by omega
              subst e
              have Hj := hid (show (a / 16).toNat = j by omega)
              go_wp2
              go_ret2
              exact ⟨by rw [Hh.out, Hj.out]; rfl, rfl⟩
      · have Hh := hid (show headN a b = (0, 2) by unfold headN; rw [if_pos (.inr (.inr h3))])
        have h4 : ((256 * a + b) % 31 != 0) = true := bne_iff_ne.2 h3
        clear h3
        go_enter Try.func64, Try.ntmps64
        go_wp2
        go_ret2
        exact ⟨by rw [Hh.out]; rfl, rfl⟩
  · have Hh := hid (show headN a b = (0, 2) by unfold headN; rw [if_pos (.inl h1)])
    have h4 : (a % 16 != 8) = true := bne_iff_ne.2 h1
    clear h1
    go_enter Try.func64, Try.ntmps64
    go_wp2
    go_ret2
    exact ⟨by rw [Hh.out]; rfl, rfl⟩

end Go.Proofs.Ytegmbjkpjglgpaa

namespace Go.Proofs.Ytegmbjkpjglgpaa
open Go.RowKit

theorem and15 : ∀ t : Fin 256, bits .and .u8 (t.val : Int) 15 = (t.val : Int) % 16 := by decide +kernel
theorem and32 : ∀ t : Fin 256, bits .and .u8 (t.val : Int) 32 = 32 * ((t.val : Int) / 32 % 2) := by decide +kernel
/-- the head of wrapped bytes: a window; what goes wrong -/
def headB (l : List Int) : Int × Int := if l.length < 2 then (0, 8) else headN (l.getD 0 0) (l.getD 1 0)
set_option maxRecDepth 100000 in
set_option maxHeartbeats 2000000 in
theorem zhead_any (A : Option Addr) (c : Nat) (l : List Int) (W : World) (hr : Rd W W.heap.size 1 A l.length (bytesV l)) (hb : ∀ x ∈ l, isB x) : Calls Try.prog 60 #[.slice A l.length c] W fun e w' => e = .returned (.tuple #[.int .i64 (headB l).1, errv (headB l).2]) ∧ ∃ n, w' = W.drewN n := by
  by_cases h2 : l.length < 2
  · have HE := hid (show headB l = (0, 8) from by unfold headB; rw [if_pos h2])
    obtain ⟨n, hn⟩ : ∃ n, n = l.length := ⟨_, rfl⟩
    rw [← hn] at h2 ⊢
    have d1 : decide (n < 2) = true := decide_eq_true h2
    have d2 : decide ((n : Int) < 2) = true := decide_eq_true (by omega)
    clear hr hb hn h2
    go_enter Try.func60, Try.ntmps60
    go_wp2_with fail
    go_ret2
    rw [HE.out]
    exact ⟨by unfold errv; rfl, 0, rfl⟩
  · obtain ⟨b, off, hA, hbb, x0⟩ := byte_at hr (j := 0) (by omega)
    obtain ⟨b', off', hA', _, x1⟩ := byte_at hr (j := 1) (by omega)
    subst hA
    cases hA'
    rw [Nat.add_zero] at x0
    have HE := hid (show headB l = headN (l.getD 0 0) (l.getD 1 0) from by unfold headB; rw [if_neg h2])
    have b0 : isB (l.getD 0 0) := by rw [List.getD_eq_getElem?_getD, List.getElem?_eq_getElem (by omega)]; exact hb _ (List.getElem_mem _)
    have b1 : isB (l.getD 1 0) := by rw [List.getD_eq_getElem?_getD, List.getElem?_eq_getElem (by omega)]; exact hb _ (List.getElem_mem _)
    obtain ⟨n, hn⟩ : ∃ n, n = l.length := ⟨_, rfl⟩
    rw [← hn] at h2 ⊢
    generalize l.getD 0 0 = x at *
    generalize l.getD 1 0 = y at *
    unfold isB at b0 b1
    have a1 : bits .and .u8 x 15 = x % 16 := by obtain ⟨k, rfl⟩ := Int.eq_ofNat_of_zero_le b0.1; exact and15 ⟨k, by omega⟩
    have a2 : bits .and .u8 y 32 = 32 * (y / 32 % 2) := by obtain ⟨k, rfl⟩ := Int.eq_ofNat_of_zero_le b1.1; exact and32 ⟨k, by omega⟩
    have a3 : bits .or .i64 (x * 256) y = x * 256 + y := i64_join 8 _ _ (by omega) (by omega) (by omega) (by omega) (by omega) (by omega)
    have d1 : decide (n < 2) = false := decide_eq_false h2
    have d2 : decide ((n : Int) < 2) = false := decide_eq_false (by omega)
    have hbw : b < W.heap.size := hbb
    have n0 : 0 < n := by omega
    have n1 : 1 < n := by omega
    clear hr hb hn
    go_enter Try.func60, Try.ntmps60
    go_upto_region 4 with (fail)
    by_cases h1 : x % 16 = 8
    · have e1 : (x % 16 == 8) = true := by rw [beq_iff_eq]; exact h1
      have e1b : (x % 16 != 8) = false := by rw [bne, e1]; rfl
      by_cases h7 : 7 < x / 16
      · have e2 : decide (7 < x / 16) = true := decide_eq_true h7
        have HH := hid (show headN x y = (0, 2) from by unfold headN; rw [if_pos (.inr (.inl h7))])
        clear h1 h7
        first | go_quiet (fail) | fail
        go_wp2_with fail
        go_ret2
        rw [HE.out, HH.out]
        exact ⟨by unfold errv; rfl, _, rfl⟩
      · have e2 : decide (7 < x / 16) = false := decide_eq_false h7
        have tm : (x * 256 + y).tmod 31 = (x * 256 + y) % 31 := Int.tmod_eq_emod_of_nonneg (by omega)
        by_cases h31 : (x * 256 + y) % 31 = 0
        · have e3 : ((x * 256 + y) % 31 == 0) = true := by rw [beq_iff_eq]; exact h31
          have e3b : ((x * 256 + y) % 31 != 0) = false := by rw [bne, e3]; rfl
          have hno : ¬ (x % 16 ≠ 8 ∨ 7 < x / 16 ∨ (256 * x + y) % 31 ≠ 0) := by omega
          obtain ⟨k, hk⟩ : ∃ k : Nat, x / 16 = (k : Int) := ⟨(x / 16).toNat, by omega⟩
          have hk7 : k ≤ 7 := by omega
          by_cases h32 : y / 32 % 2 = 1
          · have e4 : (32 * (y / 32 % 2) == 0) = false := by rw [beq_eq_false_iff_ne]; omega
            have e4b : (32 * (y / 32 % 2) != 0) = true := by rw [bne, e4]; rfl
            have HH := hid (show headN x y = (0, 3) from by unfold headN; rw [if_neg hno, if_pos h32])
            clear h1 h7 h31 hno h32 hk
            first | go_quiet (fail) | fail
            go_wp2_with fail
            go_ret2
            rw [HE.out, HH.out]
            exact ⟨by unfold errv; rfl, _, rfl⟩
          · have e4 : (32 * (y / 32 % 2) == 0) = true := by rw [beq_iff_eq]; omega
            have e4b : (32 * (y / 32 % 2) != 0) = false := by rw [bne, e4]; rfl
            have HH := hid (show headN x y = (256 * 2 ^ k, 0) from by unfold headN; rw [if_neg hno, if_neg h32, hk, Int.toNat_natCast])
            have Hk := hid hk
            clear h1 h7 h31 hno h32 hk
            first | go_quiet (fail) | fail
            go_upto_region 8 with (fail)
            rw [Hk.out]
            have tw : IntKind.i64.wrap ((k : Int) + 8) = ((k + 8 : Nat) : Int) := (IntWalk.i64_in _ (by omega)).trans (by omega)
            have hp := pow_bd k hk7
            have hsh := fun w => shl_run (P := Try.prog) (yk := .i64) 1 (k + 8) (by omega) w (by decide) (by rw [Int.pow_add]; omega)
            have ep : (2 : Int) ^ (k + 8) = 256 * 2 ^ k := by rw [Int.pow_add, Int.mul_comm]; rfl
            go_wp2_with fail
            go_ret2
            rw [HE.out, HH.out]
            refine ⟨?_, _, rfl⟩
            show Ending.returned (.tuple #[.int .i64 (2 ^ (k + 8)), .nilIface]) = _
            rw [ep]
            unfold errv
            rfl
        · have e3 : ((x * 256 + y) % 31 == 0) = false := by rw [beq_eq_false_iff_ne]; exact h31
          have e3b : ((x * 256 + y) % 31 != 0) = true := by rw [bne, e3]; rfl
          have HH := hid (show headN x y = (0, 2) from by unfold headN; rw [if_pos (.inr (.inr (by omega)))])
          clear h1 h7 h31
          first | go_quiet (fail) | fail
          go_wp2_with fail
          go_ret2
          rw [HE.out, HH.out]
          exact ⟨by unfold errv; rfl, _, rfl⟩
    · have e1 : (x % 16 == 8) = false := by rw [beq_eq_false_iff_ne]; exact h1
      have e1b : (x % 16 != 8) = true := by rw [bne, e1]; rfl
      have HH := hid (show headN x y = (0, 2) from by unfold headN; rw [if_pos (.inl h1)])
      clear h1
      first | go_quiet (fail) | fail
      go_wp2_with fail
      go_ret2
      rw [HE.out, HH.out]
      exact ⟨by unfold errv; rfl, _, rfl⟩
end Go.Proofs.Ytegmbjkpjglgpaa

namespace Go.Proofs.Ytegmbjkpjglgpaa
open Go.RowKit

/-- tokens that reach beyond a window -/
def farB (win : Int) (t : Int × Int) : Bool := decide (0 < t.1) && decide (win < t.2)
def farT (win : Int) (toks : List (Int × Int)) : Bool := toks.any (farB win)
theorem farT_take (win : Int) (l : List (Int × Int)) (j : Nat) (hj : j < l.length) : farT win (l.take (j + 1)) = (farT win (l.take j) || farB win l[j]) := by
  unfold farT
  rw [List.take_succ_eq_append_getElem hj, List.any_append]
  simp
theorem farT_at (win : Int) (l : List (Int × Int)) (j : Nat) (hj : j < l.length) (h : farB win l[j] = true) : farT win l = true := by
  unfold farT
  exact List.any_eq_true.2 ⟨l[j], List.getElem_mem hj, h⟩

theorem far1_any (t d win : Int) (g : Nat) (w : World) (h : w.cell? ⟨g, 0, none⟩ = some (.int .i64 win)) (hg : g < w.heap.size) :
    Calls Try.prog 100 #[.agg #[.int .i64 t, .int .i64 d], .pointer (some ⟨g, 0, none⟩)] w fun e w' => e = .returned (.bool (farB win (t, d))) ∧ Below w.heap.size w w' := by
  by_cases h1 : 0 < t
  · have Hf := hid (show farB win (t, d) = decide (win < d) from by unfold farB; rw [decide_eq_true h1]; rfl)
    have d1 : decide (0 < t) = true := decide_eq_true h1
    clear h1
    go_enter Try.func100, Try.ntmps100
    go_wp2
    go_ret
    exact ⟨by rw [Hf.out]; rfl, ((Below.refl _ _).alloc (Nat.le_refl _) _)⟩
  · have Hf := hid (show farB win (t, d) = false from by unfold farB; rw [decide_eq_false h1]; rfl)
    have d1 : decide (0 < t) = false := decide_eq_false h1
    clear h1
    go_enter Try.func100, Try.ntmps100
    go_wp2
    go_ret
    exact ⟨by rw [Hf.out]; rfl, ((Below.refl _ _).alloc (Nat.le_refl _) _)⟩

def FixEnd (win : Int) (l : List (Int × Int)) (W : World) (e : Ending) (w' : World) : Prop := ∃ r : Int, e = .returned (.int .i64 r) ∧ decide (0 ≤ r) = farT win l ∧ Below W.heap.size W w'
set_option maxHeartbeats 1000000 in
theorem findF_any (A : Option Addr) (c : Nat) (l : List (Int × Int)) (win : Int) (g : Nat) (W : World) (hr : Rd W W.heap.size 2 A l.length (l.flatMap encTok)) (hm : l.length ≤ 4194304) (h : W.cell? ⟨g, 0, none⟩ = some (.int .i64 win)) (hg : g < W.heap.size) :
    Calls Try.prog 123 #[.slice A l.length c, .func (.func 100) #[] #[.pointer (some ⟨g, 0, none⟩)]] W (FixEnd win l W) := by
  have Hr := hid hr
  clear hr
  go_enter Try.func123, Try.ntmps123
  go_wp2
  go_loopw [8] (fun i wr => ∃ j : Nat, j ≤ l.length ∧ i = .int .i64 j ∧ farT win (l.take j) = false ∧ Below W.heap.size W wr) (fun i _ => l.length - (intOf i).toNat)
  case atStart => exact ⟨0, by omega, rfl, rfl, Below.refl _ _⟩
  case round =>
    obtain ⟨j, hj, rfl, hno, hb⟩ := hrel
    have Hno := hid hno
    have Hb := hid hb
    have hc : wr.cell? ⟨g, 0, none⟩ = some (.int .i64 win) := (hb.cell (p := ⟨g, 0, none⟩) hg).trans h
    have hgr : g < wr.heap.size := Nat.lt_of_lt_of_le hg hb.size
    clear hno hb
    by_cases hlt : j < l.length
    · obtain ⟨b, off, rfl, hbb, h0, h1⟩ := tok_at (Hr.out.below Hb.out (Nat.le_refl _)) hlt
      have Ht := hid (farT_take win l j hlt)
      have Ha := hid (farT_at win l j hlt)
      generalize l[j] = t at *
      obtain ⟨tl, td⟩ := t
      go_wp2_with fail
      refine (far1_any tl td win g wr hc hgr).mono ?_
      rintro e w1 ⟨rfl, hb1⟩
      have Hb1 := hid (Hb.out.trans (hb1.mono Hb.out.size))
      cases hf : farB win (tl, td) with
      | true =>
        have HA := hid (Ha.out hf)
        clear hf h0 h1 hb1
        go_wp2
        go_ret
        exact ⟨j, rfl, by rw [HA.out]; exact decide_eq_true (by omega), Hb1.out⟩
      | false =>
        have HA := hid (show farT win (l.take (j + 1)) = false from by rw [Ht.out, Hno.out, hf]; rfl)
        clear hf h0 h1 hb1
        go_wp2
        go_roundw
        case rel => exact ⟨j + 1, by omega, by go_num, HA.out, Hb1.out⟩
        case measure => simp [intOf]; omega
    · go_wp2
      go_ret
      have e : j = l.length := by omega
      subst e
      exact ⟨-1, rfl, by have := Hno.out; rw [List.take_length] at this; rw [this]; rfl, Hb.out⟩

theorem contF_any (A : Option Addr) (c : Nat) (l : List (Int × Int)) (win : Int) (g : Nat) (W : World) (hr : Rd W W.heap.size 2 A l.length (l.flatMap encTok)) (hm : l.length ≤ 4194304) (h : W.cell? ⟨g, 0, none⟩ = some (.int .i64 win)) (hg : g < W.heap.size) :
    Calls Try.prog 99 #[.slice A l.length c, .func (.func 100) #[] #[.pointer (some ⟨g, 0, none⟩)]] W fun e w' => e = .returned (.bool (farT win l)) ∧ Below W.heap.size W w' := by
  have H := hid (findF_any A c l win g W hr hm h hg)
  clear hr hm h
  go_enter Try.func99, Try.ntmps99
  go_wp2_with fail
  refine (H.out).mono ?_
  rintro e w1 ⟨r, rfl, hr, hb⟩
  have Hr := hid hr
  clear hr
  go_wp2
  go_ret
  exact ⟨ret_bool Hr.out, hb⟩

theorem far_any (A : Option Addr) (c : Nat) (l : List (Int × Int)) (win : Int) (W : World) (hr : Rd W W.heap.size 2 A l.length (l.flatMap encTok)) (hm : l.length ≤ 4194304) :
    Calls Try.prog 61 #[.slice A l.length c, .int .i64 win] W fun e w' => e = .returned (.bool (farT win l)) ∧ Below W.heap.size W w' := by
  obtain ⟨w1, hw1⟩ : ∃ w1, w1 = W.alloc (.cells #[.int .i64 win] 3) := ⟨_, rfl⟩
  have hb1 : Below W.heap.size W w1 := hw1 ▸ (Below.refl _ _).alloc (Nat.le_refl _) _
  have hz1 : w1.heap.size = W.heap.size + 1 := by rw [hw1]; simp
  have hc : w1.cell? ⟨W.heap.size, 0, none⟩ = some (.int .i64 win) := by rw [hw1]; simp
  have H := hid (contF_any A c l win W.heap.size w1 ((hr.below hb1 (Nat.le_refl _)).more (by omega)) hm hc (by omega))
  have hmf : ∀ (fn : Fn) (first cap : Array Value) (w : World), (Instr.makeFunc fn first cap).run Try.prog w = .ok (.func fn first cap) w := fun _ _ _ _ => rfl
  clear hr hm hc
  go_enter Try.func61, Try.ntmps61
  go_wp2_with fail
  rw [← hw1]
  refine (H.out).mono ?_
  rintro e w2 ⟨rfl, hb2⟩
  go_wp2
  go_ret
  exact ⟨rfl, hb1.trans (hb2.mono (by omega))⟩
end Go.Proofs.Ytegmbjkpjglgpaa

namespace Go.Proofs.Ytegmbjkpjglgpaa
open Go.RowKit

theorem isB_drop {l : List Int} (h : ∀ x ∈ l, isB x) (k : Nat) : ∀ x ∈ l.drop k, isB x := fun x hx => h x (List.mem_of_mem_drop hx)
theorem rd_from {w : World} {B n : Nat} {b o : Nat} {xs : List Value} (h : Rd w B 1 (some ⟨b, o, none⟩) n xs) (k : Nat) (hk : k < n) : Rd w B 1 (some ⟨b, o + k, none⟩) (n - k) (xs.drop k) := by
  have hl := h.1
  refine ⟨by rw [List.length_drop]; omega, fun hp => ?_⟩
  obtain ⟨b', o', e, h1, h2⟩ := h.2 (by omega)
  cases e
  refine ⟨b, o + k, rfl, h1, fun j u hu => ?_⟩
  have := h2 (k + j) u (by rw [List.getElem?_drop] at hu; exact hu)
  rw [← Nat.add_assoc] at this
  exact this
set_option maxRecDepth 100000 in
theorem slice_lo {w2 : World} {B c n : Nat} {A : Option Addr} (l : List Int) (i : Int) (k m : Nat) (hl : l.length = n) (hi : i = (k : Int)) (hk : k + m = n) (hc : n ≤ c) (hA : A = none → c = 0) (hr : Rd w2 B 1 A n (bytesV l)) :
    ∃ A3 c3, (∀ w : World, (Instr.slice 42 (.slice A n c) (some (.int .i64 i)) none none).run Try.prog w = .ok (.slice A3 m c3) w) ∧ Rd w2 B 1 A3 m (bytesV (l.drop k)) ∧ m ≤ c3 ∧ c3 ≤ c ∧ (A3 = none → c3 = 0) := by
  subst hi
  have e0 : n - k = m := by omega
  have base : ∀ w : World, (Instr.slice 42 (.slice A n c) (some (.int .i64 (k : Int))) none none).run Try.prog w = .ok (sliced A k n c 1) w := by
    intro w
    rw [run_slice_l (P := Try.prog) (w := w) 42 A n c Try.underlying42 .i64 (k : Int) (by omega) (by omega)]
    rfl
  by_cases hck : c = k
  · have hn0 : m = 0 := by omega
    have hd : l.drop k = [] := List.drop_eq_nil_of_le (by omega)
    refine ⟨A, c - k, fun w => (base w).trans ?_, by rw [hd, hn0]; exact Rd.nil, by omega, by omega, fun h => by rw [hA h]; omega⟩
    unfold sliced
    rw [if_pos hck, e0]
  · by_cases hk0 : k = 0
    · subst hk0
      refine ⟨A, c - 0, fun w => (base w).trans ?_, by rw [List.drop_zero, show m = n from by omega]; exact hr, by omega, by omega, fun h => by rw [hA h]⟩
      unfold sliced
      rw [if_neg hck, e0]
      cases A with
      | none => rfl
      | some a => simp [Addr.add]
    · match A, hA, hr, base with
      | none, hA, hr, base => exact absurd (hA rfl) (by omega)
      | some ⟨b, o, p⟩, hA, hr, base =>
        refine ⟨some ⟨b, o + k, none⟩, c - k, fun w => (base w).trans ?_, ?_, by omega, by omega, by simp⟩
        · unfold sliced
          rw [if_neg hck, e0]
          simp [Addr.add, hk0]
        · by_cases hm : m = 0
          · have hd : l.drop k = [] := List.drop_eq_nil_of_le (by omega)
            rw [hd, hm]; exact ⟨by simp [bytesV], fun h => absurd h (by simp [bytesV])⟩
          · obtain ⟨b', o', e, _, _⟩ := hr.2 (by rw [bytesV_length]; omega)
            cases e
            have := rd_from hr k (by omega)
            rw [e0] at this
            simpa [bytesV, List.map_drop] using this
set_option maxRecDepth 100000 in
theorem slice_b4 (A : Option Addr) (N lc k : Nat) (h : k ≤ lc) (w : World) : (Instr.slice 42 (.slice A N lc) none (some (.int .i64 (k : Int))) none).run Try.prog w = .ok (.slice A k lc) w := by
  have base : (Instr.slice 42 (.slice A N lc) none (some (.int .i64 (k : Int))) none).run Try.prog w = .ok (sliced A 0 k lc 1) w := by
    rw [run_slice_h (P := Try.prog) (w := w) 42 A N lc Try.underlying42 .i64 (k : Int) (by omega) (by omega)]
    rfl
  rw [base]
  unfold sliced
  cases A with
  | none => simp
  | some a => simp [Addr.add]

/-- the number that bytes are, the first the highest -/
def beN (l : List Int) : Int := l.foldl (fun a x => a * 256 + x) 0
theorem beN_snoc (l : List Int) (x : Int) : beN (l ++ [x]) = beN l * 256 + x := by unfold beN; rw [List.foldl_append]; rfl
theorem beN_bd : ∀ (k : Nat) (l : List Int), l.length = k → (∀ x ∈ l, isB x) → 0 ≤ beN l ∧ beN l < 256 ^ k := by
  intro k
  induction k with
  | zero => intro l hl _; rw [List.eq_nil_of_length_eq_zero hl]; exact ⟨by decide, by decide⟩
  | succ k ih =>
    intro l hl hb
    rcases List.eq_nil_or_concat l with rfl | ⟨r, c, rfl⟩
    · simp at hl
    · rw [List.concat_eq_append] at hl hb ⊢
      have hr := ih r (by simpa using hl) (fun x hx => hb x (List.mem_append_left _ hx))
      have hc := hb c (by simp)
      rw [beN_snoc, Int.pow_succ]
      unfold isB at hc
      omega
theorem beN_take {l : List Int} (hb : ∀ x ∈ l, isB x) (h4 : 4 ≤ l.length) (j : Nat) (hj : j < 4) : 0 ≤ beN (l.take j) ∧ beN (l.take j) < 16777216 ∧ 0 ≤ l.getD j 0 ∧ l.getD j 0 ≤ 255 ∧ beN (l.take (j + 1)) = beN (l.take j) * 256 + l.getD j 0 := by
  have h1 := beN_bd j (l.take j) (by rw [List.length_take]; omega) (fun x hx => hb x (List.mem_of_mem_take hx))
  have h2 : (256 : Int) ^ j ≤ 16777216 := by
    rcases (show j = 0 ∨ j = 1 ∨ j = 2 ∨ j = 3 from by omega) with rfl | rfl | rfl | rfl <;> decide
  have h3 := hb l[j] (List.getElem_mem (by omega))
  have e : l.getD j 0 = l[j] := by rw [List.getD_eq_getElem?_getD, List.getElem?_eq_getElem (by omega)]; rfl
  unfold isB at h3
  rw [e]
  refine ⟨h1.1, by omega, h3.1, by omega, ?_⟩
  rw [List.take_succ_eq_append_getElem (by omega), beN_snoc]
/-- what taking four bytes as a number ends in -/
def TkbEnd (l : List Int) (W : World) (e : Ending) (w' : World) : Prop := Below W.heap.size W w' ∧
  if l.length < 4 then e = .returned (.tuple #[.int .i64 0, .slice none 0 0, .iface 40 (.int .i64 8)])
  else ∃ A c, e = .returned (.tuple #[.int .i64 (beN (l.take 4)), .slice A (l.length - 4) c, .nilIface])

set_option maxRecDepth 100000 in
set_option maxHeartbeats 1000000 in
theorem take4_any (A : Option Addr) (c : Nat) (l : List Int) (W : World) (hr : Rd W W.heap.size 1 A l.length (bytesV l)) (hb : ∀ x ∈ l, isB x) (hc : l.length ≤ c) (hA : A = none → c = 0) (hm : l.length ≤ 10000000) :
    Calls Try.prog 62 #[.slice A l.length c, .int .i64 4] W (TkbEnd l W) := by
  by_cases h4 : l.length < 4
  · obtain ⟨n, hn⟩ : ∃ n, n = l.length := ⟨_, rfl⟩
    have HE : ∀ e w', Below W.heap.size W w' → e = .returned (.tuple #[.int .i64 0, .slice none 0 0, .iface 40 (.int .i64 8)]) → TkbEnd l W e w' := fun e w' hbl he => ⟨hbl, by rw [if_pos h4]; exact he⟩
    have H := hid HE
    rw [← hn] at h4 ⊢
    have d1 : decide (n < 4) = true := decide_eq_true h4
    have d2 : decide ((n : Int) < 4) = true := decide_eq_true (by omega)
    clear hr hb hc hA hm h4 HE hn
    go_enter Try.func62, Try.ntmps62
    go_wp2_with fail
    refine (sized_any 4 W).mono ?_
    rintro e w1 ⟨rfl, rfl⟩
    go_wp2_with fail
    go_ret3
    exact H.out _ _ (Below.refl _ _) rfl
  · obtain ⟨n, hn⟩ : ∃ n, n = l.length := ⟨_, rfl⟩
    obtain ⟨A3, c3, hs, hr3, hmc, _, hA3⟩ := slice_lo (w2 := W) (B := W.heap.size) (c := c) (n := n) (A := A) l 4 4 (n - 4) hn.symm rfl (by omega) (by omega) hA (hn ▸ hr)
    have hs4 : ∀ w : World, (Instr.slice 42 (.slice A n c) none (some (.int .i64 4)) none).run Try.prog w = .ok (.slice A 4 c) w := fun w => slice_b4 A n c 4 (by omega) w
    have HE : ∀ e w' A c, Below W.heap.size W w' → e = .returned (.tuple #[.int .i64 (beN (l.take 4)), .slice A (l.length - 4) c, .nilIface]) → TkbEnd l W e w' := fun e w' A c hbl he => ⟨hbl, by rw [if_neg h4]; exact ⟨A, c, he⟩⟩
    have H := hid HE
    have Hr := hid hr
    have hcl := clone_any A3 c3 (l.drop 4) W (by rw [List.length_drop, ← hn]; exact hr3) hA3 (by rw [List.length_drop]; omega)
    rw [List.length_drop, ← hn] at hcl
    have Hcl := hid hcl
    have Ht := hid (beN_take hb (by omega))
    have hl4 : 4 ≤ n := by omega
    rw [← hn] at h4 ⊢
    have Hn := hid hn
    have d1 : decide (n < 4) = false := decide_eq_false h4
    have d2 : decide ((n : Int) < 4) = false := decide_eq_false (by omega)
    clear hr hb hc hm h4 HE hcl hn hA
    go_enter Try.func62, Try.ntmps62
    go_wp2_with fail
    refine (sized_any 4 W).mono ?_
    rintro e w1 ⟨rfl, rfl⟩
    go_wp2_with fail
    go_loop [7, 25] (fun a i => ∃ j : Nat, j ≤ 4 ∧ i = .int .i64 j ∧ a = .int .i64 (beN (l.take j))) (fun _ i => 4 - (intOf i).toNat)
    case atStart => exact ⟨0, by omega, rfl, rfl⟩
    case round =>
      obtain ⟨j, hj, rfl, rfl⟩ := hrel
      by_cases hlt : j < 4
      · obtain ⟨b, off, rfl, hbb, q0⟩ := byte_at Hr.out (j := j) (by have := Hn.out; omega)
        obtain ⟨t1, t2, t3, t4, t5⟩ := Ht.out j hlt
        have T5 := hid t5
        clear t5
        generalize beN (l.take j) = s at *
        generalize l.getD j 0 = x at *
        have a3 : bits .or .i64 (s * 256) x = s * 256 + x := i64_join 8 _ _ (by omega) (by omega) (by omega) (by omega) (by omega) (by omega)
        go_wp2
        go_round
        case rel => exact ⟨j + 1, by omega, by go_num, by rw [T5.out]⟩
        case measure => simp [intOf]; omega
      · have e : j = 4 := by omega
        subst e
        go_wp2_with fail
        refine (Hcl.out).mono ?_
        rintro e w2 ⟨A4, c4, rfl, _, hb2⟩
        go_wp2_with fail
        go_ret3
        exact H.out _ _ _ _ hb2 rfl

/-- the reference's -/
def TkrEnd (l : List Int) (W : World) (e : Ending) (w' : World) : Prop := W = w' ∧ e = .returned (.tuple #[.int .i64 (if l.length < 4 then 0 else beN (l.take 4)), .int .i64 (if l.length < 4 then 8 else 0)])
set_option maxRecDepth 100000 in
set_option maxHeartbeats 1000000 in
theorem rtake4_any (A : Option Addr) (c : Nat) (l : List Int) (W : World) (hr : Rd W W.heap.size 1 A l.length (bytesV l)) (hb : ∀ x ∈ l, isB x) (h4 : 4 ≤ l.length) (hm : l.length ≤ 10000000) :
    Calls Try.prog 65 #[.slice A l.length c, .int .i64 4] W fun e w' => W = w' ∧ e = .returned (.tuple #[.int .i64 (beN (l.take 4)), .int .i64 0]) := by
  have Hr := hid hr
  have Ht := hid (beN_take hb h4)
  obtain ⟨n, hn⟩ : ∃ n, n = l.length := ⟨_, rfl⟩
  rw [← hn] at h4 hm ⊢
  have Hn := hid hn
  have d1 : decide (n < 4) = false := decide_eq_false (by omega)
  have d2 : decide ((n : Int) < 4) = false := decide_eq_false (by omega)
  clear hr hb hn
  go_enter Try.func65, Try.ntmps65
  go_wp2_with fail
  go_loop [6, 7] (fun a i => ∃ j : Nat, j ≤ 4 ∧ i = .int .i64 j ∧ a = .int .i64 (beN (l.take j))) (fun _ i => 4 - (intOf i).toNat)
  case atStart => exact ⟨0, by omega, rfl, rfl⟩
  case round =>
    obtain ⟨j, hj, rfl, rfl⟩ := hrel
    by_cases hlt : j < 4
    · obtain ⟨b, off, rfl, hbb, q0⟩ := byte_at Hr.out (j := j) (by have := Hn.out; omega)
      obtain ⟨t1, t2, t3, t4, t5⟩ := Ht.out j hlt
      have T5 := hid t5
      clear t5
      generalize beN (l.take j) = s at *
      generalize l.getD j 0 = x at *
      have hjn : j < n := by omega
      go_wp2
      go_round
      case rel => exact ⟨j + 1, by omega, by go_num, by rw [T5.out]⟩
      case measure => simp [intOf]; omega
    · have e : j = 4 := by omega
      subst e
      go_wp2_with fail
      go_ret2
      exact ⟨rfl, rfl⟩
end Go.Proofs.Ytegmbjkpjglgpaa
