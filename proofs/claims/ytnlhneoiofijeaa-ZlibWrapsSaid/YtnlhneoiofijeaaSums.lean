/-
  sums.Adler over parts, sums.Put of four bytes, slices.Clone of bytes; burnishref01.Adler and Number.
-/
import Derived.Test.YtnlhneoiofijeaaApartA
import Derived.Test.YtnlhneoiofijeaaBits
namespace Go.Proofs.Ytnlhneoiofijeaa
open Go.RowKit

/-- one byte more of an Adler sum -/
def adl (s : Int × Int) (c : Int) : Int × Int := ((s.1 + c) % 65521, (s.2 + (s.1 + c) % 65521) % 65521)
def adlF (l : List Int) : Int × Int := l.foldl adl (1, 0)
def adler (l : List Int) : Int := 65536 * (adlF l).2 + (adlF l).1
theorem adl_bd {s : Int × Int} (c : Int) : 0 ≤ (adl s c).1 ∧ (adl s c).1 < 65521 ∧ 0 ≤ (adl s c).2 ∧ (adl s c).2 < 65521 := by unfold adl; simp only; omega
theorem adlF_bd (l : List Int) : 0 ≤ (adlF l).1 ∧ (adlF l).1 < 65521 ∧ 0 ≤ (adlF l).2 ∧ (adlF l).2 < 65521 := by
  unfold adlF
  rcases List.eq_nil_or_concat l with rfl | ⟨r, c, rfl⟩
  · simp
  · rw [List.concat_eq_append, List.foldl_append]; exact adl_bd c
theorem adlF_snoc (l : List Int) (c : Int) : adlF (l ++ [c]) = adl (adlF l) c := by unfold adlF; rw [List.foldl_append]; rfl

set_option maxHeartbeats 1000000 in
theorem refAdler_any (A : Option Addr) (c : Nat) (l : List Int) (W : World) (B : Nat) (hr : Rd W B 1 A l.length (bytesV l)) (hb : ∀ x ∈ l, isB x) (hm : l.length ≤ 10000000) :
    Calls Try.prog 76 #[.slice A l.length c] W fun e w' => e = .returned (.int .i64 (adler l)) ∧ W = w' := by
  have Hr := hid hr
  have Hb := hid hb
  clear hr hb
  go_enter Try.func76, Try.ntmps76
  go_wp2
  go_loop [3, 4, 5] (fun a b i => ∃ j : Nat, j ≤ l.length ∧ i = .int .i64 j ∧ a = .int .i64 (adlF (l.take j)).1 ∧ b = .int .i64 (adlF (l.take j)).2) (fun _ _ i => l.length - (intOf i).toNat)
  case atStart => exact ⟨0, by omega, rfl, rfl, rfl⟩
  case round =>
    obtain ⟨j, hj, rfl, rfl, rfl⟩ := hrel
    have hbd := adlF_bd (l.take j)
    by_cases hlt : j < l.length
    · obtain ⟨b, off, rfl, hbb, q0⟩ := byte_at Hr.out hlt
      have hs : adlF (l.take (j + 1)) = adl (adlF (l.take j)) l[j] := by rw [List.take_succ_eq_append_getElem hlt, adlF_snoc]
      have hx := Hb.out l[j] (List.getElem_mem hlt)
      rw [List.getD_eq_getElem?_getD, List.getElem?_eq_getElem hlt, Option.getD_some] at q0
      unfold isB at hx
      have Hs := hid hs
      clear hs
      generalize l[j] = x at *
      generalize adlF (l.take j) = s at *
      obtain ⟨sa, sb⟩ := s
      simp only at hbd
      obtain ⟨s1, s2, s3, s4⟩ := hbd
      obtain ⟨x1, x2⟩ := hx
      have hnext : ∀ a b : Int, (a = if 65521 ≤ sa + x then sa + x - 65521 else sa + x) → (b = if 65521 ≤ sb + a then sb + a - 65521 else sb + a) → adl (sa, sb) x = (a, b) := by
        intro a b ha hb
        unfold adl
        simp only [Prod.mk.injEq]
        constructor
        · rw [ha]; split <;> omega
        · have : (sa + x) % 65521 = a := by rw [ha]; split <;> omega
          rw [this, hb]; split <;> omega
      have Hnext := hid hnext
      clear hnext
      by_cases h1 : 65521 ≤ sa + x
      · by_cases h2 : 65521 ≤ sb + (sa + x - 65521)
        · go_wp2
          go_round
          case rel => exact ⟨j + 1, by omega, by go_num, by rw [Hs.out, Hnext.out _ _ rfl rfl, if_pos h1], by rw [Hs.out, Hnext.out _ _ rfl rfl, if_pos h1, if_pos h2]⟩
          case measure => simp [intOf]; omega
        · go_wp2
          go_round
          case rel => exact ⟨j + 1, by omega, by go_num, by rw [Hs.out, Hnext.out _ _ rfl rfl, if_pos h1], by rw [Hs.out, Hnext.out _ _ rfl rfl, if_pos h1, if_neg h2]⟩
          case measure => simp [intOf]; omega
      · by_cases h2 : 65521 ≤ sb + (sa + x)
        · go_wp2
          go_round
          case rel => exact ⟨j + 1, by omega, by go_num, by rw [Hs.out, Hnext.out _ _ rfl rfl, if_neg h1], by rw [Hs.out, Hnext.out _ _ rfl rfl, if_neg h1, if_pos h2]⟩
          case measure => simp [intOf]; omega
        · go_wp2
          go_round
          case rel => exact ⟨j + 1, by omega, by go_num, by rw [Hs.out, Hnext.out _ _ rfl rfl, if_neg h1], by rw [Hs.out, Hnext.out _ _ rfl rfl, if_neg h1, if_neg h2]⟩
          case measure => simp [intOf]; omega
    · have e : j = l.length := by omega
      subst e
      rw [List.take_length] at *
      obtain ⟨s1, s2, s3, s4⟩ := hbd
      go_wp2
      go_ret
      exact ⟨rfl, rfl⟩

/-- slices of bytes in a list of slices: what they hold -/
def Parts (w : World) (B gl : Nat) (R : List Sl) (P : List (List Int)) : Prop :=
  Blk w gl 68 (R.map slv).toArray ∧ R.length = P.length ∧ ∀ (k : Nat) (s : Sl) (l : List Int), R[k]? = some s → P[k]? = some l → s.2.1 = l.length ∧ Rd w B 1 s.1 l.length (bytesV l)
theorem parts_at {w : World} {B gl k : Nat} {R : List Sl} {P : List (List Int)} (h : Parts w B gl R P) (hk : k < R.length) :
    ∃ (A : Option Addr) (c : Nat) (l : List Int), P[k]? = some l ∧ R[k]? = some (A, l.length, c) ∧ w.cell? ⟨gl, k, none⟩ = some (.slice A l.length c) ∧ Rd w B 1 A l.length (bytesV l) := by
  obtain ⟨h1, h2, h3⟩ := h
  have e1 : R[k]? = some R[k] := List.getElem?_eq_getElem hk
  have e2 : P[k]? = some (P[k]'(by omega)) := List.getElem?_eq_getElem _
  obtain ⟨h4, h5⟩ := h3 k _ _ e1 e2
  generalize R[k] = s at *
  obtain ⟨A, n, c⟩ := s
  simp only at h4 h5
  subst h4
  refine ⟨A, c, _, e2, e1, ?_, h5⟩
  rw [h1.cell k, List.getElem?_toArray, List.getElem?_map, e1]
  rfl
theorem flat_take (P : List (List Int)) (k : Nat) (l : List Int) (h : P[k]? = some l) : (P.take (k + 1)).flatten = (P.take k).flatten ++ l := by
  obtain ⟨hk, rfl⟩ := List.getElem?_eq_some_iff.1 h
  rw [List.take_succ_eq_append_getElem hk, List.flatten_append]
  simp

set_option maxHeartbeats 1000000 in
theorem adler_any (gl mc : Nat) (R : List Sl) (P : List (List Int)) (W : World) (B : Nat) (hp : Parts W B gl R P) (hb : ∀ l ∈ P, ∀ x ∈ l, isB x) (hn : R.length ≤ 100) (hm : ∀ l ∈ P, l.length ≤ 10000000) :
    Calls Try.prog 73 #[.slice (some ⟨gl, 0, none⟩) R.length mc] W fun e w' => e = .returned (.int .i64 (adler P.flatten)) ∧ W = w' := by
  have Hp := hid hp
  have Hb := hid hb
  have Hm := hid hm
  clear hp hb hm
  go_enter Try.func73, Try.ntmps73
  go_wp2
  go_loop [3, 4, 11] (fun a b i => ∃ k : Nat, k ≤ R.length ∧ i = .int .i64 k ∧ a = .int .i64 (adlF (P.take k).flatten).1 ∧ b = .int .i64 (adlF (P.take k).flatten).2) (fun _ _ i => R.length - (intOf i).toNat)
  case atStart => exact ⟨0, by omega, rfl, rfl, rfl⟩
  case round =>
    obtain ⟨k, hk, rfl, rfl, rfl⟩ := hrel
    have hbd0 := adlF_bd (P.take k).flatten
    by_cases hlt : k < R.length
    · obtain ⟨A, c, l, hP, hR, q0, hr⟩ := parts_at Hp.out hlt
      have hlm := Hm.out l (List.mem_of_getElem? hP)
      have Hlb := hid (Hb.out l (List.mem_of_getElem? hP))
      have Hfl := hid (flat_take P k l hP)
      have Hr := hid hr
      clear hP hR hr
      generalize (P.take k).flatten = p at *
      go_wp2
      go_loop [3, 4, 17] (fun a b i => ∃ j : Nat, j ≤ l.length ∧ i = .int .i64 j ∧ a = .int .i64 (adlF (p ++ l.take j)).1 ∧ b = .int .i64 (adlF (p ++ l.take j)).2) (fun _ _ i => l.length - (intOf i).toNat)
      case atStart => exact ⟨0, by omega, rfl, by simp, by simp⟩
      case round =>
        obtain ⟨j, hj, rfl, rfl, rfl⟩ := hrel
        have hbd := adlF_bd (p ++ l.take j)
        by_cases hlt2 : j < l.length
        · obtain ⟨b, off, rfl, hbb, q1⟩ := byte_at Hr.out hlt2
          have hs : adlF (p ++ l.take (j + 1)) = adl (adlF (p ++ l.take j)) l[j] := by rw [List.take_succ_eq_append_getElem hlt2, ← List.append_assoc, adlF_snoc]
          have hx := Hlb.out l[j] (List.getElem_mem hlt2)
          rw [List.getD_eq_getElem?_getD, List.getElem?_eq_getElem hlt2, Option.getD_some] at q1
          unfold isB at hx
          have Hs := hid hs
          clear hs hbd0
          generalize l[j] = x at *
          generalize adlF (p ++ l.take j) = s at *
          obtain ⟨sa, sb⟩ := s
          simp only at hbd
          obtain ⟨s1, s2, s3, s4⟩ := hbd
          obtain ⟨x1, x2⟩ := hx
          go_wp2
          go_round
          case rel => exact ⟨j + 1, by omega, by go_num, by rw [Hs.out]; rfl, by rw [Hs.out]; rfl⟩
          case measure => simp [intOf]; omega
        · have e : j = l.length := by omega
          subst e
          rw [List.take_length] at *
          go_wp2
          go_round
          case rel => exact ⟨k + 1, by omega, by go_num, by rw [Hfl.out], by rw [Hfl.out]⟩
          case measure => simp [intOf]; omega
    · have e : k = R.length := by omega
      subst e
      have hl : (P.take R.length).flatten = P.flatten := by rw [Hp.out.2.1, List.take_length]
      rw [hl]
      clear hl hbd0
      have hbd := adlF_bd P.flatten
      have Ha := hid (show adler P.flatten = 65536 * (adlF P.flatten).2 + (adlF P.flatten).1 from rfl)
      generalize adlF P.flatten = s at *
      obtain ⟨sa, sb⟩ := s
      simp only at *
      obtain ⟨s1, s2, s3, s4⟩ := hbd
      have Hj := hid (i64_join 16 (sb * 65536) sa (by omega) (by omega) (by omega) (by omega) (by omega) (by omega))
      go_wp2
      go_ret
      exact ⟨ret_int (by show bits .or .i64 _ _ = _; rw [Hj.out, Ha.out]; omega), rfl⟩

/-- a number's bytes, the first the highest -/
def be (s : Nat) (n : Int) : List Int := (List.range s).map fun i => n / 256 ^ (s - 1 - i) % 256
theorem be_isB (s : Nat) (n : Int) : ∀ x ∈ be s n, isB x := by
  intro x hx
  obtain ⟨i, _, rfl⟩ := List.mem_map.1 hx
  unfold isB; omega
theorem be_length (s : Nat) (n : Int) : (be s n).length = s := by simp [be]

theorem sized_any (n : Int) (W : World) : Calls Try.prog 88 #[.int .i64 n] W fun e w' => e = .returned (.bool (decide (1 ≤ n ∧ n ≤ 4))) ∧ W = w' := by
  by_cases h : 1 ≤ n
  · go_enter Try.func88, Try.ntmps88
    go_wp2
    go_ret
    exact ⟨ret_bool (by simp; omega), rfl⟩
  · go_enter Try.func88, Try.ntmps88
    go_wp2
    go_ret
    exact ⟨ret_bool (by simp; omega), rfl⟩

/-- what slices.Clone of bytes hands back -/
def ClonedB (l : List Int) (W : World) (e : Ending) (w' : World) : Prop :=
  ∃ A c, e = .returned (.slice A l.length c) ∧ w'.ownsRow W.heap.size 5 1 (.slice A l.length c) l.length (bytesV l) ∧ Below W.heap.size W w'
theorem empty_own (w : World) (t : TypeId) (size : Nat) : (w.alloc (.cells #[] t)).ownsRow w.heap.size t size (.slice (some ⟨w.heap.size, 0, none⟩) 0 0) 0 [] :=
  ⟨by simp, .inr ⟨w.heap.size, 0, #[], rfl, Nat.le_refl _, Blk.new w t #[], Nat.le_refl _, by simp [maxLen], by simp, by simp⟩⟩

set_option maxRecDepth 100000 in
set_option maxHeartbeats 1000000 in
theorem clone_any (A : Option Addr) (c : Nat) (l : List Int) (W : World) (hr : Rd W W.heap.size 1 A l.length (bytesV l)) (hc : A = none → c = 0) (hm : l.length ≤ 10000000) :
    Calls Try.prog 89 #[.slice A l.length c] W (ClonedB l W) := by
  cases A with
  | none =>
    obtain rfl := hc rfl
    have hl := rd_nil hr (by omega) rfl
    obtain rfl := List.eq_nil_of_length_eq_zero hl
    have hq := fun w => Lib.run_eql_slice_nil (P := Try.prog) w 68 5 none 0 0 0 0 Try.underlying68
    go_enter Try.func89, Try.ntmps89
    go_wp2
    go_ret
    exact ⟨none, 0, rfl, World.ownsRow_nil _ _ _ _, Below.refl _ _⟩
  | some ad =>
    obtain ⟨i0, hi0, hz0, hz1, hz2⟩ := info_parts u8_info
    have Hi0 := hid hi0
    have Hz0 := hid hz0
    have Hz1 := hid hz1
    have Hz2 := hid hz2
    have Hr := hid hr
    clear hi0 hz0 hz1 hz2 hr hc
    have hq := fun w => Lib.run_eql_slice_nil (P := Try.prog) w 68 5 ad l.length c 0 0 Try.underlying68
    go_enter Try.func89, Try.ntmps89
    go_wp2_with (at_builtin; refine wpList_app _ rfl _ _ _ rfl W.heap.size 5 i0 (.int .u8 0) 1 1 Try.underlying68 Hi0.out Hz0.out Hz1.out Hz2.out rfl (by omega) _ 0 0 [] rfl (empty_own W _ 1) W.heap.size _ l.length c (bytesV l) rfl (Hr.out.alloc (Nat.le_refl _) _) (by simp) bytesV_cells (by simp only [maxLen]; omega) (by omega) (by simp) ?_; rintro A3 c3 w3 ⟨hown3, hgr3, hb3, _⟩)
    go_ret
    refine ⟨A3, c3, by simp, by simpa using hown3, ((Below.refl _ _).alloc (Nat.le_refl _) _).trans hb3⟩

/-- what sums.Put of four bytes ends in -/
def PutEnd (s : Nat) (l : List Int) (n : Int) (W : World) (e : Ending) (w' : World) : Prop :=
  (if n < 0 ∨ 256 ^ s ≤ n then e = .returned (.tuple #[.slice none 0 0, .iface 47 (.int .i64 7)])
  else ∃ A c, e = .returned (.tuple #[.slice A (l.length + s) c, .nilIface]) ∧ w'.ownsRow W.heap.size 5 1 (.slice A (l.length + s) c) (l.length + s) (bytesV (l ++ be s n))) ∧ Below W.heap.size W w'

theorem be_take (s k : Nat) (n : Int) (h : k < s) : (be s n).take (k + 1) = (be s n).take k ++ [n / 256 ^ (s - 1 - k) % 256] := by
  rw [List.take_succ_eq_append_getElem (by rw [be_length]; exact h)]
  simp [be]

set_option maxRecDepth 100000 in
set_option maxHeartbeats 2000000 in
theorem put4_any (A : Option Addr) (c : Nat) (l : List Int) (n : Int) (W : World) (hr : Rd W W.heap.size 1 A l.length (bytesV l)) (hc : A = none → c = 0) (hm : l.length ≤ 10000000) :
    Calls Try.prog 71 #[.slice A l.length c, .int .i64 4, .int .i64 n] W (PutEnd 4 l n W) := by
  have Hcl := hid (clone_any A c l W hr hc hm)
  clear hr hc
  by_cases h0 : n < 0
  · go_enter Try.func71, Try.ntmps71
    go_wp2_with fail
    refine (sized_any 4 _).mono ?_
    rintro e w1 ⟨rfl, rfl⟩
    go_wp2_with fail
    go_ret2
    exact ⟨by rw [if_pos (.inl h0)]; rfl, Below.refl _ _⟩
  · by_cases h1 : 4294967296 ≤ n
    · have Hif := hid (show n < 0 ∨ (256 : Int) ^ 4 ≤ n from .inr (by omega))
      have hq : ¬ n / 4294967296 = 0 := by omega
      have hq2 : (n / 4294967296 != 0) = true := bne_iff_ne.2 hq
      have hq3 : decide (n < 0) = false := decide_eq_false h0
      clear hq
      go_enter Try.func71, Try.ntmps71
      go_wp2_with fail
      refine (sized_any 4 _).mono ?_
      rintro e w1 ⟨rfl, rfl⟩
      go_wp2_with fail
      go_ret2
      exact ⟨by rw [if_pos Hif.out]; rfl, Below.refl _ _⟩
    · have Hif := hid (show ¬ (n < 0 ∨ (256 : Int) ^ 4 ≤ n) by omega)
      have hq : n / 4294967296 = 0 := by omega
      have hq3 : decide (n < 0) = false := decide_eq_false h0
      obtain ⟨i0, hi0, hz0, hz1, hz2⟩ := info_parts u8_info
      have Hi0 := hid hi0
      have Hz0 := hid hz0
      have Hz1 := hid hz1
      have Hz2 := hid hz2
      clear hi0 hz0 hz1 hz2
      go_enter Try.func71, Try.ntmps71
      go_wp2_with fail
      refine (sized_any 4 _).mono ?_
      rintro e w1 ⟨rfl, rfl⟩
      go_wp2_with fail
      refine Hcl.out.mono ?_
      rintro e w2 ⟨A2, c2, rfl, hown2, hb2⟩
      have Hown2 := hid hown2
      have Hb2 := hid hb2
      clear Hcl hq hown2 hb2
      go_wp2_with fail
      go_loopw [8, 9] (fun bv i wr => ∃ (k : Nat) (A' : Option Addr) (c' : Nat), k ≤ 4 ∧ i = .int .i64 (3 - k) ∧ bv = .slice A' (l.length + k) c' ∧ wr.ownsRow W.heap.size 5 1 (.slice A' (l.length + k) c') (l.length + k) (bytesV (l ++ (be 4 n).take k)) ∧ Below W.heap.size W wr) (fun _ i _ => (intOf i + 1).toNat)
      case atStart => exact ⟨0, A2, c2, by omega, rfl, rfl, by simpa using Hown2.out, Hb2.out⟩
      case round =>
        obtain ⟨k, A', c', hk, rfl, rfl, hown, hb⟩ := hrel
        have Hown := hid hown
        have Hb := hid hb
        have hsz := hb.size
        clear hown hb
        have hk5 : k = 0 ∨ k = 1 ∨ k = 2 ∨ k = 3 ∨ k = 4 := by omega
        rcases hk5 with rfl | rfl | rfl | rfl | rfl
        · have hw : IntKind.u8.wrap (n / 16777216) = n / 16777216 % 256 := by rw [IntKind.wrap_u8]
          have Hx := hid (show bytesV (l ++ (be 4 n).take 0) ++ [.int .u8 (n / 16777216 % 256)] = bytesV (l ++ (be 4 n).take (0 + 1)) by rw [be_take 4 0 n (by omega), ← List.append_assoc]; simp [bytesV])
          go_wp2_with (at_builtin; refine wpList_app _ rfl _ _ _ rfl W.heap.size 5 i0 (.int .u8 0) 1 1 Try.underlying68 Hi0.out Hz0.out Hz1.out Hz2.out rfl (by omega) A' l.length c' _ rfl (Hown.out.alloc _) _ _ 1 1 [.int .u8 (n / 16777216 % 256)] rfl (rd_one _ _ _ _ (Blk.new _ _ _)) (by simp) (by simp [Value.oneCell']) (by simp only [maxLen]; omega) (by omega) (by simp; omega) ?_; rintro A4 c4 w4 ⟨hown4, hgr4, hb4, _⟩)
          go_roundw
          case rel => exact ⟨0 + 1, A4, c4, by omega, by go_num, rfl, by rw [← Hx.out]; exact hown4, (Hb.out.alloc hsz _).trans hb4⟩
          case measure => simp [intOf]
        · have hw : IntKind.u8.wrap (n / 65536) = n / 65536 % 256 := by rw [IntKind.wrap_u8]
          have Hx := hid (show bytesV (l ++ (be 4 n).take 1) ++ [.int .u8 (n / 65536 % 256)] = bytesV (l ++ (be 4 n).take (1 + 1)) by rw [be_take 4 1 n (by omega), ← List.append_assoc]; simp [bytesV])
          go_wp2_with (at_builtin; refine wpList_app _ rfl _ _ _ rfl W.heap.size 5 i0 (.int .u8 0) 1 1 Try.underlying68 Hi0.out Hz0.out Hz1.out Hz2.out rfl (by omega) A' (l.length + 1) c' _ rfl (Hown.out.alloc _) _ _ 1 1 [.int .u8 (n / 65536 % 256)] rfl (rd_one _ _ _ _ (Blk.new _ _ _)) (by simp) (by simp [Value.oneCell']) (by simp only [maxLen]; omega) (by omega) (by simp; omega) ?_; rintro A4 c4 w4 ⟨hown4, hgr4, hb4, _⟩)
          go_roundw
          case rel => exact ⟨1 + 1, A4, c4, by omega, by go_num, rfl, by rw [← Hx.out]; exact hown4, (Hb.out.alloc hsz _).trans hb4⟩
          case measure => simp [intOf]
        · have hw : IntKind.u8.wrap (n / 256) = n / 256 % 256 := by rw [IntKind.wrap_u8]
          have Hx := hid (show bytesV (l ++ (be 4 n).take 2) ++ [.int .u8 (n / 256 % 256)] = bytesV (l ++ (be 4 n).take (2 + 1)) by rw [be_take 4 2 n (by omega), ← List.append_assoc]; simp [bytesV])
          go_wp2_with (at_builtin; refine wpList_app _ rfl _ _ _ rfl W.heap.size 5 i0 (.int .u8 0) 1 1 Try.underlying68 Hi0.out Hz0.out Hz1.out Hz2.out rfl (by omega) A' (l.length + 2) c' _ rfl (Hown.out.alloc _) _ _ 1 1 [.int .u8 (n / 256 % 256)] rfl (rd_one _ _ _ _ (Blk.new _ _ _)) (by simp) (by simp [Value.oneCell']) (by simp only [maxLen]; omega) (by omega) (by simp; omega) ?_; rintro A4 c4 w4 ⟨hown4, hgr4, hb4, _⟩)
          go_roundw
          case rel => exact ⟨2 + 1, A4, c4, by omega, by go_num, rfl, by rw [← Hx.out]; exact hown4, (Hb.out.alloc hsz _).trans hb4⟩
          case measure => simp [intOf]
        · have hw : IntKind.u8.wrap (n) = n % 256 := by rw [IntKind.wrap_u8]
          have Hx := hid (show bytesV (l ++ (be 4 n).take 3) ++ [.int .u8 (n % 256)] = bytesV (l ++ (be 4 n).take (3 + 1)) by rw [be_take 4 3 n (by omega), ← List.append_assoc]; simp [bytesV])
          go_wp2_with (at_builtin; refine wpList_app _ rfl _ _ _ rfl W.heap.size 5 i0 (.int .u8 0) 1 1 Try.underlying68 Hi0.out Hz0.out Hz1.out Hz2.out rfl (by omega) A' (l.length + 3) c' _ rfl (Hown.out.alloc _) _ _ 1 1 [.int .u8 (n % 256)] rfl (rd_one _ _ _ _ (Blk.new _ _ _)) (by simp) (by simp [Value.oneCell']) (by simp only [maxLen]; omega) (by omega) (by simp; omega) ?_; rintro A4 c4 w4 ⟨hown4, hgr4, hb4, _⟩)
          go_roundw
          case rel => exact ⟨3 + 1, A4, c4, by omega, by go_num, rfl, by rw [← Hx.out]; exact hown4, (Hb.out.alloc hsz _).trans hb4⟩
          case measure => simp [intOf]
        · go_wp2
          go_ret2
          refine ⟨?_, Hb.out⟩
          rw [if_neg Hif.out]
          refine ⟨A', c', rfl, ?_⟩
          have h := Hown.out
          rw [List.take_of_length_le (by rw [be_length]; omega)] at h
          exact h

end Go.Proofs.Ytnlhneoiofijeaa
