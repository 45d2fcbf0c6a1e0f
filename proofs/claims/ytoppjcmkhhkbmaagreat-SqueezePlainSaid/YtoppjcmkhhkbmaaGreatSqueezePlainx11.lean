/-
  slices.Grow of nil and slices.Concat at one instance, over cells.
  merge.packages: items by twos.
  Package-merge, plain: how long a row, its items and its weights may grow.
  merge.best: the lengths.
  Counts in form: burnishref05.Good, merge.sound and what it calls.
  merge.best of one item, and of any; merge.Lengths.
  merge.Lengths: what is refused, and the best lengths.
-/
import Derived.Test.YtoppjcmkhhkbmaaGreatSqueezePlainx1
import Derived.Test.YtoppjcmkhhkbmaaGreatSqueezePlainx5
import Derived.Test.YtoppjcmkhhkbmaaGreatSqueezePlainx7
import Derived.Test.YtoppjcmkhhkbmaaGreatSqueezePlainx10
import Derived.Lib.AppendZerosOnto
import Derived.Deep.RegionHeld3
namespace Go.Proofs.YtoppjcmkhhkbmaaGreat
open Go.RowKit

theorem cat_infoM : (Tryz.prog.info? 238).map (fun i => (i.zero, i.size, i.bytes)) = some (some (.agg #[.int .i64 0, .slice none 0 0]), 2, 32) := by kernel_rfl

/-- what slices.Grow of nil hands back: an empty row, with room -/
def GrownM (W : World) (e : Ending) (w' : World) : Prop := ∃ A c, e = .returned (.slice A 0 c) ∧ w'.ownsRow W.heap.size 238 2 (.slice A 0 c) 0 [] ∧ Below W.heap.size W w'
set_option maxRecDepth 100000 in
set_option maxHeartbeats 1000000 in
theorem growM_any (n : Nat) (hn : n * 32 ≤ 140737488355328) (W : World) : Calls Tryz.prog 194 #[.slice none 0 0, .int .i64 n] W (GrownM W) := by
  by_cases h0 : n = 0
  · subst h0
    go_enter Tryz.func194, Tryz.ntmps194
    go_wp2
    go_ret
    exact ⟨none, 0, rfl, World.ownsRow_nil _ _ _ _, Below.refl _ _⟩
  · obtain ⟨i0, hi0, hz0, hz1, hz2⟩ := info_parts cat_infoM
    have hr := fun ty => Lib.run_append_nil_zeros (P := Tryz.prog) W 218 3 ty 238 i0 (.agg #[.int .i64 0, .slice none 0 0]) .i64 .i64 Tryz.underlying218 Tryz.underlying3 hi0 hz0 n (by omega) (by rw [hz1]; omega) (by omega) (by rw [hz2]; omega)
    have hge := grownCap_ge W n 0 238
    have hle : grownCap W n 0 238 ≤ 9223372036854775807 := by
      have := grownCap_le_maxLen W n 0 238 (by unfold maxLen; omega)
      unfold maxLen at this
      exact this
    generalize grownCap W n 0 238 = C at *
    obtain ⟨cs, hcs⟩ : ∃ cs : Array Value, cs = Builtin.zeroCells (Value.cells (.agg #[.int .i64 0, .slice none 0 0])) n ++ Builtin.zeroCells (Value.cells (.agg #[.int .i64 0, .slice none 0 0])) (C - n) := ⟨_, rfl⟩
    rw [← hcs] at hr
    have hsz : cs.size = C * 2 := by
      rw [hcs]
      simp only [Array.size_append, size_zeroCells, Value.cells]
      simp
      try omega
    have Hr := hid hr
    have Hsz := hid hsz
    have hpos : (0 : Int) < n := by omega
    clear hr hi0 hz0 hz1 hz2 hcs hsz h0
    go_enter Tryz.func194, Tryz.ntmps194
    go_wp2_with (at_builtin; refine Lib.wpList_append_run _ rfl _ _ _ _ rfl _ _ rfl rfl _ _ (Hr.out _) ?_)
    go_ret
    refine ⟨some ⟨W.heap.size, 0, none⟩, C, rfl, ⟨rfl, .inr ⟨W.heap.size, C, cs, rfl, Nat.le_refl _, (Blk.new W.drew 238 cs), Nat.zero_le _, by unfold maxLen; exact hle, Hsz.out, by simp⟩⟩, ?_⟩
    exact ((Below.refl _ _).drew).alloc (by simp) _

/-- slices in a list of slices: what cells they hold -/
def PartsCM (w : World) (B gl : Nat) (R : List Sl) (P : List (List Value)) : Prop :=
  Blk w gl 218 (R.map slv).toArray ∧ R.length = P.length ∧ ∀ (k : Nat) (s : Sl) (l : List Value), R[k]? = some s → P[k]? = some l → Rd w B 2 s.1 s.2.1 l ∧ ∀ u ∈ l, u.oneCell' = true
theorem partsCM_at {w : World} {B gl k : Nat} {R : List Sl} {P : List (List Value)} (h : PartsCM w B gl R P) (hk : k < R.length) :
    ∃ (A : Option Addr) (n c : Nat) (l : List Value), P[k]? = some l ∧ w.cell? ⟨gl, k, none⟩ = some (.slice A n c) ∧ Rd w B 2 A n l ∧ ∀ u ∈ l, u.oneCell' = true := by
  obtain ⟨h1, h2, h3⟩ := h
  have e1 : R[k]? = some R[k] := List.getElem?_eq_getElem hk
  have e2 : P[k]? = some (P[k]'(by omega)) := List.getElem?_eq_getElem _
  obtain ⟨h5, h6⟩ := h3 k _ _ e1 e2
  generalize R[k] = s at *
  obtain ⟨A, n, c⟩ := s
  refine ⟨A, n, c, _, e2, ?_, h5, h6⟩
  rw [h1.cell k, List.getElem?_toArray, List.getElem?_map, e1]
  rfl
theorem flatCM_take (P : List (List Value)) (k : Nat) (l : List Value) (h : P[k]? = some l) : (P.take (k + 1)).flatten = (P.take k).flatten ++ l := by
  obtain ⟨hk, rfl⟩ := List.getElem?_eq_some_iff.1 h
  rw [List.take_succ_eq_append_getElem hk, List.flatten_append]
  simp
theorem flatCM_le (P : List (List Value)) (k : Nat) : (P.take k).flatten.length ≤ P.flatten.length := by
  conv => rhs; rw [← List.take_append_drop k P]
  rw [List.flatten_append, List.length_append]
  omega

theorem rdCM_nil {w : World} {B n : Nat} {A : Option Addr} {xs : List Value} (h : Rd w B 2 A n xs) (hA : A = none) : n = 0 := by
  rcases Nat.eq_zero_or_pos n with h0 | h0
  · exact h0
  · obtain ⟨b, off, hA', _⟩ := h.at_ (k := 0) h0 (by omega)
    rw [hA] at hA'; cases hA'
/-- what slices.Concat hands back -/
def CattedM (n : Nat) (xs : List Value) (W : World) (e : Ending) (w' : World) : Prop :=
  ∃ A c, e = .returned (.slice A n c) ∧ w'.ownsRow W.heap.size 238 2 (.slice A n c) n xs ∧ Below W.heap.size W w'
set_option maxRecDepth 100000 in
set_option maxHeartbeats 2000000 in
theorem concatM_any (gl mc N : Nat) (R : List Sl) (P : List (List Value)) (W : World) (hp : PartsCM W W.heap.size gl R P) (hn : R.length ≤ 1000000) (hN : P.flatten.length = N * 2) (hm : N * 32 ≤ 70368744177664) :
    Calls Tryz.prog 173 #[.slice (some ⟨gl, 0, none⟩) R.length mc] W (CattedM N P.flatten W) := by
  obtain ⟨i0, hi0, hz0, hz1, hz2⟩ := info_parts cat_infoM
  have Hi0 := hid hi0
  have Hz0 := hid hz0
  have Hz1 := hid hz1
  have Hz2 := hid hz2
  have Hp := hid hp
  have HN := hid hN
  have hm2 : N ≤ 70368744177664 := by omega
  clear hi0 hz0 hz1 hz2 hp hN
  go_enter Tryz.func173, Tryz.ntmps173
  go_wp2
  go_loop [3, 11] (fun a i => ∃ k q : Nat, k ≤ R.length ∧ i = .int .i64 k ∧ a = .int .i64 q ∧ (P.take k).flatten.length = q * 2) (fun _ i => R.length - (intOf i).toNat)
  case atStart => exact ⟨0, 0, by omega, rfl, rfl, by simp⟩
  case round =>
    obtain ⟨k, q, hk, rfl, rfl, hq⟩ := hrel
    have Hq := hid hq
    have hqN : q ≤ N := by
      have h1 := flatCM_le P k
      rw [hq, HN.out] at h1
      omega
    clear hq
    by_cases hlt : k < R.length
    · obtain ⟨A, n, c, l, hP, q0, hr, _⟩ := partsCM_at Hp.out hlt
      have Hfl := hid (flatCM_take P k l hP)
      have Hl : Hid (l.length = n * 2) := hr.1
      have hqn : q + n ≤ N := by
        have h1 := flatCM_le P (k + 1)
        rw [Hfl.out, List.length_append, Hq.out, Hl.out, HN.out] at h1
        omega
      clear hP hr
      go_wp2
      go_round
      case rel => exact ⟨k + 1, q + n, by omega, by go_num, by go_num, by rw [Hfl.out, List.length_append, Hq.out, Hl.out]; omega⟩
      case measure => simp [intOf]; omega
    · have e : k = R.length := by omega
      subst e
      have hqe : q = N := by
        have h1 := Hq.out
        rw [Hp.out.2.1, List.take_length, HN.out] at h1
        omega
      subst hqe
      go_wp2_with fail
      refine (growM_any q (by omega) _).mono ?_
      rintro e w1 ⟨A1, c1, rfl, hown1, hb1⟩
      have Hown1 := hid hown1
      have Hb1 := hid hb1
      clear hown1 hb1
      go_wp2_with fail
      go_loopw [6, 27] (fun ov i wr => ∃ (k n : Nat) (A' : Option Addr) (c' : Nat), k ≤ R.length ∧ i = .int .i64 k ∧ ov = .slice A' n c' ∧ wr.ownsRow W.heap.size 238 2 (.slice A' n c') n (P.take k).flatten ∧ Below W.heap.size W wr) (fun _ i _ => R.length - (intOf i).toNat)
      case atStart => exact ⟨0, 0, A1, c1, by omega, rfl, rfl, by simpa using Hown1.out, Hb1.out⟩
      case round =>
        obtain ⟨k, n, A', c', hk, rfl, rfl, hown, hb⟩ := hrel
        have Hown := hid hown
        have Hb := hid hb
        have hsz := hb.size
        clear hown hb
        by_cases hlt2 : k < R.length
        · obtain ⟨A, m, c, l, hP, q0, hr, hone⟩ := partsCM_at Hp.out hlt2
          have q1 := Hb.out.cell (p := ⟨gl, k, none⟩) Hp.out.1.lt
          rw [q0] at q1
          have Hfl := hid (flatCM_take P k l hP)
          have Hl : Hid (l.length = m * 2) := hr.1
          have hqn : n + m ≤ q := by
            have h1 := flatCM_le P (k + 1)
            have h2 := Hown.out.1
            rw [Hfl.out, List.length_append, Hl.out, HN.out] at h1
            omega
          have Hr := hid (hr.below Hb.out (Nat.le_refl _))
          have Hnil := hid (fun (h : A = none) => rdCM_nil hr h)
          have Hone := hid hone
          clear hP hr hone q0
          go_wp2_with (at_builtin; refine wpList_app _ rfl _ _ _ rfl W.heap.size 238 i0 (.agg #[.int .i64 0, .slice none 0 0]) 2 32 Tryz.underlying218 Hi0.out Hz0.out Hz1.out Hz2.out rfl (by omega) A' n c' _ rfl Hown.out _ A m c l rfl Hr.out Hnil.out Hone.out (by simp only [maxLen]; omega) (by omega) hsz ?_; rintro A4 c4 w4 ⟨hown4, hgr4, hb4, _⟩)
          go_roundw
          case rel => exact ⟨k + 1, n + m, A4, c4, by omega, by go_num, rfl, by rw [Hfl.out]; exact hown4, Hb.out.trans hb4⟩
          case measure => simp [intOf]; omega
        · have e2 : k = R.length := by omega
          subst e2
          have ht : (P.take R.length).flatten = P.flatten := by rw [Hp.out.2.1, List.take_length]
          have hne : n = q := by
            have h1 := Hown.out.1
            rw [ht, HN.out] at h1
            omega
          subst hne
          have Ht := hid ht
          clear ht
          go_wp2
          go_ret
          exact ⟨A', c', rfl, by have := Hown.out; rwa [Ht.out] at this, Hb.out⟩

end Go.Proofs.YtoppjcmkhhkbmaaGreat

namespace Go.Proofs.YtoppjcmkhhkbmaaGreat
open Go.RowKit Mg

def ints (s : List Nat) : List Int := s.map (fun i : Nat => (i : Int))
theorem IOwn.drew {w W : World} {A : Option Addr} {c : Nat} {X : List IR} (h : IOwn w W A c X) : IOwn w.drew W A c X := h.below (Below.refl _ _).drew
def PkEnd (X : List IR) (W : World) (e : Ending) (w' : World) : Prop := ∃ A' c' Z, e = .returned (.slice A' Z.length c') ∧ Z.map (·.it) = pk (X.map (·.it)) ∧ IOwn w' W A' c' Z
theorem pk_app2 : ∀ (l : List It) (a b : It), l.length % 2 = 0 → pk (l ++ [a, b]) = pk l ++ [⟨a.w + b.w, a.s ++ b.s⟩]
  | [], a, b, _ => rfl
  | [_], _, _, h => by simp at h
  | x :: y :: t, a, b, h => by
    have ih := pk_app2 t a b (by simp only [List.length_cons] at h; omega)
    show ⟨x.w + y.w, x.s ++ y.s⟩ :: pk (t ++ [a, b]) = ⟨x.w + y.w, x.s ++ y.s⟩ :: pk t ++ _
    rw [ih]
    rfl
theorem pk_rest : ∀ (j : Nat) (l : List It), l.length ≤ 2 * j + 1 → pk (l.take (2 * j)) = pk l
  | 0, [], _ => rfl
  | 0, [_], _ => rfl
  | 0, _ :: _ :: _, h => by simp at h
  | j + 1, [], _ => rfl
  | j + 1, [_], _ => rfl
  | j + 1, a :: b :: t, h => by
    have ih := pk_rest j t (by simp only [List.length_cons] at h; omega)
    rw [show 2 * (j + 1) = 2 * j + 1 + 1 by omega, List.take_succ_cons, List.take_succ_cons]
    unfold pk
    rw [ih]
theorem rd_syms {w : World} {B : Nat} {A : Option Addr} {s : List Nat} (h : RdI w B A (ints s)) : Rd w B 1 A s.length (intsV (ints s)) := by
  unfold RdI at h
  rw [intsV_eq] at h
  simpa [ints] using h
theorem one_cells (l : List Int) : ∀ u ∈ intsV l, u.oneCell' = true := by
  intro u hu
  obtain ⟨x, _, rfl⟩ := List.mem_map.1 hu
  rfl
theorem pk_two (X : List IR) {j : Nat} (h : 2 * j + 1 < X.length) : pk ((X.map (·.it)).take (2 * (j + 1))) = pk ((X.map (·.it)).take (2 * j)) ++ [⟨X[2 * j].it.w + X[2 * j + 1].it.w, X[2 * j].it.s ++ X[2 * j + 1].it.s⟩] := by
  have e1 : (X.map (·.it)).take (2 * (j + 1)) = (X.map (·.it)).take (2 * j) ++ [X[2 * j].it, X[2 * j + 1].it] := by
    rw [show 2 * (j + 1) = 2 * j + 1 + 1 by omega, List.take_succ_eq_append_getElem (by simp; omega), List.take_succ_eq_append_getElem (by simp; omega)]
    simp
  rw [e1, pk_app2 _ _ _ (by simp; omega)]
set_option maxRecDepth 100000 in
set_option maxHeartbeats 4000000 in
theorem packages_any (A : Option Addr) (c : Nat) (X : List IR) (W : World) (hX : Rd W W.heap.size 2 A X.length (fl X)) (hs : ∀ x ∈ X, RdI W W.heap.size x.A (ints x.it.s)) (hm : X.length ≤ 100000) (hl : ∀ x ∈ X, x.it.s.length ≤ 100000) (hw : ∀ x ∈ X, 0 ≤ x.it.w ∧ x.it.w ≤ 1000000000000000000) :
    Calls Tryz.prog 174 #[.slice A X.length c] W (PkEnd X W) := by
  obtain ⟨i0, hi0, hz0, hz1, hz2⟩ := info_parts mit_info
  have Hi0 := hid hi0
  have Hz0 := hid hz0
  have Hz1 := hid hz1
  have Hz2 := hid hz2
  have HX := hid hX
  have Hs := hid hs
  have Hl := hid hl
  have Hw := hid hw
  clear hX hs hi0 hz0 hz1 hz2 hl hw
  go_enter Tryz.func174, Tryz.ntmps174
  go_upto_region 3 with (fail)
  go_loopw [3, 4] (fun o iv wr => ∃ (i j : Nat) (A' : Option Addr) (c' : Nat) (Z : List IR), iv = .int .i64 i ∧ i = 2 * j ∧ i ≤ X.length + 1 ∧ o = .slice A' Z.length c' ∧ Z.map (·.it) = pk ((X.map (·.it)).take (2 * j)) ∧ IOwn wr W A' c' Z) (fun _ i _ => X.length + 2 - (intOf i).toNat)
  case atStart => exact ⟨0, 0, none, 0, [], rfl, rfl, by omega, rfl, rfl, ⟨⟨rfl, .inl ⟨rfl, rfl⟩⟩, fun _ h => (by cases h), Below.refl _ _⟩⟩
  case round =>
    obtain ⟨i, j, A', c', Z, rfl, hi, hib, rfl, hZ, hO⟩ := hrel
    have HZ := hid hZ
    have O := hid hO
    have hZl : Z.length ≤ 100000 := by
      have h1 := congrArg List.length hZ
      rw [List.length_map, pk_len, List.length_take, List.length_map] at h1
      omega
    have Hi := hid hi
    obtain ⟨i1, hi1⟩ : ∃ i1, i1 = i + 1 := ⟨_, rfl⟩
    have t1 : IntKind.i64.wrap ((i : Int) + 1) = (i1 : Int) := (IntWalk.i64_in _ (by omega)).trans (by omega)
    have Hi1 := hid hi1
    clear hZ hO
    by_cases hlt : i1 < X.length
    · have d1 : decide (i1 < X.length) = true := decide_eq_true hlt
      have hlt0 : i < X.length := by omega
      have hst := pk_two X (j := j) (by omega)
      simp only [← hi, ← hi1] at hst
      have S1 := hid (Hs.out X[i] (List.getElem_mem _))
      have S2 := hid (Hs.out X[i1] (List.getElem_mem _))
      have L1 := Hl.out X[i] (List.getElem_mem _)
      have L2 := Hl.out X[i1] (List.getElem_mem _)
      have W1 := Hw.out X[i] (List.getElem_mem _)
      have W2 := Hw.out X[i1] (List.getElem_mem _)
      obtain ⟨b, off, rfl, hb, hc⟩ := HX.out.at_ (k := i) hlt0 (by omega)
      have hc2 : ∀ w', Below W.heap.size W w' → w'.cell? ⟨b, off + i * 2, none⟩ = some (.int .i64 X[i].it.w) ∧ w'.cell? ⟨b, off + i * 2 + 1, none⟩ = some (.slice X[i].A X[i].it.s.length X[i].c) ∧ w'.cell? ⟨b, off + i1 * 2, none⟩ = some (.int .i64 X[i1].it.w) ∧ w'.cell? ⟨b, off + i1 * 2 + 1, none⟩ = some (.slice X[i1].A X[i1].it.s.length X[i1].c) := by
        intro w' hbw
        have g := fun (k o : Nat) (hk : k < X.length) (ho : o < 2) (u : Value) (hu : (encR X[k])[o]? = some u) => show w'.cell? ⟨b, off + (k * 2 + o), none⟩ = some u from (hbw.cell (p := ⟨b, off + (k * 2 + o), none⟩) hb).trans (hc (k * 2 + o) u ((flat_at encR 2 X (fun _ _ => rfl) k o X[k] (List.getElem?_eq_getElem hk) ho).trans hu))
        exact ⟨g i 0 hlt0 (by omega) _ rfl, g i 1 hlt0 (by omega) _ rfl, g i1 0 hlt (by omega) _ rfl, g i1 1 hlt (by omega) _ rfl⟩
      generalize X[i] = x at *
      generalize X[i1] = y at *
      have Hst := hid hst
      have Hc := hid hc2
      have Hlt := hid hlt
      have t2 : IntKind.i64.wrap (x.it.w + y.it.w) = x.it.w + y.it.w := IntWalk.i64_in _ (by omega)
      have t3 : IntKind.i64.wrap ((i : Int) + 2) = ((i + 2 : Nat) : Int) := (IntWalk.i64_in _ (by omega)).trans (by omega)
      obtain ⟨x0, x1, y0, y1⟩ := hc2 wr O.out.old
      have hbs : b < wr.heap.size := by have := O.out.old.size; omega
      have HP := hid (show PartsCI ((wr.alloc (.cells #[.slice x.A x.it.s.length x.c, .slice y.A y.it.s.length y.c] 65)).drew) ((wr.alloc (.cells #[.slice x.A x.it.s.length x.c, .slice y.A y.it.s.length y.c] 65)).drew).heap.size wr.heap.size [(x.A, x.it.s.length, x.c), (y.A, y.it.s.length, y.c)] [intsV (ints x.it.s), intsV (ints y.it.s)] from
        ⟨(Blk.new wr 65 #[.slice x.A x.it.s.length x.c, .slice y.A y.it.s.length y.c]).drew, rfl, fun k s l h1 h2 => by
          have hb0 := O.out.old.size
          have r1 := rd_syms ((S1.out.below O.out.old (Nat.le_refl _)).more (B' := wr.heap.size) hb0)
          have r2 := rd_syms ((S2.out.below O.out.old (Nat.le_refl _)).more (B' := wr.heap.size) hb0)
          have q1 := Rd.more (Rd.alloc r1 (Nat.le_refl _) (.cells #[.slice x.A x.it.s.length x.c, .slice y.A y.it.s.length y.c] 65)) (B' := ((wr.alloc (.cells #[.slice x.A x.it.s.length x.c, .slice y.A y.it.s.length y.c] 65)).drew).heap.size) (by show _ ≤ (wr.alloc _).heap.size; rw [World.size_alloc]; omega)
          have q2 := Rd.more (Rd.alloc r2 (Nat.le_refl _) (.cells #[.slice x.A x.it.s.length x.c, .slice y.A y.it.s.length y.c] 65)) (B' := ((wr.alloc (.cells #[.slice x.A x.it.s.length x.c, .slice y.A y.it.s.length y.c] 65)).drew).heap.size) (by show _ ≤ (wr.alloc _).heap.size; rw [World.size_alloc]; omega)
          match k, h1, h2 with
          | 0, h1, h2 =>
            simp only [List.getElem?_cons_zero, Option.some.injEq] at h1 h2
            subst h1 h2
            exact ⟨q1, one_cells _⟩
          | 1, h1, h2 =>
            simp only [List.getElem?_cons_zero, List.getElem?_cons_succ, Option.some.injEq] at h1 h2
            subst h1 h2
            exact ⟨q2, one_cells _⟩
          | k + 2, h1, h2 => simp at h1⟩)
      obtain ⟨zn, hzn⟩ : ∃ zn, zn = (x.it.s ++ y.it.s).length := ⟨_, rfl⟩
      have HF := hid (show [intsV (ints x.it.s), intsV (ints y.it.s)].flatten.length = zn * 1 by rw [hzn]; simp [ints, intsV])
      have HM := hid (show zn * 8 ≤ 70368744177664 by rw [hzn, List.length_append]; omega)
      have Hzn := hid hzn
      clear hzn
      have hzm : Z.length + 1 ≤ maxLen := by simp only [maxLen]; omega
      have ti : (i : Int) < (X.length : Int) := by omega
      have ti1 : (i1 : Int) < (X.length : Int) := by omega
      clear hi hi1 hc hc2 hst W1 W2 hlt hlt0
      go_upto_region 5 with (fail)
      go_region_held3 (fun w' => w'.cell? ⟨b, off + i * 2, none⟩ = some (.int .i64 x.it.w) ∧ w'.cell? ⟨b, off + i * 2 + 1, none⟩ = some (.slice x.A x.it.s.length x.c) ∧ w'.cell? ⟨b, off + i1 * 2, none⟩ = some (.int .i64 y.it.w) ∧ w'.cell? ⟨b, off + i1 * 2 + 1, none⟩ = some (.slice y.A y.it.s.length y.c)) (first | go_keep | exact ⟨x0, x1, y0, y1⟩ | exact K4.out) (first
        | (go_at_call 122; refine (concatI_any wr.heap.size 2 zn [(x.A, x.it.s.length, x.c), (y.A, y.it.s.length, y.c)] [intsV (ints x.it.s), intsV (ints y.it.s)] _ HP.out (by show 2 ≤ 1000000; omega) HF.out HM.out).mono ?_; rintro e2 w4 ⟨A5, c5, rfl, ho5, hb5⟩; have O4 := hid ((O.out.alloc (.cells #[.slice x.A x.it.s.length x.c, .slice y.A y.it.s.length y.c] 65)).drew.below hb5); have K4 := hid (Hc.out w4 O4.out.old); have P4 := hid ho5; have hb4 := O4.out.old.size; have hbs4 : b < w4.heap.size := (by omega); clear ho5 hb5)
        | (refine step_app _ (by rfl) (.tmp 12) (.tmp 39) _ (by rfl) W.heap.size 238 i0 (.agg #[.int .i64 0, .slice none 0 0]) 2 32 Tryz.underlying218 Hi0.out Hz0.out Hz1.out Hz2.out rfl (by omega) A' Z.length c' _ (by rfl) (O4.out.alloc _).row _ _ 1 1 [.int .i64 (x.it.w + y.it.w), .slice A5 zn c5] (by rfl) (rd_one _ _ _ _ (Blk.new _ _ _)) (by simp) (by simp [Value.oneCell']) hzm (by omega) (O4.out.alloc _).old.size ?_; intro A3 c3 w3 ha3; have Ha3 := hid ha3; have K4 := hid (Hc.out w3 ((O4.out.alloc _).old.trans ha3.2.2.1)); clear ha3))
      all_goals
        go_wp2
        go_roundw
        case rel =>
          refine ⟨i + 2, j + 1, A3, c3, Z ++ [⟨⟨x.it.w + y.it.w, x.it.s ++ y.it.s⟩, A5, c5⟩], by go_num, by have := Hi.out; omega, by have := Hlt.out; have := Hi1.out; omega, by rw [List.length_append, List.length_singleton], by rw [List.map_append, HZ.out, Hst.out, Hi.out]; first | done | rfl, ?_⟩
          have z1 : SOwn w4 W.heap.size ⟨⟨x.it.w + y.it.w, x.it.s ++ y.it.s⟩, A5, c5⟩ := by
            have h := own_base P4.out (b := W.heap.size) (by have := O.out.old.size; show _ ≤ (wr.alloc _).heap.size; rw [World.size_alloc]; omega)
            rw [Hzn.out] at h
            unfold SOwn
            simpa [intsV, ints] using h
          have h3 := Ha3.out
          rw [Hzn.out] at h3
          exact (O4.out.alloc _).app (z1.below ((Below.refl _ _).alloc (Nat.le_refl _) _) (Nat.le_refl _)) h3
        case measure => have := Hlt.out; have := Hi1.out; simp [intOf]; omega
    · have d1 : decide (i1 < X.length) = false := decide_eq_false hlt
      have R := hid (show PkEnd X W (.returned (.slice A' Z.length c')) wr from ⟨A', c', Z, rfl, by rw [HZ.out, pk_rest j _ (by rw [List.length_map]; omega)], O.out⟩)
      clear hi hi1 hlt
      go_wp2
      go_ret
      exact R.out
end Go.Proofs.YtoppjcmkhhkbmaaGreat

namespace Go.Proofs.YtoppjcmkhhkbmaaGreat.Mg

theorem sy_pk_le : ∀ r : List It, (sy (pk r)).length ≤ (sy r).length
  | [] => Nat.le_refl _
  | [a] => by simp [pk, sy]
  | a :: b :: t => by
    have ih := sy_pk_le t
    unfold pk
    unfold sy at *
    simp only [List.flatMap_cons, List.length_append] at *
    omega
theorem ws_pk_le : ∀ r : List It, (∀ x ∈ r, 0 ≤ x.w) → ws (pk r) ≤ ws r ∧ ∀ x ∈ pk r, 0 ≤ x.w
  | [], _ => ⟨Int.le_refl _, fun _ h => (by cases h)⟩
  | [a], h => by
    have := h a (by simp)
    refine ⟨?_, fun _ h => (by cases h)⟩
    simp [pk, ws]
    exact this
  | a :: b :: t, h => by
    have h1 := h a (by simp)
    have h2 := h b (by simp)
    obtain ⟨ih, ih2⟩ := ws_pk_le t (fun x hx => h x (by simp [hx]))
    unfold pk
    rw [ws_cons, ws_cons, ws_cons]
    refine ⟨by show a.w + b.w + _ ≤ _; omega, fun x hx => ?_⟩
    rcases List.mem_cons.1 hx with rfl | hx
    · show 0 ≤ a.w + b.w
      omega
    · exact ih2 x hx
structure RowB (l r : List It) (k : Nat) : Prop where
  len : r.length ≤ 2 * l.length
  syms : (sy r).length ≤ (k + 1) * (sy l).length
  sum : ws r ≤ (k + 1 : Nat) * ws l
  nonneg : ∀ x ∈ r, 0 ≤ x.w
theorem row_b {l : List It} (hl : ∀ x ∈ l, 0 ≤ x.w) : ∀ (k : Nat) (r : List It), RowOf l k r → RowB l r k
  | 0, r, h => by
    have h : r = l := h
    subst h
    exact ⟨by omega, by omega, by simp, hl⟩
  | k + 1, r, ⟨r0, h0, hs⟩ => by
    have b := row_b hl k r0 h0
    obtain ⟨p1, p2⟩ := ws_pk_le r0 b.nonneg
    have q := sy_pk_le r0
    refine ⟨?_, ?_, ?_, fun x hx => ?_⟩
    · rw [hs.perm.length_eq, List.length_append, pk_len]
      have := b.len
      omega
    · rw [(sy_perm hs.perm).length_eq, sy_app, List.length_append]
      have := b.syms
      rw [Nat.add_mul (k + 1) 1]
      omega
    · rw [ws_perm hs.perm, ws_app]
      have := b.sum
      have e : ((k + 1 + 1 : Nat) : Int) * ws l = ((k + 1 : Nat) : Int) * ws l + ws l := by
        rw [Int.natCast_add (k + 1) 1, Int.add_mul]
        simp
      omega
    · rcases List.mem_append.1 (hs.perm.mem_iff.1 hx) with h | h
      · exact hl x h
      · exact p2 x h
theorem it_le {r : List It} {x : It} (h : x ∈ r) : x.s.length ≤ (sy r).length := by
  unfold sy
  induction r with
  | nil => cases h
  | cons a t ih =>
    rw [List.flatMap_cons, List.length_append]
    rcases List.mem_cons.1 h with rfl | h
    · omega
    · have := ih h
      omega
theorem w_le {r : List It} {x : It} (h : x ∈ r) (hn : ∀ y ∈ r, 0 ≤ y.w) : x.w ≤ ws r := by
  induction r with
  | nil => cases h
  | cons a t ih =>
    have ha := hn a (by simp)
    have ht : 0 ≤ ws t := by
      clear ih h
      induction t with
      | nil => exact Int.le_refl _
      | cons b u ih2 =>
        rw [ws_cons]
        have := hn b (by simp)
        have := ih2 (fun y hy => hn y (by simp at hy ⊢; rcases hy with h | h <;> simp [h]))
        omega
    rw [ws_cons]
    rcases List.mem_cons.1 h with rfl | h
    · omega
    · have := ih h (fun y hy => hn y (by simp [hy]))
      omega
end Go.Proofs.YtoppjcmkhhkbmaaGreat.Mg

namespace Go.Proofs.YtoppjcmkhhkbmaaGreat
open Go.RowKit Mg

/-- a pointer that leads elsewhere -/
def AV (g : Nat) (A : Option Addr) (n : Nat) : Prop := 0 < n → ∀ a, A = some a → a.block ≠ g
theorem AV.of_rd {w : World} {g size n : Nat} {A : Option Addr} {xs : List Value} (h : Rd w g size A n xs) (hs : 0 < size) : AV g A n := by
  intro hn a ha
  obtain ⟨b, off, hA, hb, _⟩ := h.at_ (k := 0) hn hs
  rw [hA] at ha
  injection ha with ha
  subst ha
  exact Nat.ne_of_lt hb
theorem AV.of_own {w : World} {g base : Nat} {e : TypeId} {size n c : Nat} {A : Option Addr} {xs : List Value} (h : w.ownsRow base e size (.slice A n c) n xs) (hg : g < base) : AV g A n := by
  intro hn a ha
  obtain ⟨b, hA, hb, _⟩ := own_block h hn
  rw [hA] at ha
  injection ha with ha
  subst ha
  exact Nat.ne_of_gt (Nat.lt_of_lt_of_le hg hb)
theorem AV.keep {w w' : World} {g B size n : Nat} {A : Option Addr} {xs : List Value} (h : Rd w B size A n xs) (ha : AV g A n) (hg : w.grownBy w' (some g)) (hB : B ≤ w.heap.size) : Rd w' B size A n xs := by
  refine ⟨h.1, fun hn => ?_⟩
  obtain ⟨b, off, hA, hb, hc⟩ := h.2 hn
  refine ⟨b, off, hA, hb, fun j u hu => ?_⟩
  have hne := ha (by
    rcases Nat.eq_zero_or_pos n with h0 | h0
    · exfalso
      subst h0
      have := h.1
      omega
    · exact h0) _ hA
  have e := hg.block b (by omega) (fun e => hne (by injection e))
  rw [← hc j u hu]
  exact World.cell?_of_block (a := ⟨b, off + j, none⟩) e
/-- a row that can be read, with its symbols; not in block g -/
structure RRow (w W : World) (g : Nat) (R : Option Addr) (Y : List IR) : Prop where
  row : Rd w w.heap.size 2 R Y.length (fl Y)
  sym : ∀ y ∈ Y, RdI w w.heap.size y.A (ints y.it.s)
  old : Below W.heap.size W w
  av : AV g R Y.length
  avs : ∀ y ∈ Y, AV g y.A (ints y.it.s).length
theorem RRow.below {w w' W : World} {g : Nat} {R : Option Addr} {Y : List IR} (h : RRow w W g R Y) (hb : Below w.heap.size w w') : RRow w' W g R Y :=
  ⟨(Rd.below h.row hb (Nat.le_refl _)).more hb.size, fun y hy => ((h.sym y hy).below hb (Nat.le_refl _)).more hb.size, h.old.trans (hb.mono h.old.size), h.av, h.avs⟩
theorem own_syms {w : World} {base : Nat} {x : IR} (h : SOwn w base x) : RdI w w.heap.size x.A (ints x.it.s) := by
  have e : (ints x.it.s).length = x.it.s.length := by simp [ints]
  apply own_rdi (base := base) (c := x.c)
  rw [e]
  exact h
theorem own_ri {w W : World} {A : Option Addr} {c : Nat} {X : List IR} (h : IOwn w W A c X) : Rd w w.heap.size 2 A X.length (fl X) := own_rd h.row
theorem own_av {w : World} {g base : Nat} {x : IR} (h : SOwn w base x) (hg : g < base) : AV g x.A (ints x.it.s).length := by
  have e : (ints x.it.s).length = x.it.s.length := by simp [ints]
  rw [e]
  exact AV.of_own h hg
/-- the two rows that are joined -/
theorem parts_two {w : World} {g : Nat} {A B : Option Addr} {c d : Nat} {X Y : List IR} (hg : Blk w g 218 #[.slice A X.length c, .slice B Y.length d]) (hx : Rd w w.heap.size 2 A X.length (fl X)) (hy : Rd w w.heap.size 2 B Y.length (fl Y)) : PartsCM w w.heap.size g [(A, X.length, c), (B, Y.length, d)] [fl X, fl Y] := by
  have one : ∀ Z : List IR, ∀ u ∈ fl Z, u.oneCell' = true := by
    intro Z u hu
    obtain ⟨z, _, hz⟩ := List.mem_flatMap.1 hu
    rcases List.mem_cons.1 hz with rfl | hz
    · rfl
    · rw [List.mem_singleton.1 hz]; rfl
  refine ⟨hg, rfl, fun k s l h1 h2 => ?_⟩
  match k, h1, h2 with
  | 0, h1, h2 =>
    simp only [List.getElem?_cons_zero, Option.some.injEq] at h1 h2
    subst h1 h2
    exact ⟨hx, one _⟩
  | 1, h1, h2 =>
    simp only [List.getElem?_cons_zero, List.getElem?_cons_succ, Option.some.injEq] at h1 h2
    subst h1 h2
    exact ⟨hy, one _⟩
  | k + 2, h1, h2 => simp at h1
/-- a joined row, sorted -/
theorem RRow.sorted {w3 w4 W : World} {A3 : Option Addr} {c3 base g : Nat} {V V' : List IR} (hs : ∀ y ∈ V, RdI w3 base y.A (ints y.it.s)) (hv : ∀ y ∈ V, AV g y.A (ints y.it.s).length) (h1 : Bub V V') (h3 : IRow w4 base A3 c3 V') (h4 : w3.grownBy w4 (Value.slice A3 V.length c3).ownBlock) (hI : IRow w3 base A3 c3 V) (hb : base ≤ w3.heap.size) (hW : W.heap.size ≤ base) (hg : g < base) (ho : Below W.heap.size W w3) : RRow w4 W g A3 V' := by
  refine ⟨own_rd h3, fun y hy => ?_, ?_, AV.of_own h3 hg, fun y hy => hv y (h1.perm.mem_iff.1 hy)⟩
  · have hy := h1.perm.mem_iff.1 hy
    refine RdI.more (Rd.grown (hs y hy) h4 hb (fun k hk => ?_)) (Nat.le_trans hb h4.size)
    rcases hI.2 with ⟨hv, _⟩ | ⟨k', cap, cur, hv, hkb, _⟩
    · rw [hv] at hk; simp [Value.ownBlock] at hk
    · rw [hv] at hk
      have : k' = k := by simpa [Value.ownBlock] using hk
      omega
  · exact ho.trans (grown_below h4 (own_base hI hW) ho.size)
/-- a row's symbols are the list's -/
theorem row_sy {l : List It} : ∀ (k : Nat) (r : List It), RowOf l k r → ∀ s, s ∈ sy r → s ∈ sy l
  | 0, r, h, s, hs => by
    have h : r = l := h
    rwa [h] at hs
  | k + 1, r, ⟨r0, h0, hst⟩, s, hs => by
    have hs := (sy_perm hst.perm).mem_iff.1 hs
    rw [sy_app] at hs
    rcases List.mem_append.1 hs with hs | hs
    · exact hs
    · refine row_sy k r0 h0 s ?_
      unfold sy at hs ⊢
      rw [List.mem_flatMap] at hs ⊢
      obtain ⟨P, hP, hs⟩ := hs
      obtain ⟨c, d, hc, hd, rfl⟩ := pk_from r0 P hP
      rcases List.mem_append.1 hs with hs | hs
      · exact ⟨c, hc, hs⟩
      · exact ⟨d, hd, hs⟩
/-- counts in block g -/
def CW (w w0 : World) (g n : Nat) (L : List Nat) : Prop := Blk w g 3 (intRow n (fun k => (L.count k : Int))) ∧ w0.grownBy w (some g)
theorem grown_set1 {w w0 : World} {g : Nat} (h : w0.grownBy w (some g)) (i : Nat) (u : Value) : w0.grownBy (w.setCell ⟨g, i, none⟩ u) (some g) :=
  ⟨h.os, h.tape, h.output, by simpa using h.size, fun k hk hr => (Below.heap_setCell w ⟨g, i, none⟩ u k (fun e => hr (by rw [e]))).trans (h.block k hk hr)⟩
theorem grown_below1 {w w' w0 : World} {g : Nat} (h : w0.grownBy w (some g)) (hb : Below w.heap.size w w') : w0.grownBy w' (some g) :=
  ⟨hb.os.trans h.os, hb.tape.trans h.tape, hb.output.trans h.output, Nat.le_trans h.size hb.size, fun k hk hr => (hb.block k (by have := h.size; omega)).trans (h.block k hk hr)⟩
theorem CW.below {w w' w0 : World} {g n : Nat} {L : List Nat} (h : CW w w0 g n L) (hb : Below w.heap.size w w') : CW w' w0 g n L := ⟨h.1.below hb h.1.lt, grown_below1 h.2 hb⟩
theorem intRow_set (n : Nat) (f f' : Nat → Int) (s : Nat) (v : Int) (hs : f' s = v) (h : ∀ k, k ≠ s → f' k = f k) : (intRow n f).setIfInBounds s (.int .i64 v) = intRow n f' := by
  unfold intRow
  rw [List.setIfInBounds_toArray]
  congr 1
  apply List.ext_getElem?
  intro k
  rw [List.getElem?_set]
  by_cases e : s = k
  · subst e
    rw [if_pos rfl]
    by_cases hk : s < n
    · simp [hk, hs]
    · simp [hk]
  · rw [if_neg e]
    by_cases hk : k < n
    · simp [hk, h k (fun h => e h.symm)]
    · simp [hk]
theorem CW.put {w w0 : World} {g n : Nat} {L : List Nat} (h : CW w w0 g n L) (s : Nat) : CW (w.setCell ⟨g, s, none⟩ (.int .i64 ((L.count s : Int) + 1))) w0 g n (L ++ [s]) := by
  refine ⟨?_, grown_set1 h.2 _ _⟩
  have h1 := h.1.set_ s (.int .i64 ((L.count s : Int) + 1))
  rw [intRow_set n _ (fun k => ((L ++ [s]).count k : Int)) s _ (by rw [List.count_append]; simp) (fun k hk => by rw [List.count_append, List.count_singleton, if_neg (by simpa using fun e => hk e.symm)]; rfl)] at h1
  exact h1
def BestEnd (L : List Int) (W : World) (e : Ending) (w' : World) : Prop := ∃ A' c', e = .returned (.slice A' L.length c') ∧ w'.ownsRow W.heap.size 3 1 (.slice A' L.length c') L.length (intsV L) ∧ Below W.heap.size W w'
theorem replicate_row (n : Nat) : Array.replicate n (Value.int .i64 0) = intRow n (fun k => (([] : List Nat).count k : Int)) := by
  unfold intRow
  apply Array.ext'
  simp [List.map_const']
theorem own_counts {w w0 W : World} {n : Nat} {L : List Nat} (h : CW w w0 W.heap.size n L) (hn : n ≤ 1000000) {M : List Int} (hM : M = (List.range n).map fun s => (L.count s : Int)) : w.ownsRow W.heap.size 3 1 (.slice (some ⟨W.heap.size, 0, none⟩) n n) M.length (intsV M) := by
  have hl : M.length = n := by rw [hM]; simp
  refine ⟨by simp [intsV], .inr ⟨W.heap.size, n, _, by rw [hl], Nat.le_refl _, h.1, by omega, by simp only [maxLen]; omega, ?_, ?_⟩⟩
  · simp [intRow]
  · rw [hM]
    simp [intRow, intsV, List.take_of_length_le]
structure BestIn (l : List It) (n K : Nat) : Prop where
  gl : GL l
  long : l.length ≤ 300
  wide : l.length ≤ 2 ^ (K + 1)
  high : K ≤ 15
  size : n ≤ 1000000
  sum : ws l ≤ 1000000000000000
  sym : ∀ s ∈ sy l, s < n
set_option maxRecDepth 100000 in
set_option maxHeartbeats 4000000 in
theorem best_many (A : Option Addr) (c n K : Nat) (X : List IR) (W : World) (h : RRow W W W.heap.size A X) (hc : X.length ≤ c) (hn1 : X.length ≠ 1) (hB : BestIn (X.map (·.it)) n K) :
    Calls Tryz.prog 152 #[.slice A X.length c, .int .i64 (n : Nat), .int .i64 ((K + 1 : Nat) : Int)] W (BestEnd (bestLs (X.map (·.it)) K n) W) := by
  obtain ⟨i0, hi0, hz0, hz1, hz2⟩ := info_parts int_info
  have hn := hB.size
  have hx : X.length ≤ 300 := by have := hB.long; rwa [List.length_map] at this
  have hK := hB.high
  have Hmk := hid (show ∀ w : World, (Instr.makeSlice 65 (.int .i64 (n : Int)) (.int .i64 (n : Int))).run Tryz.prog w = .ok (.slice (some ⟨w.heap.size, 0, none⟩) n n) (w.alloc (.cells (List.replicate n (Value.int .i64 0)).toArray 3)) from by
    intro w
    have h := run_make (P := Tryz.prog) w 65 3 i0 (.int .i64 0) Tryz.underlying65 hi0 hz0 .i64 .i64 (n : Int) (n : Int) (by omega) (by omega) (by rw [hz2]; omega) (by omega)
    rw [hz1, made_list _ _ rfl] at h
    exact h)
  clear hi0 hz0 hz1 hz2
  have H := hid h
  have Hc := hid hc
  have HB := hid hB
  clear h hc hB
  have d0 : ((X.length : Int) == 1) = false := by rw [beq_eq_false_iff_ne]; omega
  have t0 : IntKind.i64.wrap (((K + 1 : Nat) : Int) - 1) = (K : Int) := (IntWalk.i64_in _ (by omega)).trans (by omega)
  generalize hk1 : K + 1 = K1 at *
  have Hk1 := hid hk1
  clear hk1
  go_enter Tryz.func152, Tryz.ntmps152
  have hmk := Hmk.out
  go_upto_region 7 with (fail)
  have H1 := hid (H.out.below ((Below.refl _ _).alloc (Nat.le_refl _) (.cells (List.replicate n (Value.int .i64 0)).toArray 3)))
  have G1 := hid (show Blk (W.alloc (.cells (Array.replicate n (Value.int .i64 0)) 3)) W.heap.size 3 (intRow n (fun k => (([] : List Nat).count k : Int))) from by rw [← replicate_row]; exact Blk.new _ _ _)
  rw [show (List.replicate n (Value.int .i64 0)).toArray = Array.replicate n (Value.int .i64 0) by simp] at H1
  obtain ⟨g, hg⟩ : ∃ g, g = W.heap.size := ⟨_, rfl⟩
  have hg1 : g < (W.alloc (.cells (Array.replicate n (Value.int .i64 0)) 3)).heap.size := by rw [World.size_alloc]; omega
  have BW := hid (show Below g W (W.alloc (.cells (Array.replicate n (Value.int .i64 0)) 3)) from (Below.refl _ _).alloc (by omega) _)
  rw [← hg] at H1 G1
  generalize W.alloc (.cells (Array.replicate n (Value.int .i64 0)) 3) = w1 at *
  rw [← hg]
  have Hg := hid hg
  clear hg
  go_loopw [8, 30] (fun r k wr => ∃ (j : Nat) (R : Option Addr) (rc : Nat) (Y : List IR), j ≤ K ∧ k = .int .i64 j ∧ r = .slice R Y.length rc ∧ Y.length ≤ rc ∧ RowOf (X.map (·.it)) j (Y.map (·.it)) ∧ RRow wr w1 g R Y) (fun _ k _ => K - (intOf k).toNat)
  case atStart => exact ⟨0, A, c, X, by omega, rfl, rfl, Hc.out, rfl, ⟨H1.out.row, H1.out.sym, Below.refl _ _, H1.out.av, H1.out.avs⟩⟩
  case round =>
    obtain ⟨j, R, rc, Y, hj, rfl, rfl, hrc, hR, hO⟩ := hrel
    have hRB := row_b HB.out.gl.nonneg j _ hR
    have B1 : Y.length ≤ 600 := by
      have := hRB.len
      rw [List.length_map, List.length_map] at this
      omega
    have B4 : (sy (Y.map (·.it))).length ≤ 4800 := by
      have h1 := hRB.syms
      have h2 : (sy (X.map (·.it))).length ≤ 300 := by
        have e : (sy (X.map (·.it))).length = (X.map (·.it)).length := by
          have := sy_single HB.out.gl.single (fun _ => 1)
          have one : ∀ m, SN m (fun _ => 1) = m := fun m => by induction m with | zero => rfl | succ m ih => simp only [SN]; rw [ih]
          rw [one] at this
          rw [← this, List.map_const', List.sum_replicate_nat, Nat.mul_one]
        rw [e, List.length_map]; omega
      have : (j + 1) * (sy (X.map (·.it))).length ≤ 16 * 300 := Nat.mul_le_mul (by omega) h2
      omega
    have HR := hid hR
    have O := hid hO
    have Hrc := hid hrc
    have H4 := hid B4
    clear hR hO hrc
    by_cases hlt : j < K
    · have d1 : decide (j < K) = true := decide_eq_true hlt
      have B2 : ∀ y ∈ Y, y.it.s.length ≤ 100000 := fun y hy => by
        have := it_le (List.mem_map_of_mem (f := (·.it)) hy)
        omega
      have B3 : ∀ y ∈ Y, 0 ≤ y.it.w ∧ y.it.w ≤ 1000000000000000000 := fun y hy => by
        have hm := List.mem_map_of_mem (f := (·.it)) hy
        have h1 := w_le hm hRB.nonneg
        have h2 := hRB.sum
        have h3 := hRB.nonneg _ hm
        have h4 := HB.out.sum
        have h5 : 0 ≤ ws (X.map (·.it)) := ws_nn HB.out.gl.nonneg
        have h6 : ((j + 1 : Nat) : Int) * ws (X.map (·.it)) ≤ 16 * 1000000000000000 := Int.mul_le_mul (by omega) h4 h5 (by omega)
        omega
      have B2 := hid B2
      have B3 := hid B3
      clear hRB
      go_wp2_with fail
      refine (packages_any R rc Y wr O.out.row O.out.sym (by omega) B2.out B3.out).mono ?_
      rintro e w2 ⟨A2, c2, Z, rfl, hZ, hI⟩
      have HZ := hid hZ
      have I2 := hid hI
      clear hZ hI
      have hs1 := O.out.old.size
      have hs2 : wr.heap.size ≤ w2.heap.size := I2.out.old.size
      have HX2 := hid (H1.out.below (O.out.old.trans (I2.out.old.mono O.out.old.size)))
      obtain ⟨V, hV⟩ : ∃ V, V = X ++ Z := ⟨_, rfl⟩
      obtain ⟨base, hbase⟩ : ∃ base, base = (w2.alloc (.cells #[.slice A X.length c, .slice A2 Z.length c2] 218)).heap.size := ⟨_, rfl⟩
      have hbs : base = w2.heap.size + 1 := by rw [hbase, World.size_alloc]
      have BA := hid (show Below w2.heap.size w2 (w2.alloc (.cells #[.slice A X.length c, .slice A2 Z.length c2] 218)) from (Below.refl _ _).alloc (Nat.le_refl _) _)
      have HP := hid (parts_two (Blk.new w2 218 #[.slice A X.length c, .slice A2 Z.length c2]) (HX2.out.below BA.out).row ((Rd.below (own_ri I2.out) BA.out (Nat.le_refl _)).more BA.out.size))
      have hVl : V.length ≤ 600 := by
        have h1 := congrArg List.length HZ.out
        rw [List.length_map, pk_len, List.length_map] at h1
        rw [hV, List.length_append]
        omega
      have HF := hid (show [fl X, fl Z].flatten.length = V.length * 2 by rw [hV, ← fl_len, fl_app]; simp)
      have HV := hid hV
      have Hbs := hid hbs
      have Hbase := hid hbase
      clear hV hbs hbase
      go_wp2_with fail
      refine (concatM_any w2.heap.size 2 V.length [(A, X.length, c), (A2, Z.length, c2)] [fl X, fl Z] _ HP.out (by show 2 ≤ 1000000; omega) HF.out (by omega)).mono ?_
      rintro e w3 ⟨A3, c3, rfl, ho3, hb3⟩
      rw [← Hbase.out] at ho3 hb3
      have I3 := hid (show IRow w3 base A3 c3 V from by
        have e : [fl X, fl Z].flatten = fl V := by rw [HV.out, fl_app]; simp
        rw [e] at ho3
        exact ho3)
      have B3' := hid hb3
      clear ho3 hb3
      go_wp2_with fail
      refine (sort_any base A3 c3 V _ I3.out (by omega)).mono ?_
      rintro e w4 ⟨rfl, V', h1, h2, h3, h4⟩
      have R := hid (show RowOf (X.map (·.it)) (j + 1) (V'.map (·.it)) ∧ RRow w4 w1 g A3 V' ∧ V.length = V'.length ∧ V'.length ≤ c3 from by
        have hb2 := Hbs.out
        have hb3 := B3'.out
        have hsz := hb3.size
        refine ⟨⟨_, HR.out, ?_⟩, RRow.sorted (base := base) (V := V) ?_ ?_ h1 h3 h4 I3.out ?_ ?_ ?_ ?_, h1.len.symm, ?_⟩
        · have e : X.map (·.it) ++ pk (Y.map (·.it)) = V.map (·.it) := by rw [HV.out, List.map_append, HZ.out]
          rw [e]
          exact h1.st h2
        · intro y hy
          rw [HV.out] at hy
          have q : RdI w2 w2.heap.size y.A (ints y.it.s) := by
            rcases List.mem_append.1 hy with hy | hy
            · exact HX2.out.sym y hy
            · exact own_syms (I2.out.sym y hy)
          have q2 := (q.below BA.out (Nat.le_refl _)).more (B' := base) (by rw [Hbs.out]; omega)
          exact q2.below hb3 (Nat.le_refl _)
        · intro y hy
          rw [HV.out] at hy
          rcases List.mem_append.1 hy with hy | hy
          · exact HX2.out.avs y hy
          · exact own_av (I2.out.sym y hy) (by omega)
        · rw [Hbase.out]; exact hsz
        · rw [Hbs.out]; omega
        · rw [Hbs.out]; omega
        · have q := (O.out.old.trans (I2.out.old.mono O.out.old.size)).trans (BA.out.mono (by omega))
          exact q.trans (hb3.mono (by rw [Hbs.out]; omega))
        · have := (own_form h3)
          obtain ⟨_, _, hv, hn⟩ := this
          injection hv with _ _ hv
          rw [hv]; exact hn)
      clear h1 h2 h3 h4
      go_wp2
      go_roundw
      case rel => exact ⟨j + 1, A3, c3, V', by omega, by go_num, by rw [R.out.2.2.1], R.out.2.2.2, R.out.1, R.out.2.1⟩
      case measure => simp [intOf]; omega
    · obtain rfl : j = K := by omega
      obtain ⟨q, hq⟩ : ∃ q, q = 2 * X.length - 2 := ⟨_, rfl⟩
      have hqY : q ≤ Y.length := by
        by_cases h0 : X.length = 0
        · omega
        · have h1 := (whole HB.out.gl j _ HR.out (by rw [List.length_map]; omega) HB.out.wide).1
          rw [List.length_map, List.length_map] at h1
          omega
      obtain ⟨z, hz⟩ : ∃ z : Int, z = 2 * (X.length : Int) - 2 := ⟨_, rfl⟩
      have a1 : IntKind.i64.wrap (2 * (X.length : Int)) = ((2 * X.length : Nat) : Int) := (IntWalk.i64_in _ (by omega)).trans (by omega)
      have a2 : IntKind.i64.wrap (((2 * X.length : Nat) : Int) - 2) = z := (IntWalk.i64_in _ (by omega)).trans (by omega)
      have a3 : (if z < 0 then (0 : Int) else z) = (q : Int) := by split <;> omega
      have Hq := hid hq
      have Hz := hid hz
      clear hq hz hRB
      go_upto_region 11 with (fail)
      go_cut [46, 47, 48] from 40 to 48 (fun s l k wq => s = .slice R q rc ∧ l = .int .i64 q ∧ k = .int .i64 0 ∧ wr = wq)
      case first =>
        have hq0 := Hq.out
        have hrc := Hrc.out
        by_cases h0 : X.length = 0
        · have hp2 : 2 * (X.length : Int) - 2 < 0 := by omega
          have H0 := hid h0
          clear hq0 hrc h0
          go_wp2
          go_meet
          have e0 : q = 0 := by have := Hq.out; have := H0.out; omega
          subst e0
          exact ⟨rfl, rfl, rfl, rfl⟩
        · have hp : 2 ≤ 2 * (X.length : Int) ∧ 2 * (X.length : Int) - 2 ≤ rc := by omega
          have hp2 : ¬ 2 * (X.length : Int) - 2 < 0 := by omega
          clear hq0 hrc
          go_wp2
          go_meet
          rw [Hq.out]
          exact ⟨rfl, rfl, rfl, rfl⟩
      case rest =>
        obtain ⟨rfl, rfl, rfl, rfl⟩ := hcut
        clear a1 a2 a3
        generalize wr = wk at *
        have HqY := hid hqY
        have hgk : g < wk.heap.size := by have := O.out.old.size; omega
        go_upto_region 12 with (fail)
        go_loopw [48] (fun k wq => ∃ i : Nat, i ≤ q ∧ k = .int .i64 i ∧ CW wq wk g n (sy ((Y.map (·.it)).take i))) (fun k _ => q - (intOf k).toNat)
        case atStart => exact ⟨0, by omega, rfl, G1.out.below O.out.old hg1, World.grownBy.refl _ _⟩
        case round =>
          obtain ⟨i, hi, rfl, hC⟩ := hrel
          have C := hid hC
          clear hC
          by_cases hlt2 : i < q
          · have d2 : decide (i < q) = true := decide_eq_true hlt2
            have hiY : i < Y.length := by omega
            have hR2 := AV.keep O.out.row O.out.av C.out.2 (Nat.le_refl _)
            obtain ⟨b, off, hRe, hb, hcl⟩ := hR2.at_ (k := i) hiY (by omega)
            have c0 : wr.cell? ⟨b, off + i * 2, none⟩ = some (.int .i64 Y[i].it.w) := hcl (i * 2 + 0) _ ((flat_at encR 2 Y (fun _ _ => rfl) i 0 Y[i] (List.getElem?_eq_getElem hiY) (by omega)).trans rfl)
            have c1 : wr.cell? ⟨b, off + i * 2 + 1, none⟩ = some (.slice Y[i].A Y[i].it.s.length Y[i].c) := hcl (i * 2 + 1) _ ((flat_at encR 2 Y (fun _ _ => rfl) i 1 Y[i] (List.getElem?_eq_getElem hiY) (by omega)).trans rfl)
            have hst : sy ((Y.map (·.it)).take (i + 1)) = sy ((Y.map (·.it)).take i) ++ Y[i].it.s := by
              rw [List.take_succ_eq_append_getElem (by rw [List.length_map]; exact hiY), sy_app]
              simp [sy]
            have hlen : (sy ((Y.map (·.it)).take i) ++ Y[i].it.s).length ≤ 4800 := by
              rw [← hst]
              have e : sy (Y.map (·.it)) = sy ((Y.map (·.it)).take (i + 1)) ++ sy ((Y.map (·.it)).drop (i + 1)) := by rw [← sy_app, List.take_append_drop]
              have := H4.out
              rw [e, List.length_append] at this
              omega
            have hsn : ∀ s ∈ Y[i].it.s, s < n := by
              intro s hs
              refine HB.out.sym s (row_sy _ _ HR.out s ?_)
              unfold sy
              rw [List.mem_flatMap]
              exact ⟨_, List.mem_map_of_mem (List.getElem_mem hiY), hs⟩
            have S1 := hid (O.out.sym Y[i] (List.getElem_mem hiY))
            have S2 := hid (O.out.avs Y[i] (List.getElem_mem hiY))
            have hbs : b < wr.heap.size := by have := C.out.2.size; omega
            generalize Y[i] = y at *
            have Hst := hid hst
            have Hlen := hid hlen
            have Hsn := hid hsn
            have Hlt2 := hid hlt2
            clear hst hlen hsn hR2 hcl hlt2
            subst hRe
            go_upto_region 15 with (fail)
            have C2 := hid (C.out.below ((Below.refl _ _).alloc (Nat.le_refl _) (.cells #[.int .i64 y.it.w, .slice y.A y.it.s.length y.c] 238)))
            generalize wr.alloc (.cells #[.int .i64 y.it.w, .slice y.A y.it.s.length y.c] 238) = wv at *
            generalize wr.heap.size = bx at *
            clear c0 c1 hbs
            have hyl : y.it.s.length ≤ 4800 := by have := Hlen.out; rw [List.length_append] at this; omega
            go_loopw [55] (fun k wq => ∃ p : Nat, p ≤ y.it.s.length ∧ k = .int .i64 p ∧ CW wq wk g n (sy ((Y.map (·.it)).take i) ++ y.it.s.take p)) (fun k _ => y.it.s.length - (intOf k).toNat)
            case atStart => exact ⟨0, by omega, rfl, by simpa using C2.out⟩
            case round =>
              obtain ⟨p, hp, rfl, hC⟩ := hrel
              have C3 := hid hC
              clear hC
              by_cases hlt3 : p < y.it.s.length
              · have d3 : decide (p < y.it.s.length) = true := decide_eq_true hlt3
                have hpi : p < (ints y.it.s).length := by simpa [ints] using hlt3
                have hS : RdI wr wk.heap.size y.A (ints y.it.s) := AV.keep S1.out S2.out C3.out.2 (Nat.le_refl _)
                obtain ⟨b2, off2, hA, hb2, x0⟩ := int_at hS hpi
                have hbs2 : b2 < wr.heap.size := by have := C3.out.2.size; omega
                have hs : (ints y.it.s)[p] = ((y.it.s[p] : Nat) : Int) := by simp [ints]
                rw [hs] at x0
                have hsn := Hsn.out _ (List.getElem_mem hlt3)
                have htk : y.it.s.take (p + 1) = y.it.s.take p ++ [y.it.s[p]] := List.take_succ_eq_append_getElem hlt3
                have hcn : (sy ((Y.map (·.it)).take i) ++ y.it.s.take p).count y.it.s[p] ≤ 4800 := by
                  have h1 := List.count_le_length (l := sy ((Y.map (·.it)).take i) ++ y.it.s.take p) (a := y.it.s[p])
                  have h2 := Hlen.out
                  rw [List.length_append] at h1 h2
                  rw [List.length_take] at h1
                  omega
                generalize y.it.s[p] = s at *
                obtain ⟨v, hv⟩ : ∃ v, v = (sy ((Y.map (·.it)).take i) ++ y.it.s.take p).count s := ⟨_, rfl⟩
                rw [← hv] at hcn
                have x1 : wr.cell? ⟨g, s, none⟩ = some (.int .i64 (v : Int)) := by
                  rw [C3.out.1.cell, intRow_at _ _ _ hsn, hv]
                have fz : wr.frozen? ⟨g, s, none⟩ = false := C3.out.1.frozen s
                have hgw := C3.out.1.lt
                have t5 : IntKind.i64.wrap ((v : Int) + 1) = (v : Int) + 1 := IntWalk.i64_in _ (by omega)
                have P3 := hid (C3.out.put s)
                rw [← hv] at P3
                have Htk := hid htk
                have Hlt3 := hid hlt3
                clear hs hv hS hcn htk hlt3 hpi hb2
                rw [hA]
                go_wp2
                go_roundw
                case rel => exact ⟨p + 1, by have := Hlt3.out; omega, by go_num, by rw [Htk.out, ← List.append_assoc]; exact P3.out⟩
                case measure => have := Hlt3.out; simp [intOf]; omega
              · have d3 : decide (p < y.it.s.length) = false := decide_eq_false hlt3
                obtain rfl : p = y.it.s.length := by omega
                have C4 := hid (show CW wr wk g n (sy ((Y.map (·.it)).take (i + 1))) from by
                  have := C3.out
                  rwa [List.take_length, ← Hst.out] at this)
                clear hlt3
                go_wp2
                go_roundw
                case rel => exact ⟨i + 1, by have := Hlt2.out; omega, by go_num, C4.out⟩
                case measure => have := Hlt2.out; simp [intOf]; omega
          · have d2 : decide (i < q) = false := decide_eq_false hlt2
            obtain rfl : i = q := by omega
            have HE := hid (show BestEnd (bestLs (X.map (·.it)) j n) W (.returned (.slice (some ⟨g, 0, none⟩) n n)) wr from by
              have e := row_fn _ _ HR.out
              have hC := C.out
              rw [e] at hC
              have hl : (bestLs (X.map (·.it)) j n).length = n := bestLs_len _ _ _
              have eM : bestLs (X.map (·.it)) j n = (List.range n).map fun s => ((sy ((rowFn (X.map (·.it)) j).take i)).count s : Int) := by
                unfold bestLs bestAt
                simp only [List.length_map, if_neg hn1, ← Hq.out]
              have hgr : W.grownBy wr (some g) := by
                have b1 := BW.out
                have b2 := O.out.old
                exact ⟨(hC.2.os.trans b2.os).trans b1.os, (hC.2.tape.trans b2.tape).trans b1.tape, (hC.2.output.trans b2.output).trans b1.output, Nat.le_trans b1.size (Nat.le_trans b2.size hC.2.size), fun k hk hr => ((hC.2.block k (by have := b2.size; have := b1.size; omega) hr).trans (b2.block k (by have := b1.size; omega))).trans (b1.block k (by have := Hg.out; omega))⟩
              have hW := Hg.out
              have C5 : CW wr wk W.heap.size n (sy ((rowFn (X.map (·.it)) j).take i)) := by rw [← hW]; exact hC
              refine ⟨some ⟨g, 0, none⟩, n, by rw [hl], ?_, ?_⟩
              · have := own_counts C5 hn eM
                rw [hl] at this ⊢
                rw [hW]
                exact this
              · exact (Below.refl _ _).grown hgr (by omega) (fun k hk => by injection hk with hk; omega))
            go_wp2
            go_ret
            exact HE.out
end Go.Proofs.YtoppjcmkhhkbmaaGreat

namespace Go.Proofs.YtoppjcmkhhkbmaaGreat
open Go.RowKit

/-- a count that is out of form -/
def badc (n : Int) : Bool := decide (n < 0 ∨ 1099511627776 < n)
theorem badc_false {n : Int} : badc n = false ↔ 0 ≤ n ∧ n ≤ 1099511627776 := by unfold badc; simp
theorem badc_true {n : Int} : badc n = true ↔ n < 0 ∨ 1099511627776 < n := by unfold badc; simp

theorem badc_yes (n : Int) (h : badc n = true) (w : World) : Calls Tryz.prog 170 #[.int .i64 n] w fun e w' => e = .returned (.bool true) ∧ w = w' := by
  rcases badc_true.1 h with h1 | h1
  all_goals
    clear h
    go_enter Tryz.func170, Tryz.ntmps170
    go_wp2
    go_ret
    exact ⟨rfl, rfl⟩
theorem badc_no (n : Int) (h : badc n = false) (w : World) : Calls Tryz.prog 170 #[.int .i64 n] w fun e w' => e = .returned (.bool false) ∧ w = w' := by
  obtain ⟨h1, h2⟩ := badc_false.1 h
  clear h
  go_enter Tryz.func170, Tryz.ntmps170
  go_wp2
  go_ret
  exact ⟨ret_bool (by simp; omega), rfl⟩

def SomeIdx (l : List Int) (W : World) (e : Ending) (w' : World) : Prop := ∃ r : Int, e = .returned (.int .i64 r) ∧ ((r < 0 ∧ l.any badc = false) ∨ (0 ≤ r ∧ l.any badc = true)) ∧ W = w'

theorem any_take (p : Int → Bool) (l : List Int) (j : Nat) (hj : j < l.length) : (l.take (j + 1)).any p = ((l.take j).any p || p l[j]) := by
  rw [List.take_succ_eq_append_getElem hj, List.any_append]; simp

theorem index_any (A : Option Addr) (c : Nat) (l : List Int) (W : World) (B : Nat) (hr : RdI W B A l) (hm : l.length ≤ maxLen) :
    Calls Tryz.prog 156 #[.slice A l.length c, .func (.func 170) #[] #[]] W (SomeIdx l W) := by
  unfold maxLen at hm
  have Hr := hid hr
  clear hr
  go_enter Tryz.func156, Tryz.ntmps156
  go_wp2
  go_loop [8] (fun i => ∃ j : Nat, j ≤ l.length ∧ i = .int .i64 j ∧ (l.take j).any badc = false) (fun i => l.length - (intOf i).toNat)
  case atStart => exact ⟨0, by omega, rfl, rfl⟩
  case round =>
    obtain ⟨j, hj, rfl, hno⟩ := hrel
    have Hno := hid hno
    clear hno
    by_cases hlt : j < l.length
    · obtain ⟨b, off, rfl, hbb, h0⟩ := int_at Hr.out hlt
      have Hs := hid (any_take badc l j hlt)
      cases hb : badc l[j]
      · have Hb := hid hb
        clear hb
        go_wp2_with (refine (badc_no _ Hb.out _).mono ?_; rintro e w' ⟨rfl, rfl⟩)
        go_round
        case rel => exact ⟨j + 1, by omega, by go_num, by rw [Hs.out, Hno.out, Hb.out]; rfl⟩
        case measure => simp [intOf]; omega
      · have Hb := hid hb
        clear hb
        go_wp2_with (refine (badc_yes _ Hb.out _).mono ?_; rintro e w' ⟨rfl, rfl⟩)
        go_ret
        exact ⟨j, rfl, .inr ⟨by omega, List.any_eq_true.2 ⟨l[j], List.getElem_mem hlt, Hb.out⟩⟩, rfl⟩
    · go_wp2
      go_ret
      have e : j = l.length := by omega
      subst e
      exact ⟨-1, rfl, .inl ⟨by omega, by have := Hno.out; rwa [List.take_length] at this⟩, rfl⟩

theorem contains_any (A : Option Addr) (c : Nat) (l : List Int) (W : World) (B : Nat) (hr : RdI W B A l) (hm : l.length ≤ maxLen) (g : Bool) (hg : l.any badc = g) :
    Calls Tryz.prog 127 #[.slice A l.length c, .func (.func 170) #[] #[]] W fun e w' => e = .returned (.bool g) ∧ W = w' := by
  have Hg := hid hg
  clear hg
  have H := hid (index_any A c l W B hr hm)
  clear hr hm
  go_enter Tryz.func127, Tryz.ntmps127
  go_wp2_with (refine H.out.mono ?_; rintro e w' ⟨r, rfl, hr, rfl⟩)
  go_ret
  refine ⟨ret_bool ?_, rfl⟩
  rcases hr with ⟨h1, h2⟩ | ⟨h1, h2⟩
  · have := Hg.out.symm.trans h2; subst this; simp; omega
  · have := Hg.out.symm.trans h2; subst this; simp; omega

/-- counts in form, at most m of them -/
def goodc (l : List Int) (m : Int) : Bool := decide ((l.length : Int) ≤ m) && !l.any badc
theorem goodc_true {l : List Int} {m : Int} : goodc l m = true ↔ (l.length : Int) ≤ m ∧ l.any badc = false := by unfold goodc; simp
theorem goodc_false {l : List Int} {m : Int} : goodc l m = false ↔ m < (l.length : Int) ∨ ((l.length : Int) ≤ m ∧ l.any badc = true) := by
  unfold goodc
  by_cases h : (l.length : Int) ≤ m <;> simp [h] <;> omega

theorem sound_any (A : Option Addr) (c : Nat) (l : List Int) (m : Int) (W : World) (B : Nat) (hr : RdI W B A l) (hm : l.length ≤ maxLen) (g : Bool) (hg : goodc l m = g) :
    Calls Tryz.prog 150 #[.slice A l.length c, .int .i64 m] W fun e w' => e = .returned (.bool g) ∧ W = w' := by
  cases g
  · rcases goodc_false.1 hg with h1 | ⟨h1, h2⟩
    · clear hg hr hm
      go_enter Tryz.func150, Tryz.ntmps150
      go_wp2
      go_ret
      exact ⟨rfl, rfl⟩
    · have H := hid (contains_any A c l W B hr hm true h2)
      clear hg hr hm h2
      go_enter Tryz.func150, Tryz.ntmps150
      go_wp2_with (refine H.out.mono ?_; rintro e w' ⟨rfl, rfl⟩)
      go_ret
      exact ⟨rfl, rfl⟩
  · obtain ⟨h1, h2⟩ := goodc_true.1 hg
    have H := hid (contains_any A c l W B hr hm false h2)
    clear hg hr hm h2
    go_enter Tryz.func150, Tryz.ntmps150
    go_wp2_with (refine H.out.mono ?_; rintro e w' ⟨rfl, rfl⟩)
    go_ret
    exact ⟨rfl, rfl⟩

end Go.Proofs.YtoppjcmkhhkbmaaGreat

namespace Go.Proofs.YtoppjcmkhhkbmaaGreat
open Go.RowKit Mg

set_option maxRecDepth 100000 in
set_option maxHeartbeats 4000000 in
theorem best_single (A : Option Addr) (c n K : Nat) (x : IR) (W : World) (h : RRow W W W.heap.size A [x]) (hB : BestIn ([x].map (·.it)) n K) :
    Calls Tryz.prog 152 #[.slice A 1 c, .int .i64 (n : Nat), .int .i64 ((K + 1 : Nat) : Int)] W (BestEnd (bestLs ([x].map (·.it)) K n) W) := by
  obtain ⟨i0, hi0, hz0, hz1, hz2⟩ := info_parts int_info
  have hn := hB.size
  have Hmk := hid (show ∀ w : World, (Instr.makeSlice 65 (.int .i64 (n : Int)) (.int .i64 (n : Int))).run Tryz.prog w = .ok (.slice (some ⟨w.heap.size, 0, none⟩) n n) (w.alloc (.cells (List.replicate n (Value.int .i64 0)).toArray 3)) from by
    intro w
    have h := run_make (P := Tryz.prog) w 65 3 i0 (.int .i64 0) Tryz.underlying65 hi0 hz0 .i64 .i64 (n : Int) (n : Int) (by omega) (by omega) (by rw [hz2]; omega) (by omega)
    rw [hz1, made_list _ _ rfl] at h
    exact h)
  clear hi0 hz0 hz1 hz2
  have H := hid h
  have HB := hid hB
  have hs1 : x.it.s.length = 1 := hB.gl.single _ (by simp)
  obtain ⟨s, hs⟩ := List.length_eq_one_iff.1 hs1
  have hsn := hB.sym s (by simp [sy, hs])
  clear h hB
  generalize hk1 : K + 1 = K1 at *
  have Hk1 := hid hk1
  clear hk1
  go_enter Tryz.func152, Tryz.ntmps152
  have hmk := Hmk.out
  go_upto_region 3 with (fail)
  have H1 := hid (H.out.below ((Below.refl _ _).alloc (Nat.le_refl _) (.cells (List.replicate n (Value.int .i64 0)).toArray 3)))
  have G1 := hid (show CW (W.alloc (.cells (Array.replicate n (Value.int .i64 0)) 3)) W W.heap.size n [] from ⟨by rw [← replicate_row]; exact Blk.new _ _ _, World.grownBy_alloc _ _ _⟩)
  rw [show (List.replicate n (Value.int .i64 0)).toArray = Array.replicate n (Value.int .i64 0) by simp] at H1
  have hr := H1.out.row
  have S1 := H1.out.sym x (by simp)
  have e1 : ints x.it.s = [(s : Int)] := by rw [hs]; rfl
  rw [e1] at S1
  obtain ⟨b, off, rfl, hb, hcl⟩ := hr.at_ (k := 0) (by simp) (by omega)
  obtain ⟨b2, off2, hA, hb2, y0⟩ := int_at S1 (j := 0) (by simp)
  simp only [Nat.add_zero, List.getElem_cons_zero] at y0
  have c1 := hcl 1 (.slice x.A x.it.s.length x.c) rfl
  rw [hs1, hA] at c1
  have cg : (W.alloc (.cells (Array.replicate n (Value.int .i64 0)) 3)).cell? ⟨W.heap.size, s, none⟩ = some (.int .i64 0) := by rw [G1.out.1.cell, intRow_at _ _ _ hsn]; simp
  have fz := G1.out.1.frozen s
  have hgw := G1.out.1.lt
  have P := hid (G1.out.put s)
  clear hr S1 hcl
  generalize W.alloc (.cells (Array.replicate n (Value.int .i64 0)) 3) = w1 at *
  have R := hid (show BestEnd (bestLs ([x].map (·.it)) K n) W (.returned (.slice (some ⟨W.heap.size, 0, none⟩) n n)) (w1.setCell ⟨W.heap.size, s, none⟩ (.int .i64 1)) from by
    have hl : (bestLs ([x].map (·.it)) K n).length = n := bestLs_len _ _ _
    have eM : bestLs ([x].map (·.it)) K n = (List.range n).map fun k => (([s] : List Nat).count k : Int) := by
      unfold bestLs bestAt
      simp only [List.map_cons, List.map_nil, List.length_cons, List.length_nil, sy, List.flatMap_cons, List.flatMap_nil, hs, List.append_nil]
      rfl
    have hC := P.out
    simp only [List.count_nil, List.nil_append] at hC
    refine ⟨some ⟨W.heap.size, 0, none⟩, n, by rw [hl], ?_, ?_⟩
    · have := own_counts hC hn eM
      rw [hl] at this ⊢
      exact this
    · exact (Below.refl _ _).grown hC.2 (by omega) (fun k hk => by injection hk with hk; omega))
  clear hs hs1
  go_wp2
  go_ret
  exact R.out
theorem best_any (A : Option Addr) (c n K : Nat) (X : List IR) (W : World) (h : RRow W W W.heap.size A X) (hc : X.length ≤ c) (hB : BestIn (X.map (·.it)) n K) :
    Calls Tryz.prog 152 #[.slice A X.length c, .int .i64 (n : Nat), .int .i64 ((K + 1 : Nat) : Int)] W (BestEnd (bestLs (X.map (·.it)) K n) W) := by
  by_cases h1 : X.length = 1
  · obtain ⟨x, rfl⟩ := List.length_eq_one_iff.1 h1
    exact best_single A c n K x W h hB
  · exact best_many A c n K X W h hc h1 hB
end Go.Proofs.YtoppjcmkhhkbmaaGreat

namespace Go.Proofs.YtoppjcmkhhkbmaaGreat
open Go.RowKit Mg

theorem pow_le16 {d : Nat} (h : d ≤ 16) : 2 ^ d ≤ 65536 := by
  have := Nat.pow_le_pow_right (n := 2) (by omega) h
  omega
theorem shl_w {d : Nat} (h : d ≤ 16) : wrap64 (2 ^ d) = ((2 ^ d : Nat) : Int) := by
  have := pow_le16 h
  have e : (2 : Int) ^ d = ((2 ^ d : Nat) : Int) := (Int.natCast_pow 2 d).symm
  unfold wrap64
  rw [e]
  generalize 2 ^ d = p at *
  omega
theorem ws_le {b : Int} : ∀ l : List It, (∀ x ∈ l, x.w ≤ b) → ws l ≤ l.length * b
  | [], _ => by simp [ws]
  | x :: t, h => by
    have ih := ws_le t (fun y hy => h y (by simp [hy]))
    have hx := h x (by simp)
    rw [ws_cons, List.length_cons, Int.natCast_add, Int.add_mul]
    omega
theorem good_at {l : List Int} {m : Int} (h : goodc l m = true) {s : Nat} (hs : s < l.length) : 0 ≤ l.getD s 0 ∧ l.getD s 0 ≤ 1099511627776 := by
  have h1 := List.any_eq_false.1 (goodc_true.1 h).2 l[s] (List.getElem_mem hs)
  rw [List.getD_eq_getElem?_getD, List.getElem?_eq_getElem hs]
  exact badc_false.1 (by simpa using h1)
theorem best_in {l : List Int} {m : Int} {K n : Nat} (h : goodc l m = true) (hl : l.length ≤ 300) (hK : (itemsOf l).length ≤ 2 ^ (K + 1)) (hk : K ≤ 15) (hn : l.length ≤ n) (hn2 : n ≤ 1000000) : BestIn (itemsOf l) n K := by
  refine ⟨items_gl l, by have := itemsOf_le l; omega, hK, hk, hn2, ?_, fun s hs => by have := ((itemsOf_sy l s).1 hs).1; omega⟩
  have h1 := ws_le (b := 1099511627776) (itemsOf l) (fun x hx => by
    obtain ⟨s, h1, _, rfl⟩ := items_mem l _ x ((isort_perm (itemsTo l l.length)).mem_iff.1 hx)
    exact (good_at h h1).2)
  have h2 := itemsOf_le l
  omega
theorem RRow.of_own {w W : World} {A : Option Addr} {c : Nat} {X : List IR} (h : IOwn w W A c X) : RRow w w w.heap.size A X :=
  ⟨own_ri h, fun y hy => own_syms (h.sym y hy), Below.refl _ _, AV.of_rd (own_ri h) (by omega), fun y hy => AV.of_rd (own_syms (h.sym y hy)) (by omega)⟩
section
variable (A : Option Addr) (c : Nat) (l : List Int) (high : Int) (W : World)
set_option maxRecDepth 100000 in
set_option maxHeartbeats 2000000 in
theorem lengths_best (K : Nat) (h : RdI W W.heap.size A l) (hg : goodc l 300 = true) (hk : K ≤ 15) (hK : (itemsOf l).length ≤ 2 ^ (K + 1)) :
    Calls Tryz.prog 118 #[.slice A l.length c, .int .i64 ((K + 1 : Nat) : Int)] W fun e w' => ∃ A' c', e = .returned (.tuple #[.slice A' l.length c', .nilIface]) ∧ w'.ownsRow W.heap.size 3 1 (.slice A' l.length c') l.length (intsV (bestLs (itemsOf l) K l.length)) ∧ Below W.heap.size W w' := by
  have H := hid h
  have Hg := hid hg
  have HK := hid hK
  have hm := (goodc_true.1 hg).1
  have hsl := shl_w (d := K + 1) (by omega)
  have hp := pow_le16 (d := K + 1) (by omega)
  clear h hg hK
  obtain ⟨K1, hK1⟩ : ∃ K1, K1 = K + 1 := ⟨_, rfl⟩
  rw [← hK1] at hsl hp ⊢
  have HK1 := hid hK1
  have hk2 : K1 ≤ 16 := by omega
  have hk3 : 1 ≤ K1 := by omega
  clear hk hK1
  go_enter Tryz.func118, Tryz.ntmps118
  go_wp2_with fail
  refine (sound_any A c l 300 _ W.heap.size H.out (by simp only [maxLen]; omega) true Hg.out).mono ?_
  rintro e w1 ⟨rfl, rfl⟩
  go_wp2_with fail
  refine (items_any A c l _ H.out (by omega)).mono ?_
  rintro e w1 ⟨A2, c2, X, rfl, hX, hI⟩
  have hXe : X.map (·.it) = itemsOf l := st_isort hX
  have hX2 : X.length ≤ 2 ^ K1 := by
    rw [← List.length_map (f := (·.it)), hXe, HK1.out]
    exact HK.out
  have I := hid hI
  have HX := hid hXe
  clear hX hI hXe
  have hcB := fun w => best_any A2 c2 l.length K X w
  rw [← HK1.out] at hcB
  have hc2 : X.length ≤ c2 := by
    obtain ⟨_, _, hv, hn⟩ := own_form I.out.row
    injection hv with _ _ hv
    rw [hv]; exact hn
  generalize 2 ^ K1 = p at *
  have HcB := hid hcB
  clear hcB
  go_wp2_with fail
  refine (HcB.out w1 (RRow.of_own I.out) hc2 (by rw [HX.out]; exact best_in Hg.out (by omega) HK.out (by have := HK1.out; omega) (Nat.le_refl _) (by omega))).mono ?_
  rintro e w2 ⟨A3, c3, rfl, ho, hb⟩
  rw [HX.out, bestLs_len] at ho
  have R := hid (show w2.ownsRow W.heap.size 3 1 (.slice A3 l.length c3) l.length (intsV (bestLs (itemsOf l) K l.length)) ∧ Below W.heap.size W w2 from ⟨own_base ho I.out.old.size, I.out.old.trans (hb.mono I.out.old.size)⟩)
  clear ho hb
  go_wp2
  go_ret2
  exact ⟨A3, c3, by show Ending.returned (.tuple #[.slice A3 (bestLs (X.map (·.it)) K l.length).length c3, .nilIface]) = _; rw [bestLs_len], R.out⟩
end
end Go.Proofs.YtoppjcmkhhkbmaaGreat
