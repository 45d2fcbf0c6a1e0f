/-
  merge.packages: items by twos.
-/
import Derived.Test.YtlekobompjehdaaCatM
import Derived.Deep.RegionHeld3
namespace Go.Proofs.Ytlekobompjehdaa
open Go.RowKit Mg

def ints (s : List Nat) : List Int := s.map (fun i : Nat => (i : Int))
theorem IOwn.drew {w W : World} {A : Option Addr} {c : Nat} {X : List IR} (h : IOwn w W A c X) : IOwn w.drew W A c X := h.below (Below.refl _ _).drew
def PkEnd (X : List IR) (W : World) (e : Ending) (w' : World) : Prop := ∃ A' c' Z, e = .returned (.slice A' Z.length c') ∧ Z.map (·.it) = pk (X.map (·.it)) ∧ IOwn w' W A' c' Z
theorem pk_app2 : ∀ (l : List It) (a b : It), l.length % 2 = 0 → pk (l ++ [a, b]) = pk l ++ [⟨a.w + b.w, a.s ++ b.s⟩]
  | [], a, b, _ => rfl
  | [_], _, _, h => by simp at h
  | x :: y :: t, a, b, h => by
    have ih := pk_app2 t a b (by simp only [List.length_cons] at h; omega)
    show ⟨x.w + y.w, x.s ++ y.s⟩ :: pk (t ++ [a, b]) = ⟨x.w + y.w, x.s ++ y.s⟩ :: pk t ++ _
    rw [ih]
    rfl
theorem pk_rest : ∀ (j : Nat) (l : List It), l.length ≤ 2 * j + 1 → pk (l.take (2 * j)) = pk l
  | 0, [], _ => rfl
  | 0, [_], _ => rfl
  | 0, _ :: _ :: _, h => by simp at h
  | j + 1, [], _ => rfl
  | j + 1, [_], _ => rfl
  | j + 1, a :: b :: t, h => by
    have ih := pk_rest j t (by simp only [List.length_cons] at h; omega)
    rw [show 2 * (j + 1) = 2 * j + 1 + 1 by omega, List.take_succ_cons, List.take_succ_cons]
    unfold pk
    rw [ih]
theorem rd_syms {w : World} {B : Nat} {A : Option Addr} {s : List Nat} (h : RdI w B A (ints s)) : Rd w B 1 A s.length (intsV (ints s)) := by
  unfold RdI at h
  rw [intsV_eq] at h
  simpa [ints] using h
theorem one_cells (l : List Int) : ∀ u ∈ intsV l, u.oneCell' = true := by
  intro u hu
  obtain ⟨x, _, rfl⟩ := List.mem_map.1 hu
  rfl
theorem pk_two (X : List IR) {j : Nat} (h : 2 * j + 1 < X.length) : pk ((X.map (·.it)).take (2 * (j + 1))) = pk ((X.map (·.it)).take (2 * j)) ++ [⟨X[2 * j].it.w + X[2 * j + 1].it.w, X[2 * j].it.s ++ X[2 * j + 1].it.s⟩] := by
  have e1 : (X.map (·.it)).take (2 * (j + 1)) = (X.map (·.it)).take (2 * j) ++ [X[2 * j].it, X[2 * j + 1].it] := by
    rw [show 2 * (j + 1) = 2 * j + 1 + 1 by omega, List.take_succ_eq_append_getElem (by simp; omega), List.take_succ_eq_append_getElem (by simp; omega)]
    simp
  rw [e1, pk_app2 _ _ _ (by simp; omega)]
set_option maxRecDepth 100000 in
set_option maxHeartbeats 4000000 in
theorem packages_any (A : Option Addr) (c : Nat) (X : List IR) (W : World) (hX : Rd W W.heap.size 2 A X.length (fl X)) (hs : ∀ x ∈ X, RdI W W.heap.size x.A (ints x.it.s)) (hm : X.length ≤ 100000) (hl : ∀ x ∈ X, x.it.s.length ≤ 100000) (hw : ∀ x ∈ X, 0 ≤ x.it.w ∧ x.it.w ≤ 1000000000000000000) :
    Calls Try.prog 81 #[.slice A X.length c] W (PkEnd X W) := by
  obtain ⟨i0, hi0, hz0, hz1, hz2⟩ := info_parts mit_info
  have Hi0 := hid hi0
  have Hz0 := hid hz0
  have Hz1 := hid hz1
  have Hz2 := hid hz2
  have HX := hid hX
  have Hs := hid hs
  have Hl := hid hl
  have Hw := hid hw
  clear hX hs hi0 hz0 hz1 hz2 hl hw
  go_enter Try.func81, Try.ntmps81
  go_upto_region 3 with (fail)
  go_loopw [3, 4] (fun o iv wr => ∃ (i j : Nat) (A' : Option Addr) (c' : Nat) (Z : List IR), iv = .int .i64 i ∧ i = 2 * j ∧ i ≤ X.length + 1 ∧ o = .slice A' Z.length c' ∧ Z.map (·.it) = pk ((X.map (·.it)).take (2 * j)) ∧ IOwn wr W A' c' Z) (fun _ i _ => X.length + 2 - (intOf i).toNat)
  case atStart => exact ⟨0, 0, none, 0, [], rfl, rfl, by omega, rfl, rfl, ⟨⟨rfl, .inl ⟨rfl, rfl⟩⟩, fun _ h => (by cases h), Below.refl _ _⟩⟩
  case round =>
    obtain ⟨i, j, A', c', Z, rfl, hi, hib, rfl, hZ, hO⟩ := hrel
    have HZ := hid hZ
    have O := hid hO
    have hZl : Z.length ≤ 100000 := by
      have h1 := congrArg List.length hZ
      rw [List.length_map, pk_len, List.length_take, List.length_map] at h1
      omega
    have Hi := hid hi
    obtain ⟨i1, hi1⟩ : ∃ i1, i1 = i + 1 := ⟨_, rfl⟩
    have t1 : IntKind.i64.wrap ((i : Int) + 1) = (i1 : Int) := (IntWalk.i64_in _ (by omega)).trans (by omega)
    have Hi1 := hid hi1
    clear hZ hO
    by_cases hlt : i1 < X.length
    · have d1 : decide (i1 < X.length) = true := decide_eq_true hlt
      have hlt0 : i < X.length := by omega
      have hst := pk_two X (j := j) (by omega)
      simp only [← hi, ← hi1] at hst
      have S1 := hid (Hs.out X[i] (List.getElem_mem _))
      have S2 := hid (Hs.out X[i1] (List.getElem_mem _))
      have L1 := Hl.out X[i] (List.getElem_mem _)
      have L2 := Hl.out X[i1] (List.getElem_mem _)
      have W1 := Hw.out X[i] (List.getElem_mem _)
      have W2 := Hw.out X[i1] (List.getElem_mem _)
      obtain ⟨b, off, rfl, hb, hc⟩ := HX.out.at_ (k := i) hlt0 (by omega)
      have hc2 : ∀ w', Below W.heap.size W w' → w'.cell? ⟨b, off + i * 2, none⟩ = some (.int .i64 X[i].it.w) ∧ w'.cell? ⟨b, off + i * 2 + 1, none⟩ = some (.slice X[i].A X[i].it.s.length X[i].c) ∧ w'.cell? ⟨b, off + i1 * 2, none⟩ = some (.int .i64 X[i1].it.w) ∧ w'.cell? ⟨b, off + i1 * 2 + 1, none⟩ = some (.slice X[i1].A X[i1].it.s.length X[i1].c) := by
        intro w' hbw
        have g := fun (k o : Nat) (hk : k < X.length) (ho : o < 2) (u : Value) (hu : (encR X[k])[o]? = some u) => show w'.cell? ⟨b, off + (k * 2 + o), none⟩ = some u from (hbw.cell (p := ⟨b, off + (k * 2 + o), none⟩) hb).trans (hc (k * 2 + o) u ((flat_at encR 2 X (fun _ _ => rfl) k o X[k] (List.getElem?_eq_getElem hk) ho).trans hu))
        exact ⟨g i 0 hlt0 (by omega) _ rfl, g i 1 hlt0 (by omega) _ rfl, g i1 0 hlt (by omega) _ rfl, g i1 1 hlt (by omega) _ rfl⟩
      generalize X[i] = x at *
      generalize X[i1] = y at *
      have Hst := hid hst
      have Hc := hid hc2
      have Hlt := hid hlt
      have t2 : IntKind.i64.wrap (x.it.w + y.it.w) = x.it.w + y.it.w := IntWalk.i64_in _ (by omega)
      have t3 : IntKind.i64.wrap ((i : Int) + 2) = ((i + 2 : Nat) : Int) := (IntWalk.i64_in _ (by omega)).trans (by omega)
      obtain ⟨x0, x1, y0, y1⟩ := hc2 wr O.out.old
      have hbs : b < wr.heap.size := by have := O.out.old.size; omega
      have HP := hid (show PartsCI ((wr.alloc (.cells #[.slice x.A x.it.s.length x.c, .slice y.A y.it.s.length y.c] 22)).drew) ((wr.alloc (.cells #[.slice x.A x.it.s.length x.c, .slice y.A y.it.s.length y.c] 22)).drew).heap.size wr.heap.size [(x.A, x.it.s.length, x.c), (y.A, y.it.s.length, y.c)] [intsV (ints x.it.s), intsV (ints y.it.s)] from
        ⟨(Blk.new wr 22 #[.slice x.A x.it.s.length x.c, .slice y.A y.it.s.length y.c]).drew, rfl, fun k s l h1 h2 => by
          have hb0 := O.out.old.size
          have r1 := rd_syms ((S1.out.below O.out.old (Nat.le_refl _)).more (B' := wr.heap.size) hb0)
          have r2 := rd_syms ((S2.out.below O.out.old (Nat.le_refl _)).more (B' := wr.heap.size) hb0)
          have q1 := Rd.more (Rd.alloc r1 (Nat.le_refl _) (.cells #[.slice x.A x.it.s.length x.c, .slice y.A y.it.s.length y.c] 22)) (B' := ((wr.alloc (.cells #[.slice x.A x.it.s.length x.c, .slice y.A y.it.s.length y.c] 22)).drew).heap.size) (by show _ ≤ (wr.alloc _).heap.size; rw [World.size_alloc]; omega)
          have q2 := Rd.more (Rd.alloc r2 (Nat.le_refl _) (.cells #[.slice x.A x.it.s.length x.c, .slice y.A y.it.s.length y.c] 22)) (B' := ((wr.alloc (.cells #[.slice x.A x.it.s.length x.c, .slice y.A y.it.s.length y.c] 22)).drew).heap.size) (by show _ ≤ (wr.alloc _).heap.size; rw [World.size_alloc]; omega)
          match k, h1, h2 with
          | 0, h1, h2 =>
            simp only [List.getElem?_cons_zero, Option.some.injEq] at h1 h2
            subst h1 h2
            exact ⟨q1, one_cells _⟩
          | 1, h1, h2 =>
            simp only [List.getElem?_cons_zero, List.getElem?_cons_succ, Option.some.injEq] at h1 h2
            subst h1 h2
            exact ⟨q2, one_cells _⟩
          | k + 2, h1, h2 => simp at h1⟩)
      obtain ⟨zn, hzn⟩ : ∃ zn, zn = (x.it.s ++ y.it.s).length := ⟨_, rfl⟩
      have HF := hid (show [intsV (ints x.it.s), intsV (ints y.it.s)].flatten.length = zn * 1 by rw [hzn]; simp [ints, intsV])
      have HM := hid (show zn * 8 ≤ 70368744177664 by rw [hzn, List.length_append]; omega)
      have Hzn := hid hzn
      clear hzn
      have hzm : Z.length + 1 ≤ maxLen := by simp only [maxLen]; omega
      have ti : (i : Int) < (X.length : Int) := by omega
      have ti1 : (i1 : Int) < (X.length : Int) := by omega
      clear hi hi1 hc hc2 hst W1 W2 hlt hlt0
      go_upto_region 5 with (fail)
      go_region_held3 (fun w' => w'.cell? ⟨b, off + i * 2, none⟩ = some (.int .i64 x.it.w) ∧ w'.cell? ⟨b, off + i * 2 + 1, none⟩ = some (.slice x.A x.it.s.length x.c) ∧ w'.cell? ⟨b, off + i1 * 2, none⟩ = some (.int .i64 y.it.w) ∧ w'.cell? ⟨b, off + i1 * 2 + 1, none⟩ = some (.slice y.A y.it.s.length y.c)) (first | go_keep | exact ⟨x0, x1, y0, y1⟩ | exact K4.out) (first
        | (go_at_call 118; refine (concatI_any wr.heap.size 2 zn [(x.A, x.it.s.length, x.c), (y.A, y.it.s.length, y.c)] [intsV (ints x.it.s), intsV (ints y.it.s)] _ HP.out (by show 2 ≤ 1000000; omega) HF.out HM.out).mono ?_; rintro e2 w4 ⟨A5, c5, rfl, ho5, hb5⟩; have O4 := hid ((O.out.alloc (.cells #[.slice x.A x.it.s.length x.c, .slice y.A y.it.s.length y.c] 22)).drew.below hb5); have K4 := hid (Hc.out w4 O4.out.old); have P4 := hid ho5; have hb4 := O4.out.old.size; have hbs4 : b < w4.heap.size := (by omega); clear ho5 hb5)
        | (refine step_app _ (by rfl) (.tmp 12) (.tmp 39) _ (by rfl) W.heap.size 92 i0 (.agg #[.int .i64 0, .slice none 0 0]) 2 32 Try.underlying86 Hi0.out Hz0.out Hz1.out Hz2.out rfl (by omega) A' Z.length c' _ (by rfl) (O4.out.alloc _).row _ _ 1 1 [.int .i64 (x.it.w + y.it.w), .slice A5 zn c5] (by rfl) (rd_one _ _ _ _ (Blk.new _ _ _)) (by simp) (by simp [Value.oneCell']) hzm (by omega) (O4.out.alloc _).old.size ?_; intro A3 c3 w3 ha3; have Ha3 := hid ha3; have K4 := hid (Hc.out w3 ((O4.out.alloc _).old.trans ha3.2.2.1)); clear ha3))
      all_goals
        go_wp2
        go_roundw
        case rel =>
          refine ⟨i + 2, j + 1, A3, c3, Z ++ [⟨⟨x.it.w + y.it.w, x.it.s ++ y.it.s⟩, A5, c5⟩], by go_num, by have := Hi.out; omega, by have := Hlt.out; have := Hi1.out; omega, by rw [List.length_append, List.length_singleton], by rw [List.map_append, HZ.out, Hst.out, Hi.out]; first | done | rfl, ?_⟩
          have z1 : SOwn w4 W.heap.size ⟨⟨x.it.w + y.it.w, x.it.s ++ y.it.s⟩, A5, c5⟩ := by
            have h := own_base P4.out (b := W.heap.size) (by have := O.out.old.size; show _ ≤ (wr.alloc _).heap.size; rw [World.size_alloc]; omega)
            rw [Hzn.out] at h
            unfold SOwn
            simpa [intsV, ints] using h
          have h3 := Ha3.out
          rw [Hzn.out] at h3
          exact (O4.out.alloc _).app (z1.below ((Below.refl _ _).alloc (Nat.le_refl _) _) (Nat.le_refl _)) h3
        case measure => have := Hlt.out; have := Hi1.out; simp [intOf]; omega
    · have d1 : decide (i1 < X.length) = false := decide_eq_false hlt
      have R := hid (show PkEnd X W (.returned (.slice A' Z.length c')) wr from ⟨A', c', Z, rfl, by rw [HZ.out, pk_rest j _ (by rw [List.length_map]; omega)], O.out⟩)
      clear hi hi1 hlt
      go_wp2
      go_ret
      exact R.out
end Go.Proofs.Ytlekobompjehdaa
