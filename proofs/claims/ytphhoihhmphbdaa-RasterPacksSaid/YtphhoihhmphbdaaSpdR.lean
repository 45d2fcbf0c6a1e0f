/-
  burnishref15.Spread: the same places.
  burnishref15.Spread walked.
-/
import Derived.Test.YtphhoihhmphbdaaSpdA
import Derived.Test.YtphhoihhmphbdaaRefD
namespace Go.Proofs.Ytphhoihhmphbdaa
open Go.RowKit

set_option maxRecDepth 100000 in
set_option maxHeartbeats 4000000 in
theorem pass_anyY (x y : Nat) (hx : x ≤ 65535) (hy : y ≤ 65535) (W : World) :
    Calls Try.prog 91 #[.int .i64 (x : Nat), .int .i64 (y : Nat)] W fun e w' => e = .returned (.int .i64 (passOf x (y % 8) : Nat)) ∧ Below W.heap.size W w' := by
  have hm : x % 8 < 8 := Nat.mod_lt _ (by omega)
  have hmy : y % 8 < 8 := Nat.mod_lt _ (by omega)
  have hle := pass_le x (y % 8) hmy
  have ix := pass_ix (y % 8) (x % 8) hmy hm
  have Hd : Hid (passOf x (y % 8) = (passT.getD (y % 8) []).getD (x % 8) 0) := rfl
  have em : (x : Int).tmod 8 = ((x % 8 : Nat) : Int) := by rw [Int.tmod_eq_emod_of_nonneg (by omega)]; omega
  have em2 : (x : Int) % 8 = ((x % 8 : Nat) : Int) := by omega
  have ey : (y : Int).tmod 8 = ((y % 8 : Nat) : Int) := by rw [Int.tmod_eq_emod_of_nonneg (by omega)]; omega
  have ey2 : (y : Int) % 8 = ((y % 8 : Nat) : Int) := by omega
  rw [← Hd.out] at ix
  clear Hd
  generalize passOf x (y % 8) = v at *
  generalize x % 8 = m at *
  generalize y % 8 = my at *
  rcases nat8 hmy with rfl | rfl | rfl | rfl | rfl | rfl | rfl | rfl
  all_goals
    have ix2 := ix
    clear ix
    unfold passS at ix2
    simp only [List.getD_cons_zero, List.getD_cons_succ] at ix2
    go_enter Try.func91, Try.ntmps91
    go_wp2
    go_ret
    exact ⟨ret_int (by omega), (Below.refl _ _).alloc (Nat.le_refl _) _⟩
/-- a pass by the table is a pass by its grid -/
theorem pass_grid (p : Nat) (hp : p < 7) (x y : Nat) : passOf x (y % 8) = p ↔ onB (gridU 1 p).1 (gridU 1 p).2.1 x = true ∧ onB (gridU 1 p).2.2.1 (gridU 1 p).2.2.2 y = true := by
  have key : ∀ p : Fin 7, ∀ mx : Fin 8, ∀ my : Fin 8, ((passT.getD my.val []).getD mx.val 0 = p.val ↔ (mx.val % (gridU 1 p.val).2.1 = (gridU 1 p.val).1 ∧ my.val % (gridU 1 p.val).2.2.2 = (gridU 1 p.val).2.2.1)) := by decide +kernel
  have hd : ∀ p : Fin 7, ((gridU 1 p.val).2.1 ∣ 8) ∧ ((gridU 1 p.val).2.2.2 ∣ 8) := by decide +kernel
  have h1 := key ⟨p, hp⟩ ⟨x % 8, Nat.mod_lt _ (by omega)⟩ ⟨y % 8, Nat.mod_lt _ (by omega)⟩
  obtain ⟨d1, d2⟩ := hd ⟨p, hp⟩
  dsimp only at h1 d1 d2
  rw [Nat.mod_mod_of_dvd _ d1, Nat.mod_mod_of_dvd _ d2] at h1
  unfold passOf onB
  rw [decide_eq_true_iff, decide_eq_true_iff]
  exact h1
/-- the tests of one pass -/
def inP (l : Int) (p x y : Nat) : Bool := (l == 1 && decide (passOf x (y % 8) = p)) || (l == 0 && decide (p = 0))
/-- the row ahead of a column, the rows ahead of a row, as the document's answer goes over them -/
def rcolL (l : Int) (p w y x : Nat) : List Int := ((List.range x).filter fun i => inP l p i y).map fun i => ((y * w + i : Nat) : Int)
def rrowL (l : Int) (p w y : Nat) : List Int := (List.range y).flatMap fun j => rcolL l p w j w
def rspL (l : Int) (w h p : Nat) : List Int := (List.range p).flatMap fun k => rrowL l k w h
theorem rcol_step (l : Int) (p w y x : Nat) : rcolL l p w y (x + 1) = rcolL l p w y x ++ (if inP l p x y = true then [((y * w + x : Nat) : Int)] else []) := by
  unfold rcolL
  rw [List.range_succ, List.filter_append, List.map_append]
  congr 1
  cases h : inP l p x y <;> simp [h]
theorem rrow_step (l : Int) (p w y : Nat) : rrowL l p w (y + 1) = rrowL l p w y ++ rcolL l p w y w := by
  unfold rrowL
  rw [List.range_succ, List.flatMap_append]
  simp
theorem rsp_step (l : Int) (w h p : Nat) : rspL l w h (p + 1) = rspL l w h p ++ rrowL l p w h := by
  unfold rspL
  rw [List.range_succ, List.flatMap_append]
  simp
theorem rrow_grid (p : Nat) (hp : p < 7) (w : Nat) : ∀ y, rrowL 1 p w y = rowL (gridU 1 p).1 (gridU 1 p).2.1 (gridU 1 p).2.2.1 (gridU 1 p).2.2.2 w y y := by
  intro y
  unfold rrowL rowL
  rw [Nat.min_self]
  induction y with
  | zero => rfl
  | succ y ih =>
    rw [List.range_succ, List.flatMap_append, ih, List.filter_append, List.flatMap_append]
    congr 1
    rw [List.flatMap_cons, List.flatMap_nil, List.append_nil]
    have hin : ∀ i, inP 1 p i y = (onB (gridU 1 p).1 (gridU 1 p).2.1 i && onB (gridU 1 p).2.2.1 (gridU 1 p).2.2.2 y) := by
      intro i
      have h := pass_grid p hp i y
      unfold inP
      rw [Bool.eq_iff_iff]
      simp only [Bool.or_eq_true, Bool.and_eq_true, decide_eq_true_iff]
      constructor
      · rintro (⟨_, h1⟩ | ⟨h1, _⟩)
        · exact h.1 h1
        · cases h1
      · intro h1
        exact .inl ⟨rfl, h.2 h1⟩
    cases hy : onB (gridU 1 p).2.2.1 (gridU 1 p).2.2.2 y
    · unfold rcolL
      have : (List.range w).filter (fun i => inP 1 p i y) = [] := filt_none _ _ fun i _ => by rw [hin, hy, Bool.and_false]
      rw [this]
      simp [hy]
    · unfold rcolL colL
      have : (fun i => inP 1 p i y) = onB (gridU 1 p).1 (gridU 1 p).2.1 := by funext i; rw [hin, hy, Bool.and_true]
      rw [this]
      simp [hy]
theorem rrow_none (p : Nat) (hp : p ≠ 0) (w : Nat) : ∀ y, rrowL 0 p w y = [] := by
  intro y
  unfold rrowL
  rw [List.flatMap_eq_nil_iff]
  intro j _
  unfold rcolL
  rw [filt_none _ _ fun i _ => by unfold inP; simp [hp]]
  rfl
theorem rrow_all (w : Nat) : ∀ y, rrowL 0 0 w y = rowL 0 1 0 1 w y y := by
  intro y
  unfold rrowL rowL
  rw [Nat.min_self]
  have e1 : ∀ n, (List.range n).filter (onB 0 1) = List.range n := fun n => List.filter_eq_self.2 fun i _ => by unfold onB; exact decide_eq_true (Nat.mod_one i)
  rw [e1]
  congr 1
  funext j
  unfold rcolL colL
  rw [Nat.min_self, e1]
  congr 1
  exact List.filter_eq_self.2 fun i _ => by unfold inP; simp
theorem rsp_same (l : Int) (hl : l = 0 ∨ l = 1) (w h : Nat) : rspL l w h 7 = spreadM l w h := by
  rcases hl with rfl | rfl
  · have e : ∀ k, rspL 0 w h (k + 1) = rrowL 0 0 w h := by
      intro k
      induction k with
      | zero => rw [rsp_step]; rfl
      | succ k ih => rw [rsp_step, ih, rrow_none (k + 1) (by omega), List.append_nil]
    rw [e 6, rrow_all]
    show _ = spL 0 w h 1
    rw [spL, spL, List.nil_append]
    rfl
  · have e : ∀ k, k ≤ 7 → rspL 1 w h k = spL 1 w h k := by
      intro k
      induction k with
      | zero => intro _; rfl
      | succ k ih =>
        intro hk
        rw [rsp_step, ih (by omega), spL, rrow_grid k (by omega)]
        rfl
    exact e 7 (by omega)
end Go.Proofs.Ytphhoihhmphbdaa

namespace Go.Proofs.Ytphhoihhmphbdaa
open Go.RowKit

def RspEnd (l : Int) (w h : Nat) (W : World) (e : Ending) (w' : World) : Prop :=
  ∃ A c n, e = .returned (.tuple #[.slice A n c, .bool true]) ∧ n = (spreadM l w h).length ∧ w'.ownsRow W.heap.size 3 1 (.slice A n c) n (intsV (spreadM l w h)) ∧ Below W.heap.size W w'
theorem rcol_len (l : Int) (p w y x : Nat) : (rcolL l p w y x).length ≤ x := by
  unfold rcolL
  rw [List.length_map]
  refine Nat.le_trans (List.length_filter_le _ _) ?_
  rw [List.length_range]
  exact Nat.le_refl _
theorem rrow_len (l : Int) (p w y : Nat) : (rrowL l p w y).length ≤ y * w := by
  unfold rrowL
  have h := flat_len (fun j => rcolL l p w j w) w (fun j => rcol_len l p w j w) (List.range y)
  rwa [List.length_range] at h
theorem rsp_len (l : Int) (w h p : Nat) : (rspL l w h p).length ≤ p * (h * w) := by
  unfold rspL
  have h := flat_len (fun k => rrowL l k w h) (h * w) (fun k => rrow_len l k w h) (List.range p)
  rwa [List.length_range] at h
set_option maxRecDepth 100000 in
set_option maxHeartbeats 8000000 in
theorem rspread_0 (w ht : Nat) (w1 : 1 ≤ w) (h1 : 1 ≤ ht) (w2 : w ≤ 65535) (h2 : ht ≤ 65535) (hwh : w * ht ≤ 262144) (W : World) :
    Calls Try.prog 47 #[.int .i64 (w : Int), .int .i64 (ht : Int), .int .i64 0] W (RspEnd 0 w ht W) := by
  obtain ⟨i0, hi0, hz0, hz1, hz2⟩ := info_parts int_info
  have Hi0 := hid hi0
  have Hz0 := hid hz0
  have Hz1 := hid hz1
  have Hz2 := hid hz2
  obtain ⟨N, hN⟩ : ∃ N, N = w * ht := ⟨_, rfl⟩
  have HN := hid hN
  have hmul : (w : Int) * (ht : Int) = (N : Int) := by rw [hN]; simp
  rw [← hN] at hwh
  have O0 := hid (World.ownsRow_nil W W.heap.size 3 1)
  have HBL := hid (show ∀ p, (rspL 0 w ht p).length ≤ p * N from fun p => by rw [HN.out, Nat.mul_comm w ht]; exact rsp_len 0 w ht p)
  clear hi0 hz0 hz1 hz2 hN
  go_enter Try.func47, Try.ntmps47
  go_upto_region 1 with (fail)
  go_cut [39] from 12 to 39 (fun v wq => v = .bool false ∧ W = wq)
  · go_wp2_with fail
    go_meet
    exact ⟨by rw [decide_eq_false (show ¬ (w : Int) < 1 by omega), decide_eq_false (show ¬ (ht : Int) < 1 by omega), decide_eq_false (show ¬ 262144 < (w : Int) by omega), decide_eq_false (show ¬ 262144 < (ht : Int) by omega), decide_eq_false (show ¬ 262144 < (N : Int) by omega)]; rfl, rfl⟩
  obtain ⟨rfl, rfl⟩ := hcut
  go_upto_region 5 with (fail)
  go_loopw [8, 9] (fun v pv wr => ∃ (p n c : Nat) (A : Option Addr), p ≤ 7 ∧ pv = .int .i64 (p : Int) ∧ v = .slice A n c ∧ n ≤ 2000000 ∧ Hid (n = (rspL 0 w ht p).length) ∧ Hid (wr.ownsRow W.heap.size 3 1 (.slice A n c) n (intsV (rspL 0 w ht p))) ∧ Hid (Below W.heap.size W wr)) (fun _ pv _ => 7 - (intOf pv).toNat)
  case atStart => exact ⟨0, 0, 0, none, by omega, rfl, rfl, by omega, hid rfl, O0, hid (Below.refl _ _)⟩
  case round =>
    obtain ⟨p, n1, c1, A1, hp, rfl, rfl, hn1, HN1, O1, B1⟩ := hrel
    by_cases hlt : p < 7
    · have d2 : decide (p < 7) = true := decide_eq_true hlt
      have d2i : decide ((p : Int) < 7) = true := decide_eq_true (by omega)
      have hr0 := hid (show rrowL 0 p w 0 = [] from rfl)
      go_upto_region 8 with (fail)
      go_loopw [8, 10] (fun v yv wr => ∃ (y n c : Nat) (A : Option Addr), y ≤ ht ∧ yv = .int .i64 (y : Int) ∧ v = .slice A n c ∧ n ≤ 2500000 ∧ Hid (n = (rspL 0 w ht p ++ rrowL 0 p w y).length) ∧ Hid (wr.ownsRow W.heap.size 3 1 (.slice A n c) n (intsV (rspL 0 w ht p ++ rrowL 0 p w y))) ∧ Hid (Below W.heap.size W wr)) (fun _ yv _ => ht - (intOf yv).toNat)
      case atStart => exact ⟨0, n1, c1, A1, by omega, rfl, rfl, by omega, hid (by rw [hr0.out, List.append_nil]; exact HN1.out), hid (by rw [hr0.out, List.append_nil]; exact O1.out), B1⟩
      case round =>
        obtain ⟨y, n2, c2, A2, hy, rfl, rfl, hn2, HN2, O2, B2⟩ := hrel
        have hb2 : n2 ≤ 6 * N + N := by
          have h1 := HBL.out p
          have h2 := rrow_len 0 p w y
          have h3 : p * N ≤ 6 * N := Nat.mul_le_mul_right _ (by omega)
          have h4 := HN2.out
          have h5 : y * w ≤ ht * w := Nat.mul_le_mul_right _ hy
          rw [List.length_append] at h4
          rw [Nat.mul_comm ht w, ← HN.out] at h5
          omega
        by_cases hyt : y < ht
        · have d3 : decide (y < ht) = true := decide_eq_true hyt
          have hP : y * w ≤ N := by rw [HN.out, Nat.mul_comm w ht]; exact Nat.mul_le_mul_right _ (by omega)
          obtain ⟨P, hPe⟩ : ∃ P, P = y * w := ⟨_, rfl⟩
          have hPm : (y : Int) * (w : Int) = (P : Int) := by rw [hPe]; simp
          rw [← hPe] at hP
          have HP := hid hPe
          clear hPe
          have hc0 := hid (show rcolL 0 p w y 0 = [] from rfl)
          go_upto_region 11 with (fail)
          go_loopw [8, 11] (fun v xv wr => ∃ (x n c : Nat) (A : Option Addr), x ≤ w ∧ xv = .int .i64 (x : Int) ∧ v = .slice A n c ∧ n ≤ n2 + 65535 ∧ Hid (n = (rspL 0 w ht p ++ rrowL 0 p w y ++ rcolL 0 p w y x).length) ∧ Hid (wr.ownsRow W.heap.size 3 1 (.slice A n c) n (intsV (rspL 0 w ht p ++ rrowL 0 p w y ++ rcolL 0 p w y x))) ∧ Hid (Below W.heap.size W wr)) (fun _ xv _ => w - (intOf xv).toNat)
          case atStart => exact ⟨0, n2, c2, A2, by omega, rfl, rfl, by omega, hid (by rw [hc0.out, List.append_nil]; exact HN2.out), hid (by rw [hc0.out, List.append_nil]; exact O2.out), B2⟩
          case round =>
            obtain ⟨x, n3, c3, A3, hx, rfl, rfl, hn3, HN3, O3, B3⟩ := hrel
            by_cases hxt : x < w
            · have d4 : decide (x < w) = true := decide_eq_true hxt
              have HSt := hid (rcol_step 0 p w y x)
              have hlc := rcol_len 0 p w y (x + 1)
              go_upto_region 13 with (fail)
              go_cut [70] from 54 to 70 (fun v wq => v = .bool (inP 0 p x y) ∧ Hid (Below wr.heap.size wr wq))
              · skip
                have HIN := hid (show inP 0 p x y = decide (p = 0) from by unfold inP; simp)
                by_cases hb : p = 0
                · have HT := hid (show inP 0 p x y = true from by rw [HIN.out]; exact decide_eq_true hb)
                  have e0 : ((p : Int) == 0) = true := by rw [hb]; rfl
                  have e1 : (p == 0) = true := by rw [hb]; rfl
                  clear hb
                  go_wp2_with fail
                  go_meet
                  exact ⟨by rw [HT.out], hid (Below.refl _ _)⟩
                · have HT := hid (show inP 0 p x y = false from by rw [HIN.out]; exact decide_eq_false hb)
                  have e0 : ((p : Int) == 0) = false := beq_eq_false_iff_ne.2 (by omega)
                  have e1 : (p == 0) = false := beq_eq_false_iff_ne.2 hb
                  clear hb
                  go_wp2_with fail
                  go_meet
                  exact ⟨by rw [HT.out], hid (Below.refl _ _)⟩
              obtain ⟨rfl, hBc⟩ := hcut
              have O4 := hid (own_below O3.out hBc.out (Nat.le_refl _))
              have B4 := hid (B3.out.trans (hBc.out.mono B3.out.size))
              clear O3 B3 hBc
              have hsw := B4.out.size
              cases hin : inP 0 p x y
              · rw [hin] at HSt
                have HV := hid (show rcolL 0 p w y (x + 1) = rcolL 0 p w y x from by rw [HSt.out]; exact List.append_nil _)
                clear hin
                go_wp2_with fail
                go_roundw
                case rel => exact ⟨x + 1, n3, c3, A3, by omega, by go_num, rfl, hn3, hid (by rw [HV.out]; exact HN3.out), hid (by rw [HV.out]; exact O4.out), B4⟩
                case measure => simp [intOf]; omega
              · rw [hin] at HSt
                obtain ⟨V, hV⟩ : ∃ V, V = P + x := ⟨_, rfl⟩
                have eV : (P : Int) + (x : Int) = (V : Int) := by omega
                have HV := hid (show rspL 0 w ht p ++ rrowL 0 p w y ++ rcolL 0 p w y (x + 1) = rspL 0 w ht p ++ rrowL 0 p w y ++ rcolL 0 p w y x ++ [(V : Int)] from by
                  rw [HSt.out, ← HP.out, hV, List.append_assoc, List.append_assoc, List.append_assoc]; rfl)
                have hVb : V ≤ 400000 := by omega
                clear hV hin
                go_upto_region 12 with (at_builtin; go_loud (refine wpList_app _ rfl _ _ _ rfl W.heap.size 3 i0 (.int .i64 0) 1 8 Try.underlying25 Hi0.out Hz0.out Hz1.out Hz2.out rfl (by omega) A3 n3 c3 _ rfl (O4.out.alloc _) _ _ 1 1 [.int .i64 (V : Int)] rfl (rd_one _ _ _ _ (Blk.new _ _ _)) (by simp) (by simp [Value.oneCell']) (by simp only [maxLen]; omega) (by omega) (by simp; omega) ?_; intro A5 c5 w9 ha5; have Ha5 := hid ha5; clear ha5))
                obtain ⟨o5, g5, b5, _⟩ := Ha5.out
                have O5 := hid (show w9.ownsRow W.heap.size 3 1 (.slice A5 (n3 + 1) c5) (n3 + 1) (intsV (rspL 0 w ht p ++ rrowL 0 p w y ++ rcolL 0 p w y (x + 1))) from by rw [HV.out, intsV_apS]; exact o5)
                have B5 := hid ((B4.out.alloc B4.out.size (.cells #[.int .i64 (V : Int)] 3)).trans b5)
                have HN5 := hid (show n3 + 1 = (rspL 0 w ht p ++ rrowL 0 p w y ++ rcolL 0 p w y (x + 1)).length from by rw [HV.out, List.length_append, ← HN3.out]; rfl)
                have hn5 : n3 + 1 ≤ n2 + 65535 := by
                  have h1 := HN5.out
                  rw [List.length_append, ← HN2.out] at h1
                  omega
                clear o5 g5 b5 Ha5 O4 B4 hsw
                go_wp2_with fail
                go_roundw
                case rel => exact ⟨x + 1, n3 + 1, c5, A5, by omega, by go_num, rfl, hn5, HN5, O5, B5⟩
                case measure => simp [intOf]; omega
            · have d4 : decide (x < w) = false := decide_eq_false hxt
              obtain rfl : x = w := by omega
              have HS := hid (rrow_step 0 p x y)
              go_wp2_with fail
              go_roundw
              case rel => exact ⟨y + 1, n3, c3, A3, by omega, by go_num, rfl, by omega, hid (by rw [HS.out, ← List.append_assoc]; exact HN3.out), hid (by rw [HS.out, ← List.append_assoc]; exact O3.out), B3⟩
              case measure => simp [intOf]; omega
        · have d3 : decide (y < ht) = false := decide_eq_false hyt
          obtain rfl : y = ht := by omega
          have HS := hid (rsp_step 0 w y p)
          go_wp2_with fail
          go_roundw
          case rel => exact ⟨p + 1, n2, c2, A2, by omega, by go_num, rfl, by omega, hid (by rw [HS.out]; exact HN2.out), hid (by rw [HS.out]; exact O2.out), B2⟩
          case measure => simp [intOf]; omega
    · obtain rfl : p = 7 := by omega
      have HS := hid (rsp_same 0 (by decide) w ht)
      go_wp2_with fail
      go_ret2
      exact ⟨A1, c1, n1, rfl, by rw [← HS.out]; exact HN1.out, by rw [← HS.out]; exact O1.out, B1.out⟩
set_option maxRecDepth 100000 in
set_option maxHeartbeats 8000000 in
theorem rspread_1 (w ht : Nat) (w1 : 1 ≤ w) (h1 : 1 ≤ ht) (w2 : w ≤ 65535) (h2 : ht ≤ 65535) (hwh : w * ht ≤ 262144) (W : World) :
    Calls Try.prog 47 #[.int .i64 (w : Int), .int .i64 (ht : Int), .int .i64 1] W (RspEnd 1 w ht W) := by
  obtain ⟨i0, hi0, hz0, hz1, hz2⟩ := info_parts int_info
  have Hi0 := hid hi0
  have Hz0 := hid hz0
  have Hz1 := hid hz1
  have Hz2 := hid hz2
  obtain ⟨N, hN⟩ : ∃ N, N = w * ht := ⟨_, rfl⟩
  have HN := hid hN
  have hmul : (w : Int) * (ht : Int) = (N : Int) := by rw [hN]; simp
  rw [← hN] at hwh
  have O0 := hid (World.ownsRow_nil W W.heap.size 3 1)
  have HBL := hid (show ∀ p, (rspL 1 w ht p).length ≤ p * N from fun p => by rw [HN.out, Nat.mul_comm w ht]; exact rsp_len 1 w ht p)
  clear hi0 hz0 hz1 hz2 hN
  go_enter Try.func47, Try.ntmps47
  go_upto_region 1 with (fail)
  go_cut [39] from 12 to 39 (fun v wq => v = .bool false ∧ W = wq)
  · go_wp2_with fail
    go_meet
    exact ⟨by rw [decide_eq_false (show ¬ (w : Int) < 1 by omega), decide_eq_false (show ¬ (ht : Int) < 1 by omega), decide_eq_false (show ¬ 262144 < (w : Int) by omega), decide_eq_false (show ¬ 262144 < (ht : Int) by omega), decide_eq_false (show ¬ 262144 < (N : Int) by omega)]; rfl, rfl⟩
  obtain ⟨rfl, rfl⟩ := hcut
  go_upto_region 5 with (fail)
  go_loopw [8, 9] (fun v pv wr => ∃ (p n c : Nat) (A : Option Addr), p ≤ 7 ∧ pv = .int .i64 (p : Int) ∧ v = .slice A n c ∧ n ≤ 2000000 ∧ Hid (n = (rspL 1 w ht p).length) ∧ Hid (wr.ownsRow W.heap.size 3 1 (.slice A n c) n (intsV (rspL 1 w ht p))) ∧ Hid (Below W.heap.size W wr)) (fun _ pv _ => 7 - (intOf pv).toNat)
  case atStart => exact ⟨0, 0, 0, none, by omega, rfl, rfl, by omega, hid rfl, O0, hid (Below.refl _ _)⟩
  case round =>
    obtain ⟨p, n1, c1, A1, hp, rfl, rfl, hn1, HN1, O1, B1⟩ := hrel
    by_cases hlt : p < 7
    · have d2 : decide (p < 7) = true := decide_eq_true hlt
      have d2i : decide ((p : Int) < 7) = true := decide_eq_true (by omega)
      have hr0 := hid (show rrowL 1 p w 0 = [] from rfl)
      go_upto_region 8 with (fail)
      go_loopw [8, 10] (fun v yv wr => ∃ (y n c : Nat) (A : Option Addr), y ≤ ht ∧ yv = .int .i64 (y : Int) ∧ v = .slice A n c ∧ n ≤ 2500000 ∧ Hid (n = (rspL 1 w ht p ++ rrowL 1 p w y).length) ∧ Hid (wr.ownsRow W.heap.size 3 1 (.slice A n c) n (intsV (rspL 1 w ht p ++ rrowL 1 p w y))) ∧ Hid (Below W.heap.size W wr)) (fun _ yv _ => ht - (intOf yv).toNat)
      case atStart => exact ⟨0, n1, c1, A1, by omega, rfl, rfl, by omega, hid (by rw [hr0.out, List.append_nil]; exact HN1.out), hid (by rw [hr0.out, List.append_nil]; exact O1.out), B1⟩
      case round =>
        obtain ⟨y, n2, c2, A2, hy, rfl, rfl, hn2, HN2, O2, B2⟩ := hrel
        have hb2 : n2 ≤ 6 * N + N := by
          have h1 := HBL.out p
          have h2 := rrow_len 1 p w y
          have h3 : p * N ≤ 6 * N := Nat.mul_le_mul_right _ (by omega)
          have h4 := HN2.out
          have h5 : y * w ≤ ht * w := Nat.mul_le_mul_right _ hy
          rw [List.length_append] at h4
          rw [Nat.mul_comm ht w, ← HN.out] at h5
          omega
        by_cases hyt : y < ht
        · have d3 : decide (y < ht) = true := decide_eq_true hyt
          have hP : y * w ≤ N := by rw [HN.out, Nat.mul_comm w ht]; exact Nat.mul_le_mul_right _ (by omega)
          obtain ⟨P, hPe⟩ : ∃ P, P = y * w := ⟨_, rfl⟩
          have hPm : (y : Int) * (w : Int) = (P : Int) := by rw [hPe]; simp
          rw [← hPe] at hP
          have HP := hid hPe
          clear hPe
          have hc0 := hid (show rcolL 1 p w y 0 = [] from rfl)
          go_upto_region 11 with (fail)
          go_loopw [8, 11] (fun v xv wr => ∃ (x n c : Nat) (A : Option Addr), x ≤ w ∧ xv = .int .i64 (x : Int) ∧ v = .slice A n c ∧ n ≤ n2 + 65535 ∧ Hid (n = (rspL 1 w ht p ++ rrowL 1 p w y ++ rcolL 1 p w y x).length) ∧ Hid (wr.ownsRow W.heap.size 3 1 (.slice A n c) n (intsV (rspL 1 w ht p ++ rrowL 1 p w y ++ rcolL 1 p w y x))) ∧ Hid (Below W.heap.size W wr)) (fun _ xv _ => w - (intOf xv).toNat)
          case atStart => exact ⟨0, n2, c2, A2, by omega, rfl, rfl, by omega, hid (by rw [hc0.out, List.append_nil]; exact HN2.out), hid (by rw [hc0.out, List.append_nil]; exact O2.out), B2⟩
          case round =>
            obtain ⟨x, n3, c3, A3, hx, rfl, rfl, hn3, HN3, O3, B3⟩ := hrel
            by_cases hxt : x < w
            · have d4 : decide (x < w) = true := decide_eq_true hxt
              have HSt := hid (rcol_step 1 p w y x)
              have hlc := rcol_len 1 p w y (x + 1)
              go_upto_region 13 with (fail)
              go_cut [70] from 54 to 70 (fun v wq => v = .bool (inP 1 p x y) ∧ Hid (Below wr.heap.size wr wq))
              · skip
                have HIN := hid (show inP 1 p x y = decide (passOf x (y % 8) = p) from by unfold inP; simp)
                have PC := hid (pass_anyY x y (by omega) (by omega) wr)
                generalize passOf x (y % 8) = v at *
                by_cases hb : v = p
                · have HT := hid (show inP 1 p x y = true from by rw [HIN.out]; exact decide_eq_true hb)
                  have e0 : ((v : Int) == (p : Int)) = true := by rw [hb]; exact beq_self_eq_true _
                  have e1 : (v == p) = true := by rw [hb]; exact beq_self_eq_true _
                  clear hb
                  go_wp2_with (go_at_call 91; refine (PC.out).mono ?_; rintro e w5 ⟨rfl, hb5⟩; have HB5 := hid hb5; clear hb5)
                  go_meet
                  exact ⟨by rw [HT.out], HB5⟩
                · have HT := hid (show inP 1 p x y = false from by rw [HIN.out]; exact decide_eq_false hb)
                  have e0 : ((v : Int) == (p : Int)) = false := beq_eq_false_iff_ne.2 (by omega)
                  have e1 : (v == p) = false := beq_eq_false_iff_ne.2 hb
                  clear hb
                  go_wp2_with (go_at_call 91; refine (PC.out).mono ?_; rintro e w5 ⟨rfl, hb5⟩; have HB5 := hid hb5; clear hb5)
                  go_meet
                  exact ⟨by rw [HT.out], HB5⟩
              obtain ⟨rfl, hBc⟩ := hcut
              have O4 := hid (own_below O3.out hBc.out (Nat.le_refl _))
              have B4 := hid (B3.out.trans (hBc.out.mono B3.out.size))
              clear O3 B3 hBc
              have hsw := B4.out.size
              cases hin : inP 1 p x y
              · rw [hin] at HSt
                have HV := hid (show rcolL 1 p w y (x + 1) = rcolL 1 p w y x from by rw [HSt.out]; exact List.append_nil _)
                clear hin
                go_wp2_with fail
                go_roundw
                case rel => exact ⟨x + 1, n3, c3, A3, by omega, by go_num, rfl, hn3, hid (by rw [HV.out]; exact HN3.out), hid (by rw [HV.out]; exact O4.out), B4⟩
                case measure => simp [intOf]; omega
              · rw [hin] at HSt
                obtain ⟨V, hV⟩ : ∃ V, V = P + x := ⟨_, rfl⟩
                have eV : (P : Int) + (x : Int) = (V : Int) := by omega
                have HV := hid (show rspL 1 w ht p ++ rrowL 1 p w y ++ rcolL 1 p w y (x + 1) = rspL 1 w ht p ++ rrowL 1 p w y ++ rcolL 1 p w y x ++ [(V : Int)] from by
                  rw [HSt.out, ← HP.out, hV, List.append_assoc, List.append_assoc, List.append_assoc]; rfl)
                have hVb : V ≤ 400000 := by omega
                clear hV hin
                go_upto_region 12 with (at_builtin; go_loud (refine wpList_app _ rfl _ _ _ rfl W.heap.size 3 i0 (.int .i64 0) 1 8 Try.underlying25 Hi0.out Hz0.out Hz1.out Hz2.out rfl (by omega) A3 n3 c3 _ rfl (O4.out.alloc _) _ _ 1 1 [.int .i64 (V : Int)] rfl (rd_one _ _ _ _ (Blk.new _ _ _)) (by simp) (by simp [Value.oneCell']) (by simp only [maxLen]; omega) (by omega) (by simp; omega) ?_; intro A5 c5 w9 ha5; have Ha5 := hid ha5; clear ha5))
                obtain ⟨o5, g5, b5, _⟩ := Ha5.out
                have O5 := hid (show w9.ownsRow W.heap.size 3 1 (.slice A5 (n3 + 1) c5) (n3 + 1) (intsV (rspL 1 w ht p ++ rrowL 1 p w y ++ rcolL 1 p w y (x + 1))) from by rw [HV.out, intsV_apS]; exact o5)
                have B5 := hid ((B4.out.alloc B4.out.size (.cells #[.int .i64 (V : Int)] 3)).trans b5)
                have HN5 := hid (show n3 + 1 = (rspL 1 w ht p ++ rrowL 1 p w y ++ rcolL 1 p w y (x + 1)).length from by rw [HV.out, List.length_append, ← HN3.out]; rfl)
                have hn5 : n3 + 1 ≤ n2 + 65535 := by
                  have h1 := HN5.out
                  rw [List.length_append, ← HN2.out] at h1
                  omega
                clear o5 g5 b5 Ha5 O4 B4 hsw
                go_wp2_with fail
                go_roundw
                case rel => exact ⟨x + 1, n3 + 1, c5, A5, by omega, by go_num, rfl, hn5, HN5, O5, B5⟩
                case measure => simp [intOf]; omega
            · have d4 : decide (x < w) = false := decide_eq_false hxt
              obtain rfl : x = w := by omega
              have HS := hid (rrow_step 1 p x y)
              go_wp2_with fail
              go_roundw
              case rel => exact ⟨y + 1, n3, c3, A3, by omega, by go_num, rfl, by omega, hid (by rw [HS.out, ← List.append_assoc]; exact HN3.out), hid (by rw [HS.out, ← List.append_assoc]; exact O3.out), B3⟩
              case measure => simp [intOf]; omega
        · have d3 : decide (y < ht) = false := decide_eq_false hyt
          obtain rfl : y = ht := by omega
          have HS := hid (rsp_step 1 w y p)
          go_wp2_with fail
          go_roundw
          case rel => exact ⟨p + 1, n2, c2, A2, by omega, by go_num, rfl, by omega, hid (by rw [HS.out]; exact HN2.out), hid (by rw [HS.out]; exact O2.out), B2⟩
          case measure => simp [intOf]; omega
    · obtain rfl : p = 7 := by omega
      have HS := hid (rsp_same 1 (by decide) w ht)
      go_wp2_with fail
      go_ret2
      exact ⟨A1, c1, n1, rfl, by rw [← HS.out]; exact HN1.out, by rw [← HS.out]; exact O1.out, B1.out⟩
theorem rspread_any (l : Int) (w ht : Nat) (hl : l = 0 ∨ l = 1) (w1 : 1 ≤ w) (h1 : 1 ≤ ht) (w2 : w ≤ 65535) (h2 : ht ≤ 65535) (hwh : w * ht ≤ 262144) (W : World) :
    Calls Try.prog 47 #[.int .i64 (w : Int), .int .i64 (ht : Int), .int .i64 l] W (RspEnd l w ht W) := by
  rcases hl with rfl | rfl
  · exact rspread_0 w ht w1 h1 w2 h2 hwh W
  · exact rspread_1 w ht w1 h1 w2 h2 hwh W
end Go.Proofs.Ytphhoihhmphbdaa
