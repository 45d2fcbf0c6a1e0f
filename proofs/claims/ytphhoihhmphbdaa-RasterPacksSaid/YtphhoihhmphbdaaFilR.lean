/-
  burnishref14: foretelling, a byte of a row, a row unfiltered, rows of filtered ones: the same as the program's.
-/
import Derived.Test.YtphhoihhmphbdaaFilB
namespace Go.Proofs.Ytphhoihhmphbdaa
open Go.RowKit

theorem far_any (a b : Int) (h1 : -1000 ≤ a) (h2 : a ≤ 1000) (h3 : -1000 ≤ b) (h4 : b ≤ 1000) (W : World) : Calls Try.prog 139 #[.int .i64 a, .int .i64 b] W fun e w' => e = .returned (.int .i64 (apM a b)) ∧ W = w' := by
  by_cases h : a < b
  · have Hv := hid (show apM a b = b - a from by unfold apM; rw [if_pos (by omega)])
    have e1 : wrap64 (b - a) = b - a := by unfold wrap64; omega
    go_enter Try.func139, Try.ntmps139
    go_wp2
    go_ret
    exact ⟨ret_int (by rw [Hv.out]), rfl⟩
  · have Hv := hid (show apM a b = a - b from by unfold apM; rw [if_neg (by omega)])
    have e1 : wrap64 (a - b) = a - b := by unfold wrap64; omega
    go_enter Try.func139, Try.ntmps139
    go_wp2
    go_ret
    exact ⟨ret_int (by rw [Hv.out]), rfl⟩
set_option maxRecDepth 100000 in
set_option maxHeartbeats 4000000 in
theorem rforetell_any (k a b c : Int) (ha : isB a) (hb : isB b) (hc : isB c) (W : World) : Calls Try.prog 127 #[.int .i64 k, .int .i64 a, .int .i64 b, .int .i64 c] W fun e w' => e = .returned (.int .i64 (foreM k a b c)) ∧ W = w' := by
  unfold isB at ha hb hc
  by_cases k1 : k = 1
  · subst k1
    go_enter Try.func127, Try.ntmps127
    go_wp2
    go_ret
    exact ⟨rfl, rfl⟩
  by_cases k2 : k = 2
  · subst k2
    go_enter Try.func127, Try.ntmps127
    go_wp2
    go_ret
    exact ⟨rfl, rfl⟩
  by_cases k3 : k = 3
  · subst k3
    have HF := hid (show foreM 3 a b c = (a + b) / 2 from rfl)
    have s2 : (a + b).tmod 2 = (a + b) % 2 := Int.tmod_eq_emod_of_nonneg (by omega)
    have s3 : (a + b - (a + b) % 2).tdiv 2 = (a + b) / 2 := by rw [Int.tdiv_eq_ediv_of_nonneg (by omega)]; omega
    go_enter Try.func127, Try.ntmps127
    go_wp2
    go_ret
    exact ⟨ret_int HF.out.symm, rfl⟩
  by_cases k4 : k = 4
  · subst k4
    have P1 := hid (fun w => far_any (a + b - c) a (by omega) (by omega) (by omega) (by omega) w)
    have P2 := hid (fun w => far_any (a + b - c) b (by omega) (by omega) (by omega) (by omega) w)
    have P3 := hid (fun w => far_any (a + b - c) c (by omega) (by omega) (by omega) (by omega) w)
    have HF := hid (show foreM 4 a b c = if apM (a + b - c) a ≤ apM (a + b - c) b ∧ apM (a + b - c) a ≤ apM (a + b - c) c then a else if apM (a + b - c) b ≤ apM (a + b - c) c then b else c from rfl)
    generalize apM (a + b - c) a = da at *
    generalize apM (a + b - c) b = db at *
    generalize apM (a + b - c) c = dc at *
    clear k1 k2 k3
    by_cases q1 : db < da
    · by_cases q2 : dc < db
      · have HG := hid (show foreM 4 a b c = c from by rw [HF.out, if_neg (by omega), if_neg (by omega)])
        clear HF
        go_enter Try.func127, Try.ntmps127
        go_wp2_with (go_at_call 139; first | ((with_reducible refine (P1.out _).mono ?_); rintro e w5 ⟨rfl, rfl⟩) | ((with_reducible refine (P2.out _).mono ?_); rintro e w5 ⟨rfl, rfl⟩) | ((with_reducible refine (P3.out _).mono ?_); rintro e w5 ⟨rfl, rfl⟩))
        go_ret
        exact ⟨ret_int HG.out.symm, rfl⟩
      · have HG := hid (show foreM 4 a b c = b from by rw [HF.out, if_neg (by omega), if_pos (by omega)])
        clear HF
        go_enter Try.func127, Try.ntmps127
        go_wp2_with (go_at_call 139; first | ((with_reducible refine (P1.out _).mono ?_); rintro e w5 ⟨rfl, rfl⟩) | ((with_reducible refine (P2.out _).mono ?_); rintro e w5 ⟨rfl, rfl⟩) | ((with_reducible refine (P3.out _).mono ?_); rintro e w5 ⟨rfl, rfl⟩))
        go_ret
        exact ⟨ret_int HG.out.symm, rfl⟩
    · by_cases q2 : dc < da
      · have HG := hid (show foreM 4 a b c = c from by rw [HF.out, if_neg (by omega), if_neg (by omega)])
        clear HF
        go_enter Try.func127, Try.ntmps127
        go_wp2_with (go_at_call 139; first | ((with_reducible refine (P1.out _).mono ?_); rintro e w5 ⟨rfl, rfl⟩) | ((with_reducible refine (P2.out _).mono ?_); rintro e w5 ⟨rfl, rfl⟩) | ((with_reducible refine (P3.out _).mono ?_); rintro e w5 ⟨rfl, rfl⟩))
        go_ret
        exact ⟨ret_int HG.out.symm, rfl⟩
      · have HG := hid (show foreM 4 a b c = a from by rw [HF.out, if_pos (by omega)])
        clear HF
        go_enter Try.func127, Try.ntmps127
        go_wp2_with (go_at_call 139; first | ((with_reducible refine (P1.out _).mono ?_); rintro e w5 ⟨rfl, rfl⟩) | ((with_reducible refine (P2.out _).mono ?_); rintro e w5 ⟨rfl, rfl⟩) | ((with_reducible refine (P3.out _).mono ?_); rintro e w5 ⟨rfl, rfl⟩))
        go_ret
        exact ⟨ret_int HG.out.symm, rfl⟩
  have Hk := hid (show foreM k a b c = 0 from by unfold foreM; rw [if_neg k1, if_neg k2, if_neg k3, if_neg k4])
  go_enter Try.func127, Try.ntmps127
  go_wp2
  go_ret
  exact ⟨ret_int Hk.out.symm, rfl⟩
set_option maxRecDepth 100000 in
theorem byteAt_any (A : Option Addr) (c n : Nat) (l : List Int) (i : Int) (W : World) (B : Nat) (hn : n = l.length) (ok : ∀ x ∈ l, isB x) (hr : Rd W B 1 A l.length (bytesV l)) : Calls Try.prog 128 #[.slice A n c, .int .i64 i] W fun e w' => e = .returned (.int .i64 (atM l i)) ∧ W = w' := by
  subst hn
  by_cases h0 : i < 0
  · have Hv := hid (show atM l i = 0 from if_pos h0)
    clear hr ok
    go_enter Try.func128, Try.ntmps128
    go_wp2
    go_ret
    exact ⟨ret_int Hv.out.symm, rfl⟩
  · obtain ⟨j, rfl⟩ : ∃ j : Nat, i = (j : Int) := ⟨i.toNat, by omega⟩
    by_cases hj : j < l.length
    · obtain ⟨b, off, hA, hbb, hcl⟩ := byte_at hr hj
      subst hA
      have Hv := hid (show atM l (j : Int) = l.getD j 0 from by unfold atM; rw [if_neg h0, Int.toNat_natCast])
      have hb : isB (l.getD j 0) := by rw [List.getD_eq_getElem?_getD, List.getElem?_eq_getElem hj]; exact ok _ (List.getElem_mem hj)
      generalize l.getD j 0 = v at *
      generalize l.length = n at *
      have hv0 : 0 ≤ v := hb.1
      have hv1 : v ≤ 255 := hb.2
      clear hr h0 ok hb
      go_enter Try.func128, Try.ntmps128
      go_wp2
      go_ret
      exact ⟨ret_int Hv.out.symm, rfl⟩
    · have Hv := hid (show atM l (j : Int) = 0 from by unfold atM; rw [if_neg h0, Int.toNat_natCast, List.getD_eq_getElem?_getD, List.getElem?_eq_none (by omega)]; rfl)
      generalize l.length = n at *
      clear hr h0 ok
      go_enter Try.func128, Try.ntmps128
      go_wp2
      go_ret
      exact ⟨ret_int Hv.out.symm, rfl⟩
def RunfEnd (k bpp : Int) (row ahead : List Int) (W : World) (e : Ending) (w' : World) : Prop :=
  ∃ A c, e = .returned (.slice A row.length c) ∧ w'.ownsRow W.heap.size 5 1 (.slice A row.length c) row.length (bytesV (unfN k bpp row ahead row.length)) ∧ Below W.heap.size W w'
set_option maxRecDepth 100000 in
set_option maxHeartbeats 4000000 in
theorem runfilter_any (k bpp : Int) (A AA : Option Addr) (c ca m : Nat) (row ahead : List Int) (W : World) (b1 : 1 ≤ bpp) (b8 : bpp ≤ 8) (hma : m = ahead.length)
    (hr : Rd W W.heap.size 1 A row.length (bytesV row)) (hra : Rd W W.heap.size 1 AA ahead.length (bytesV ahead)) (okr : ∀ x ∈ row, isB x) (oka : ∀ x ∈ ahead, isB x) (hm : row.length ≤ 10000000) :
    Calls Try.prog 92 #[.int .i64 k, .slice A row.length c, .slice AA m ca, .int .i64 bpp] W (RunfEnd k bpp row ahead W) := by
  obtain ⟨i0, hi0, hz0, hz1, hz2⟩ := info_parts u8_info
  have Hi0 := hid hi0
  have Hz0 := hid hz0
  have Hz1 := hid hz1
  have Hz2 := hid hz2
  have Hr := hid hr
  have Hra := hid hra
  have Okr := hid okr
  have Oka := hid oka
  have Hma := hid hma
  obtain ⟨n, hn⟩ : ∃ n, n = row.length := ⟨_, rfl⟩
  have Hn := hid hn
  unfold RunfEnd
  rw [← hn] at hm ⊢
  have RO := hid (World.ownsRow_nil W W.heap.size 5 1)
  clear hi0 hz0 hz1 hz2 hr hra okr oka hma hn
  go_enter Try.func92, Try.ntmps92
  go_upto_region 3 with (fail)
  go_loopw [9, 10] (fun v i wr => ∃ (j : Nat) (A1 : Option Addr) (c1 : Nat), j ≤ n ∧ v = .slice A1 j c1 ∧ i = .int .i64 (j : Int) ∧ Hid (wr.ownsRow W.heap.size 5 1 (.slice A1 j c1) j (bytesV (unfN k bpp row ahead j))) ∧ Hid (Below W.heap.size W wr)) (fun _ i _ => n - (intOf i).toNat)
  case atStart => exact ⟨0, none, 0, by omega, rfl, rfl, RO, hid (Below.refl _ _)⟩
  case round =>
    obtain ⟨j, A1, c1, hj, rfl, rfl, O1, B1⟩ := hrel
    by_cases hlt : j < n
    · have d2 : decide (j < n) = true := decide_eq_true hlt
      obtain ⟨b, off, hA, hbb, hcl⟩ := byte_at (Hr.out.below B1.out (Nat.le_refl _)) (j := j) (by rw [← Hn.out]; exact hlt)
      subst hA
      have hsw := B1.out.size
      have C1 := hid (byteAt_any A1 c1 j (unfN k bpp row ahead j) ((j : Int) - bpp) wr wr.heap.size (unfN_len k bpp row ahead j).symm (unfN_isB k bpp row ahead j) (by rw [unfN_len]; exact own_rd O1.out))
      have C2 := hid (byteAt_any AA ca m ahead (j : Int) wr W.heap.size Hma.out Oka.out (Hra.out.below B1.out (Nat.le_refl _)))
      have C3 := hid (byteAt_any AA ca m ahead ((j : Int) - bpp) wr W.heap.size Hma.out Oka.out (Hra.out.below B1.out (Nat.le_refl _)))
      have I1 := hid (atM_isB (unfN_isB k bpp row ahead j) ((j : Int) - bpp))
      have I2 := hid (atM_isB Oka.out (j : Int))
      have I3 := hid (atM_isB Oka.out ((j : Int) - bpp))
      have HX := hid (show unfN k bpp row ahead (j + 1) = unfN k bpp row ahead j ++ [(row.getD j 0 + foreM k (atM (unfN k bpp row ahead j) ((j : Int) - bpp)) (atM ahead (j : Int)) (atM ahead ((j : Int) - bpp))) % 256] from rfl)
      have hx0 : isB (row.getD j 0) := by
        have hl : j < row.length := by rw [← Hn.out]; exact hlt
        rw [List.getD_eq_getElem?_getD, List.getElem?_eq_getElem hl]
        exact Okr.out _ (List.getElem_mem hl)
      generalize atM (unfN k bpp row ahead j) ((j : Int) - bpp) = p1 at *
      generalize atM ahead (j : Int) = p2 at *
      generalize atM ahead ((j : Int) - bpp) = p3 at *
      have C4 := hid (rforetell_any k p1 p2 p3 I1.out I2.out I3.out wr)
      have I4 := fore_isB k I1.out I2.out I3.out
      generalize foreM k p1 p2 p3 = f at *
      generalize row.getD j 0 = x at *
      have x0 : 0 ≤ x := hx0.1
      have x1 : x ≤ 255 := hx0.2
      have f0 : 0 ≤ f := I4.1
      have f1 : f ≤ 255 := I4.2
      obtain ⟨y, hy⟩ : ∃ y, y = (x + f) % 256 := ⟨_, rfl⟩
      have ex : (x + f).tmod 256 = y := by rw [Int.tmod_eq_emod_of_nonneg (by omega), hy]
      have y0 : 0 ≤ y := by omega
      have y1 : y ≤ 255 := by omega
      have eu : IntKind.u8.wrap y = y := by rw [IntKind.wrap_u8]; omega
      rw [← hy] at HX
      have Hy := hid hy
      clear hx0 I4 hy
      go_wp2_with (first
        | (go_at_call 128; first | ((with_reducible refine (C1.out).mono ?_); rintro e w5 ⟨rfl, rfl⟩) | ((with_reducible refine (C2.out).mono ?_); rintro e w5 ⟨rfl, rfl⟩) | ((with_reducible refine (C3.out).mono ?_); rintro e w5 ⟨rfl, rfl⟩))
        | (go_at_call 127; refine (C4.out).mono ?_; rintro e w5 ⟨rfl, rfl⟩)
        | (at_builtin; go_loud (refine wpList_app _ rfl _ _ _ rfl W.heap.size 5 i0 (.int .u8 0) 1 1 Try.underlying28 Hi0.out Hz0.out Hz1.out Hz2.out rfl (by omega) A1 j c1 (bytesV (unfN k bpp row ahead j)) rfl (O1.out.alloc _) _ _ 1 1 [.int .u8 y] rfl (rd_one _ _ _ _ (Blk.new _ _ _)) (by simp) (by simp [Value.oneCell']) (by simp only [maxLen]; omega) (by omega) (by simp; omega) ?_; intro A4 c4 w4 ha4; have Ha4 := hid ha4; clear ha4)))
      obtain ⟨o4, g4, b4, _⟩ := Ha4.out
      have o5 : w4.ownsRow W.heap.size 5 1 (.slice A4 (j + 1) c4) (j + 1) (bytesV (unfN k bpp row ahead (j + 1))) := by
        rw [HX.out, ← bytesV_append]
        exact o4
      have O5 := hid o5
      have B5 := hid (((B1.out).alloc B1.out.size (.cells #[.int .u8 y] 5)).trans b4)
      clear o4 g4 b4 o5
      go_roundw
      case rel => exact ⟨j + 1, A4, c4, by omega, rfl, by go_num, O5, B5⟩
      case measure => simp [intOf]; omega
    · obtain rfl : j = n := by omega
      go_wp2_with fail
      go_ret
      exact ⟨A1, c1, rfl, O1.out, B1.out⟩
def RunrEndB (size : Nat) (bpp : Int) (b : List Int) (count : Nat) (W : World) (e : Ending) (w' : World) : Prop :=
  Below W.heap.size W w' ∧ ((kindsOk size b count ∧ ∃ A c, e = .returned (.tuple #[.slice A (count * size) c, .int .i64 0]) ∧ w'.ownsRow W.heap.size 5 1 (.slice A (count * size) c) (count * size) (bytesV (unrO size bpp b count))) ∨
    (¬ kindsOk size b count ∧ e = .returned (.tuple #[.slice none 0 0, .int .i64 2])))
set_option maxRecDepth 100000 in
set_option maxHeartbeats 8000000 in
theorem runroll_any (size count : Nat) (bpp : Int) (A : Option Addr) (c n : Nat) (b : List Int) (W : World) (s1 : 1 ≤ size) (s2 : size ≤ 1000000) (k1 : 1 ≤ count) (k2 : count ≤ 1000000) (b1 : 1 ≤ bpp) (b8 : bpp ≤ 8)
    (hn : n = b.length) (hl : n = count * (1 + size)) (hm : n ≤ 10000000) (hc : n ≤ c) (hA : A = none → c = 0) (hr : Rd W W.heap.size 1 A n (bytesV b)) (okb : ∀ x ∈ b, isB x) :
    Calls Try.prog 49 #[.slice A n c, .int .i64 (size : Int), .int .i64 (count : Int), .int .i64 bpp] W (RunrEndB size bpp b count W) := by
  obtain ⟨i0, hi0, hz0, hz1, hz2⟩ := info_parts u8_info
  have Hi0 := hid hi0
  have Hz0 := hid hz0
  have Hz1 := hid hz1
  have Hz2 := hid hz2
  have Hr := hid hr
  have Hok := hid okb
  have Hn := hid hn
  have Hl := hid hl
  have HA := hid hA
  have Hc := hid hc
  have O0 := hid (World.ownsRow_nil W W.heap.size 5 1)
  clear hi0 hz0 hz1 hz2 hr okb hn hl hA hc
  go_enter Try.func49, Try.ntmps49
  go_upto_region 1 with (fail)
  go_cut [35] from 14 to 35 (fun v wq => v = .bool false ∧ W = wq)
  · skip
    go_wp2_with fail
    go_meet
    refine ⟨?_, rfl⟩
    have f1 : ¬ (size : Int) < 1 := by omega
    have f2 : ¬ (count : Int) < 1 := by omega
    have f3 : ¬ bpp < 1 := by omega
    have f4 : ¬ 8 < bpp := by omega
    have f5 : ¬ 1048576 < (size : Int) := by omega
    have f6 : ¬ 1048576 < (count : Int) := by omega
    rw [decide_eq_false f1, decide_eq_false f2, decide_eq_false f3, decide_eq_false f4, decide_eq_false f5, decide_eq_false f6]
    rfl
  obtain ⟨rfl, rfl⟩ := hcut
  go_upto_region 7 with (fail)
  go_loopw [10, 11, 12, 13] (fun v10 v11 v12 i wr => ∃ (j p m0 q1 c1 n2 c2 : Nat) (A1 A2 : Option Addr), j ≤ count ∧ i = .int .i64 (j : Int) ∧ v12 = .int .i64 (p : Int) ∧ v10 = .slice A1 q1 c1 ∧ v11 = .slice A2 n2 c2 ∧ m0 + p = n ∧ q1 ≤ p ∧
      Hid (p = j * (1 + size)) ∧ Hid (q1 = j * size) ∧ Hid (n2 = (unrR size bpp b j).length) ∧ 
      Hid (wr.ownsRow W.heap.size 5 1 (.slice A1 q1 c1) q1 (bytesV (unrO size bpp b j))) ∧ Hid (Rd wr wr.heap.size 1 A2 n2 (bytesV (unrR size bpp b j))) ∧ Hid (kindsOk size b j) ∧ Hid (Below W.heap.size W wr)) (fun _ _ _ i _ => count - (intOf i).toNat)
  case atStart => exact ⟨0, 0, n, 0, 0, 0, 0, none, none, by omega, rfl, rfl, rfl, rfl, by omega, by omega, hid (Nat.zero_mul _).symm, hid (Nat.zero_mul _).symm, hid rfl, O0, hid Rd.nil, hid (fun j hj => absurd hj (by omega)), hid (Below.refl _ _)⟩
  case round =>
    obtain ⟨j, p, m0, q1, c1, n2, c2, A1, A2, hj, rfl, rfl, rfl, rfl, hmp, hqp, HP, HQ, HN2, O1, R2, HK, B1⟩ := hrel
    by_cases hlt : j < count
    · have d2 : decide (j < count) = true := decide_eq_true hlt
      have hge : size + 1 ≤ m0 := by
        have h1 : (j + 1) * (1 + size) ≤ count * (1 + size) := Nat.mul_le_mul_right _ (by omega)
        rw [Nat.succ_mul, ← HP.out, ← Hl.out] at h1
        omega
      have d3 : decide ((n : Int) - (p : Int) < (size : Int) + 1) = false := decide_eq_false (by omega)
      have hpn : p < n := by omega
      have hr0 := Hr.out.below B1.out (Nat.le_refl _)
      obtain ⟨bb, off, hA, hbb, hcl⟩ := byte_at (l := b) (j := p) (by rw [← Hn.out]; exact hr0) (by rw [← Hn.out]; omega)
      have hkv : b.getD p 0 = kindAt size b j := by unfold kindAt; rw [← HP.out]
      rw [hkv] at hcl
      have hki : isB (kindAt size b j) := by
        have hpl : p < b.length := by rw [← Hn.out]; omega
        rw [← hkv, List.getD_eq_getElem?_getD, List.getElem?_eq_getElem hpl]
        exact Hok.out _ (List.getElem_mem hpl)
      have HKi := hid hki
      obtain ⟨A5, hs5, hr5, _⟩ := slcB_lh b ((p : Int) + 1) ((p : Int) + 1 + (size : Int)) (p + 1) (p + 1 + size) size (by omega) (by omega) rfl (by omega) Hc.out HA.out hr0
      have erow : (b.drop (p + 1)).take size = rowAt size b j := by unfold rowAt; rw [← HP.out]
      rw [erow] at hr5
      have hrl : (rowAt size b j).length = size := by rw [← erow, List.length_take, List.length_drop, ← Hn.out]; omega
      have HR5 := hid hr5
      have Hrl := hid hrl
      have Hhp := hid (show p + (1 + size) = (j + 1) * (1 + size) from by rw [Nat.succ_mul, ← HP.out])
      have Hhq := hid (show q1 + size = (j + 1) * size from by rw [Nat.succ_mul, ← HQ.out])
      have rok : ∀ x ∈ rowAt size b j, isB x := fun x hx => by unfold rowAt at hx; exact Hok.out x (List.mem_of_mem_drop (List.mem_of_mem_take hx))
      have Rok := hid rok
      have HO := hid (show unrO size bpp b (j + 1) = unrO size bpp b j ++ unfN (kindAt size b j) bpp (rowAt size b j) (unrR size bpp b j) size from rfl)
      have HR1 := hid (show unrR size bpp b (j + 1) = unfN (kindAt size b j) bpp (rowAt size b j) (unrR size bpp b j) size from rfl)
      have Rln := hid (unrR_len size bpp b j)
      have Rib := hid (unrR_isB size bpp b j)
      have HKs := hid (show ¬ kindAt size b j ≤ 4 → ¬ kindsOk size b count from fun h1 h2 => h1 (h2 j hlt))
      have HKt := hid (show kindAt size b j ≤ 4 → kindsOk size b (j + 1) from fun h1 i hi => by
        rcases Nat.lt_or_ge i j with h3 | h3
        · exact HK.out i h3
        · rw [show i = j by omega]; exact h1)
      subst hA
      clear hr0 hr5 hkv hrl rok erow hki HA Hr
      generalize kindAt size b j = kd at *
      have hk0 : 0 ≤ kd := HKi.out.1
      have hk1 : kd ≤ 255 := HKi.out.2
      have hsw := B1.out.size
      by_cases hk : kd ≤ 4
      · have d5 : decide (4 < kd) = false := decide_eq_false (by omega)
        have UA := hid (fun (w : World) (h1 : Rd w w.heap.size 1 A5 (rowAt size b j).length (bytesV (rowAt size b j))) (h2 : Rd w w.heap.size 1 A2 (unrR size bpp b j).length (bytesV (unrR size bpp b j))) =>
          runfilter_any kd bpp A5 A2 (c - (p + 1)) c2 n2 (rowAt size b j) (unrR size bpp b j) w b1 b8 HN2.out h1 h2 Rok.out Rib.out (by rw [Hrl.out]; omega))
        unfold RunfEnd at UA
        rw [Hrl.out] at UA
        have UC := hid (UA.out wr.drew ((HR5.out.below (Below.refl _ wr).drew (by show W.heap.size ≤ wr.heap.size; omega)).more (by show W.heap.size ≤ wr.heap.size; omega)) (by rw [← HN2.out]; exact R2.out.below (Below.refl _ wr).drew (Nat.le_refl _)))
        have hbw : bb < wr.heap.size := by omega
        go_upto_region 13 with (fail)
        refine free_lit (S := (Option Addr × Nat) × World) (fun i => i == 15)
          (fun x i => [.slice (some ⟨bb, off, none⟩) n c, .int .i64 (p : Int), .pointer (some ⟨bb, off + p, none⟩), .int .u8 kd, .int .i64 kd, .slice (some ⟨bb, off, none⟩) n c, .int .i64 (p : Int), .int .i64 ((p : Int) + 1), .int .i64 (p : Int), .int .i64 ((p : Int) + 1), .int .i64 (size : Int), .int .i64 ((p : Int) + 1 + (size : Int)), .slice A5 size (c - (p + 1)), .slice A2 n2 c2, .int .i64 bpp, .slice x.1.1 size x.1.2, .slice x.1.1 size x.1.2].getD i undef)
          (fun x => x.2) (fun k x => match k with | 0 => x = ((none, 0), wr.drew) | 1 => x.2.ownsRow wr.drew.heap.size 5 1 (.slice x.1.1 size x.1.2) size (bytesV (unfN kd bpp (rowAt size b j) (unrR size bpp b j) size)) ∧ Below wr.drew.heap.size wr.drew x.2 | _ => False)
          (fun i => if i ≤ 15 then 0 else 1) (fun i => 1) (fun i => (i == 13)) (fun i => (i == 16)) ?af ?ab 1 (((none, 0), wr.drew)) (by kernel_rfl) (by kernel_rfl) (by kernel_rfl) (by kernel_rfl) (by kernel_rfl) (by kernel_rfl) (by kernel_rfl) rfl rfl ?haf ?hab ?hy ?hQ
        case haf =>
          intro x
          simp only [actOf, dstAt, List.length_cons, List.length_nil, Nat.reduceAdd, List.getElem?_cons_zero, List.getElem?_cons_succ, Option.bind_some, if_true, List.getD_cons_zero, List.getD_cons_succ, Act.put, List.setIfInBounds_toArray, List.set_cons_zero, List.set_cons_succ]
          rfl
        case hab =>
          intro x
          simp only [actOf, dstAt, List.length_cons, List.length_nil, Nat.reduceAdd, List.getElem?_cons_zero, List.getElem?_cons_succ, Option.bind_some, Nat.reduceBEq, Bool.not_false, Bool.not_true, Bool.false_eq_true, if_false, if_true, List.getD_cons_zero, List.getD_cons_succ, Act.put, List.setIfInBounds_toArray, List.set_cons_zero, List.set_cons_succ]
          rfl
        case hy =>
          intro k x hR
          have hC : x.2.cell? ⟨bb, off + p, none⟩ = some (.int .u8 kd) := by
            match k, hR with
            | 0, h => rw [show x = ((none, 0), wr.drew) from h]; exact hcl
            | 1, h => exact (h.2.cell (p := ⟨bb, off + p, none⟩) (by show bb < wr.drew.heap.size; simp; omega)).trans hcl
          simp only [AllY]
          refine ⟨?_, ?_, ?_, ?_, ?_, ?_, ?_, ?_, ?_, ?_, ?_, ?_, ?_, ?_, ?_, ?_, ?_, trivial⟩
          case refine_16 =>
            intro hk
            obtain rfl : k = 0 := hk
            obtain rfl : x = ((none, 0), wr.drew) := hR
            refine .inr (.inr ⟨92, #[.int .i64 kd, .slice A5 size (c - (p + 1)), .slice A2 n2 c2, .int .i64 bpp], wr.drew, by simp [go_sem, Act.eval], ?_⟩)
            refine (UC.out).mono ?_
            rintro e w5 ⟨A6, c6, rfl, o6, hb6⟩
            exact ⟨_, rfl, ((A6, c6), w5), ⟨o6, hb6⟩, rfl, rfl, fun i hi hd hn => by
              have hd : (if i ≤ 15 then 0 else 1) ≤ 0 := hd
              dsimp only
              refine agree_upto 15 ?_ i (by split at hd <;> omega)
              rfl⟩
          case refine_3 => exact fun _ _ => .inl (by simp [execOp, go_sem, Act.eval]; omega)
          case refine_5 => exact fun _ _ => .inl (by simp [execOp, go_sem, Act.eval]; exact IntWalk.i64_in _ (by omega))
          case refine_8 => exact fun _ _ => .inl (by simp [execOp, go_sem, Act.eval]; exact IntWalk.i64_in _ (by omega))
          case refine_10 => exact fun _ _ => .inl (by simp [execOp, go_sem, Act.eval]; exact IntWalk.i64_in _ (by omega))
          case refine_12 => exact fun _ _ => .inl (by simp [execOp, go_sem, Act.eval]; exact IntWalk.i64_in _ (by omega))
          all_goals exact fun _ _ => .inl (by simp [execOp, go_sem, Act.eval, hC, hs5])
        case hQ =>
          intro x hR
          obtain ⟨⟨A6, c6⟩, w5⟩ := x
          obtain ⟨o6, hb6⟩ := hR
          have O6 := hid o6
          have HB6 := hid hb6
          have O15 := hid (own_below (own_below O1.out (Below.refl _ wr).drew (Nat.le_refl _)) HB6.out (Nat.le_refl _))
          have HF := hid (own_fresh_ne (own_below O1.out (Below.refl _ wr).drew (Nat.le_refl _)) O6.out)
          have BW5 := hid (B1.out.trans (((Below.refl wr.heap.size wr).drew.trans HB6.out).mono B1.out.size))
          have HN6 := hid (show A6 = none → size = 0 from fun e => rd_nil (own_rd O6.out) (by omega) e)
          clear o6 hb6 hcl hs5 HR5 UA UC R2 O1 B1
          have hsw5 := BW5.out.size
          show Exit.then _ _ .normal _ w5
          have Hq1 := hid (show q1 + size ≤ p + (1 + size) from by omega)
          obtain ⟨p2, hp2⟩ : ∃ p2, p2 = p + (1 + size) := ⟨_, rfl⟩
          have e1 : (p : Int) + 1 + (size : Int) = (p2 : Int) := by omega
          have Hp2 := hid hp2
          have hp3 : p2 ≤ 20000000 := by omega
          clear hp2
          go_wp2_with (at_builtin; go_loud (refine wpList_app _ rfl _ _ _ rfl W.heap.size 5 i0 (.int .u8 0) 1 1 Try.underlying28 Hi0.out Hz0.out Hz1.out Hz2.out rfl (by omega) A1 q1 c1 (bytesV (unrO size bpp b j)) rfl O15.out w5.heap.size A6 size c6 (bytesV (unfN kd bpp (rowAt size b j) (unrR size bpp b j) size)) rfl (own_rd O6.out) HN6.out bytesV_cells (by simp only [maxLen]; omega) (by omega) hsw5 ?_; intro A8 c8 w8 ha8; have Ha8 := hid ha8; clear ha8))
          obtain ⟨o8, g8, b8', _⟩ := Ha8.out
          have O8 := hid (show w8.ownsRow W.heap.size 5 1 (.slice A8 (q1 + size) c8) (q1 + size) (bytesV (unrO size bpp b (j + 1))) from by rw [HO.out, ← bytesV_append]; exact o8)
          have R8 := hid (show Rd w8 w8.heap.size 1 A6 size (bytesV (unrR size bpp b (j + 1))) from by rw [HR1.out]; exact own_rd (O6.out.kept g8 HF.out))
          have B8 := hid (BW5.out.trans b8')
          clear o8 g8 b8' Ha8 O6 O15 BW5 HF
          go_roundw
          case rel =>
            refine ⟨j + 1, p2, m0 - (1 + size), q1 + size, c8, size, c6, A8, A6, by omega, by go_num, by go_num, rfl, rfl, by have := Hp2.out; omega, by rw [Hp2.out]; exact Hq1.out, hid (by rw [Hp2.out]; exact Hhp.out), hid Hhq.out, hid (by rw [unrR_len]; simp), hid O8.out, hid R8.out, hid (HKt.out hk), hid B8.out⟩
          case measure => simp [intOf]; omega
      · have d5 : decide (4 < kd) = true := decide_eq_true (by omega)
        go_wp2_with fail
        go_ret2
        exact ⟨B1.out, .inr ⟨HKs.out hk, rfl⟩⟩
    · obtain rfl : j = count := by omega
      have hp0 : p = n := by rw [HP.out, Hl.out]
      obtain rfl : m0 = 0 := by omega
      go_wp2_with fail
      go_ret2
      refine ⟨B1.out, .inl ⟨HK.out, A1, c1, ?_, ?_⟩⟩
      · rw [← HQ.out]; rfl
      · rw [← HQ.out]; exact O1.out
end Go.Proofs.Ytphhoihhmphbdaa
