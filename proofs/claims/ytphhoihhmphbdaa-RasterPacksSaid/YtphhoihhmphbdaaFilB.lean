/-
  filter.Unfilter: a row unfiltered; filter.Unroll: rows of filtered ones.
-/
import Derived.Test.YtphhoihhmphbdaaFilA
import Derived.Test.YtphhoihhmphbdaaSlc
import Derived.Test.YtphhoihhmphbdaaReg
import Derived.RegionCalls
import Derived.RegionTactic
import Derived.Deep.CutBlock
namespace Go.Proofs.Ytphhoihhmphbdaa
open Go.RowKit

def UnfEnd (k bpp : Int) (row ahead : List Int) (W : World) (e : Ending) (w' : World) : Prop :=
  ∃ A c, e = .returned (.tuple #[.slice A row.length c, .nilIface]) ∧ w'.ownsRow W.heap.size 5 1 (.slice A row.length c) row.length (bytesV (unfN k bpp row ahead row.length)) ∧ Below W.heap.size W w'
set_option maxRecDepth 100000 in
set_option maxHeartbeats 4000000 in
theorem unfilter_any (k bpp : Int) (A AA : Option Addr) (c ca m : Nat) (row ahead : List Int) (W : World) (k0 : 0 ≤ k) (k4 : k ≤ 4) (b1 : 1 ≤ bpp) (b8 : bpp ≤ 8) (hma : m = ahead.length) (ha : ahead.length = 0 ∨ ahead.length = row.length)
    (hr : Rd W W.heap.size 1 A row.length (bytesV row)) (hra : Rd W W.heap.size 1 AA ahead.length (bytesV ahead)) (okr : ∀ x ∈ row, isB x) (oka : ∀ x ∈ ahead, isB x) (hm : row.length ≤ 10000000) :
    Calls Try.prog 82 #[.int .i64 k, .slice A row.length c, .slice AA m ca, .int .i64 bpp] W (UnfEnd k bpp row ahead W) := by
  obtain ⟨i0, hi0, hz0, hz1, hz2⟩ := info_parts u8_info
  have Hi0 := hid hi0
  have Hz0 := hid hz0
  have Hz1 := hid hz1
  have Hz2 := hid hz2
  have Hr := hid hr
  have Hra := hid hra
  have Okr := hid okr
  have Oka := hid oka
  have Hma := hid hma
  have CK := hid (fck_any k bpp A AA c ca row.length m k0 k4 b1 b8 (by omega))
  obtain ⟨n, hn⟩ : ∃ n, n = row.length := ⟨_, rfl⟩
  have Hn := hid hn
  unfold UnfEnd
  rw [← hn] at CK hm ⊢
  have hmk := room_bytes n (by omega)
  have RO := hid (room_own W n (by omega))
  have B0 := hid ((Below.refl W.heap.size W).alloc (Nat.le_refl _) (.cells (bytesV (List.replicate n 0)).toArray 5))
  clear hi0 hz0 hz1 hz2 hr hra okr oka hma hn ha k0 k4
  go_enter Try.func82, Try.ntmps82
  go_wp2_with fail
  refine (CK.out _).mono ?_
  rintro e w1 ⟨rfl, rfl⟩
  go_upto_region 5 with (fail)
  obtain ⟨w0, hw0⟩ : ∃ w0, w0 = W.alloc (.cells (bytesV (List.replicate n 0)).toArray 5) := ⟨_, rfl⟩
  rw [← hw0] at RO B0 ⊢
  clear hw0 hmk
  obtain ⟨A0, hA0, RO2⟩ : ∃ A0, A0 = some (⟨W.heap.size, 0, none⟩ : Addr) ∧ Hid (w0.ownsRow W.heap.size 5 1 (.slice A0 0 n) 0 []) := ⟨_, rfl, RO⟩
  rw [← hA0]
  clear hA0 RO
  have hwh := B0.out.size
  have Hwh := hid hwh
  clear hwh
  go_upto_region 6 with (fail)
  go_loopw [11, 27] (fun v i wr => ∃ (j : Nat) (A1 : Option Addr) (c1 : Nat), j ≤ n ∧ v = .slice A1 j c1 ∧ i = .int .i64 (j : Int) ∧ Hid (wr.ownsRow W.heap.size 5 1 (.slice A1 j c1) j (bytesV (unfN k bpp row ahead j))) ∧ Hid (Below W.heap.size W wr)) (fun _ i _ => n - (intOf i).toNat)
  case atStart => exact ⟨0, A0, n, by omega, rfl, rfl, RO2, B0⟩
  case round =>
    obtain ⟨j, A1, c1, hj, rfl, rfl, O1, B1⟩ := hrel
    by_cases hlt : j < n
    · have d2 : decide (j < n) = true := decide_eq_true hlt
      obtain ⟨b, off, hA, hbb, hcl⟩ := byte_at (Hr.out.below B1.out (Nat.le_refl _)) (j := j) (by rw [← Hn.out]; exact hlt)
      subst hA
      have hsw := B1.out.size
      have e1 : wrap64 ((j : Int) - bpp) = (j : Int) - bpp := by unfold wrap64; omega
      have C1 := hid (fat_any A1 c1 j (unfN k bpp row ahead j) ((j : Int) - bpp) wr wr.heap.size (unfN_len k bpp row ahead j).symm (by rw [unfN_len]; exact own_rd O1.out))
      have C2 := hid (fat_any AA ca m ahead (j : Int) wr W.heap.size Hma.out (Hra.out.below B1.out (Nat.le_refl _)))
      have C3 := hid (fat_any AA ca m ahead ((j : Int) - bpp) wr W.heap.size Hma.out (Hra.out.below B1.out (Nat.le_refl _)))
      have I1 := hid (atM_isB (unfN_isB k bpp row ahead j) ((j : Int) - bpp))
      have I2 := hid (atM_isB Oka.out (j : Int))
      have I3 := hid (atM_isB Oka.out ((j : Int) - bpp))
      have HX := hid (show unfN k bpp row ahead (j + 1) = unfN k bpp row ahead j ++ [(row.getD j 0 + foreM k (atM (unfN k bpp row ahead j) ((j : Int) - bpp)) (atM ahead (j : Int)) (atM ahead ((j : Int) - bpp))) % 256] from rfl)
      have hx0 : isB (row.getD j 0) := by
        have hl : j < row.length := by rw [← Hn.out]; exact hlt
        rw [List.getD_eq_getElem?_getD, List.getElem?_eq_getElem hl]
        exact Okr.out _ (List.getElem_mem hl)
      generalize atM (unfN k bpp row ahead j) ((j : Int) - bpp) = p1 at *
      generalize atM ahead (j : Int) = p2 at *
      generalize atM ahead ((j : Int) - bpp) = p3 at *
      have C4 := hid (foretell_any k p1 p2 p3 I1.out I2.out I3.out wr)
      have I4 := hid (fore_isB k I1.out I2.out I3.out)
      generalize foreM k p1 p2 p3 = f at *
      generalize row.getD j 0 = x at *
      have HX0 := hid hx0
      have ex : IntKind.u8.wrap (x + f) = (x + f) % 256 := by rw [IntKind.wrap_u8]
      clear hx0
      go_wp2_with (first
        | (go_at_call 119; first | ((with_reducible refine (C1.out).mono ?_); rintro e w5 ⟨rfl, rfl⟩) | ((with_reducible refine (C2.out).mono ?_); rintro e w5 ⟨rfl, rfl⟩) | ((with_reducible refine (C3.out).mono ?_); rintro e w5 ⟨rfl, rfl⟩))
        | (go_at_call 118; refine (C4.out).mono ?_; rintro e w5 ⟨rfl, rfl⟩)
        | (at_builtin; go_loud (refine wpList_app _ rfl _ _ _ rfl W.heap.size 5 i0 (.int .u8 0) 1 1 Try.underlying28 Hi0.out Hz0.out Hz1.out Hz2.out rfl (by omega) A1 j c1 (bytesV (unfN k bpp row ahead j)) rfl (O1.out.alloc _) _ _ 1 1 [.int .u8 ((x + f) % 256)] rfl (rd_one _ _ _ _ (Blk.new _ _ _)) (by simp) (by simp [Value.oneCell']) (by simp only [maxLen]; omega) (by omega) (by simp; omega) ?_; intro A4 c4 w4 ha4; have Ha4 := hid ha4; clear ha4)))
      obtain ⟨o4, g4, b4, _⟩ := Ha4.out
      have o5 : w4.ownsRow W.heap.size 5 1 (.slice A4 (j + 1) c4) (j + 1) (bytesV (unfN k bpp row ahead (j + 1))) := by
        rw [HX.out, ← bytesV_append]
        exact o4
      have O5 := hid o5
      have B5 := hid (((B1.out).alloc B1.out.size (.cells #[.int .u8 ((x + f) % 256)] 5)).trans b4)
      clear o4 g4 b4 o5
      go_roundw
      case rel => exact ⟨j + 1, A4, c4, by omega, rfl, by go_num, O5, B5⟩
      case measure => simp [intOf]; omega
    · obtain rfl : j = n := by omega
      go_wp2_with fail
      go_ret2
      exact ⟨A1, c1, rfl, O1.out, B1.out⟩
/-- what stands ahead of a row, and the row -/
def kindAt (size : Nat) (b : List Int) (j : Nat) : Int := b.getD (j * (1 + size)) 0
def rowAt (size : Nat) (b : List Int) (j : Nat) : List Int := (b.drop (j * (1 + size) + 1)).take size
/-- the row ahead of row j, unfiltered -/
def unrR (size : Nat) (bpp : Int) (b : List Int) : Nat → List Int
  | 0 => []
  | j + 1 => unfN (kindAt size b j) bpp (rowAt size b j) (unrR size bpp b j) size
/-- so many rows unfiltered -/
def unrO (size : Nat) (bpp : Int) (b : List Int) : Nat → List Int
  | 0 => []
  | j + 1 => unrO size bpp b j ++ unrR size bpp b (j + 1)
theorem unrR_len (size : Nat) (bpp : Int) (b : List Int) : ∀ j, (unrR size bpp b j).length = if j = 0 then 0 else size
  | 0 => rfl
  | j + 1 => by rw [unrR, unfN_len, if_neg (by omega)]
theorem unrO_len (size : Nat) (bpp : Int) (b : List Int) : ∀ j, (unrO size bpp b j).length = j * size
  | 0 => by rw [Nat.zero_mul]; rfl
  | j + 1 => by rw [unrO, List.length_append, unrO_len size bpp b j, unrR_len, if_neg (by omega), Nat.succ_mul]
theorem unrR_isB (size : Nat) (bpp : Int) (b : List Int) : ∀ j, ∀ x ∈ unrR size bpp b j, isB x
  | 0, x, hx => by cases hx
  | j + 1, x, hx => unfN_isB _ _ _ _ _ x hx
theorem unrO_isB (size : Nat) (bpp : Int) (b : List Int) : ∀ j, ∀ x ∈ unrO size bpp b j, isB x
  | 0, x, hx => by cases hx
  | j + 1, x, hx => by
    rw [unrO] at hx
    rcases List.mem_append.1 hx with hx | hx
    · exact unrO_isB size bpp b j x hx
    · exact unrR_isB size bpp b _ x hx
def kindsOk (size : Nat) (b : List Int) (count : Nat) : Prop := ∀ j, j < count → kindAt size b j ≤ 4
def UnrEndB (size : Nat) (bpp : Int) (b : List Int) (count : Nat) (W : World) (e : Ending) (w' : World) : Prop :=
  Below W.heap.size W w' ∧ ((kindsOk size b count ∧ ∃ A c, e = .returned (.tuple #[.slice A (count * size) c, .nilIface]) ∧ w'.ownsRow W.heap.size 5 1 (.slice A (count * size) c) (count * size) (bytesV (unrO size bpp b count))) ∨
    (¬ kindsOk size b count ∧ e = .returned (.tuple #[.slice none 0 0, .iface 42 (.int .i64 2)])))
theorem wrap_one (n : Nat) (h : n ≤ 100000000) : IntKind.i64.wrap (1 + (n : Int)) = 1 + (n : Int) ∧ wrap64 (1 + (n : Int)) = 1 + (n : Int) := ⟨IntWalk.i64_in _ (by omega), by unfold wrap64; omega⟩
theorem wrap_two (k : Int) (h : 0 ≤ k) (h2 : k ≤ 255) : IntKind.i64.wrap k = k ∧ wrap64 k = k := ⟨IntWalk.i64_in _ (by omega), by unfold wrap64; omega⟩
set_option maxRecDepth 100000 in
set_option maxHeartbeats 8000000 in
theorem unroll_any (size count : Nat) (bpp : Int) (A : Option Addr) (c n : Nat) (b : List Int) (W : World) (s1 : 1 ≤ size) (s2 : size ≤ 1000000) (k1 : 1 ≤ count) (k2 : count ≤ 1000000) (b1 : 1 ≤ bpp) (b8 : bpp ≤ 8)
    (hn : n = b.length) (hl : n = count * (1 + size)) (hm : n ≤ 10000000) (hc : n ≤ c) (hA : A = none → c = 0) (hr : Rd W W.heap.size 1 A n (bytesV b)) (okb : ∀ x ∈ b, isB x) :
    Calls Try.prog 34 #[.slice A n c, .int .i64 (size : Int), .int .i64 (count : Int), .int .i64 bpp] W (UnrEndB size bpp b count W) := by
  obtain ⟨i0, hi0, hz0, hz1, hz2⟩ := info_parts u8_info
  have Hi0 := hid hi0
  have Hz0 := hid hz0
  have Hz1 := hid hz1
  have Hz2 := hid hz2
  have Hr := hid hr
  have Hok := hid okb
  have Hn := hid hn
  have Hl := hid hl
  have HA := hid hA
  have Hc := hid hc
  have O0 := hid (World.ownsRow_nil W W.heap.size 5 1)
  clear hi0 hz0 hz1 hz2 hr okb hn hl hA hc
  go_enter Try.func34, Try.ntmps34
  go_upto_region 1 with (fail)
  go_cut [35] from 14 to 35 (fun v wq => v = .bool false ∧ W = wq)
  · skip
    go_wp2_with fail
    go_meet
    refine ⟨?_, rfl⟩
    have f1 : ¬ (size : Int) < 1 := by omega
    have f2 : ¬ (count : Int) < 1 := by omega
    have f3 : ¬ bpp < 1 := by omega
    have f4 : ¬ 8 < bpp := by omega
    have f5 : ¬ 1048576 < (size : Int) := by omega
    have f6 : ¬ 1048576 < (count : Int) := by omega
    rw [decide_eq_false f1, decide_eq_false f2, decide_eq_false f3, decide_eq_false f4, decide_eq_false f5, decide_eq_false f6]
    rfl
  obtain ⟨rfl, rfl⟩ := hcut
  go_upto_region 5 with (fail)
  go_loopw [0, 10, 11, 38] (fun v0 v10 v11 i wr => ∃ (j p m0 c0 q1 c1 n2 c2 : Nat) (A0 A1 A2 : Option Addr), j ≤ count ∧ i = .int .i64 (j : Int) ∧ v0 = .slice A0 m0 c0 ∧ v10 = .slice A1 q1 c1 ∧ v11 = .slice A2 n2 c2 ∧ m0 + p = n ∧ q1 ≤ p ∧
      Hid (p = j * (1 + size)) ∧ Hid (q1 = j * size) ∧ Hid (n2 = (unrR size bpp b j).length) ∧ Hid (m0 ≤ c0 ∧ (A0 = none → c0 = 0) ∧ Rd wr W.heap.size 1 A0 m0 (bytesV (b.drop p))) ∧
      Hid (wr.ownsRow W.heap.size 5 1 (.slice A1 q1 c1) q1 (bytesV (unrO size bpp b j))) ∧ Hid (Rd wr wr.heap.size 1 A2 n2 (bytesV (unrR size bpp b j))) ∧ Hid (kindsOk size b j) ∧ Hid (Below W.heap.size W wr)) (fun _ _ _ i _ => count - (intOf i).toNat)
  case atStart => exact ⟨0, 0, n, c, 0, 0, 0, 0, A, none, none, by omega, rfl, rfl, rfl, rfl, rfl, by omega, hid (Nat.zero_mul _).symm, hid (Nat.zero_mul _).symm, hid rfl, hid ⟨Hc.out, HA.out, Hr.out⟩, O0, hid Rd.nil, hid (fun j hj => absurd hj (by omega)), hid (Below.refl _ _)⟩
  case round =>
    obtain ⟨j, p, m0, c0, q1, c1, n2, c2, A0, A1, A2, hj, rfl, rfl, rfl, rfl, hmp, hqp, HP, HQ, HN2, HB0, O1, R2, HK, B1⟩ := hrel
    by_cases hlt : j < count
    · have d2 : decide (j < count) = true := decide_eq_true hlt
      have hge : size + 1 ≤ m0 := by
        have h1 : (j + 1) * (1 + size) ≤ count * (1 + size) := Nat.mul_le_mul_right _ (by omega)
        rw [Nat.succ_mul, ← HP.out, ← Hl.out] at h1
        omega
      have d3 : decide ((m0 : Int) ≤ (size : Int)) = false := decide_eq_false (by omega)
      have d4 : decide (m0 ≤ size) = false := decide_eq_false (by omega)
      obtain ⟨hmc, hA0, hr0⟩ := HB0.out
      have hdl : (b.drop p).length = m0 := by rw [List.length_drop, ← Hn.out]; omega
      obtain ⟨bb, off, hA, hbb, hcl⟩ := byte_at (l := b.drop p) (j := 0) (by rw [hdl]; exact hr0) (by omega)
      rw [Nat.add_zero] at hcl
      have hkv : (b.drop p).getD 0 0 = kindAt size b j := by unfold kindAt; rw [← HP.out, List.getD_eq_getElem?_getD, List.getElem?_drop, List.getD_eq_getElem?_getD]; rfl
      rw [hkv] at hcl
      have hki : isB (kindAt size b j) := by
        rw [← hkv, List.getD_eq_getElem?_getD, List.getElem?_eq_getElem (by omega)]
        exact Hok.out _ (List.mem_of_mem_drop (List.getElem_mem _))
      have HKi := hid hki
      obtain ⟨A5, hs5, hr5, _⟩ := slcB_lh (b.drop p) 1 (1 + (size : Int)) 1 (1 + size) size rfl (by omega) rfl (by omega) hmc hA0 hr0
      obtain ⟨A7, hs7, hr7, hA7⟩ := slcB_l (b.drop p) (1 + (size : Int)) (1 + size) (m0 - (1 + size)) (by omega) hdl (by omega) hmc hA0 hr0
      have erow : ((b.drop p).drop 1).take size = rowAt size b j := by unfold rowAt; rw [List.drop_drop, ← HP.out]
      rw [erow] at hr5
      rw [List.drop_drop] at hr7
      have hrl : (rowAt size b j).length = size := by rw [← erow, List.length_take, List.length_drop, hdl]; omega
      have HR5 := hid hr5
      have HR7 := hid hr7
      have HC7 := hid (show m0 - (1 + size) ≤ c0 - (1 + size) from by omega)
      have HA7 := hid hA7
      have Hrl := hid hrl
      have Hhp := hid (show p + (1 + size) = (j + 1) * (1 + size) from by rw [Nat.succ_mul, ← HP.out])
      have Hhq := hid (show q1 + size = (j + 1) * size from by rw [Nat.succ_mul, ← HQ.out])
      have rok : ∀ x ∈ rowAt size b j, isB x := fun x hx => by unfold rowAt at hx; exact Hok.out x (List.mem_of_mem_drop (List.mem_of_mem_take hx))
      have Rok := hid rok
      have HO := hid (show unrO size bpp b (j + 1) = unrO size bpp b j ++ unfN (kindAt size b j) bpp (rowAt size b j) (unrR size bpp b j) size from rfl)
      have HR1 := hid (show unrR size bpp b (j + 1) = unfN (kindAt size b j) bpp (rowAt size b j) (unrR size bpp b j) size from rfl)
      have Rln := hid (unrR_len size bpp b j)
      have Rib := hid (unrR_isB size bpp b j)
      have HKs := hid (show ¬ kindAt size b j ≤ 4 → ¬ kindsOk size b count from fun h1 h2 => h1 (h2 j hlt))
      have HKt := hid (show kindAt size b j ≤ 4 → kindsOk size b (j + 1) from fun h1 i hi => by
        rcases Nat.lt_or_ge i j with h3 | h3
        · exact HK.out i h3
        · rw [show i = j by omega]; exact h1)
      subst hA
      clear hr0 hr5 hr7 hkv hrl rok erow hdl hA0 hA7 hki HB0
      generalize kindAt size b j = kd at *
      have hk0 : 0 ≤ kd := HKi.out.1
      have hk1 : kd ≤ 255 := HKi.out.2
      have hsw := B1.out.size
      by_cases hk : kd ≤ 4
      · have d5 : decide (4 < kd) = false := decide_eq_false (by omega)
        have UA := hid (fun (w : World) (h1 : Rd w w.heap.size 1 A5 (rowAt size b j).length (bytesV (rowAt size b j))) (h2 : Rd w w.heap.size 1 A2 (unrR size bpp b j).length (bytesV (unrR size bpp b j))) =>
          unfilter_any kd bpp A5 A2 (c0 - 1) c2 n2 (rowAt size b j) (unrR size bpp b j) w hk0 hk b1 b8 HN2.out (by rw [Rln.out, Hrl.out]; by_cases h : j = 0 <;> simp [h]) h1 h2 Rok.out Rib.out (by rw [Hrl.out]; omega))
        unfold UnfEnd at UA
        rw [Hrl.out] at UA
        have UC := hid (UA.out wr.drew ((HR5.out.below (Below.refl _ wr).drew (Nat.le_refl _)).more (by simp; omega)) (by rw [← HN2.out]; exact R2.out.below (Below.refl _ wr).drew (Nat.le_refl _)))
        have hbw : bb < wr.heap.size := by omega
        go_upto_region 10 with (fail)
        refine free_lit (S := (Option Addr × Nat) × World) (fun i => i == 10)
          (fun x i => [.slice (some ⟨bb, off, none⟩) m0 c0, .pointer (some ⟨bb, off, none⟩), .int .u8 kd, .int .i64 kd, .slice (some ⟨bb, off, none⟩) m0 c0, .int .i64 (size : Int), .int .i64 (1 + (size : Int)), .slice A5 size (c0 - 1), .slice A2 n2 c2, .int .i64 bpp, .tuple #[.slice x.1.1 size x.1.2, .nilIface], .tuple #[.slice x.1.1 size x.1.2, .nilIface], .slice x.1.1 size x.1.2, .nilIface, .slice x.1.1 size x.1.2, .nilIface].getD i undef)
          (fun x => x.2) (fun k x => match k with | 0 => x = ((none, 0), wr.drew) | 1 => x.2.ownsRow wr.drew.heap.size 5 1 (.slice x.1.1 size x.1.2) size (bytesV (unfN kd bpp (rowAt size b j) (unrR size bpp b j) size)) ∧ Below wr.drew.heap.size wr.drew x.2 | _ => False)
          (fun i => if i ≤ 10 then 0 else 1) (fun i => 1) (fun _ => false) (fun _ => false) ?af ?ab 1 (((none, 0), wr.drew)) (by kernel_rfl) (by kernel_rfl) (by kernel_rfl) (by kernel_rfl) (by kernel_rfl) (by kernel_rfl) (by kernel_rfl) rfl rfl ?haf ?hab ?hy ?hQ
        case haf =>
          intro x
          simp only [actOf, dstAt, List.length_cons, List.length_nil, Nat.reduceAdd, List.getElem?_cons_zero, List.getElem?_cons_succ, Option.bind_some, if_true, List.getD_cons_zero, List.getD_cons_succ, Act.put, List.setIfInBounds_toArray, List.set_cons_zero, List.set_cons_succ]
          rfl
        case hab =>
          intro x
          simp only [actOf, dstAt, List.length_cons, List.length_nil, Nat.reduceAdd, List.getElem?_cons_zero, List.getElem?_cons_succ, Option.bind_some, Bool.not_false, if_true, List.getD_cons_zero, List.getD_cons_succ, Act.put, List.setIfInBounds_toArray, List.set_cons_zero, List.set_cons_succ]
          rfl
        case hy =>
          intro k x hR
          have hC : x.2.cell? ⟨bb, off, none⟩ = some (.int .u8 kd) := by
            match k, hR with
            | 0, h => rw [show x = ((none, 0), wr.drew) from h]; exact hcl
            | 1, h => exact (h.2.cell (p := ⟨bb, off, none⟩) (by show bb < wr.drew.heap.size; simp; omega)).trans hcl
          simp only [AllY]
          refine ⟨?_, ?_, ?_, ?_, ?_, ?_, ?_, ?_, ?_, ?_, ?_, ?_, ?_, ?_, ?_, ?_, trivial⟩
          case refine_11 =>
            intro hk
            obtain rfl : k = 0 := hk
            obtain rfl : x = ((none, 0), wr.drew) := hR
            refine .inr (.inr ⟨82, #[.int .i64 kd, .slice A5 size (c0 - 1), .slice A2 n2 c2, .int .i64 bpp], wr.drew, by simp [go_sem, Act.eval], ?_⟩)
            refine (UC.out).mono ?_
            rintro e w5 ⟨A6, c6, rfl, o6, hb6⟩
            exact ⟨_, rfl, ((A6, c6), w5), ⟨o6, hb6⟩, rfl, rfl, fun i hi hd hn => by
              have hd : (if i ≤ 10 then 0 else 1) ≤ 0 := hd
              dsimp only
              refine agree_upto 10 ?_ i (by split at hd <;> omega)
              rfl⟩
          case refine_2 => exact fun _ _ => .inl (by simp [execOp, go_sem, Act.eval]; omega)
          case refine_4 => exact fun _ _ => .inl (by simp [execOp, go_sem, Act.eval]; exact IntWalk.i64_in _ (by omega))
          case refine_7 => exact fun _ _ => .inl (by simp [execOp, go_sem, Act.eval]; exact IntWalk.i64_in _ (by omega))
          all_goals exact fun _ _ => .inl (by simp [execOp, go_sem, Act.eval, hC, hs5])
        case hQ =>
          intro x hR
          obtain ⟨⟨A6, c6⟩, w5⟩ := x
          obtain ⟨o6, hb6⟩ := hR
          have O6 := hid o6
          have HB6 := hid hb6
          have HR75 := hid ((Rd.drew HR7.out).below HB6.out (by show W.heap.size ≤ wr.heap.size; omega))
          have O15 := hid (own_below (own_below O1.out (Below.refl _ wr).drew (Nat.le_refl _)) HB6.out (Nat.le_refl _))
          have HF := hid (own_fresh_ne (own_below O1.out (Below.refl _ wr).drew (Nat.le_refl _)) O6.out)
          have BW5 := hid (B1.out.trans (((Below.refl wr.heap.size wr).drew.trans HB6.out).mono B1.out.size))
          have HN6 := hid (show A6 = none → size = 0 from fun e => rd_nil (own_rd O6.out) (by omega) e)
          clear o6 hb6 hcl hs5 HR5 HR7 UA UC R2 O1 B1
          have hsw5 := BW5.out.size
          show Exit.then _ _ .normal _ w5
          have Hq1 := hid (show q1 + size ≤ p + (1 + size) from by omega)
          go_upto_region 14 with (at_builtin; go_loud (refine wpList_app _ rfl _ _ _ rfl W.heap.size 5 i0 (.int .u8 0) 1 1 Try.underlying28 Hi0.out Hz0.out Hz1.out Hz2.out rfl (by omega) A1 q1 c1 (bytesV (unrO size bpp b j)) rfl O15.out w5.heap.size A6 size c6 (bytesV (unfN kd bpp (rowAt size b j) (unrR size bpp b j) size)) rfl (own_rd O6.out) HN6.out bytesV_cells (by simp only [maxLen]; omega) (by omega) hsw5 ?_; intro A8 c8 w8 ha8; have Ha8 := hid ha8; clear ha8))
          obtain ⟨o8, g8, b8', _⟩ := Ha8.out
          have O8 := hid (show w8.ownsRow W.heap.size 5 1 (.slice A8 (q1 + size) c8) (q1 + size) (bytesV (unrO size bpp b (j + 1))) from by rw [HO.out, ← bytesV_append]; exact o8)
          have R8 := hid (show Rd w8 w8.heap.size 1 A6 size (bytesV (unrR size bpp b (j + 1))) from by rw [HR1.out]; exact own_rd (O6.out.kept g8 HF.out))
          have R9 := hid (HR75.out.below b8' (Nat.le_refl _))
          have B8 := hid (BW5.out.trans b8')
          clear o8 g8 b8' Ha8 O6 O15 HR75 BW5 HF
          go_quiet (fail)
          go_wp2
          go_roundw
          case rel =>
            refine ⟨j + 1, p + (1 + size), m0 - (1 + size), c0 - (1 + size), q1 + size, c8, size, c6, A7, A8, A6, by omega, by go_num, rfl, rfl, rfl, by omega, Hq1.out, hid Hhp.out, hid Hhq.out, hid (by rw [unrR_len]; simp), hid ⟨HC7.out, HA7.out, R9.out⟩, hid O8.out, hid R8.out, hid (HKt.out hk), hid (below_drewN B8.out nq)⟩
          case measure => simp [intOf]; omega
      · have d5 : decide (4 < kd) = true := decide_eq_true (by omega)
        go_wp2_with fail
        go_ret2
        exact ⟨B1.out, .inr ⟨HKs.out hk, rfl⟩⟩
    · obtain rfl : j = count := by omega
      have hp0 : p = n := by rw [HP.out, Hl.out]
      obtain rfl : m0 = 0 := by omega
      go_wp2_with fail
      go_ret2
      refine ⟨B1.out, .inl ⟨HK.out, A1, c1, ?_, ?_⟩⟩
      · rw [← HQ.out]; rfl
      · rw [← HQ.out]; exact O1.out
end Go.Proofs.Ytphhoihhmphbdaa
