/-
  sample.Pack: numbers as a row of bytes.
  filter.Filter: a row filtered; its weight; the lightest kind; filter.Roll: rows filtered.
-/
import Derived.Test.YtphhoihhmphbdaaWtr
import Derived.Test.YtphhoihhmphbdaaSamA
import Derived.Test.YtphhoihhmphbdaaFilB
namespace Go.Proofs.Ytphhoihhmphbdaa
open Go.RowKit
attribute [local go_sem] Oper.semAt_some

/-- numbers' bits, the highest first -/
def nbH (l : List Int) (d : Nat) : List Int := l.flatMap fun n => dgS true n d
/-- noughts up to a whole byte -/
def padZ (L : List Int) : List Int := L ++ List.replicate ((8 - L.length % 8) % 8) 0
def packB (l : List Int) (d : Nat) : List Int := pkS true (padZ (nbH l d))
theorem nbH_len (l : List Int) (d : Nat) : (nbH l d).length = l.length * d := by
  unfold nbH
  induction l with
  | nil => simp
  | cons x l ih => rw [List.flatMap_cons, List.length_append, dgS_len, ih, List.length_cons, Nat.succ_mul, Nat.add_comm]
theorem padZ_len (L : List Int) : (padZ L).length % 8 = 0 ∧ (padZ L).length = L.length + (8 - L.length % 8) % 8 := by
  unfold padZ
  rw [List.length_append, List.length_replicate]
  exact ⟨by omega, rfl⟩
theorem fillS_whole (s : Bool) (L : List Int) (h : L.length % 8 = 0) : fillS s L = L := by
  unfold fillS
  rw [h]
  rfl
theorem nbH_take (l : List Int) (d i : Nat) (h : i < l.length) : nbH (l.take (i + 1)) d = nbH (l.take i) d ++ dgS true l[i] d := by
  unfold nbH
  rw [take_one h, List.flatMap_append]
  simp
def SpkEnd (l : List Int) (d : Nat) (W : World) (e : Ending) (w' : World) : Prop :=
  ∃ A c, e = .returned (.tuple #[.slice A (packB l d).length c, .nilIface]) ∧ w'.ownsRow W.heap.size 5 1 (.slice A (packB l d).length c) (packB l d).length (bytesV (packB l d)) ∧ Below W.heap.size W w'
theorem zeros_take (L : List Int) (j : Nat) : L ++ List.replicate (j + 1) (0 : Int) = (L ++ List.replicate j 0) ++ dgS true 0 1 := by
  rw [List.replicate_succ', List.append_assoc]
  rfl
set_option maxRecDepth 100000 in
set_option maxHeartbeats 8000000 in
theorem spack_any (A : Option Addr) (c : Nat) (l : List Int) (d : Nat) (W : World) (hd : deepOk (d : Int)) (hr : RdI W W.heap.size A l) (hl : ∀ x ∈ l, 0 ≤ x ∧ x < 2 ^ d) (hm : l.length ≤ 1000000) :
    Calls Try.prog 54 #[.slice A l.length c, .int .i64 (d : Int)] W (SpkEnd l d W) := by
  have hd16 : 1 ≤ d ∧ d ≤ 16 := by unfold deepOk at hd; omega
  have Hr := hid hr
  have Hl := hid hl
  have NL := hid (fun i => nbH_len (l.take i) d)
  have hmd : min d 64 = d := by omega
  have HD := hid (show deepB (d : Int) = true from decide_eq_true hd)
  obtain ⟨N, hN⟩ : ∃ N, N = l.length := ⟨_, rfl⟩
  have HN := hid hN
  rw [← hN] at hm ⊢
  clear hr hl hd hN
  go_enter Try.func54, Try.ntmps54
  go_upto_region 1 with (fail)
  go_cut [18] from 11 to 18 (fun v wq => v = .bool false ∧ Hid (Below W.heap.size W wq))
  case first =>
    go_wp2_with (go_at_call 84; refine (deep_any (d : Int) W).mono ?_; rintro e w5 ⟨rfl, hb5⟩; have HB5 := hid hb5; clear hb5; rw [HD.out])
    go_meet
    exact ⟨by rw [decide_eq_false (show ¬ 1048576 < (N : Int) by omega)], HB5⟩
  case rest =>
    obtain ⟨rfl, B1⟩ := hcut
    go_wp2_with fail
    refine (newW_any true wc).mono ?_
    rintro e w2 ⟨rfl, hW2, hb2⟩
    obtain ⟨gw, hgw⟩ : ∃ g, g = wc.heap.size := ⟨_, rfl⟩
    rw [← hgw] at hW2 ⊢
    have W2 := hid hW2
    have B2 := hid (B1.out.trans (hb2.mono B1.out.size))
    have BB := hid (show Below gw w2 w2 from Below.refl _ _)
    have hgb : W.heap.size ≤ gw := by rw [hgw]; exact B1.out.size
    have hgl2 : gw ≤ w2.heap.size := by rw [hgw]; exact hb2.size
    clear hW2 hb2 B1 hgw
    go_upto_region 5 with (fail)
    go_loopw [23] (fun i wr => ∃ (j : Nat) (A1 : Option Addr) (c1 : Nat), j ≤ N ∧ i = .int .i64 (j : Int) ∧ Hid (WrS wr gw true A1 c1 gw (nbH (l.take j) d)) ∧ Hid (Below gw w2 wr)) (fun i _ => N - (intOf i).toNat)
    case atStart => exact ⟨0, none, 0, by omega, rfl, hid (by rw [List.take_zero]; exact W2.out), BB⟩
    case round =>
      obtain ⟨j, A1, c1, hj, rfl, M, T⟩ := hrel
      have hwl : gw ≤ wr.heap.size := Nat.le_trans hgl2 T.out.size
      have BW := hid (B2.out.trans (T.out.mono hgb))
      by_cases hlt : j < N
      · have d2 : decide (j < N) = true := decide_eq_true hlt
        obtain ⟨b, off, hA, hbb, hcl⟩ := int_at (Hr.out.below BW.out (Nat.le_refl _)) (show j < l.length by rw [← HN.out]; exact hlt)
        subst hA
        obtain ⟨x, hx⟩ : ∃ x, x = l[j]'(by rw [← HN.out]; exact hlt) := ⟨_, rfl⟩
        rw [← hx] at hcl
        obtain ⟨x0, x1⟩ := Hl.out x (by rw [hx]; exact List.getElem_mem _)
        have hz : x / 2 ^ d = 0 := Int.ediv_eq_zero_of_lt x0 x1
        have HX := hid (show nbH (l.take (j + 1)) d = nbH (l.take j) d ++ dgS true x d from by rw [hx]; exact nbH_take l d j _)
        have hbl : b < wr.heap.size := Nat.lt_of_lt_of_le hbb BW.out.size
        have hnl : (nbH (l.take j) d).length ≤ 16000000 := by
          rw [NL.out]
          have h1 : (l.take j).length ≤ 1000000 := by rw [List.length_take]; omega
          exact Nat.mul_le_mul h1 hd16.2
        have Hx1 := hid x1
        have Hnl := hid hnl
        clear hx x1 hnl
        go_wp2_with fail
        refine (putS_any true gw A1 c1 gw _ x d x0 Hx1.out (by omega) wr M.out (by have := Hnl.out; omega) hwl).mono ?_
        rintro e w3 ⟨rfl, A3, c3, M3, T3⟩
        have B3 := hid (T.out.trans (M.out.low T3 hwl))
        have M4 := hid (show WrS w3 gw true A3 c3 gw (nbH (l.take (j + 1)) d) from by rw [HX.out]; exact M3)
        clear M3 T3 hcl hz
        go_wp2
        go_roundw
        case rel => exact ⟨j + 1, A3, c3, by omega, by go_num, M4, B3⟩
        case measure => simp [intOf]; omega
      · have d2 : decide (j < N) = false := decide_eq_false hlt
        have hjN : j = N := by omega
        obtain ⟨L, hL⟩ : ∃ L, L = nbH l d := ⟨_, rfl⟩
        have M4 := hid (show WrS wr gw true A1 c1 gw L from by have h := M.out; rw [List.take_of_length_le (by rw [← HN.out]; omega)] at h; rw [hL]; exact h)
        have hLm : L.length ≤ 16000000 := by
          rw [hL, nbH_len, ← HN.out]
          exact Nat.mul_le_mul hm hd16.2
        have HL := hid hL
        clear hjN hL M
        go_upto_region 13 with (fail)
        obtain ⟨f, hf⟩ : ∃ f, f = (8 - L.length % 8) % 8 := ⟨_, rfl⟩
        have Hf := hid hf
        have hf8 : f < 8 := by omega
        obtain ⟨FL, hFL⟩ : ∃ F : Nat → List Int, F = fun j => L ++ List.replicate j 0 := ⟨_, rfl⟩
        have HFl := hid (show ∀ j, (FL j).length = L.length + j from fun j => by rw [hFL]; simp)
        have HF0 := hid (show FL 0 = L from by rw [hFL]; simp)
        have FN := hid (show ∀ j, FL (j + 1) = FL j ++ dgS true 0 1 from fun j => by rw [hFL]; exact zeros_take L j)
        have HFf := hid (show FL f = padZ L from by rw [hFL, hf]; rfl)
        clear hf hFL
        generalize wr = w4 at *
        go_loopw [] (fun wr => ∃ (j : Nat) (A1 : Option Addr) (c1 : Nat), j ≤ f ∧ Hid (WrS wr gw true A1 c1 gw (FL j)) ∧ Hid (Below gw w2 wr)) (fun wr => L.length + f - lnOf gw wr)
        case atStart => exact ⟨0, A1, c1, by omega, hid (by rw [HF0.out]; exact M4.out), T⟩
        case round =>
          obtain ⟨i, A5, c5, hi, M5, T5⟩ := hrel
          have hwl5 : gw ≤ wr.heap.size := Nat.le_trans hgl2 T5.out.size
          obtain ⟨kj, hkj⟩ : ∃ x, x = (FL i).length := ⟨_, rfl⟩
          have hkl : kj = L.length + i := by rw [hkj, HFl.out]
          have Hln := hid (show lnOf gw wr = L.length + i from by rw [← hkl, hkj]; exact lnOf_eq ((M5.out.blk.cell 2).trans rfl))
          have Hkl := hid hkl
          have LE := hid (lenS_any true gw A5 c5 gw (FL i) wr M5.out)
          rw [← hkj] at LE
          have Hkj := hid hkj
          by_cases hli : i < f
          · have e1 : ¬ kj % 8 = 0 := by have := Hf.out; omega
            have e2 : decide (kj % 8 = 0) = false := decide_eq_false e1
            have e3 : ¬ (kj : Int) % 8 = 0 := by omega
            clear hkl hkj e1
            go_wp2_with fail
            refine LE.out.mono ?_
            rintro e w6 ⟨rfl, rfl⟩
            go_wp2_with fail
            refine (putS_any true gw A5 c5 gw _ 0 1 (by omega) (by omega) (by omega) wr M5.out (by rw [← Hkj.out, Hkl.out]; omega) hwl5).mono ?_
            rintro e w7 ⟨rfl, A7, c7, M7, T7⟩
            have B7 := hid (T5.out.trans (M5.out.low T7 hwl5))
            have M8 := hid (show WrS w7 gw true A7 c7 gw (FL (i + 1)) from by rw [FN.out]; exact M7)
            have Hl7 := hid (show lnOf gw w7 = L.length + i + 1 from by rw [lnOf_eq ((M8.out.blk.cell 2).trans rfl), HFl.out]; rfl)
            clear M7 T7
            go_wp2
            go_roundw
            case rel => exact ⟨i + 1, A7, c7, by omega, M8, B7⟩
            case measure => rw [Hl7.out, Hln.out]; omega
          · have hif : i = f := by omega
            have e1 : kj % 8 = 0 := by have := Hf.out; omega
            have e2 : decide (kj % 8 = 0) = true := decide_eq_true e1
            have e3 : (kj : Int) % 8 = 0 := by omega
            have M8 := hid (show WrS wr gw true A5 c5 gw (padZ L) from by rw [← HFf.out, ← hif]; exact M5.out)
            have hpl := padZ_len L
            have BY := hid (bytesS_any true gw A5 c5 gw (padZ L) wr M8.out (by omega))
            unfold BytEnd at BY
            rw [fillS_whole true _ hpl.1, HL.out] at BY
            change Hid (Calls Try.prog 100 #[.pointer (some ⟨gw, 0, none⟩)] wr fun e w' => ∃ A c, e = .returned (.slice A (packB l d).length c) ∧ w'.ownsRow wr.heap.size 5 1 (.slice A (packB l d).length c) (packB l d).length (bytesV (packB l d)) ∧ Below wr.heap.size wr w') at BY
            have BW5 := hid (B2.out.trans (T5.out.mono hgb))
            obtain ⟨m, hm5⟩ : ∃ m, m = (packB l d).length := ⟨_, rfl⟩
            rw [← hm5] at BY
            have Hm5 := hid hm5
            clear hkl hkj e1 hif hpl hm5
            go_wp2_with fail
            refine LE.out.mono ?_
            rintro e w6 ⟨rfl, rfl⟩
            go_wp2_with fail
            refine BY.out.mono ?_
            rintro e w7 ⟨A7, c7, rfl, ho7, hb7⟩
            have O7 := hid ho7
            have B7 := hid hb7
            clear ho7 hb7
            go_wp2
            go_ret2
            exact ⟨A7, c7, by rw [← Hm5.out]; rfl, by rw [← Hm5.out]; exact own_base O7.out BW5.out.size, BW5.out.trans (B7.out.mono BW5.out.size)⟩
end Go.Proofs.Ytphhoihhmphbdaa

namespace Go.Proofs.Ytphhoihhmphbdaa
open Go.RowKit
attribute [local go_sem] Oper.semAt_some

/-- so many bytes of a row filtered -/
def filN (k bpp : Int) (row ahead : List Int) : Nat → List Int
  | 0 => []
  | j + 1 => filN k bpp row ahead j ++ [(row.getD j 0 - foreM k (atM row ((j : Int) - bpp)) (atM ahead (j : Int)) (atM ahead ((j : Int) - bpp))) % 256]
theorem filN_len (k bpp : Int) (row ahead : List Int) : ∀ j, (filN k bpp row ahead j).length = j
  | 0 => rfl
  | j + 1 => by rw [filN, List.length_append, filN_len k bpp row ahead j]; rfl
theorem filN_isB (k bpp : Int) (row ahead : List Int) : ∀ j, ∀ x ∈ filN k bpp row ahead j, isB x
  | 0, x, hx => by cases hx
  | j + 1, x, hx => by
    rw [filN] at hx
    rcases List.mem_append.1 hx with hx | hx
    · exact filN_isB k bpp row ahead j x hx
    · rcases List.mem_singleton.1 hx with rfl
      unfold isB; omega
def FltEnd (k bpp : Int) (row ahead : List Int) (W : World) (e : Ending) (w' : World) : Prop :=
  ∃ A c, e = .returned (.tuple #[.slice A row.length c, .nilIface]) ∧ w'.ownsRow W.heap.size 5 1 (.slice A row.length c) row.length (bytesV (filN k bpp row ahead row.length)) ∧ Below W.heap.size W w'
set_option maxRecDepth 100000 in
set_option maxHeartbeats 4000000 in
theorem filter_any (k bpp : Int) (A AA : Option Addr) (c ca m : Nat) (row ahead : List Int) (W : World) (k0 : 0 ≤ k) (k4 : k ≤ 4) (b1 : 1 ≤ bpp) (b8 : bpp ≤ 8) (hma : m = ahead.length) (ha : ahead.length = 0 ∨ ahead.length = row.length)
    (hr : Rd W W.heap.size 1 A row.length (bytesV row)) (hra : Rd W W.heap.size 1 AA ahead.length (bytesV ahead)) (okr : ∀ x ∈ row, isB x) (oka : ∀ x ∈ ahead, isB x) (hm : row.length ≤ 10000000) :
    Calls Try.prog 104 #[.int .i64 k, .slice A row.length c, .slice AA m ca, .int .i64 bpp] W (FltEnd k bpp row ahead W) := by
  obtain ⟨i0, hi0, hz0, hz1, hz2⟩ := info_parts u8_info
  have Hi0 := hid hi0
  have Hz0 := hid hz0
  have Hz1 := hid hz1
  have Hz2 := hid hz2
  have Hr := hid hr
  have Hra := hid hra
  have Okr := hid okr
  have Oka := hid oka
  have Hma := hid hma
  have CK := hid (fck_any k bpp A AA c ca row.length m k0 k4 b1 b8 (by omega))
  obtain ⟨n, hn⟩ : ∃ n, n = row.length := ⟨_, rfl⟩
  have Hn := hid hn
  unfold FltEnd
  rw [← hn] at CK hm ⊢
  have hmk := room_bytes n (by omega)
  have RO := hid (room_own W n (by omega))
  have B0 := hid ((Below.refl W.heap.size W).alloc (Nat.le_refl _) (.cells (bytesV (List.replicate n 0)).toArray 5))
  clear hi0 hz0 hz1 hz2 hr hra okr oka hma hn ha k0 k4
  go_enter Try.func104, Try.ntmps104
  go_wp2_with fail
  refine (CK.out _).mono ?_
  rintro e w1 ⟨rfl, rfl⟩
  go_upto_region 5 with (fail)
  obtain ⟨w0, hw0⟩ : ∃ w0, w0 = W.alloc (.cells (bytesV (List.replicate n 0)).toArray 5) := ⟨_, rfl⟩
  rw [← hw0] at RO B0 ⊢
  clear hw0 hmk
  obtain ⟨A0, hA0, RO2⟩ : ∃ A0, A0 = some (⟨W.heap.size, 0, none⟩ : Addr) ∧ Hid (w0.ownsRow W.heap.size 5 1 (.slice A0 0 n) 0 []) := ⟨_, rfl, RO⟩
  rw [← hA0]
  clear hA0 RO
  have hwh := B0.out.size
  have Hwh := hid hwh
  clear hwh
  go_upto_region 6 with (fail)
  go_loopw [11, 27] (fun v i wr => ∃ (j : Nat) (A1 : Option Addr) (c1 : Nat), j ≤ n ∧ v = .slice A1 j c1 ∧ i = .int .i64 (j : Int) ∧ Hid (wr.ownsRow W.heap.size 5 1 (.slice A1 j c1) j (bytesV (filN k bpp row ahead j))) ∧ Hid (Below W.heap.size W wr)) (fun _ i _ => n - (intOf i).toNat)
  case atStart => exact ⟨0, A0, n, by omega, rfl, rfl, RO2, B0⟩
  case round =>
    obtain ⟨j, A1, c1, hj, rfl, rfl, O1, B1⟩ := hrel
    by_cases hlt : j < n
    · have d2 : decide (j < n) = true := decide_eq_true hlt
      obtain ⟨b, off, hA, hbb, hcl⟩ := byte_at (Hr.out.below B1.out (Nat.le_refl _)) (j := j) (by rw [← Hn.out]; exact hlt)
      subst hA
      have hsw := B1.out.size
      have e1 : wrap64 ((j : Int) - bpp) = (j : Int) - bpp := by unfold wrap64; omega
      have C1 := hid (fat_any (some ⟨b, off, none⟩) c n row ((j : Int) - bpp) wr W.heap.size Hn.out (Hr.out.below B1.out (Nat.le_refl _)))
      have C2 := hid (fat_any AA ca m ahead (j : Int) wr W.heap.size Hma.out (Hra.out.below B1.out (Nat.le_refl _)))
      have C3 := hid (fat_any AA ca m ahead ((j : Int) - bpp) wr W.heap.size Hma.out (Hra.out.below B1.out (Nat.le_refl _)))
      have I1 := hid (atM_isB Okr.out ((j : Int) - bpp))
      have I2 := hid (atM_isB Oka.out (j : Int))
      have I3 := hid (atM_isB Oka.out ((j : Int) - bpp))
      have HX := hid (show filN k bpp row ahead (j + 1) = filN k bpp row ahead j ++ [(row.getD j 0 - foreM k (atM row ((j : Int) - bpp)) (atM ahead (j : Int)) (atM ahead ((j : Int) - bpp))) % 256] from rfl)
      have hx0 : isB (row.getD j 0) := by
        have hl : j < row.length := by rw [← Hn.out]; exact hlt
        rw [List.getD_eq_getElem?_getD, List.getElem?_eq_getElem hl]
        exact Okr.out _ (List.getElem_mem hl)
      generalize atM row ((j : Int) - bpp) = p1 at *
      generalize atM ahead (j : Int) = p2 at *
      generalize atM ahead ((j : Int) - bpp) = p3 at *
      have C4 := hid (foretell_any k p1 p2 p3 I1.out I2.out I3.out wr)
      have I4 := hid (fore_isB k I1.out I2.out I3.out)
      generalize foreM k p1 p2 p3 = f at *
      generalize row.getD j 0 = x at *
      have HX0 := hid hx0
      have ex : IntKind.u8.wrap (x - f) = (x - f) % 256 := by rw [IntKind.wrap_u8]
      clear hx0
      go_wp2_with (first
        | (go_at_call 119; first | ((with_reducible refine (C1.out).mono ?_); rintro e w5 ⟨rfl, rfl⟩) | ((with_reducible refine (C2.out).mono ?_); rintro e w5 ⟨rfl, rfl⟩) | ((with_reducible refine (C3.out).mono ?_); rintro e w5 ⟨rfl, rfl⟩))
        | (go_at_call 118; refine (C4.out).mono ?_; rintro e w5 ⟨rfl, rfl⟩)
        | (at_builtin; go_loud (refine wpList_app _ rfl _ _ _ rfl W.heap.size 5 i0 (.int .u8 0) 1 1 Try.underlying28 Hi0.out Hz0.out Hz1.out Hz2.out rfl (by omega) A1 j c1 (bytesV (filN k bpp row ahead j)) rfl (O1.out.alloc _) _ _ 1 1 [.int .u8 ((x - f) % 256)] rfl (rd_one _ _ _ _ (Blk.new _ _ _)) (by simp) (by simp [Value.oneCell']) (by simp only [maxLen]; omega) (by omega) (by simp; omega) ?_; intro A4 c4 w4 ha4; have Ha4 := hid ha4; clear ha4)))
      obtain ⟨o4, g4, b4, _⟩ := Ha4.out
      have o5 : w4.ownsRow W.heap.size 5 1 (.slice A4 (j + 1) c4) (j + 1) (bytesV (filN k bpp row ahead (j + 1))) := by
        rw [HX.out, ← bytesV_append]
        exact o4
      have O5 := hid o5
      have B5 := hid (((B1.out).alloc B1.out.size (.cells #[.int .u8 ((x - f) % 256)] 5)).trans b4)
      clear o4 g4 b4 o5
      go_roundw
      case rel => exact ⟨j + 1, A4, c4, by omega, rfl, by go_num, O5, B5⟩
      case measure => simp [intOf]; omega
    · obtain rfl : j = n := by omega
      go_wp2_with fail
      go_ret2
      exact ⟨A1, c1, rfl, O1.out, B1.out⟩

/-- a byte as a number with a sign -/
def sgn8 (b : Int) : Int := IntKind.i8.wrap b
def wtM (l : List Int) : Int := (l.map fun b => apM (sgn8 b) 0).sum
theorem sgn_all : ∀ x : Fin 256, -128 ≤ sgn8 (x.val : Int) ∧ sgn8 (x.val : Int) ≤ 127 := by decide +kernel
theorem sgn_bd {b : Int} (h : isB b) : -128 ≤ sgn8 b ∧ sgn8 b ≤ 127 := by
  obtain ⟨m, rfl⟩ := Int.eq_ofNat_of_zero_le h.1
  exact sgn_all ⟨m, by unfold isB at h; omega⟩
theorem apM_bd {a : Int} (h1 : -128 ≤ a) (h2 : a ≤ 127) : 0 ≤ apM a 0 ∧ apM a 0 ≤ 128 := by unfold apM; split <;> omega
theorem wtM_bd {l : List Int} (h : ∀ x ∈ l, isB x) : 0 ≤ wtM l ∧ wtM l ≤ 128 * (l.length : Int) := by
  induction l with
  | nil => exact ⟨Int.le_refl _, by simp [wtM]⟩
  | cons x l ih =>
    obtain ⟨h1, h2⟩ := ih (fun y hy => h y (List.mem_cons_of_mem _ hy))
    obtain ⟨s1, s2⟩ := sgn_bd (h x List.mem_cons_self)
    obtain ⟨a1, a2⟩ := apM_bd s1 s2
    have e : wtM (x :: l) = apM (sgn8 x) 0 + wtM l := by simp [wtM]
    rw [e, List.length_cons]
    omega
theorem wtM_take {l : List Int} {j : Nat} (h : j < l.length) : wtM (l.take (j + 1)) = wtM (l.take j) + apM (sgn8 l[j]) 0 := by
  unfold wtM
  rw [List.take_succ_eq_append_getElem h, List.map_append, List.sum_append]
  simp
set_option maxRecDepth 100000 in
set_option maxHeartbeats 4000000 in
theorem weight_any (A : Option Addr) (c n : Nat) (l : List Int) (W : World) (hn : n = l.length) (hr : Rd W W.heap.size 1 A l.length (bytesV l)) (ok : ∀ x ∈ l, isB x) (hm : l.length ≤ 10000000) :
    Calls Try.prog 133 #[.slice A n c] W fun e w' => e = .returned (.int .i64 (wtM l)) ∧ W = w' := by
  have Hr := hid hr
  have Hok := hid ok
  have Hn := hid hn
  rw [← hn] at hm
  clear hr ok hn
  go_enter Try.func133, Try.ntmps133
  go_upto_region 3 with (fail)
  go_loopw [3, 8] (fun v i wr => ∃ (j : Nat), j ≤ n ∧ v = .int .i64 (wtM (l.take j)) ∧ i = .int .i64 (j : Int) ∧ wr = W) (fun _ i _ => n - (intOf i).toNat)
  case atStart => exact ⟨0, by omega, by simp [wtM], rfl, rfl⟩
  case round =>
    obtain ⟨j, hj, rfl, rfl, rfl⟩ := hrel
    by_cases hlt : j < n
    · have d2 : decide (j < n) = true := decide_eq_true hlt
      have hlt' : j < l.length := by rw [← Hn.out]; exact hlt
      obtain ⟨b, off, hA, hbb, hcl⟩ := byte_at Hr.out (j := j) hlt'
      subst hA
      have hx : l.getD j 0 = l[j] := by rw [List.getD_eq_getElem?_getD, List.getElem?_eq_getElem hlt']; rfl
      rw [hx] at hcl
      have HW := hid (wtM_take hlt')
      have hb := Hok.out _ (List.getElem_mem hlt')
      have hbd := wtM_bd (fun x hx => Hok.out x (List.mem_of_mem_take hx) : ∀ x ∈ l.take j, isB x)
      have hlen : ((l.take j).length : Int) ≤ 10000000 := by rw [List.length_take]; omega
      obtain ⟨x, hxx⟩ : ∃ x, x = l[j] := ⟨_, rfl⟩
      rw [← hxx] at hcl hb HW
      obtain ⟨s1, s2⟩ := sgn_bd hb
      obtain ⟨a1, a2⟩ := apM_bd s1 s2
      have AP := hid (fun w => apart_any (sgn8 x) 0 (by omega) (by omega) (by omega) (by omega) w)
      have e1 : IntKind.i8.wrap x = sgn8 x := rfl
      obtain ⟨sx, hsx⟩ : ∃ s, s = sgn8 x := ⟨_, rfl⟩
      rw [← hsx] at e1 s1 s2 a1 a2 AP HW
      obtain ⟨av, hav⟩ : ∃ s, s = apM sx 0 := ⟨_, rfl⟩
      rw [← hav] at a1 a2 AP HW
      obtain ⟨v, hv⟩ : ∃ v, v = wtM (l.take j) := ⟨_, rfl⟩
      rw [← hv] at hbd HW ⊢
      obtain ⟨v0, v1⟩ := hbd
      have e2 : wrap64 sx = sx := by unfold wrap64; omega
      have e3 : IntKind.i64.wrap sx = sx := IntWalk.i64_in _ (by omega)
      have e4 : IntKind.i64.wrap (v + av) = v + av := IntWalk.i64_in _ (by omega)
      clear hx hxx hsx hav hv
      go_wp2_with fail
      refine (AP.out _).mono ?_
      rintro e w5 ⟨rfl, rfl⟩
      go_wp2
      go_roundw
      case rel => exact ⟨j + 1, by omega, by rw [HW.out], by first | trivial | go_num⟩
      case measure => simp [intOf]; omega
    · have d2 : decide (j < n) = false := decide_eq_false hlt
      have hjn : j = n := by omega
      have HV := hid (show wtM (l.take j) = wtM l from by rw [List.take_of_length_le (by rw [← Hn.out]; omega)])
      clear hjn
      go_wp2
      go_ret
      exact ⟨ret_int HV.out, rfl⟩
/-- the lightest of so many kinds, and its weight -/
def ltM (row ahead : List Int) (bpp : Int) : Nat → Int × Int
  | 0 => (0, -1)
  | k + 1 => if (ltM row ahead bpp k).2 < 0 ∨ wtM (filN (k : Int) bpp row ahead row.length) < (ltM row ahead bpp k).2 then ((k : Int), wtM (filN (k : Int) bpp row ahead row.length)) else ltM row ahead bpp k
def lightM (row ahead : List Int) (bpp : Int) : Int := (ltM row ahead bpp 5).1
theorem ltM_bd (row ahead : List Int) (bpp : Int) : ∀ k, k ≤ 5 → 0 ≤ (ltM row ahead bpp k).1 ∧ (ltM row ahead bpp k).1 ≤ 4 ∧ -1 ≤ (ltM row ahead bpp k).2 ∧ (ltM row ahead bpp k).2 ≤ 128 * (row.length : Int)
  | 0, _ => by unfold ltM; exact ⟨Int.le_refl _, by omega, by omega, by dsimp only; omega⟩
  | k + 1, h => by
    obtain ⟨h1, h2, h3, h4⟩ := ltM_bd row ahead bpp k (by omega)
    have h5 := wtM_bd (filN_isB (k : Int) bpp row ahead row.length)
    rw [filN_len] at h5
    unfold ltM
    split
    · dsimp only
      omega
    · exact ⟨h1, h2, h3, h4⟩
theorem light_bd (row ahead : List Int) (bpp : Int) : 0 ≤ lightM row ahead bpp ∧ lightM row ahead bpp ≤ 4 := ⟨(ltM_bd row ahead bpp 5 (by omega)).1, (ltM_bd row ahead bpp 5 (by omega)).2.1⟩
set_option maxRecDepth 100000 in
set_option maxHeartbeats 4000000 in
theorem lightest_any (bpp : Int) (A AA : Option Addr) (c ca m n : Nat) (row ahead : List Int) (W : World) (b1 : 1 ≤ bpp) (b8 : bpp ≤ 8) (hn : n = row.length) (hma : m = ahead.length) (ha : ahead.length = 0 ∨ ahead.length = row.length)
    (hr : Rd W W.heap.size 1 A row.length (bytesV row)) (hra : Rd W W.heap.size 1 AA ahead.length (bytesV ahead)) (okr : ∀ x ∈ row, isB x) (oka : ∀ x ∈ ahead, isB x) (hm : row.length ≤ 10000000) :
    Calls Try.prog 103 #[.slice A n c, .slice AA m ca, .int .i64 bpp] W fun e w' => e = .returned (.tuple #[.int .i64 (lightM row ahead bpp), .nilIface]) ∧ Below W.heap.size W w' := by
  have Hr := hid hr
  have Hra := hid hra
  have FI := hid (fun (k : Nat) (hk : k ≤ 4) (w : World) (hw : Below W.heap.size W w) => filter_any (k : Int) bpp A AA c ca m row ahead w (by omega) (by omega) b1 b8 hma ha ((Hr.out.below hw (Nat.le_refl _)).more hw.size) ((Hra.out.below hw (Nat.le_refl _)).more hw.size) okr oka hm)
  unfold FltEnd at FI
  have Hn := hid hn
  rw [← hn] at FI hm
  clear hr hra okr oka ha hma hn
  go_enter Try.func103, Try.ntmps103
  go_upto_region 3 with (fail)
  go_loopw [8, 9, 10] (fun v8 v9 v10 wr => ∃ (k : Nat), k ≤ 5 ∧ v8 = .int .i64 (ltM row ahead bpp k).1 ∧ v9 = .int .i64 (ltM row ahead bpp k).2 ∧ v10 = .int .i64 (k : Int) ∧ Hid (Below W.heap.size W wr)) (fun _ _ i _ => 5 - (intOf i).toNat)
  case atStart => exact ⟨0, by omega, rfl, rfl, rfl, hid (Below.refl _ _)⟩
  case round =>
    obtain ⟨k, hk, rfl, rfl, rfl, B⟩ := hrel
    by_cases hlt : k ≤ 4
    · have d2 : decide ((k : Int) ≤ 4) = true := decide_eq_true (by omega)
      have d2n : decide (k ≤ 4) = true := decide_eq_true hlt
      have HS := hid (show ltM row ahead bpp (k + 1) = if (ltM row ahead bpp k).2 < 0 ∨ wtM (filN (k : Int) bpp row ahead row.length) < (ltM row ahead bpp k).2 then ((k : Int), wtM (filN (k : Int) bpp row ahead row.length)) else ltM row ahead bpp k from rfl)
      obtain ⟨l1, l2, l3, l4⟩ := ltM_bd row ahead bpp k hk
      rw [← Hn.out] at l4 HS
      obtain ⟨q, hq⟩ : ∃ q, q = ltM row ahead bpp k := ⟨_, rfl⟩
      rw [← hq] at l1 l2 l3 l4 HS ⊢
      obtain ⟨bq, lq⟩ := q
      dsimp only at l1 l2 l3 l4 HS ⊢
      obtain ⟨fl, hfl⟩ : ∃ l, l = filN (k : Int) bpp row ahead n := ⟨_, rfl⟩
      have FK := hid (FI.out k hlt wr B.out)
      have hfb : ∀ x ∈ fl, isB x := by rw [hfl]; exact filN_isB _ _ _ _ _
      have hfln : fl.length = n := by rw [hfl, filN_len]
      rw [← hfl] at FK HS
      have Hfb := hid hfb
      have Hfl := hid hfln
      have hwt := wtM_bd hfb
      rw [hfln] at hwt
      clear hq hfl hfb hfln
      go_wp2_with fail
      refine FK.out.mono ?_
      rintro e w3 ⟨A3, c3, rfl, ho3, hb3⟩
      have WT := hid (weight_any A3 c3 n fl w3 Hfl.out.symm (by rw [Hfl.out]; exact own_rd ho3) Hfb.out (by rw [Hfl.out]; exact hm))
      have B3 := hid (B.out.trans (hb3.mono B.out.size))
      obtain ⟨wv, hwv⟩ : ∃ v, v = wtM fl := ⟨_, rfl⟩
      rw [← hwv] at WT HS hwt
      clear ho3 hb3 FK hwv
      go_wp2_with fail
      refine WT.out.mono ?_
      rintro e w4 ⟨rfl, rfl⟩
      by_cases h1 : lq < 0
      · have HE := hid (HS.out.trans (if_pos (.inl h1)))
        have d3 : decide (lq < 0) = true := decide_eq_true h1
        go_wp2
        go_roundw
        case rel => exact ⟨k + 1, by omega, by rw [HE.out], by rw [HE.out], by go_num, B3⟩
        case measure => simp [intOf]; omega
      · have d3 : decide (lq < 0) = false := decide_eq_false h1
        by_cases h2 : wv < lq
        · have HE := hid (HS.out.trans (if_pos (.inr h2)))
          have d4 : decide (wv < lq) = true := decide_eq_true h2
          go_wp2
          go_roundw
          case rel => exact ⟨k + 1, by omega, by rw [HE.out], by rw [HE.out], by go_num, B3⟩
          case measure => simp [intOf]; omega
        · have HE := hid (HS.out.trans (if_neg (fun h => h.elim h1 h2)))
          have d4 : decide (wv < lq) = false := decide_eq_false h2
          go_wp2
          go_roundw
          case rel => exact ⟨k + 1, by omega, by rw [HE.out], by rw [HE.out], by go_num, B3⟩
          case measure => simp [intOf]; omega
    · have d2 : decide ((k : Int) ≤ 4) = false := decide_eq_false (by omega)
      have d2n : decide (k ≤ 4) = false := decide_eq_false hlt
      have hk5 : k = 5 := by omega
      have HV := hid (show (ltM row ahead bpp k).1 = lightM row ahead bpp from by rw [hk5]; rfl)
      clear hk5
      go_wp2
      go_ret2
      exact ⟨by rw [← HV.out]; rfl, B.out⟩
/-- a kind that is none -/
def badK (k : Int) : Bool := decide (k < -1) || decide (4 < k)
theorem rollk_any (k : Int) (W : World) : Calls Try.prog 101 #[.int .i64 k] W fun e w' => e = .returned (.bool (badK k)) ∧ W = w' := by
  go_enter Try.func101, Try.ntmps101
  by_cases h : k < -1
  · have d1 : decide (k < -1) = true := decide_eq_true h
    have HB := hid (show badK k = true from by unfold badK; rw [d1]; rfl)
    go_wp2
    go_ret
    exact ⟨ret_bool HB.out.symm, rfl⟩
  · have d1 : decide (k < -1) = false := decide_eq_false h
    have HB := hid (show badK k = decide (4 < k) from by unfold badK; rw [d1]; rfl)
    go_wp2
    go_ret
    exact ⟨ret_bool HB.out.symm, rfl⟩
theorem indexK_any (A : Option Addr) (c n : Nat) (l : List Int) (W : World) (hn : n = l.length) (hr : RdI W W.heap.size A l) (hm : n ≤ 1000000) (hg : ∀ x ∈ l, badK x = false) :
    Calls Try.prog 132 #[.slice A n c, .func (.func 101) #[] #[]] W fun e w' => e = .returned (.int .i64 (-1)) ∧ W = w' := by
  have Hr := hid hr
  have Hg := hid hg
  have Hn := hid hn
  clear hr hg hn
  go_enter Try.func132, Try.ntmps132
  go_wp2
  go_loop [8] (fun i => ∃ j : Nat, j ≤ n ∧ i = .int .i64 j) (fun i => n - (intOf i).toNat)
  case atStart => exact ⟨0, by omega, rfl⟩
  case round =>
    obtain ⟨j, hj, rfl⟩ := hrel
    by_cases hlt : j < n
    · have d2 : decide (j < n) = true := decide_eq_true hlt
      have hlt' : j < l.length := by rw [← Hn.out]; exact hlt
      obtain ⟨b, off, rfl, hbb, h0⟩ := int_at Hr.out hlt'
      have RK := hid (fun w => rollk_any l[j] w)
      rw [Hg.out _ (List.getElem_mem hlt')] at RK
      go_wp2_with (refine (RK.out _).mono ?_; rintro e w' ⟨rfl, rfl⟩)
      go_round
      case rel => exact ⟨j + 1, by omega, by go_num⟩
      case measure => simp [intOf]; omega
    · have d2 : decide (j < n) = false := decide_eq_false hlt
      go_wp2
      go_ret
      exact ⟨rfl, rfl⟩
theorem containsK_any (A : Option Addr) (c n : Nat) (l : List Int) (W : World) (hn : n = l.length) (hr : RdI W W.heap.size A l) (hm : n ≤ 1000000) (hg : ∀ x ∈ l, badK x = false) :
    Calls Try.prog 102 #[.slice A n c, .func (.func 101) #[] #[]] W fun e w' => e = .returned (.bool false) ∧ W = w' := by
  have H := hid (indexK_any A c n l W hn hr hm hg)
  clear hr hm hg hn
  go_enter Try.func102, Try.ntmps102
  go_wp2_with (refine H.out.mono ?_; rintro e w' ⟨rfl, rfl⟩)
  go_ret
  exact ⟨rfl, rfl⟩
/-- rows, the row ahead, the kind that is taken, rows filtered -/
def rowK (rows : List Int) (size i : Nat) : List Int := (rows.drop (i * size)).take size
def aheadK (rows : List Int) (size : Nat) : Nat → List Int
  | 0 => []
  | i + 1 => rowK rows size i
def takeK (rows : List Int) (size : Nat) (bpp : Int) (kinds : List Int) (i : Nat) : Int := if kinds.getD i 0 = -1 then lightM (rowK rows size i) (aheadK rows size i) bpp else kinds.getD i 0
def rollM (rows : List Int) (size : Nat) (bpp : Int) (kinds : List Int) : Nat → List Int
  | 0 => []
  | i + 1 => rollM rows size bpp kinds i ++ [takeK rows size bpp kinds i] ++ filN (takeK rows size bpp kinds i) bpp (rowK rows size i) (aheadK rows size i) size
theorem rollM_len (rows : List Int) (size : Nat) (bpp : Int) (kinds : List Int) : ∀ i, (rollM rows size bpp kinds i).length = i * (1 + size)
  | 0 => by rw [Nat.zero_mul]; rfl
  | i + 1 => by rw [rollM, List.length_append, List.length_append, rollM_len rows size bpp kinds i, filN_len, Nat.succ_mul]; simp [Nat.add_assoc]
theorem own_nilK {w : World} {base t sz n c : Nat} {A : Option Addr} {xs : List Value} (h : w.ownsRow base t sz (.slice A n c) n xs) : A = none → n = 0 := by
  rintro rfl
  rcases h.2 with ⟨_, e⟩ | ⟨g, cap, cur, e, _⟩
  · exact e
  · cases e
theorem chunk_inK {r l y n : Nat} (hn : n = r * l) (hy : y < r) : y * l + l ≤ n := by
  rw [hn, ← Nat.succ_mul]
  exact Nat.mul_le_mul_right _ hy
set_option maxRecDepth 100000 in
/-- b[k:h:h] of bytes -/
theorem slcB_lhh {w2 : World} {B n c : Nat} {A : Option Addr} (l : List Int) (i i2 : Int) (k h m : Nat) (hi : i = (k : Int)) (hi2 : i2 = (h : Int)) (hk : k + m = h) (hh : h ≤ n) (hc : n ≤ c) (hA : A = none → c = 0) (hr : Rd w2 B 1 A n (bytesV l)) :
    ∃ A3, (∀ w : World, (Instr.slice 28 (.slice A n c) (some (.int .i64 i)) (some (.int .i64 i2)) (some (.int .i64 i2))).run Try.prog w = .ok (.slice A3 m m) w) ∧ Rd w2 B 1 A3 m (bytesV ((l.drop k).take m)) := by
  subst hi hi2
  obtain ⟨A3, h1, h2, h3⟩ := slc_gen k h h (by omega) hh (Nat.le_refl _) (fun e => by have := hA e; omega) hr
  have e : h - k = m := by omega
  rw [e] at h1 h2
  rw [bytesV_part] at h2
  refine ⟨A3, fun w => ?_, h2⟩
  rw [← h1, run_slice_lhm (P := Try.prog) (w := w) 28 A n c Try.underlying28 .i64 .i64 .i64 (k : Int) (h : Int) (h : Int) (by omega) (by omega) (Int.le_refl _) (by omega)]
  rfl
def RolEnd (rows : List Int) (size : Nat) (bpp : Int) (kinds : List Int) (W : World) (e : Ending) (w' : World) : Prop :=
  ∃ A c, e = .returned (.tuple #[.slice A (kinds.length * (1 + size)) c, .nilIface]) ∧ w'.ownsRow W.heap.size 5 1 (.slice A (kinds.length * (1 + size)) c) (kinds.length * (1 + size)) (bytesV (rollM rows size bpp kinds kinds.length)) ∧ Below W.heap.size W w'
set_option maxRecDepth 100000 in
set_option maxHeartbeats 8000000 in
theorem roll_any (bpp : Int) (A KA : Option Addr) (c kc n m size : Nat) (rows kinds : List Int) (W : World) (b1 : 1 ≤ bpp) (b8 : bpp ≤ 8) (s1 : 1 ≤ size) (hn : n = rows.length) (hkm : m = kinds.length) (hnm : n = m * size) (hc : n ≤ c) (hA : A = none → c = 0)
    (hr : Rd W W.heap.size 1 A rows.length (bytesV rows)) (hk : RdI W W.heap.size KA kinds) (okr : ∀ x ∈ rows, isB x) (okk : ∀ x ∈ kinds, badK x = false) (hm : n ≤ 1000000) :
    Calls Try.prog 55 #[.slice A n c, .int .i64 (size : Nat), .int .i64 bpp, .slice KA m kc] W (RolEnd rows size bpp kinds W) := by
  obtain ⟨i0, hi0, hz0, hz1, hz2⟩ := info_parts u8_info
  have Hi0 := hid hi0
  have Hz0 := hid hz0
  have Hz1 := hid hz1
  have Hz2 := hid hz2
  have hmn : m ≤ n := by rw [hnm]; exact Nat.le_mul_of_pos_right _ s1
  have hsn : m = 0 ∨ size ≤ n := by
    rcases Nat.eq_zero_or_pos m with h | h
    · exact .inl h
    · exact .inr (by rw [hnm]; exact Nat.le_mul_of_pos_left _ h)
  have Hr := hid hr
  have Hk := hid hk
  have Hokr := hid okr
  have Hokk := hid okk
  have Hn := hid hn
  have Hkm := hid hkm
  have Hnm := hid hnm
  have HA := hid hA
  have e1 : (n : Int).tmod (size : Int) = 0 := by rw [hnm, Int.natCast_mul]; exact Int.mul_tmod_left _ _
  have e2 : (n : Int).tdiv (size : Int) = (m : Int) := by rw [hnm, Int.natCast_mul]; exact Int.mul_tdiv_cancel _ (by omega)
  have CK := hid (containsK_any KA kc m kinds W hkm hk (by omega) okk)
  obtain ⟨t, ht⟩ : ∃ t, t = m * (1 + size) := ⟨_, rfl⟩
  have htn : t = n + m := by rw [ht, hnm, Nat.mul_add, Nat.mul_one, Nat.add_comm]
  have hmk := room_bytes (n + m) (by omega)
  rw [Int.natCast_add] at hmk
  have RO := hid (room_own W (n + m) (by omega))
  have B0 := hid ((Below.refl W.heap.size W).alloc (Nat.le_refl _) (.cells (bytesV (List.replicate (n + m) 0)).toArray 5))
  have Ht := hid ht
  have Htn := hid htn
  have eS : ¬ (size : Int) < 1 := by omega
  clear hi0 hz0 hz1 hz2 hr hk okr okk hn hkm hnm hA ht htn
  go_enter Try.func55, Try.ntmps55
  go_wp2_with fail
  refine CK.out.mono ?_
  rintro e w1 ⟨rfl, rfl⟩
  go_upto_region 5 with (fail)
  obtain ⟨w0, hw0⟩ : ∃ w0, w0 = W.alloc (.cells (bytesV (List.replicate (n + m) 0)).toArray 5) := ⟨_, rfl⟩
  rw [← hw0] at RO B0 ⊢
  clear hw0 hmk
  obtain ⟨A0, hA0, RO2⟩ : ∃ A0, A0 = some (⟨W.heap.size, 0, none⟩ : Addr) ∧ Hid (w0.ownsRow W.heap.size 5 1 (.slice A0 0 (n + m)) 0 []) := ⟨_, rfl, RO⟩
  rw [← hA0]
  obtain ⟨q0, hq0⟩ : ∃ q, q = n + m := ⟨_, rfl⟩
  rw [← hq0] at RO2 ⊢
  have Hq0 := hid hq0
  clear hA0 RO hq0
  go_upto_region 7 with (fail)
  go_loopw [11, 12, 60] (fun v11 v12 v60 wr => ∃ (i : Nat) (A1 AA : Option Addr) (p c1 ca : Nat), i ≤ m ∧ v11 = .slice A1 p c1 ∧ v12 = .slice AA (aheadK rows size i).length ca ∧ v60 = .int .i64 (i : Int) ∧ Hid (p = i * (1 + size)) ∧ Hid (wr.ownsRow W.heap.size 5 1 (.slice A1 p c1) p (bytesV (rollM rows size bpp kinds i))) ∧ Hid (Rd W W.heap.size 1 AA (aheadK rows size i).length (bytesV (aheadK rows size i))) ∧ Hid (Below W.heap.size W wr)) (fun _ _ i _ => m - (intOf i).toNat)
  case atStart => exact ⟨0, A0, none, 0, q0, 0, by omega, rfl, rfl, rfl, hid (by simp), RO2, hid Rd.nil, B0⟩
  case round =>
    obtain ⟨i, A1, AA, p, c1, ca, hi, rfl, rfl, rfl, Hp, O1, RA, B1⟩ := hrel
    by_cases hlt : i < m
    · have d2 : decide (i < m) = true := decide_eq_true hlt
      have hlt' : i < kinds.length := by rw [← Hkm.out]; exact hlt
      obtain ⟨b, off, hKA, hbb, hcl⟩ := int_at (Hk.out.below B1.out (Nat.le_refl _)) hlt'
      have hbl : b < wr.heap.size := Nat.lt_of_lt_of_le hbb B1.out.size
      subst hKA
      obtain ⟨kd, hkd⟩ : ∃ k, k = kinds[i] := ⟨_, rfl⟩
      have hkg : kinds.getD i 0 = kd := by rw [List.getD_eq_getElem?_getD, List.getElem?_eq_getElem hlt', hkd]; rfl
      have hkb : badK kd = false := by rw [hkd]; exact Hokk.out _ (List.getElem_mem hlt')
      rw [← hkd] at hcl
      have hk1 : -1 ≤ kd ∧ kd ≤ 4 := by
        unfold badK at hkb
        simp at hkb
        omega
      obtain ⟨lo, hlo⟩ : ∃ x, x = i * size := ⟨_, rfl⟩
      have hin : lo + size ≤ n := by rw [hlo]; exact chunk_inK Hnm.out hlt
      have f1 : (i : Int) * (size : Int) = (lo : Int) := by rw [hlo]; simp
      have f2 : ((i : Int) + 1) * (size : Int) = (lo : Int) + (size : Int) := by rw [Int.add_mul, f1, Int.one_mul]
      obtain ⟨A3, hs3, r3⟩ := slcB_lhh rows (w2 := W) (lo : Int) ((lo : Int) + (size : Int)) lo (lo + size) size rfl (by simp) rfl hin hc HA.out (by rw [Hn.out]; exact Hr.out)
      obtain ⟨row, hrow⟩ : ∃ l, l = rowK rows size i := ⟨_, rfl⟩
      have hrw : (rows.drop lo).take size = row := by rw [hrow, hlo]; rfl
      have hrl : row.length = size := by rw [← hrw, List.length_take, List.length_drop, ← Hn.out]; omega
      rw [hrw] at r3
      obtain ⟨ah, hah⟩ : ∃ l, l = aheadK rows size i := ⟨_, rfl⟩
      rw [← hah] at RA ⊢
      have hal : ah.length = 0 ∨ ah.length = row.length := by
        rw [hah]
        cases i with
        | zero => exact .inl rfl
        | succ i2 =>
          refine .inr ?_
          rw [hrl, aheadK, rowK, List.length_take, List.length_drop, ← Hn.out]
          have h1 := chunk_inK (y := i2) Hnm.out (by omega)
          omega
      have hrb : ∀ x ∈ row, isB x := fun x hx => by rw [← hrw] at hx; exact Hokr.out x (List.mem_of_mem_drop (List.mem_of_mem_take hx))
      have hab : ∀ x ∈ ah, isB x := fun x hx => by
        rw [hah] at hx
        cases i with
        | zero => cases hx
        | succ i2 => exact Hokr.out x (List.mem_of_mem_drop (List.mem_of_mem_take hx))
      obtain ⟨ak, hak⟩ : ∃ x, x = ah.length := ⟨_, rfl⟩
      rw [← hak] at hal
      have hr3' : Rd W W.heap.size 1 A3 row.length (bytesV row) := by rw [hrl]; exact r3
      have hakl : ak ≤ 1000000 := by rcases hal with h | h <;> omega
      have LT := hid (fun (w : World) (hw : Below W.heap.size W w) => lightest_any bpp A3 AA size ca ak size row ah w b1 b8 hrl.symm hak (by rw [← hak]; exact hal) ((hr3'.below hw (Nat.le_refl _)).more hw.size) ((RA.out.below hw (Nat.le_refl _)).more hw.size) hrb hab (by rw [hrl]; omega))
      have FI := hid (fun (k : Int) (h0 : 0 ≤ k) (h4 : k ≤ 4) (w : World) (hw : Below W.heap.size W w) => filter_any k bpp A3 AA size ca ak row ah w h0 h4 b1 b8 hak (by rw [← hak]; exact hal) ((hr3'.below hw (Nat.le_refl _)).more hw.size) ((RA.out.below hw (Nat.le_refl _)).more hw.size) hrb hab (by rw [hrl]; omega))
      unfold FltEnd at FI
      rw [hrl] at FI
      have HR3 := hid r3
      have HX := hid (show rollM rows size bpp kinds (i + 1) = rollM rows size bpp kinds i ++ [takeK rows size bpp kinds i] ++ filN (takeK rows size bpp kinds i) bpp row ah size from by rw [hrow, hah]; rfl)
      have HK := hid (show takeK rows size bpp kinds i = if kd = -1 then lightM row ah bpp else kd from by unfold takeK; rw [hkg, hrow, hah])
      have Hah1 := hid (show aheadK rows size (i + 1) = row from by rw [hrow]; rfl)
      have Hrl := hid hrl
      have hlb := light_bd row ah bpp
      have hpb : p ≤ 2000000 := by
        have h1 : i * (1 + size) ≤ m * (1 + size) := Nat.mul_le_mul_right _ hi
        rw [← Ht.out] at h1
        have := Htn.out
        rw [Hp.out]
        omega
      obtain ⟨lk, hlk⟩ : ∃ x, x = lightM row ah bpp := ⟨_, rfl⟩
      rw [← hlk] at hlb HK LT
      rw [← hak]
      clear hkd hkg hkb hlo hrow hrw hrl hah hal hrb hab hak hr3' r3 hlk
      obtain ⟨tk, htk⟩ : ∃ x, x = takeK rows size bpp kinds i := ⟨_, rfl⟩
      rw [← htk] at HX HK
      have htb : 0 ≤ tk ∧ tk ≤ 4 := by have := HK.out; split at this <;> omega
      clear htk
      go_upto_if 79 with (fail)
      go_cut [14, 16, 17] from 64 to 90 (fun v14 v16 v17 wq => v14 = .int .i64 tk ∧ Hid (Below wr.heap.size wr wq))
      case first =>
        by_cases hk : kd = -1
        · have HT := hid (HK.out.trans (if_pos hk))
          have d3 : decide (kd = -1) = true := decide_eq_true hk
          go_wp2_with fail
          refine (LT.out wr B1.out).mono ?_
          rintro e w5 ⟨rfl, hb5⟩
          have B5 := hid hb5
          clear hb5
          go_wp2
          go_meet
          exact ⟨by rw [HT.out], B5⟩
        · have HT := hid (HK.out.trans (if_neg hk))
          have d3 : decide (kd = -1) = false := decide_eq_false hk
          go_wp2
          go_meet
          exact ⟨by rw [HT.out], hid (Below.refl _ _)⟩
      case rest =>
        obtain ⟨rfl, BC⟩ := hcut
        have B2 := hid (B1.out.trans (BC.out.mono B1.out.size))
        have O2 := hid (own_below O1.out BC.out (Nat.le_refl _))
        have FK := hid (FI.out tk htb.1 htb.2 wc B2.out)
        have eu : IntKind.u8.wrap tk = tk := by rw [IntKind.wrap_u8]; omega
        obtain ⟨fl, hfl⟩ : ∃ l, l = filN tk bpp row ah size := ⟨_, rfl⟩
        rw [← hfl] at FK HX
        have hfll : fl.length = size := by rw [hfl, filN_len]
        have Hfll := hid hfll
        clear hfl hfll
        go_wp2_with fail
        refine FK.out.mono ?_
        rintro e w5 ⟨A5, c5, rfl, ho5, hb5⟩
        have hne := own_fresh_ne O2.out ho5
        have O5 := hid (own_below O2.out hb5 (Nat.le_refl _))
        have F5 := hid ho5
        have Hne := hid hne
        have B5 := hid (B2.out.trans (hb5.mono B2.out.size))
        have hsw5 : W.heap.size ≤ w5.heap.size := B5.out.size
        clear ho5 hb5 hne FK
        go_wp2_with (first
          | (at_builtin; go_loud (refine wpList_app _ rfl _ _ _ rfl W.heap.size 5 i0 (.int .u8 0) 1 1 Try.underlying28 Hi0.out Hz0.out Hz1.out Hz2.out rfl (by omega) A1 p c1 (bytesV (rollM rows size bpp kinds i)) rfl (O5.out.alloc _) _ _ 1 1 [.int .u8 tk] rfl (rd_one _ _ _ _ (Blk.new _ _ _)) (by simp) (by simp [Value.oneCell']) (by simp only [maxLen]; omega) (by omega) (by simp; omega) ?_; intro A6 c6 w6 ha6; have F6 := hid ((F5.out.alloc (.cells #[.int .u8 tk] 5)).kept ha6.2.1 Hne.out); have hs6 : W.heap.size ≤ w6.heap.size := Nat.le_trans (by simp; omega) ha6.2.1.size; have Ha6 := hid ha6; clear ha6))
          | (at_builtin; go_loud (refine wpList_app _ rfl _ _ _ rfl W.heap.size 5 i0 (.int .u8 0) 1 1 Try.underlying28 Hi0.out Hz0.out Hz1.out Hz2.out rfl (by omega) A6 (p + 1) c6 (bytesV (rollM rows size bpp kinds i) ++ [.int .u8 tk]) rfl Ha6.out.1 w6.heap.size A5 size c5 (bytesV fl) rfl (own_rd F6.out) (own_nilK F6.out) bytesV_cells (by simp only [maxLen]; omega) (by omega) hs6 ?_; intro A7 c7 w7 ha7; have Ha7 := hid ha7; clear ha7)))
        obtain ⟨o6, g6, b6, _⟩ := Ha6.out
        obtain ⟨o7, g7, b7, _⟩ := Ha7.out
        have B7 := hid (((B5.out.alloc hsw5 (.cells #[.int .u8 tk] 5)).trans b6).trans b7)
        have Hp7 := hid (show p + 1 + size = (i + 1) * (1 + size) from by rw [Hp.out, Nat.succ_mul]; omega)
        have O7 := hid (show w7.ownsRow W.heap.size 5 1 (.slice A7 (p + 1 + size) c7) (p + 1 + size) (bytesV (rollM rows size bpp kinds (i + 1))) from by
          rw [HX.out, ← bytesV_append, ← bytesV_append]
          exact o7)
        clear o6 g6 b6 o7 g7 b7 Ha6 Ha7 hcl
        go_roundw
        case rel => exact ⟨i + 1, A7, A3, p + 1 + size, c7, size, by omega, rfl, by rw [Hah1.out, Hrl.out], by go_num, Hp7, O7, hid (by rw [Hah1.out, Hrl.out]; exact HR3.out), B7⟩
        case measure => simp [intOf]; omega
    · have d2 : decide (i < m) = false := decide_eq_false hlt
      have him : i = m := by omega
      have HO := hid (show wr.ownsRow W.heap.size 5 1 (.slice A1 (kinds.length * (1 + size)) c1) (kinds.length * (1 + size)) (bytesV (rollM rows size bpp kinds kinds.length)) from by
        have h := O1.out
        rw [Hp.out, him, Hkm.out] at h
        exact h)
      have Hpm := hid (show p = kinds.length * (1 + size) from by rw [Hp.out, him, Hkm.out])
      clear him
      go_wp2
      go_ret2
      exact ⟨A1, c1, by rw [← Hpm.out]; rfl, HO.out, B1.out⟩
end Go.Proofs.Ytphhoihhmphbdaa
