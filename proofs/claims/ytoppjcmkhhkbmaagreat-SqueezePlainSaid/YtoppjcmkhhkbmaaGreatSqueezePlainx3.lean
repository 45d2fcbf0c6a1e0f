/-
  canon.Free, canon.order, slices.Clone of ints.
  canon.order; slices.Clone of ints; canon.assign.
  canon.Book in memory; canon.bind.
  canon.NewBook; (*canon.Book).beyond.
  (*canon.Book).beyond.
-/
import Derived.Test.YtoppjcmkhhkbmaaGreatSqueezePlainx1
import Derived.Test.YtoppjcmkhhkbmaaGreatSqueezePlainx2
import Derived.Deep.DeepCutAuto
import Derived.Deep.CutRange
import Derived.Deep.CutBlock
import Derived.Deep.RegionHeld3
import Derived.BigRegion
import Derived.Laws.Cover4
namespace Go.Proofs.YtoppjcmkhhkbmaaGreat
open Go.RowKit

theorem half_pow (m : Nat) (h : m ≤ 16) : (65536 : Int) / 2 ^ m = 2 ^ (16 - m) := by
  have : ∀ k : Fin 17, (65536 : Int) / 2 ^ k.val = 2 ^ (16 - k.val) := by decide
  exact this ⟨m, by omega⟩
theorem kraft_snoc (l : List Int) (x : Int) : kraft (l ++ [x]) = kraft l + (if 0 < x then (2 : Int) ^ (16 - x.toNat) else 0) := by unfold kraft; simp
theorem kraft_bd : ∀ (l : List Int), 0 ≤ kraft l ∧ kraft l ≤ 32768 * l.length
  | [] => ⟨by decide, by decide⟩
  | x :: l => by
    have ih := kraft_bd l
    have e : kraft (x :: l) = (if 0 < x then (2 : Int) ^ (16 - x.toNat) else 0) + kraft l := by unfold kraft; simp
    rw [e, List.length_cons]
    split
    · rename_i h
      have h1 := pow_mono (show 16 - x.toNat ≤ 15 by omega)
      have h2 : (2 : Int) ^ 15 = 32768 := by decide
      have h3 : (0 : Int) < 2 ^ (16 - x.toNat) := Int.pow_pos (by omega)
      omega
    · omega
def FreeEnd (l : List Int) (W : World) (e : Ending) (w' : World) : Prop := w' = W ∧ ((lensB l = true ∧ e = .returned (.tuple #[.int .i64 (65536 - kraft l), .nilIface])) ∨ (lensB l = false ∧ e = .returned (.tuple #[.int .i64 0, .iface 35 (.int .i64 6)])))
theorem lens_no {l : List Int} {p : Prop} (hn : ¬ p) (hp : lensB l = true → p) : lensB l = false := by
  cases hb : lensB l
  · rfl
  · exact absurd (hp hb) hn
set_option maxRecDepth 100000 in
set_option maxHeartbeats 2000000 in
theorem free_any (A : Option Addr) (c : Nat) (l : List Int) (W : World) (h : RdI W W.heap.size A l) (hm : l.length ≤ maxLen) : Calls Tryz.prog 187 #[.slice A l.length c] W (FreeEnd l W) := by
  have H := hid h
  unfold maxLen at hm
  clear h
  obtain ⟨n, hn⟩ : ∃ n, n = l.length := ⟨_, rfl⟩
  have Hn := hid hn
  rw [← hn] at hm ⊢
  by_cases hbig : 512 < n
  · have d1 : decide (512 < n) = true := decide_eq_true hbig
    have d2 : decide ((512 : Int) < (n : Int)) = true := decide_eq_true (by omega)
    have HF := hid (show lensB l = false from lens_no (p := l.length ≤ 512) (by omega) (fun h => (lensB_iff.1 h).1))
    clear hn hbig
    go_enter Tryz.func187, Tryz.ntmps187
    go_wp2
    go_ret2
    exact ⟨rfl, .inr ⟨HF.out, rfl⟩⟩
  · have d1 : decide (512 < n) = false := decide_eq_false hbig
    have d2 : decide ((512 : Int) < (n : Int)) = false := decide_eq_false (by omega)
    have hn512 : n ≤ 512 := by omega
    clear hn hbig
    go_enter Tryz.func187, Tryz.ntmps187
    go_wp2_with fail
    go_loop [4, 13] (fun v i => ∃ j : Nat, j ≤ n ∧ v = .int .i64 (65536 - kraft (l.take j)) ∧ i = .int .i64 (j : Int) ∧ Hid (∀ x ∈ l.take j, 0 ≤ x ∧ x ≤ 16)) (fun _ i => n - (intOf i).toNat)
    case atStart => exact ⟨0, by omega, rfl, rfl, hid (by simp)⟩
    case round =>
      obtain ⟨j, hj, rfl, rfl, HA⟩ := hrel
      have hkb := kraft_bd (l.take j)
      have hkl : (l.take j).length ≤ j := List.length_take_le _ _
      by_cases hlt : j < n
      · have hjl : j < l.length := by rw [← Hn.out]; exact hlt
        obtain ⟨b, off, hA, hb, hc⟩ := int_at H.out hjl
        subst hA
        have htk : l.take (j + 1) = l.take j ++ [l[j]] := List.take_succ_eq_append_getElem hjl
        have hmem : l[j] ∈ l := List.getElem_mem hjl
        obtain ⟨x, hx⟩ : ∃ x, x = l[j] := ⟨_, rfl⟩
        rw [← hx] at hc htk hmem
        have Htk := hid htk
        have Hmem := hid hmem
        clear htk hmem hx
        by_cases h0 : x < 0
        · have HF := hid (show lensB l = false from lens_no (p := 0 ≤ x) (by omega) (fun h => ((lensB_iff.1 h).2.1 x Hmem.out).1))
          go_wp2
          go_ret2
          exact ⟨rfl, .inr ⟨HF.out, rfl⟩⟩
        · by_cases h16 : 16 < x
          · have HF := hid (show lensB l = false from lens_no (p := x ≤ 16) (by omega) (fun h => ((lensB_iff.1 h).2.1 x Hmem.out).2))
            go_wp2
            go_ret2
            exact ⟨rfl, .inr ⟨HF.out, rfl⟩⟩
          · have HA2 := hid (show ∀ y ∈ l.take (j + 1), 0 ≤ y ∧ y ≤ 16 from by
              rw [Htk.out]
              intro y hy
              rw [List.mem_append] at hy
              rcases hy with hy | hy
              · exact HA.out y hy
              · rw [List.mem_singleton.1 hy]; omega)
            obtain ⟨K, hK⟩ : ∃ K, K = kraft (l.take j) := ⟨_, rfl⟩
            have HK := hid hK
            rw [← hK] at hkb ⊢
            clear hK
            by_cases hp : 0 < x
            · obtain ⟨m, rfl⟩ : ∃ m : Nat, x = (m : Int) := ⟨x.toNat, by omega⟩
              have hsh := half_pow m (by omega)
              have hpw := pow_mono (show 16 - m ≤ 16 by omega)
              have hp16 : (2 : Int) ^ 16 = 65536 := by decide
              have hp0 : (0 : Int) < 2 ^ (16 - m) := Int.pow_pos (by omega)
              have hpm : 0 < m := by omega
              have hm16 : m ≤ 16 := by omega
              have HKs := hid (show kraft (l.take (j + 1)) = K + 2 ^ (16 - m) by rw [Htk.out, kraft_snoc, if_pos hp, ← HK.out]; rfl)
              rw [hp16] at hpw
              have Hsh := hid hsh
              obtain ⟨pm, hpm2⟩ : ∃ pm : Int, pm = 2 ^ (16 - m) := ⟨_, rfl⟩
              rw [← hpm2] at hpw hp0 HKs hsh
              have tw : wrap64 (65536 - K - pm) = 65536 - K - pm := by unfold wrap64; omega
              have tw2 : IntKind.i64.wrap (65536 - K - pm) = 65536 - K - pm := IntWalk.i64_in _ (by omega)
              clear hpm2 hp16 h0 h16 Hsh
              have dp : decide ((0 : Int) < (m : Int)) = true := decide_eq_true (by omega)
              have dp2 : decide (0 < m) = true := decide_eq_true (by omega)
              go_wp2
              all_goals
                go_round
                case rel => exact ⟨j + 1, by omega, by rw [HKs.out]; congr 1; omega, by go_num, HA2⟩
                case measure => simp [intOf]; omega
            · have HKs := hid (show kraft (l.take (j + 1)) = K by rw [Htk.out, kraft_snoc, if_neg hp, ← HK.out]; omega)
              have dp : decide (0 < x) = false := decide_eq_false hp
              go_wp2
              all_goals
                go_round
                case rel => exact ⟨j + 1, by omega, by rw [HKs.out], by go_num, HA2⟩
                case measure => simp [intOf]; omega
      · have hje : l.take j = l := List.take_of_length_le (by rw [← Hn.out]; omega)
        rw [hje] at hkb HA ⊢
        have hn3 : l.length ≤ 512 := by rw [← Hn.out]; exact hn512
        by_cases hneg : 65536 - kraft l < 0
        · have HF := hid (show lensB l = false from lens_no (p := kraft l ≤ 65536) (by omega) (fun h => (lensB_iff.1 h).2.2))
          have dp : decide (65536 - kraft l < 0) = true := decide_eq_true hneg
          clear hje hneg hn3
          generalize kraft l = K at *
          go_wp2
          go_ret2
          exact ⟨rfl, .inr ⟨HF.out, rfl⟩⟩
        · have HT := hid (show lensB l = true from lensB_iff.2 ⟨hn3, HA.out, by omega⟩)
          have dp : decide (65536 - kraft l < 0) = false := decide_eq_false hneg
          obtain ⟨K, hK⟩ : ∃ K, K = kraft l := ⟨_, rfl⟩
          have HK := hid hK
          rw [← hK] at dp hneg ⊢
          clear hje hn3 hkb hK
          go_wp2
          go_ret2
          exact ⟨rfl, .inl ⟨HT.out, by rw [← HK.out]; rfl⟩⟩
end Go.Proofs.YtoppjcmkhhkbmaaGreat

namespace Go.Proofs.YtoppjcmkhhkbmaaGreat
open Go.RowKit

def natsV (l : List Nat) : List Int := l.map (fun i : Nat => (i : Int))
theorem natsV_append (l m : List Nat) : natsV (l ++ m) = natsV l ++ natsV m := by simp [natsV]
theorem natsV_length (l : List Nat) : (natsV l).length = l.length := by simp [natsV]
def OwnN (w : World) (base : Nat) (A : Option Addr) (c : Nat) (o : List Nat) : Prop := w.ownsRow base 3 1 (.slice A o.length c) o.length (intsV (natsV o))
def OrderEnd (l : List Int) (W : World) (e : Ending) (w' : World) : Prop := ∃ A c, e = .returned (.slice A (ordL l).length c) ∧ OwnN w' W.heap.size A c (ordL l) ∧ Below W.heap.size W w'
set_option maxRecDepth 100000 in
set_option maxHeartbeats 4000000 in
theorem order_any (A : Option Addr) (c : Nat) (l : List Int) (W : World) (h : RdI W W.heap.size A l) (hm : l.length ≤ 1000) : Calls Tryz.prog 189 #[.slice A l.length c] W (OrderEnd l W) := by
  have H := hid h
  obtain ⟨i0, hi0, hz0, hz1, hz2⟩ := info_parts int_info
  have Hi0 := hid hi0
  have Hz0 := hid hz0
  have Hz1 := hid hz1
  have Hz2 := hid hz2
  clear hi0 hz0 hz1 hz2 h
  obtain ⟨L, hL⟩ : ∃ L, L = l.length := ⟨_, rfl⟩
  have HL := hid hL
  rw [← hL] at hm ⊢
  clear hL
  go_enter Tryz.func189, Tryz.ntmps189
  go_wp2_with fail
  go_loopw [3, 4] (fun v i wr => ∃ (n k : Nat) (A' : Option Addr) (c' : Nat) (o : List Nat), n ≤ 16 ∧ i = .int .i64 ((n : Int) + 1) ∧ v = .slice A' k c' ∧ k ≤ n * 1000 ∧ Hid (k = o.length) ∧ Hid (o = (List.range n).flatMap (fun i => rowF l (i + 1))) ∧ Hid (OwnN wr W.heap.size A' c' o) ∧ Hid (Below W.heap.size W wr)) (fun _ i _ => (17 - intOf i).toNat)
  case atStart => exact ⟨0, 0, none, 0, [], by omega, rfl, rfl, by omega, hid rfl, hid rfl, hid (World.ownsRow_nil _ _ _ _), hid (Below.refl _ _)⟩
  case round =>
    obtain ⟨n, k, A', c', o, hn, rfl, rfl, hk, Hk, Ho, O, B⟩ := hrel
    by_cases hlt : n < 16
    · have d1 : decide ((n : Int) + 1 ≤ 16) = true := decide_eq_true (by omega)
      have Ho0 := Ho
      go_wp2_with fail
      go_loopw [3, 13] (fun v i wr => ∃ (j k : Nat) (A' : Option Addr) (c' : Nat) (o2 : List Nat), j ≤ L ∧ i = .int .i64 (j : Int) ∧ v = .slice A' k c' ∧ k ≤ n * 1000 + j ∧ Hid (k = o2.length) ∧ Hid (o2 = o ++ rowF (l.take j) (n + 1)) ∧ Hid (OwnN wr W.heap.size A' c' o2) ∧ Hid (Below W.heap.size W wr)) (fun _ i _ => L - (intOf i).toNat)
      case atStart => exact ⟨0, k, A', c', o, by omega, rfl, rfl, by omega, Hk, hid (by simp [rowF]), O, B⟩
      case round =>
        clear Hk Ho O B
        obtain ⟨j, k, A', c', o2, hj, rfl, rfl, hk2, Hk, Ho, O, B⟩ := hrel
        by_cases hjl : j < L
        · have hjl2 : j < l.length := by rw [← HL.out]; exact hjl
          obtain ⟨b, off, hA, hb, hc⟩ := int_at (H.out.below B.out (Nat.le_refl _)) hjl2
          subst hA
          have htk : l.take (j + 1) = l.take j ++ [l[j]] := List.take_succ_eq_append_getElem hjl2
          have hrs := rowF_snoc (l.take j) l[j] (n + 1)
          rw [← htk, List.length_take, Nat.min_eq_left (by omega)] at hrs
          obtain ⟨x, hx⟩ : ∃ x, x = l[j] := ⟨_, rfl⟩
          rw [← hx] at hc hrs
          have hbw : b < wr.heap.size := by have := B.out.size; omega
          have hW := B.out.size
          by_cases e : x = ((n + 1 : Nat) : Int)
          · have Hrs := hid (show rowF (l.take (j + 1)) (n + 1) = rowF (l.take j) (n + 1) ++ [j] by rw [hrs, if_pos e])
            have d2 : (x == (n : Int) + 1) = true := by rw [beq_iff_eq]; omega
            clear htk hrs hx e
            go_wp2_with (at_builtin; refine wpList_app _ rfl _ _ _ rfl W.heap.size 3 i0 (.int .i64 0) 1 8 Tryz.underlying65 Hi0.out Hz0.out Hz1.out Hz2.out rfl (by omega) A' k c' (intsV (natsV o2)) rfl (by have h1 := O.out; unfold OwnN at h1; rw [← Hk.out] at h1; exact own_below h1 ((Below.refl _ _).alloc (Nat.le_refl _) _) (Nat.le_refl _)) _ _ 1 1 [.int .i64 (j : Int)] rfl (rd_one _ _ _ _ (Blk.new _ _ _)) (by simp) (by simp [Value.oneCell']) (by simp only [maxLen]; omega) (by omega) (by simp; omega) ?_; intro A4 c4 w4 ha4; have Ha4 := hid ha4; clear ha4)
            go_roundw
            case rel =>
              have ha := Ha4.out
              refine ⟨j + 1, k + 1, A4, c4, o2 ++ [j], by omega, by go_num, rfl, by omega, hid (by rw [List.length_append, Hk.out]; rfl), hid (by rw [Ho.out, Hrs.out, List.append_assoc]), hid ?_, hid (B.out.trans (((Below.refl _ _).alloc hW _).trans ha.2.2.1))⟩
              have h1 := ha.1
              unfold OwnN
              rw [List.length_append, ← Hk.out, natsV_append]
              have e1 : intsV (natsV o2) ++ [Value.int .i64 (j : Int)] = intsV (natsV o2 ++ natsV [j]) := by simp [intsV, natsV]
              rw [e1] at h1
              exact h1
            case measure => simp [intOf]; omega
          · have Hrs := hid (show rowF (l.take (j + 1)) (n + 1) = rowF (l.take j) (n + 1) by rw [hrs, if_neg e, List.append_nil])
            have d2 : (x == (n : Int) + 1) = false := by rw [beq_eq_false_iff_ne]; omega
            clear htk hrs hx e
            go_wp2_with fail
            go_roundw
            case rel => exact ⟨j + 1, k, A', c', o2, by omega, by go_num, rfl, by omega, Hk, hid (by rw [Ho.out, Hrs.out]), O, B⟩
            case measure => simp [intOf]; omega
        · have htl := hid (show l.take j = l from List.take_of_length_le (by rw [← HL.out]; omega))
          go_wp2_with fail
          go_roundw
          case rel =>
            refine ⟨n + 1, k, A', c', o2, by omega, by go_num, rfl, by omega, Hk, hid ?_, O, B⟩
            rw [Ho.out, htl.out, List.range_succ, List.flatMap_append, ← Ho0.out]
            simp
          case measure => simp [intOf]; omega
    · have hn16 : n = 16 := by omega
      have d1 : decide ((n : Int) + 1 ≤ 16) = false := decide_eq_false (by omega)
      have HO := hid (show o = ordL l by rw [Ho.out, hn16]; rfl)
      clear hn16
      go_wp2_with fail
      go_ret
      exact ⟨A', c', by rw [Hk.out, HO.out]; rfl, by rw [← HO.out]; exact O.out, B.out⟩
def ClonedI (l : List Int) (W : World) (e : Ending) (w' : World) : Prop :=
  ∃ A c, e = .returned (.slice A l.length c) ∧ w'.ownsRow W.heap.size 3 1 (.slice A l.length c) l.length (intsV l) ∧ Below W.heap.size W w'
theorem intsV_cells {l : List Int} : ∀ u ∈ intsV l, u.oneCell' = true := by intro u hu; obtain ⟨x, _, rfl⟩ := List.mem_map.1 hu; rfl
set_option maxRecDepth 100000 in
set_option maxHeartbeats 1000000 in
theorem cloneI_any (A : Option Addr) (c : Nat) (l : List Int) (W : World) (hr : RdI W W.heap.size A l) (hc : A = none → c = 0) (hm : l.length ≤ 1000000) :
    Calls Tryz.prog 197 #[.slice A l.length c] W (ClonedI l W) := by
  have hr2 : Rd W W.heap.size 1 A l.length (intsV l) := by rw [← intsV_eq]; exact hr
  cases A with
  | none =>
    obtain rfl := hc rfl
    have hl := rd_nil hr2 (by omega) rfl
    obtain rfl := List.eq_nil_of_length_eq_zero hl
    have hq := fun w => Lib.run_eql_slice_nil (P := Tryz.prog) w 65 3 none 0 0 0 0 Tryz.underlying65
    go_enter Tryz.func197, Tryz.ntmps197
    go_wp2
    go_ret
    exact ⟨none, 0, rfl, World.ownsRow_nil _ _ _ _, Below.refl _ _⟩
  | some ad =>
    obtain ⟨i0, hi0, hz0, hz1, hz2⟩ := info_parts int_info
    have Hi0 := hid hi0
    have Hz0 := hid hz0
    have Hz1 := hid hz1
    have Hz2 := hid hz2
    have Hr := hid hr2
    clear hi0 hz0 hz1 hz2 hr hc hr2
    have hq := fun w => Lib.run_eql_slice_nil (P := Tryz.prog) w 65 3 ad l.length c 0 0 Tryz.underlying65
    go_enter Tryz.func197, Tryz.ntmps197
    go_wp2_with (at_builtin; refine wpList_app _ rfl _ _ _ rfl W.heap.size 3 i0 (.int .i64 0) 1 8 Tryz.underlying65 Hi0.out Hz0.out Hz1.out Hz2.out rfl (by omega) _ 0 0 [] rfl (empty_own W _ 1) W.heap.size _ l.length c (intsV l) rfl (Hr.out.alloc (Nat.le_refl _) _) (by simp) intsV_cells (by simp only [maxLen]; omega) (by omega) (by simp) ?_; rintro A3 c3 w3 ⟨hown3, hgr3, hb3, _⟩)
    go_ret
    refine ⟨A3, c3, by simp, by simpa using hown3, ((Below.refl _ _).alloc (Nat.le_refl _) _).trans hb3⟩
def AssignEnd (l : List Int) (o : List Nat) (W : World) (e : Ending) (w' : World) : Prop :=
  ∃ g, e = .returned (.slice (some ⟨g, 0, none⟩) l.length l.length) ∧ W.heap.size ≤ g ∧ Blk w' g 3 (intsV (asg l o 0 0 (List.replicate l.length 0))).toArray ∧ Below W.heap.size W w'
theorem asg_step (l : List Int) (o : List Nat) (i nx la : Nat) (cs : List Int) (h : i < o.length) : asg l (o.drop i) nx la cs = asg l (o.drop (i + 1)) (nx * 2 ^ (lenOf l o[i] - la) + 1) (lenOf l o[i]) (cs.set o[i] ((nx * 2 ^ (lenOf l o[i] - la) : Nat) : Int)) := by
  rw [List.drop_eq_getElem_cons h]
  rfl
theorem tot_take (sl : Cd.SL) (i : Nat) (h : i < sl.length) : Cd.tot (sl.take (i + 1)) = Cd.tot (sl.take i) + Cd.pw sl[i].2 := by
  rw [List.take_succ_eq_append_getElem h, Cd.tot_append, Cd.tot_cons, Cd.tot_nil]
  rfl
theorem tot_take_le (sl : Cd.SL) (i : Nat) : Cd.tot (sl.take i) ≤ Cd.tot sl := by
  conv => rhs; rw [← List.take_append_drop i sl]
  rw [Cd.tot_append]
  omega
set_option maxRecDepth 100000 in
set_option maxHeartbeats 4000000 in
theorem assign_any (A OA : Option Addr) (c oc : Nat) (l : List Int) (o : List Nat) (W : World) (h : RdI W W.heap.size A l) (ho : RdI W W.heap.size OA (natsV o)) (hok : Cd.Ok (o.map fun s => (s, lenOf l s))) (hb : ∀ s ∈ o, s < l.length) (hm : l.length ≤ 1000) (hmo : o.length ≤ 1000) :
    Calls Tryz.prog 198 #[.slice A l.length c, .slice OA o.length oc] W (AssignEnd l o W) := by
  have H := hid h
  have HO := hid ho
  have Hok := hid hok
  have Hb := hid hb
  obtain ⟨i0, hi0, hz0, hz1, hz2⟩ := info_parts int_info
  obtain ⟨L, hL⟩ : ∃ L, L = l.length := ⟨_, rfl⟩
  have HL := hid hL
  rw [← hL] at hm ⊢
  have Hmk := hid (show ∀ w : World, (Instr.makeSlice 65 (.int .i64 (L : Int)) (.int .i64 (L : Int))).run Tryz.prog w = .ok (.slice (some ⟨w.heap.size, 0, none⟩) L L) (w.alloc (.cells (List.replicate L (Value.int .i64 0)).toArray 3)) from by
    intro w
    have h := run_make (P := Tryz.prog) w 65 3 i0 (.int .i64 0) Tryz.underlying65 hi0 hz0 .i64 .i64 (L : Int) (L : Int) (by omega) (by omega) (by rw [hz2]; omega) (by omega)
    rw [hz1, made_list _ _ rfl] at h
    exact h)
  clear h ho hok hb hi0 hz0 hz1 hz2 hL
  obtain ⟨N, hN⟩ : ∃ N, N = o.length := ⟨_, rfl⟩
  have HN := hid hN
  rw [← hN] at hmo ⊢
  clear hN
  have hmk := Hmk.out
  go_enter Tryz.func198, Tryz.ntmps198
  go_wp2_with fail
  have B0 := hid (Blk.new W 3 (Array.replicate L (Value.int .i64 0)))
  have Bb := hid ((Below.refl W.heap.size W).alloc (Nat.le_refl _) (.cells (Array.replicate L (Value.int .i64 0)) 3))
  obtain ⟨g, hg⟩ : ∃ g, g = W.heap.size := ⟨_, rfl⟩
  have hWg : W.heap.size ≤ g := by omega
  rw [← hg] at B0 ⊢
  generalize W.alloc (.cells (Array.replicate L (Value.int .i64 0)) 3) = w0 at *
  clear hmk hg
  go_loopw [6, 7, 15] (fun v6 v7 v15 wr => ∃ (i nx la : Nat) (cs : List Int), i ≤ N ∧ v6 = .int .i64 (nx : Int) ∧ v7 = .int .i64 (la : Int) ∧ v15 = .int .i64 (i : Int) ∧ la ≤ 16 ∧ Hid (cs.length = L) ∧ Hid (asg l o 0 0 (List.replicate L 0) = asg l (o.drop i) nx la cs) ∧ Hid (nx * Cd.pw la = Cd.tot ((o.map fun s => (s, lenOf l s)).take i)) ∧ Hid (∀ s ∈ o.drop i, la ≤ lenOf l s) ∧ Hid (Blk wr g 3 (intsV cs).toArray) ∧ Hid (Below W.heap.size W wr)) (fun _ _ i _ => N - (intOf i).toNat)
  case atStart => exact ⟨0, 0, 0, List.replicate L 0, by omega, rfl, rfl, rfl, by omega, hid (by simp), hid rfl, hid (by simp [Cd.tot]), hid (fun _ _ => Nat.zero_le _), hid (by have h1 := B0.out; unfold intsV; rw [List.map_replicate, List.toArray_replicate]; exact h1), Bb⟩
  case round =>
    obtain ⟨i, nx, la, cs, hi, rfl, rfl, rfl, hla, HC, HA, HT, HM, B, Be⟩ := hrel
    by_cases hlt : i < N
    · have hio : i < o.length := by rw [← HN.out]; exact hlt
      obtain ⟨b, off, hA, hbb, hc⟩ := int_at (HO.out.below Be.out (Nat.le_refl _)) (j := i) (by rw [natsV_length]; exact hio)
      subst hA
      have e1 : (natsV o)[i]'(by rw [natsV_length]; exact hio) = ((o[i] : Nat) : Int) := by simp [natsV]
      rw [e1] at hc
      have hstep := asg_step l o i nx la cs hio
      have hmem : o[i] ∈ o := List.getElem_mem hio
      have hsl : o[i] < L := by rw [HL.out]; exact Hb.out _ hmem
      have hlen := Hok.out.len (o[i], lenOf l o[i]) (List.mem_map.2 ⟨o[i], hmem, rfl⟩)
      have hdr : o[i] ∈ o.drop i := by rw [List.drop_eq_getElem_cons hio]; exact List.mem_cons_self
      have hla2 := HM.out _ hdr
      have hsorted := Hok.out.sorted
      have htt := tot_take (o.map fun s => (s, lenOf l s)) i (by simpa using hio)
      have htle := tot_take_le (o.map fun s => (s, lenOf l s)) (i + 1)
      have hkr := Hok.out.kraft
      rw [List.getElem_map] at htt
      have hnext : ∀ s ∈ o.drop (i + 1), lenOf l o[i] ≤ lenOf l s := fun s hs => by
        rw [List.pairwise_map, ← List.take_append_drop i o, List.pairwise_append, List.drop_eq_getElem_cons hio, List.pairwise_cons] at hsorted
        exact hsorted.2.1.1 s hs
      obtain ⟨s, hs⟩ : ∃ s, s = o[i] := ⟨_, rfl⟩
      rw [← hs] at hc hstep hsl hlen hla2 htt hnext hmem
      have hls : s < l.length := by rw [← HL.out]; exact hsl
      obtain ⟨b2, off2, hA2, hbb2, hc2⟩ := int_at (H.out.below Be.out (Nat.le_refl _)) (j := s) hls
      subst hA2
      have e2 : l[s] = ((lenOf l s : Nat) : Int) := by
        have : l.getD s 0 = l[s] := by rw [List.getD_eq_getElem?_getD, List.getElem?_eq_getElem hls]; rfl
        unfold lenOf at hlen ⊢
        rw [this] at hlen ⊢
        omega
      rw [e2] at hc2
      obtain ⟨n, hn⟩ : ∃ n, n = lenOf l s := ⟨_, rfl⟩
      rw [← hn] at hc2 hstep hlen hla2 htt hnext
      obtain ⟨nn, hnn⟩ : ∃ nn, nn = nx * 2 ^ (n - la) := ⟨_, rfl⟩
      have hnpw : nn * Cd.pw n = Cd.tot ((o.map fun s => (s, lenOf l s)).take i) := by
        rw [← HT.out, hnn, Nat.mul_assoc]
        congr 1
        unfold Cd.pw
        rw [← Nat.pow_add]
        congr 1
        omega
      have hpp := Cd.pw_pos n
      have hnb : nn ≤ 65536 := by
        have h1 : nn * 1 ≤ nn * Cd.pw n := Nat.mul_le_mul_left _ hpp
        simp only at htt
        omega
      rw [← hnn] at hstep
      simp only at htt hlen
      have HN2 := hid (show (nn + 1) * Cd.pw n = Cd.tot ((o.map fun s => (s, lenOf l s)).take (i + 1)) by rw [htt, ← hnpw, Nat.add_mul, Nat.one_mul])
      have Hst := hid hstep
      have Hne := hid hnext
      obtain ⟨d, hd⟩ : ∃ d : Nat, d = n - la := ⟨_, rfl⟩
      have td : wrap64 ((n : Int) - (la : Int)) = (d : Int) := by unfold wrap64; omega
      have td2 : (n : Int) - (la : Int) = (d : Int) := by omega
      have td3 : IntKind.i64.wrap ((n : Int) - (la : Int)) = (d : Int) := (IntWalk.i64_in _ (by omega)).trans td2
      have hsh := fun w => shl_run (P := Tryz.prog) (yk := .i64) (nx : Int) d (by omega) w (by omega) (by
        rw [← hd] at hnn
        have : ((nx * 2 ^ d : Nat) : Int) ≤ 65536 := by rw [← hnn]; omega
        push_cast at this
        omega)
      have enn : (nx : Int) * 2 ^ d = (nn : Int) := by rw [hnn, hd]; push_cast; rfl
      have Hn := hid hn
      have fz := fun o => B.out.frozen o
      have hgw := B.out.lt
      have hcs : s < cs.length := by rw [HC.out]; exact hsl
      have q0 : ∃ u, wr.cell? ⟨g, s, none⟩ = some u := ⟨_, (B.out.cell s).trans (by simp [intsV, hcs]; rfl)⟩
      obtain ⟨u, q0⟩ := q0
      have hlenn := hlen
      clear hstep hnext hn hnn hnpw htt htle hkr hdr hmem hs e1 e2 hd hio hcs hsorted hlen
      rw [enn] at hsh
      go_wp2_with fail
      have hset := B.out.set_ s (.int .i64 (nn : Int))
      have e5 : (intsV cs).toArray.setIfInBounds s (Value.int .i64 (nn : Int)) = (intsV (cs.set s (nn : Int))).toArray := by simp [intsV, List.map_set]
      rw [e5] at hset
      exact ⟨⟨i + 1, nn + 1, n, cs.set s (nn : Int), by omega, by go_num, rfl, by go_num, by omega, hid (by rw [List.length_set]; exact HC.out), hid (HA.out.trans Hst.out), HN2, Hne, hid hset, hid (Be.out.setCell (p := ⟨g, s, none⟩) hWg _)⟩, by simp [intOf]; omega⟩
    · have hdone := hid (show asg l o 0 0 (List.replicate L 0) = cs by
        rw [HA.out, List.drop_eq_nil_of_le (by rw [← HN.out]; omega)]
        rfl)
      go_wp2_with fail
      go_ret
      refine ⟨g, by rw [← HL.out]; rfl, hWg, ?_, Be.out⟩
      rw [← HL.out, hdone.out]
      exact B.out
end Go.Proofs.YtoppjcmkhhkbmaaGreat

namespace Go.Proofs.YtoppjcmkhhkbmaaGreat
open Go.RowKit

/-- a book: its lengths, codes, order and rows, each with its place -/
structure BM where
  LA : Option Addr
  Lc : Nat
  lens : List Int
  CA : Option Addr
  Cc : Nat
  codes : List Int
  OA : Option Addr
  Oc : Nat
  ord : List Nat
  F : Nat → Int
  SA : Nat → Option Addr
  Sc : Nat → Nat
  S : Nat → List Nat
def bookCell (b : BM) (i : Nat) : Value := if i = 0 then .slice b.LA b.lens.length b.Lc else if i = 1 then .slice b.CA b.codes.length b.Cc else if i = 2 then .slice b.OA b.ord.length b.Oc else if (i - 3) % 2 = 0 then .int .i64 (b.F ((i - 3) / 2)) else .slice (b.SA ((i - 3) / 2)) (b.S ((i - 3) / 2)).length (b.Sc ((i - 3) / 2))
def bookCs (b : BM) : Array Value := ((List.range 37).map (bookCell b)).toArray
theorem bookCs_at (b : BM) (i : Nat) (h : i < 37) : (bookCs b)[i]? = some (bookCell b i) := by
  unfold bookCs
  rw [List.getElem?_toArray, List.getElem?_map, List.getElem?_range h]
  rfl
theorem bookCs_size (b : BM) : (bookCs b).size = 37 := by simp [bookCs]
theorem cell_first (b : BM) (n : Nat) (h : n < 17) : (bookCs b)[3 + n * 2]? = some (.int .i64 (b.F n)) := by
  rw [bookCs_at b _ (by omega)]
  unfold bookCell
  rw [if_neg (by omega), if_neg (by omega), if_neg (by omega), if_pos (by omega), show (3 + n * 2 - 3) / 2 = n by omega]
theorem cell_syms (b : BM) (n : Nat) (h : n < 17) : (bookCs b)[3 + n * 2 + 1]? = some (.slice (b.SA n) (b.S n).length (b.Sc n)) := by
  rw [bookCs_at b _ (by omega)]
  unfold bookCell
  rw [if_neg (by omega), if_neg (by omega), if_neg (by omega), if_neg (by omega), show (3 + n * 2 + 1 - 3) / 2 = n by omega]
def upF {α : Type} (f : Nat → α) (n : Nat) (x : α) : Nat → α := fun i => if i = n then x else f i
theorem upF_same {α : Type} (f : Nat → α) (n : Nat) (x : α) : upF f n x n = x := if_pos rfl
theorem upF_ne {α : Type} (f : Nat → α) {n i : Nat} (x : α) (h : i ≠ n) : upF f n x i = f i := if_neg h
theorem set_first (b : BM) (n : Nat) (x : Int) (h : n < 17) : (bookCs b).setIfInBounds (3 + n * 2) (.int .i64 x) = bookCs { b with F := upF b.F n x } := by
  apply Array.ext_getElem?
  intro i
  rcases Nat.lt_or_ge i 37 with hi | hi
  · rw [bookCs_at _ i hi]
    by_cases e : 3 + n * 2 = i
    · subst e
      rw [Array.getElem?_setIfInBounds_self_of_lt (by rw [bookCs_size]; exact hi)]
      unfold bookCell
      rw [if_neg (by omega), if_neg (by omega), if_neg (by omega), if_pos (by omega), show (3 + n * 2 - 3) / 2 = n by omega]
      simp only [upF_same]
    · rw [Array.getElem?_setIfInBounds_ne e, bookCs_at b i hi]
      congr 1
      unfold bookCell
      split
      · rfl
      · split
        · rfl
        · split
          · rfl
          · split
            · simp only
              rw [upF_ne _ _ (by omega)]
            · rfl
  · rw [Array.getElem?_eq_none (by rw [Array.size_setIfInBounds, bookCs_size]; exact hi), Array.getElem?_eq_none (by rw [bookCs_size]; exact hi)]
theorem set_syms (b : BM) (n : Nat) (A : Option Addr) (c : Nat) (s : List Nat) (h : n < 17) : (bookCs b).setIfInBounds (3 + n * 2 + 1) (.slice A s.length c) = bookCs { b with SA := upF b.SA n A, Sc := upF b.Sc n c, S := upF b.S n s } := by
  apply Array.ext_getElem?
  intro i
  rcases Nat.lt_or_ge i 37 with hi | hi
  · rw [bookCs_at _ i hi]
    by_cases e : 3 + n * 2 + 1 = i
    · subst e
      rw [Array.getElem?_setIfInBounds_self_of_lt (by rw [bookCs_size]; exact hi)]
      unfold bookCell
      rw [if_neg (by omega), if_neg (by omega), if_neg (by omega), if_neg (by omega), show (3 + n * 2 + 1 - 3) / 2 = n by omega]
      simp only [upF_same]
    · rw [Array.getElem?_setIfInBounds_ne e, bookCs_at b i hi]
      congr 1
      unfold bookCell
      split
      · rfl
      · split
        · rfl
        · split
          · rfl
          · split
            · rfl
            · simp only
              rw [upF_ne _ _ (by omega), upF_ne _ _ (by omega), upF_ne _ _ (by omega)]
  · rw [Array.getElem?_eq_none (by rw [Array.size_setIfInBounds, bookCs_size]; exact hi), Array.getElem?_eq_none (by rw [bookCs_size]; exact hi)]
def obA : Option Addr → Option Nat := Option.map (·.block)
theorem ob_eq (A : Option Addr) (n c : Nat) : (Value.slice A n c).ownBlock = obA A := by cases A <;> rfl
/-- a book in memory -/
structure BK (w : World) (g : Nat) (b : BM) : Prop where
  blk : Blk w g 261 (bookCs b)
  len : w.ownsRow 0 3 1 (.slice b.LA b.lens.length b.Lc) b.lens.length (intsV b.lens)
  cod : w.ownsRow 0 3 1 (.slice b.CA b.codes.length b.Cc) b.codes.length (intsV b.codes)
  ord : OwnN w 0 b.OA b.Oc b.ord
  row : ∀ i, i < 17 → OwnN w 0 (b.SA i) (b.Sc i) (b.S i)
theorem BK.below {w w' : World} {g : Nat} {b : BM} (h : BK w g b) (hb : Below w.heap.size w w') : BK w' g b :=
  ⟨h.blk.below hb h.blk.lt, own_below h.len hb (Nat.le_refl _), own_below h.cod hb (Nat.le_refl _), own_below h.ord hb (Nat.le_refl _), fun i hi => own_below (h.row i hi) hb (Nat.le_refl _)⟩
/-- where a block of another kind turns -/
theorem BK.grown {w w' : World} {g r : Nat} {b : BM} {t : TypeId} {cs : Array Value} (h : BK w g b) (hg : w.grownBy w' (some r)) (hr : Blk w r t cs) (h1 : 3 ≠ t) (h2 : 261 ≠ t) : BK w' g b := by
  have key : ∀ {base n size : Nat} {v : Value} {xs : List Value}, w.ownsRow base 3 size v n xs → w'.ownsRow base 3 size v n xs := fun ho => ho.kept hg (.inr (fun e => own_blk_ne ho hr h1 e.symm))
  refine ⟨h.blk.grown hg (fun e => ?_), key h.len, key h.cod, key h.ord, fun i hi => key (h.row i hi)⟩
  injection e with e
  subst e
  have h3 := h.blk
  unfold Blk at h3 hr
  rw [hr] at h3
  injection h3 with h3
  injection h3 with _ h4
  exact h2 h4.symm
/-- where a row of another kind is appended to -/
theorem BK.app {w w' : World} {g base n size : Nat} {b : BM} {t : TypeId} {v : Value} {xs : List Value} (h : BK w g b) (ho : w.ownsRow base t size v n xs) (hg : w.grownBy w' v.ownBlock) (h1 : 3 ≠ t) (h2 : t ≠ 261) : BK w' g b := by
  have key : ∀ {base2 m size2 : Nat} {u : Value} {ys : List Value}, w.ownsRow base2 3 size2 u m ys → w'.ownsRow base2 3 size2 u m ys := fun hu => by
    refine hu.kept hg ?_
    rcases hu.2 with ⟨rfl, _⟩ | ⟨p, cap, cur, rfl, _, hh, _⟩
    · exact .inl rfl
    · right
      rcases ho.2 with ⟨rfl, _⟩ | ⟨p2, cap2, cur2, rfl, _, hh2, _⟩
      · simp [Value.ownBlock]
      · intro e
        have : p = p2 := by simpa [Value.ownBlock] using e
        subst this
        rw [hh] at hh2
        injection hh2 with hh2
        injection hh2 with _ ht
        exact h1 ht
  exact ⟨h.blk.grown hg (own_blk_ne ho h.blk h2), key h.len, key h.cod, key h.ord, fun i hi => key (h.row i hi)⟩
/-- the rows lie apart -/
structure Dis (b : BM) : Prop where
  rows : ∀ i j, i < 17 → j < 17 → i ≠ j → obA (b.SA i) = none ∨ obA (b.SA i) ≠ obA (b.SA j)
  len : ∀ i, i < 17 → obA b.LA = none ∨ obA b.LA ≠ obA (b.SA i)
  cod : ∀ i, i < 17 → obA b.CA = none ∨ obA b.CA ≠ obA (b.SA i)
  ord : ∀ i, i < 17 → obA b.OA = none ∨ obA b.OA ≠ obA (b.SA i)
theorem own_lt {w : World} {base n size c : Nat} {t : TypeId} {A : Option Addr} {xs : List Value} (h : w.ownsRow base t size (.slice A n c) n xs) {g : Nat} (e : obA A = some g) : g < w.heap.size := by
  rcases h.2 with ⟨h1, _⟩ | ⟨p, cap, cur, h1, _, hh, _⟩
  · injection h1 with h1
    rw [h1] at e; cases e
  · injection h1 with h1
    rw [h1] at e
    injection e with e
    rw [← e]
    exact (Array.getElem?_eq_some_iff.1 hh).1
theorem BK.set1 {w : World} {g i : Nat} {b b' : BM} {u : Value} (h : BK w g b) (hc : (bookCs b).setIfInBounds i u = bookCs b') (e1 : b'.LA = b.LA ∧ b'.Lc = b.Lc ∧ b'.lens = b.lens) (e2 : b'.CA = b.CA ∧ b'.Cc = b.Cc ∧ b'.codes = b.codes) (e3 : b'.OA = b.OA ∧ b'.Oc = b.Oc ∧ b'.ord = b.ord) (hr : ∀ i, i < 17 → OwnN w 0 (b'.SA i) (b'.Sc i) (b'.S i)) : BK (w.setCell ⟨g, i, none⟩ u) g b' := by
  have key : ∀ {base n size : Nat} {v : Value} {xs : List Value}, w.ownsRow base 3 size v n xs → (w.setCell ⟨g, i, none⟩ u).ownsRow base 3 size v n xs := fun ho => ho.kept ⟨rfl, rfl, rfl, by simp, fun k _ hk => Below.heap_setCell w ⟨g, i, none⟩ u k (fun e => hk (by rw [e]))⟩ (.inr (fun e => own_blk_ne ho h.blk (by decide) e.symm))
  have hb := h.blk.set_ i u
  rw [hc] at hb
  refine ⟨hb, ?_, ?_, ?_, fun i hi => key (hr i hi)⟩
  · rw [e1.1, e1.2.1, e1.2.2]; exact key h.len
  · rw [e2.1, e2.2.1, e2.2.2]; exact key h.cod
  · rw [e3.1, e3.2.1, e3.2.2]; exact key h.ord
theorem BK.first {w : World} {g n : Nat} {b : BM} (h : BK w g b) (hn : n < 17) (x : Int) : BK (w.setCell ⟨g, 3 + n * 2, none⟩ (.int .i64 x)) g { b with F := upF b.F n x } :=
  h.set1 (set_first b n x hn) ⟨rfl, rfl, rfl⟩ ⟨rfl, rfl, rfl⟩ ⟨rfl, rfl, rfl⟩ h.row
def pushB (b : BM) (n s : Nat) (A4 : Option Addr) (c4 : Nat) : BM := { b with SA := upF b.SA n A4, Sc := upF b.Sc n c4, S := upF b.S n (b.S n ++ [s]) }
/-- a symbol behind a row -/
theorem BK.push {w w' : World} {g n : Nat} {b : BM} {s : Nat} {A4 : Option Addr} {c4 base : Nat} (h : BK w g b) (hd : Dis b) (hn : n < 17) (ha : Apped w base 3 1 (b.SA n) (b.S n).length (b.Sc n) (intsV (natsV (b.S n))) 1 [.int .i64 (s : Int)] A4 c4 w') :
    BK (w'.setCell ⟨g, 3 + n * 2 + 1, none⟩ (.slice A4 ((b.S n).length + 1) c4)) g (pushB b n s A4 c4) ∧ Dis (pushB b n s A4 c4) := by
  obtain ⟨a1, a2, _, a4⟩ := ha
  rw [ob_eq, ob_eq] at a4
  rw [ob_eq] at a2
  have kept : ∀ {base2 m size2 c : Nat} {B : Option Addr} {ys : List Value}, w.ownsRow base2 3 size2 (.slice B m c) m ys → (obA B = none ∨ obA B ≠ obA (b.SA n)) → w'.ownsRow base2 3 size2 (.slice B m c) m ys := fun hu hne => hu.kept a2 (by rw [ob_eq]; exact hne)
  have hblk : Blk w' g 261 (bookCs b) := h.blk.grown a2 (by have := own_blk_ne (h.row n hn) h.blk (by decide); rw [ob_eq] at this; exact this)
  have key : ∀ {base2 m size2 : Nat} {v : Value} {ys : List Value}, w'.ownsRow base2 3 size2 v m ys → (w'.setCell ⟨g, 3 + n * 2 + 1, none⟩ (.slice A4 ((b.S n).length + 1) c4)).ownsRow base2 3 size2 v m ys := fun ho =>
    ho.kept ⟨rfl, rfl, rfl, by simp, fun k _ hk => Below.heap_setCell w' ⟨g, 3 + n * 2 + 1, none⟩ _ k (fun e => hk (by rw [e]))⟩ (.inr (fun e => own_blk_ne ho hblk (by decide) e.symm))
  have hset := hblk.set_ (3 + n * 2 + 1) (.slice A4 (b.S n ++ [s]).length c4)
  rw [set_syms b n A4 c4 (b.S n ++ [s]) hn, List.length_append, List.length_singleton] at hset
  have fresh : ∀ {base2 m size2 c : Nat} {t : TypeId} {B : Option Addr} {ys : List Value}, w.ownsRow base2 t size2 (.slice B m c) m ys → obA B ≠ some w.heap.size := fun hu e => by
    have := own_lt hu e
    omega
  refine ⟨⟨hset, key (kept h.len (hd.len n hn)), key (kept h.cod (hd.cod n hn)), key (kept h.ord (hd.ord n hn)), fun i hi => ?_⟩, ?_⟩
  · by_cases e : i = n
    · subst e
      show OwnN _ 0 (upF b.SA i A4 i) (upF b.Sc i c4 i) (upF b.S i (b.S i ++ [s]) i)
      rw [upF_same, upF_same, upF_same]
      unfold OwnN
      rw [List.length_append, List.length_singleton, natsV_append]
      have e1 : intsV (natsV (b.S i)) ++ [Value.int .i64 (s : Int)] = intsV (natsV (b.S i) ++ natsV [s]) := by simp [intsV, natsV]
      rw [e1] at a1
      exact key (own_base a1 (Nat.zero_le _))
    · show OwnN _ 0 (upF b.SA n A4 i) (upF b.Sc n c4 i) (upF b.S n (b.S n ++ [s]) i)
      rw [upF_ne _ _ e, upF_ne _ _ e, upF_ne _ _ e]
      exact key (kept (h.row i hi) (hd.rows i n hi hn e))
  · have tail : ∀ {B : Option Addr} {base2 m size2 c : Nat} {t : TypeId} {ys : List Value}, w.ownsRow base2 t size2 (.slice B m c) m ys → (obA B = none ∨ obA B ≠ obA (b.SA n)) → obA B = none ∨ obA B ≠ obA A4 := fun hu hne => by
      rcases a4 with e | e
      · rw [e]; exact hne
      · rw [e]; exact .inr (fresh hu)
    refine ⟨fun i j hi hj hij => ?_, fun i hi => ?_, fun i hi => ?_, fun i hi => ?_⟩
    · show obA (upF b.SA n A4 i) = none ∨ obA (upF b.SA n A4 i) ≠ obA (upF b.SA n A4 j)
      by_cases e1 : i = n
      · subst e1
        rw [upF_same, upF_ne _ _ (fun e => hij e.symm)]
        have := tail (h.row j hj) (hd.rows j i hj hi (fun e => hij e.symm))
        rcases this with h1 | h1
        · cases hA : obA A4 with
          | none => exact .inl rfl
          | some x => right; rw [h1]; intro h2; cases h2
        · exact .inr (fun e => h1 e.symm)
      · by_cases e2 : j = n
        · subst e2
          rw [upF_same, upF_ne _ _ e1]
          exact tail (h.row i hi) (hd.rows i j hi hj hij)
        · rw [upF_ne _ _ e1, upF_ne _ _ e2]
          exact hd.rows i j hi hj hij
    · show obA b.LA = none ∨ obA b.LA ≠ obA (upF b.SA n A4 i)
      by_cases e1 : i = n
      · subst e1
        rw [upF_same]
        exact tail h.len (hd.len i hi)
      · rw [upF_ne _ _ e1]
        exact hd.len i hi
    · show obA b.CA = none ∨ obA b.CA ≠ obA (upF b.SA n A4 i)
      by_cases e1 : i = n
      · subst e1
        rw [upF_same]
        exact tail h.cod (hd.cod i hi)
      · rw [upF_ne _ _ e1]
        exact hd.cod i hi
    · show obA b.OA = none ∨ obA b.OA ≠ obA (upF b.SA n A4 i)
      by_cases e1 : i = n
      · subst e1
        rw [upF_same]
        exact tail h.ord (hd.ord i hi)
      · rw [upF_ne _ _ e1]
        exact hd.ord i hi
/-- where a book's rows are the symbols of a length, the first code beside each -/
def fstC (cs : List Int) : List Nat → Int
  | [] => 0
  | s :: _ => cs.getD s 0
def selN (l : List Int) (o : List Nat) (n : Nat) : List Nat := o.filter (fun s => lenOf l s == n)
theorem selN_snoc (l : List Int) (o : List Nat) (s n : Nat) : selN l (o ++ [s]) n = if n = lenOf l s then selN l o n ++ [s] else selN l o n := by
  unfold selN
  rw [List.filter_append]
  by_cases h : n = lenOf l s
  · rw [if_pos h, List.filter_cons_of_pos (by simp [h])]; rfl
  · rw [if_neg h, List.filter_cons_of_neg (by simp; omega)]
    simp
theorem fstC_snoc (cs : List Int) (a : List Nat) (s : Nat) (h : a ≠ []) : fstC cs (a ++ [s]) = fstC cs a := by
  cases a with
  | nil => exact absurd rfl h
  | cons x a => rfl
theorem own_of_blk {w : World} {base g n : Nat} {t : TypeId} {xs : List Value} (h : Blk w g t xs.toArray) (hb : base ≤ g) (hl : xs.length = n) (hm : n ≤ maxLen) : w.ownsRow base t 1 (.slice (some ⟨g, 0, none⟩) n n) n xs :=
  ⟨by omega, .inr ⟨g, n, xs.toArray, rfl, hb, h, Nat.le_refl _, hm, by simp; omega, by rw [List.toList_toArray, List.take_of_length_le (by omega)]⟩⟩
theorem ob_none (A : Option Addr) : obA A = none ∨ obA A ≠ obA none := by cases A <;> simp [obA]
theorem own_rebase {w : World} {base n size c : Nat} {t : TypeId} {A : Option Addr} {xs : List Value} (h : w.ownsRow 0 t size (.slice A n c) n xs) (hb : ∀ p, obA A = some p → base ≤ p) : w.ownsRow base t size (.slice A n c) n xs := by
  refine ⟨h.1, ?_⟩
  rcases h.2 with hn | ⟨g, cap, cur, h1, _, rest⟩
  · exact .inl hn
  · refine .inr ⟨g, cap, cur, h1, ?_, rest⟩
    injection h1 with h1
    rw [h1] at hb
    exact hb g rfl
def BindEnd (l : List Int) (o : List Nat) (W : World) (e : Ending) (w' : World) : Prop := ∃ g b, e = .returned (.pointer (some ⟨g, 0, none⟩)) ∧ W.heap.size ≤ g ∧ BK w' g b ∧ b.lens = l ∧ b.codes = asg l o 0 0 (List.replicate l.length 0) ∧ b.ord = o ∧ (∀ n, n < 17 → b.S n = selN l o n ∧ b.F n = fstC b.codes (b.S n)) ∧ Below W.heap.size W w'
set_option maxRecDepth 100000 in
set_option maxHeartbeats 4000000 in
theorem bind_any (A OA : Option Addr) (c oc : Nat) (l : List Int) (o : List Nat) (W : World) (h : RdI W W.heap.size A l) (hn : A = none → c = 0) (ho : OwnN W 0 OA oc o) (hok : Cd.Ok (o.map fun s => (s, lenOf l s))) (hb : ∀ s ∈ o, s < l.length) (hm : l.length ≤ 1000) (hmo : o.length ≤ 1000) :
    Calls Tryz.prog 188 #[.slice A l.length c, .slice OA o.length oc] W (BindEnd l o W) := by
  have H := hid h
  have HO := hid ho
  have Hok := hid hok
  have Hb := hid hb
  have hroi : RdI W W.heap.size OA (natsV o) := by have := own_rdi (o := natsV o) (by unfold OwnN at ho; rw [natsV_length]; exact ho); exact this
  have CL := hid (cloneI_any A c l W h hn (by omega))
  have Hroi := hid hroi
  clear h hn ho hok hb hroi
  obtain ⟨N, hN⟩ : ∃ N, N = o.length := ⟨_, rfl⟩
  have HN := hid hN
  obtain ⟨L, hL⟩ : ∃ L, L = l.length := ⟨_, rfl⟩
  have HL := hid hL
  rw [← hN] at hmo ⊢
  rw [← hL] at hm ⊢
  have cl := CL.out
  rw [← hL] at cl
  have CL2 := hid cl
  clear hN hL cl CL
  go_enter Tryz.func188, Tryz.ntmps188
  go_wp2_with fail
  refine (CL2.out).mono ?_
  rintro e w1 ⟨A1, c1, rfl, ho1, hb1⟩
  have O1 := hid ho1
  have B1 := hid hb1
  rw [← HL.out]
  have hasg := assign_any A OA c oc l o w1 (H.out.below hb1 (Nat.le_refl _) |>.more hb1.size) (Hroi.out.below hb1 (Nat.le_refl _) |>.more hb1.size) Hok.out Hb.out (by rw [← HL.out]; exact hm) (by rw [← HN.out]; exact hmo)
  rw [← HL.out, ← HN.out] at hasg
  have ASG := hid hasg
  clear ho1 hb1 hasg CL2
  go_wp2_with fail
  refine (ASG.out).mono ?_
  rintro e w2 ⟨g2, rfl, hg2, hblk2, hb2⟩
  rw [← HL.out]
  have Blk2 := hid hblk2
  have O2 := hid (own_below O1.out hb2 (Nat.le_refl _))
  have OO2 := hid (own_below HO.out ((B1.out.trans (hb2.mono B1.out.size))) (Nat.le_refl _))
  have B2 := hid (B1.out.trans (hb2.mono B1.out.size))
  have hg2' : W.heap.size ≤ g2 := Nat.le_trans B1.out.size hg2
  have hlt1 : ∀ p, obA A1 = some p → p < w1.heap.size := fun p e => own_lt O1.out e
  have hne12 := hid (show obA A1 = none ∨ obA A1 ≠ some g2 from .inr (fun e => by have := hlt1 g2 e; omega))
  clear hblk2 hb2 hlt1 O1 B1
  obtain ⟨CS, hCS⟩ : ∃ CS, CS = asg l o 0 0 (List.replicate l.length 0) := ⟨_, rfl⟩
  have hCSl : CS.length = l.length := by rw [hCS, asg_length]; simp
  rw [← hCS] at Blk2
  have HCS := hid hCS
  have HCSl := hid hCSl
  have C2 := hid (own_of_blk (base := 0) Blk2.out (Nat.zero_le _) (by rw [intsV_length, hCSl]) (by unfold maxLen; rw [← HL.out]; omega))
  clear hCS hCSl Blk2
  go_upto_region 2 with (fail)
  obtain ⟨b0, hb0⟩ : ∃ b0 : BM, b0 = ⟨A1, c1, l, some ⟨g2, 0, none⟩, l.length, CS, OA, oc, o, fun _ => 0, fun _ => none, fun _ => 0, fun _ => []⟩ := ⟨_, rfl⟩
  have hlit : bookCs b0 = #[.slice A1 L c1, .slice (some ⟨g2, 0, none⟩) L L, .slice OA N oc, .int .i64 0, .slice none 0 0, .int .i64 0, .slice none 0 0, .int .i64 0, .slice none 0 0, .int .i64 0, .slice none 0 0, .int .i64 0, .slice none 0 0, .int .i64 0, .slice none 0 0, .int .i64 0, .slice none 0 0, .int .i64 0, .slice none 0 0, .int .i64 0, .slice none 0 0, .int .i64 0, .slice none 0 0, .int .i64 0, .slice none 0 0, .int .i64 0, .slice none 0 0, .int .i64 0, .slice none 0 0, .int .i64 0, .slice none 0 0, .int .i64 0, .slice none 0 0, .int .i64 0, .slice none 0 0, .int .i64 0, .slice none 0 0] := by
    have e1 : bookCs b0 = #[.slice A1 l.length c1, .slice (some ⟨g2, 0, none⟩) CS.length l.length, .slice OA o.length oc, .int .i64 0, .slice none 0 0, .int .i64 0, .slice none 0 0, .int .i64 0, .slice none 0 0, .int .i64 0, .slice none 0 0, .int .i64 0, .slice none 0 0, .int .i64 0, .slice none 0 0, .int .i64 0, .slice none 0 0, .int .i64 0, .slice none 0 0, .int .i64 0, .slice none 0 0, .int .i64 0, .slice none 0 0, .int .i64 0, .slice none 0 0, .int .i64 0, .slice none 0 0, .int .i64 0, .slice none 0 0, .int .i64 0, .slice none 0 0, .int .i64 0, .slice none 0 0, .int .i64 0, .slice none 0 0, .int .i64 0, .slice none 0 0] := by rw [hb0]; rfl
    rw [e1, HCSl.out, ← HL.out, ← HN.out]
  have hbk0 : BK (w2.alloc (.cells #[.slice A1 L c1, .slice (some ⟨g2, 0, none⟩) L L, .slice OA N oc, .int .i64 0, .slice none 0 0, .int .i64 0, .slice none 0 0, .int .i64 0, .slice none 0 0, .int .i64 0, .slice none 0 0, .int .i64 0, .slice none 0 0, .int .i64 0, .slice none 0 0, .int .i64 0, .slice none 0 0, .int .i64 0, .slice none 0 0, .int .i64 0, .slice none 0 0, .int .i64 0, .slice none 0 0, .int .i64 0, .slice none 0 0, .int .i64 0, .slice none 0 0, .int .i64 0, .slice none 0 0, .int .i64 0, .slice none 0 0, .int .i64 0, .slice none 0 0, .int .i64 0, .slice none 0 0, .int .i64 0, .slice none 0 0] 261)) w2.heap.size b0 := by
    have hbA := (Below.refl w2.heap.size w2).alloc (Nat.le_refl _) (.cells #[.slice A1 L c1, .slice (some ⟨g2, 0, none⟩) L L, .slice OA N oc, .int .i64 0, .slice none 0 0, .int .i64 0, .slice none 0 0, .int .i64 0, .slice none 0 0, .int .i64 0, .slice none 0 0, .int .i64 0, .slice none 0 0, .int .i64 0, .slice none 0 0, .int .i64 0, .slice none 0 0, .int .i64 0, .slice none 0 0, .int .i64 0, .slice none 0 0, .int .i64 0, .slice none 0 0, .int .i64 0, .slice none 0 0, .int .i64 0, .slice none 0 0, .int .i64 0, .slice none 0 0, .int .i64 0, .slice none 0 0, .int .i64 0, .slice none 0 0, .int .i64 0, .slice none 0 0, .int .i64 0, .slice none 0 0] 261)
    refine ⟨by rw [hlit]; exact Blk.new w2 261 _, ?_, ?_, ?_, fun i _ => ?_⟩
    · rw [hb0]; exact own_base (own_below O2.out hbA (Nat.le_refl _)) (Nat.zero_le _)
    · rw [hb0]
      have h2 := own_below C2.out hbA (Nat.le_refl _)
      rw [← HCSl.out] at h2
      show World.ownsRow _ 0 _ 1 (.slice (some ⟨g2, 0, none⟩) CS.length l.length) CS.length (intsV CS)
      rw [← HCSl.out]
      exact h2
    · rw [hb0]; exact own_below OO2.out hbA (Nat.le_refl _)
    · rw [hb0]; exact World.ownsRow_nil _ _ _ _
  have BK0 := hid hbk0
  have DI0 := hid (show Dis b0 from by rw [hb0]; exact ⟨fun _ _ _ _ _ => .inl rfl, fun _ _ => ob_none _, fun _ _ => ob_none _, fun _ _ => ob_none _⟩)
  have BB0 := hid (B2.out.trans (((Below.refl w2.heap.size w2).alloc (Nat.le_refl _) (.cells #[.slice A1 L c1, .slice (some ⟨g2, 0, none⟩) L L, .slice OA N oc, .int .i64 0, .slice none 0 0, .int .i64 0, .slice none 0 0, .int .i64 0, .slice none 0 0, .int .i64 0, .slice none 0 0, .int .i64 0, .slice none 0 0, .int .i64 0, .slice none 0 0, .int .i64 0, .slice none 0 0, .int .i64 0, .slice none 0 0, .int .i64 0, .slice none 0 0, .int .i64 0, .slice none 0 0, .int .i64 0, .slice none 0 0, .int .i64 0, .slice none 0 0, .int .i64 0, .slice none 0 0, .int .i64 0, .slice none 0 0, .int .i64 0, .slice none 0 0, .int .i64 0, .slice none 0 0, .int .i64 0, .slice none 0 0] 261)).mono B2.out.size))
  obtain ⟨g, hg⟩ : ∃ g, g = w2.heap.size := ⟨_, rfl⟩
  have hWg : W.heap.size ≤ g := by have := B2.out.size; omega
  rw [← hg] at BK0 ⊢
  clear hlit hbk0 O2 OO2 C2 ASG
  generalize w2.alloc (.cells #[.slice A1 L c1, .slice (some ⟨g2, 0, none⟩) L L, .slice OA N oc, .int .i64 0, .slice none 0 0, .int .i64 0, .slice none 0 0, .int .i64 0, .slice none 0 0, .int .i64 0, .slice none 0 0, .int .i64 0, .slice none 0 0, .int .i64 0, .slice none 0 0, .int .i64 0, .slice none 0 0, .int .i64 0, .slice none 0 0, .int .i64 0, .slice none 0 0, .int .i64 0, .slice none 0 0, .int .i64 0, .slice none 0 0, .int .i64 0, .slice none 0 0, .int .i64 0, .slice none 0 0, .int .i64 0, .slice none 0 0, .int .i64 0, .slice none 0 0, .int .i64 0, .slice none 0 0, .int .i64 0, .slice none 0 0] 261) = w3 at *
  have hS0 := hid (show ∀ n, n < 17 → b0.S n = selN l (o.take 0) n ∧ b0.F n = fstC CS (b0.S n) from fun n _ => by rw [hb0]; exact ⟨rfl, rfl⟩)
  have hfix := hid (show b0.LA = A1 ∧ b0.Lc = c1 ∧ b0.lens = l ∧ b0.codes = CS ∧ b0.OA = OA ∧ b0.Oc = oc ∧ b0.ord = o ∧ b0.CA = some ⟨g2, 0, none⟩ ∧ b0.Cc = l.length from by rw [hb0]; exact ⟨rfl, rfl, rfl, rfl, rfl, rfl, rfl, rfl, rfl⟩)
  have hSA0 := hid (show ∀ j, j < 17 → ∀ p, obA (b0.SA j) = some p → W.heap.size ≤ p from fun j _ p e => by rw [hb0] at e; cases e)
  clear hb0 hg
  go_wp2_with fail
  go_loopw [19] (fun v wr => ∃ (i : Nat) (b : BM), i ≤ N ∧ v = .int .i64 (i : Int) ∧ Hid (BK wr g b) ∧ Hid (Dis b) ∧ Hid (b.LA = A1 ∧ b.Lc = c1 ∧ b.lens = l ∧ b.codes = CS ∧ b.OA = OA ∧ b.Oc = oc ∧ b.ord = o ∧ b.CA = some ⟨g2, 0, none⟩ ∧ b.Cc = l.length) ∧ Hid (∀ n, n < 17 → b.S n = selN l (o.take i) n ∧ b.F n = fstC CS (b.S n)) ∧ Hid (∀ j, j < 17 → ∀ p, obA (b.SA j) = some p → W.heap.size ≤ p) ∧ Hid (Below W.heap.size W wr)) (fun i _ => N - (intOf i).toNat)
  case atStart => exact ⟨0, b0, by omega, rfl, BK0, DI0, hfix, hS0, hSA0, BB0⟩
  clear BK0 DI0 hfix hS0 BB0
  case round =>
    obtain ⟨i, b, hi, rfl, K, D, Fx, HS, HBase, Be⟩ := hrel
    by_cases hlt : i < N
    · have hio : i < o.length := by rw [← HN.out]; exact hlt
      have hmem : o[i] ∈ o := List.getElem_mem hio
      have hor := K.out.ord
      rw [Fx.out.2.2.2.2.1, Fx.out.2.2.2.2.2.1, Fx.out.2.2.2.2.2.2.1] at hor
      have hor2 : RdI wr wr.heap.size OA (natsV o) := own_rdi (by unfold OwnN at hor; rw [natsV_length]; exact hor)
      obtain ⟨bo, off, hA, hbb, hc⟩ := int_at hor2 (j := i) (by rw [natsV_length]; exact hio)
      subst hA
      have e1 : (natsV o)[i]'(by rw [natsV_length]; exact hio) = ((o[i] : Nat) : Int) := by simp [natsV]
      rw [e1] at hc
      have hlen := Hok.out.len (o[i], lenOf l o[i]) (List.mem_map.2 ⟨o[i], hmem, rfl⟩)
      have hsl := Hb.out _ hmem
      have htk : o.take (i + 1) = o.take i ++ [o[i]] := List.take_succ_eq_append_getElem hio
      obtain ⟨s, hs⟩ : ∃ s, s = o[i] := ⟨_, rfl⟩
      rw [← hs] at hc hlen hsl htk
      have hsL : s < L := by rw [HL.out]; exact hsl
      obtain ⟨b2, off2, hA2, hbb2, hc2⟩ := int_at (H.out.below Be.out (Nat.le_refl _)) (j := s) hsl
      subst hA2
      have e2 : l[s] = ((lenOf l s : Nat) : Int) := by
        have : l.getD s 0 = l[s] := by rw [List.getD_eq_getElem?_getD, List.getElem?_eq_getElem hsl]; rfl
        simp only at hlen
        unfold lenOf at hlen ⊢
        rw [this] at hlen ⊢
        omega
      rw [e2] at hc2
      obtain ⟨n, hn⟩ : ∃ n, n = lenOf l s := ⟨_, rfl⟩
      simp only at hlen
      rw [← hn] at hc2 hlen
      have hn17 : n < 17 := by omega
      have f1 : wr.cell? ⟨g, 3 + n * 2, none⟩ = some (.int .i64 (b.F n)) := (K.out.blk.cell _).trans (cell_first b n hn17)
      have f2 : wr.cell? ⟨g, 3 + n * 2 + 1, none⟩ = some (.slice (b.SA n) (b.S n).length (b.Sc n)) := (K.out.blk.cell _).trans (cell_syms b n hn17)
      have f3 : wr.cell? ⟨g, 1, none⟩ = some (.slice (some ⟨g2, 0, none⟩) L L) := (K.out.blk.cell 1).trans (by rw [bookCs_at b 1 (by omega)]; unfold bookCell; rw [if_neg (by omega), if_pos rfl, Fx.out.2.2.2.2.2.2.2.1, Fx.out.2.2.2.2.2.2.2.2, Fx.out.2.2.2.1, HCSl.out, HL.out])
      have hco := K.out.cod
      rw [Fx.out.2.2.2.2.2.2.2.1, Fx.out.2.2.2.1] at hco
      obtain ⟨b3, off3, hA3, hbb3, hc3⟩ := int_at (own_rdi hco) (j := s) (by rw [HCSl.out]; exact hsl)
      injection hA3 with hA3
      injection hA3 with hA3 hA4
      subst hA3 hA4
      rw [Nat.zero_add] at hc3
      have hcs : CS[s]'(by rw [HCSl.out]; exact hsl) = CS.getD s 0 := by rw [List.getD_eq_getElem?_getD, List.getElem?_eq_getElem (by rw [HCSl.out]; exact hsl)]; rfl
      rw [hcs] at hc3
      obtain ⟨cv, hcv⟩ : ∃ cv, cv = CS.getD s 0 := ⟨_, rfl⟩
      rw [← hcv] at hc3
      have fz := fun o => K.out.blk.frozen o
      have hgw := K.out.blk.lt
      have Htk := hid htk
      have Hn := hid hn
      have Hcv := hid hcv
      clear hor hor2 hmem e1 e2 hco hcs hcv hn hs htk hio
      go_upto_region 5 with (fail)
      go_quiet (fail)
      have B5 := hid (K.out.below (below_drewN (Below.refl _ _) nq))
      have Be5 := hid (Be.out.trans ((below_drewN (Below.refl wr.heap.size wr) nq).mono Be.out.size))
      obtain ⟨w5, hw5⟩ : ∃ w5, w5 = wr.drewN nq := ⟨_, rfl⟩
      have f1' : w5.cell? ⟨g, 3 + n * 2, none⟩ = some (.int .i64 (b.F n)) := by rw [hw5]; exact f1
      have f2' : w5.cell? ⟨g, 3 + n * 2 + 1, none⟩ = some (.slice (b.SA n) (b.S n).length (b.Sc n)) := by rw [hw5]; exact f2
      have f3' : w5.cell? ⟨g, 1, none⟩ = some (.slice (some ⟨g2, 0, none⟩) L L) := by rw [hw5]; exact f3
      have hc3' : w5.cell? ⟨g2, s, none⟩ = some (.int .i64 cv) := by rw [hw5]; exact hc3
      rw [← hw5] at B5 Be5 ⊢
      clear hw5 f1 f2 f3 hc3 hc hc2 fz hgw
      have fz := fun o => B5.out.blk.frozen o
      have hgw := B5.out.blk.lt
      obtain ⟨m, hm2⟩ : ∃ m, m = (b.S n).length := ⟨_, rfl⟩
      rw [← hm2] at f2'
      have Hm := hid hm2
      clear hm2
      have hs1 := HS.out n hn17
      have hS1 := hid hs1
      clear hs1
      have hml : m ≤ 1000 := by
        rw [Hm.out, hS1.out.1]
        have h1 : (selN l (o.take i) n).length ≤ (o.take i).length := List.length_filter_le _ _
        have h2 : (o.take i).length ≤ i := List.length_take_le _ _
        omega
      have fin : ∀ (b1 b2 : BM), b1.S = b.S → b1.LA = b.LA ∧ b1.Lc = b.Lc ∧ b1.lens = b.lens ∧ b1.codes = b.codes ∧ b1.OA = b.OA ∧ b1.Oc = b.Oc ∧ b1.ord = b.ord ∧ b1.CA = b.CA ∧ b1.Cc = b.Cc → b2.F = b1.F → b2.LA = b1.LA ∧ b2.Lc = b1.Lc ∧ b2.lens = b1.lens ∧ b2.codes = b1.codes ∧ b2.OA = b1.OA ∧ b2.Oc = b1.Oc ∧ b2.ord = b1.ord ∧ b2.CA = b1.CA ∧ b2.Cc = b1.Cc → b2.S = upF b1.S n (b1.S n ++ [s]) → (∀ j, j ≠ n → b1.F j = b.F j) → (b1.F n = if m = 0 then CS.getD s 0 else b.F n) →
          (b2.LA = A1 ∧ b2.Lc = c1 ∧ b2.lens = l ∧ b2.codes = CS ∧ b2.OA = some ⟨bo, off, none⟩ ∧ b2.Oc = oc ∧ b2.ord = o ∧ b2.CA = some ⟨g2, 0, none⟩ ∧ b2.Cc = l.length) ∧ (∀ j, j < 17 → b2.S j = selN l (o.take (i + 1)) j ∧ b2.F j = fstC CS (b2.S j)) := fun b1 b2 h1 h2 h3 h4 h5 h6 h7 => by
        obtain ⟨p1, p2, p3, p4, p5, p6, p7, p8, p9⟩ := h2
        obtain ⟨q1, q2, q3, q4, q5, q6, q7, q8, q9⟩ := h4
        obtain ⟨r1, r2, r3, r4, r5, r6, r7, r8, r9⟩ := Fx.out
        refine ⟨⟨q1.trans (p1.trans r1), q2.trans (p2.trans r2), q3.trans (p3.trans r3), q4.trans (p4.trans r4), q5.trans (p5.trans r5), q6.trans (p6.trans r6), q7.trans (p7.trans r7), q8.trans (p8.trans r8), q9.trans (p9.trans r9)⟩, fun j hj => ?_⟩
        have hSj := HS.out j hj
        rw [h5, h3, h1, Htk.out, selN_snoc, ← Hn.out]
        by_cases e : j = n
        · subst e
          rw [upF_same, if_pos rfl, hSj.1, h7]
          refine ⟨rfl, ?_⟩
          by_cases e0 : m = 0
          · have : b.S j = [] := List.eq_nil_of_length_eq_zero (by rw [← Hm.out]; exact e0)
            rw [if_pos e0, ← hSj.1, this]
            rfl
          · rw [if_neg e0, hSj.2, hSj.1, fstC_snoc]
            intro e1
            rw [Hm.out, hSj.1, e1] at e0
            exact e0 rfl
        · rw [upF_ne _ _ e, if_neg e, h6 j e]
          exact hSj
      have Fin := hid fin
      clear fin
      obtain ⟨i0, hi0, hz0, hz1, hz2⟩ := info_parts int_info
      have Hi0 := hid hi0
      have Hz0 := hid hz0
      have Hz1 := hid hz1
      have Hz2 := hid hz2
      clear hi0 hz0 hz1 hz2
      by_cases hm0 : m = 0
      · have d0 : (m == 0) = true := beq_iff_eq.2 hm0
        have d1 : ((m : Int) == 0) = true := by rw [beq_iff_eq]; omega
        have Hm0 := hid hm0
        clear hm0
        go_upto_region 8 with (fail)
        have K6 := hid (B5.out.first hn17 cv)
        have D6 := hid (show Dis { b with F := upF b.F n cv } from ⟨D.out.rows, D.out.len, D.out.cod, D.out.ord⟩)
        have Be6 := hid (Be5.out.setCell (p := ⟨g, 3 + n * 2, none⟩) hWg (.int .i64 cv))
        generalize w5.setCell ⟨g, 3 + n * 2, none⟩ (.int .i64 cv) = w6 at *
        clear f1' f2' f3' hc3' fz hgw
        have own6 := own_rebase (base := W.heap.size) (K6.out.row n hn17) (fun p e => HBase.out n hn17 p e)
        have hle6 := Be6.out.size
        have K6a := hid (K6.out.below ((Below.refl w6.heap.size w6).alloc (Nat.le_refl _) (.cells #[.int .i64 (s : Int)] 3)))
        have OW6 := hid (own_below own6 ((Below.refl w6.heap.size w6).alloc (Nat.le_refl _) (.cells #[.int .i64 (s : Int)] 3)) (Nat.le_refl _))
        clear own6
        have fzb := fun o => K6.out.blk.frozen o
        have hgwb := K6.out.blk.lt
        have f2b : w6.cell? ⟨g, 3 + n * 2 + 1, none⟩ = some (.slice (b.SA n) m (b.Sc n)) := (K6.out.blk.cell _).trans ((cell_syms { b with F := upF b.F n cv } n hn17).trans (by rw [Hm.out]))
        go_wp2_with (at_builtin; (refine wpList_app _ rfl _ _ _ rfl W.heap.size 3 i0 (.int .i64 0) 1 8 Tryz.underlying65 Hi0.out Hz0.out Hz1.out Hz2.out rfl (by omega) (b.SA n) m (b.Sc n) (intsV (natsV (b.S n))) rfl (by have h1 := OW6.out; rw [← Hm.out] at h1; exact h1) _ _ 1 1 [.int .i64 (s : Int)] rfl (rd_one _ _ _ _ (Blk.new _ _ _)) (by simp) (by simp [Value.oneCell']) (by simp only [maxLen]; omega) (by omega) (by rw [World.size_alloc]; exact Nat.le_succ_of_le hle6) ?_; intro A4 c4 w7 ha4; rw [Hm.out] at ha4; have Ha4 := hid ha4; have K7 := hid (K6a.out.blk.grown ha4.2.1 (own_blk_ne OW6.out K6a.out.blk (by decide))); have y2 := (K7.out.cell _).trans (cell_syms { b with F := upF b.F n cv } n hn17); have y3 := K7.out.frozen (3 + n * 2 + 1); have y4 := K7.out.lt; clear ha4))
        have hpush := K6a.out.push (n := n) (s := s) D6.out hn17 Ha4.out
        have hfin := Fin.out { b with F := upF b.F n cv } (pushB { b with F := upF b.F n cv } n s A4 c4) rfl ⟨rfl, rfl, rfl, rfl, rfl, rfl, rfl, rfl, rfl⟩ rfl ⟨rfl, rfl, rfl, rfl, rfl, rfl, rfl, rfl, rfl⟩ rfl (fun j hj => upF_ne _ _ hj) (by rw [if_pos Hm0.out, ← Hcv.out]; exact upF_same _ _ _)
        have hbase : ∀ j, j < 17 → ∀ p, obA ((pushB { b with F := upF b.F n cv } n s A4 c4).SA j) = some p → W.heap.size ≤ p := fun j hj p e => by
          have e2 : obA (upF b.SA n A4 j) = some p := e
          by_cases ej : j = n
          · rw [ej, upF_same] at e2
            have h4 := Ha4.out.2.2.2
            rw [ob_eq, ob_eq, e2] at h4
            rcases h4 with h5 | h5
            · exact HBase.out n hn17 p h5.symm
            · injection h5 with h5
              rw [World.size_alloc] at h5
              omega
          · rw [upF_ne _ _ ej] at e2
            exact HBase.out j hj p e2
        have hbe7 : Below W.heap.size W (w7.setCell ⟨g, 3 + n * 2 + 1, none⟩ (.slice A4 (m + 1) c4)) := ((Be6.out.alloc hle6 _).trans Ha4.out.2.2.1).setCell (p := ⟨g, 3 + n * 2 + 1, none⟩) hWg _
        rw [← Hm.out] at hpush
        exact ⟨⟨i + 1, pushB { b with F := upF b.F n cv } n s A4 c4, by omega, by go_num, hid hpush.1, hid hpush.2, hid hfin.1, hid hfin.2, hid hbase, hid hbe7⟩, by simp [intOf]; omega⟩
      · have d0 : (m == 0) = false := beq_eq_false_iff_ne.2 hm0
        have d1 : ((m : Int) == 0) = false := by rw [beq_eq_false_iff_ne]; omega
        go_upto_region 8 with (fail)
        clear f1' f2' f3' hc3' fz hgw
        have own6 := own_rebase (base := W.heap.size) (B5.out.row n hn17) (fun p e => HBase.out n hn17 p e)
        have hle6 := Be5.out.size
        have K6a := hid (B5.out.below ((Below.refl w5.heap.size w5).alloc (Nat.le_refl _) (.cells #[.int .i64 (s : Int)] 3)))
        have OW6 := hid (own_below own6 ((Below.refl w5.heap.size w5).alloc (Nat.le_refl _) (.cells #[.int .i64 (s : Int)] 3)) (Nat.le_refl _))
        clear own6
        have fzb := fun o => B5.out.blk.frozen o
        have hgwb := B5.out.blk.lt
        have f2b : w5.cell? ⟨g, 3 + n * 2 + 1, none⟩ = some (.slice (b.SA n) m (b.Sc n)) := (B5.out.blk.cell _).trans ((cell_syms b n hn17).trans (by rw [Hm.out]))
        go_wp2_with (at_builtin; (refine wpList_app _ rfl _ _ _ rfl W.heap.size 3 i0 (.int .i64 0) 1 8 Tryz.underlying65 Hi0.out Hz0.out Hz1.out Hz2.out rfl (by omega) (b.SA n) m (b.Sc n) (intsV (natsV (b.S n))) rfl (by have h1 := OW6.out; rw [← Hm.out] at h1; exact h1) _ _ 1 1 [.int .i64 (s : Int)] rfl (rd_one _ _ _ _ (Blk.new _ _ _)) (by simp) (by simp [Value.oneCell']) (by simp only [maxLen]; omega) (by omega) (by rw [World.size_alloc]; exact Nat.le_succ_of_le hle6) ?_; intro A4 c4 w7 ha4; rw [Hm.out] at ha4; have Ha4 := hid ha4; have K7 := hid (K6a.out.blk.grown ha4.2.1 (own_blk_ne OW6.out K6a.out.blk (by decide))); have y2 := (K7.out.cell _).trans (cell_syms b n hn17); have y3 := K7.out.frozen (3 + n * 2 + 1); have y4 := K7.out.lt; clear ha4))
        have hpush := K6a.out.push (n := n) (s := s) D.out hn17 Ha4.out
        have hfin := Fin.out b (pushB b n s A4 c4) rfl ⟨rfl, rfl, rfl, rfl, rfl, rfl, rfl, rfl, rfl⟩ rfl ⟨rfl, rfl, rfl, rfl, rfl, rfl, rfl, rfl, rfl⟩ rfl (fun _ _ => rfl) (by rw [if_neg hm0])
        have hbase : ∀ j, j < 17 → ∀ p, obA ((pushB b n s A4 c4).SA j) = some p → W.heap.size ≤ p := fun j hj p e => by
          have e2 : obA (upF b.SA n A4 j) = some p := e
          by_cases ej : j = n
          · rw [ej, upF_same] at e2
            have h4 := Ha4.out.2.2.2
            rw [ob_eq, ob_eq, e2] at h4
            rcases h4 with h5 | h5
            · exact HBase.out n hn17 p h5.symm
            · injection h5 with h5
              rw [World.size_alloc] at h5
              omega
          · rw [upF_ne _ _ ej] at e2
            exact HBase.out j hj p e2
        have hbe7 : Below W.heap.size W (w7.setCell ⟨g, 3 + n * 2 + 1, none⟩ (.slice A4 (m + 1) c4)) := ((Be5.out.alloc hle6 _).trans Ha4.out.2.2.1).setCell (p := ⟨g, 3 + n * 2 + 1, none⟩) hWg _
        rw [← Hm.out] at hpush
        exact ⟨⟨i + 1, pushB b n s A4 c4, by omega, by go_num, hid hpush.1, hid hpush.2, hid hfin.1, hid hfin.2, hid hbase, hid hbe7⟩, by simp [intOf]; omega⟩
    · have hie : o.take i = o := List.take_of_length_le (by rw [← HN.out]; omega)
      rw [hie] at HS
      clear hie
      go_wp2_with fail
      go_ret
      refine ⟨g, b, rfl, hWg, K.out, Fx.out.2.2.1, by rw [Fx.out.2.2.2.1, HCS.out], Fx.out.2.2.2.2.2.2.1, fun n hn => ?_, Be.out⟩
      rw [Fx.out.2.2.2.1]
      exact HS.out n hn
end Go.Proofs.YtoppjcmkhhkbmaaGreat

namespace Go.Proofs.YtoppjcmkhhkbmaaGreat
open Go.RowKit

/-- the book of lengths -/
structure BookOf (l : List Int) (b : BM) : Prop where
  lens : b.lens = l
  codes : b.codes = codesL l
  ord : b.ord = ordL l
  rows : ∀ n, n < 17 → b.S n = selN l (ordL l) n ∧ b.F n = fstC (codesL l) (b.S n)
def NewBookEnd (l : List Int) (W : World) (e : Ending) (w' : World) : Prop :=
  (lensB l = false ∧ e = .returned (.tuple #[.pointer none, .iface 35 (.int .i64 6)]) ∧ Below W.heap.size W w') ∨
  (lensB l = true ∧ ∃ g b, e = .returned (.tuple #[.pointer (some ⟨g, 0, none⟩), .nilIface]) ∧ W.heap.size ≤ g ∧ BK w' g b ∧ BookOf l b ∧ Below W.heap.size W w')
theorem ordL_sum (l : List Int) : ∀ n, ((List.range n).flatMap (fun i => rowF l (i + 1))).length = sumR (fun i => (rowF l (i + 1)).length) n
  | 0 => rfl
  | n + 1 => by
    rw [List.range_succ, List.flatMap_append, List.length_append, ordL_sum l n]
    simp [sumR]
theorem ordL_len {l : List Int} : (ordL l).length ≤ l.length := by
  unfold ordL
  rw [ordL_sum]
  have key : ∀ k, k ≤ l.length → sumR (fun i => (rowF (l.take k) (i + 1)).length) 16 ≤ k := by
    intro k
    induction k with
    | zero =>
      intro _
      have : ∀ m, sumR (fun i => (rowF (l.take 0) (i + 1)).length) m = 0 := by
        intro m
        induction m with
        | zero => rfl
        | succ m ihm =>
          unfold sumR
          rw [ihm]
          simp [rowF]
      rw [this]
      exact Nat.le_refl _
    | succ k ih =>
      intro hk
      have ih := ih (by omega)
      rw [List.take_succ_eq_append_getElem (by omega)]
      generalize l[k] = x
      have e : (fun i => (rowF (l.take k ++ [x]) (i + 1)).length) = (fun i => (rowF (l.take k) (i + 1)).length + (if x = ((i + 1 : Nat) : Int) then 1 else 0)) := by
        funext i
        rw [rowF_snoc, List.length_append]
        congr 1
        split <;> rfl
      rw [e, sumR_add, sumR_pick (fun _ => 1) x 16]
      split <;> omega
  have := key l.length (Nat.le_refl _)
  rw [List.take_length] at this
  exact this
set_option maxRecDepth 100000 in
theorem newBook_any (A : Option Addr) (c : Nat) (l : List Int) (W : World) (h : RdI W W.heap.size A l) (hn : A = none → c = 0) (hm : l.length ≤ 1000) : Calls Tryz.prog 167 #[.slice A l.length c] W (NewBookEnd l W) := by
  have H := hid h
  have Hn := hid hn
  have FR := hid (free_any A c l W h (by unfold maxLen; omega))
  clear h hn
  obtain ⟨L, hL⟩ : ∃ L, L = l.length := ⟨_, rfl⟩
  have HL := hid hL
  rw [← hL] at hm
  have fr := FR.out
  rw [← hL] at fr ⊢
  have FR2 := hid fr
  clear fr FR hL
  go_enter Tryz.func167, Tryz.ntmps167
  go_wp2_with fail
  refine (FR2.out).mono ?_
  rintro e w1 ⟨rfl, (⟨hb, rfl⟩ | ⟨hb, rfl⟩)⟩
  · have Hb := hid hb
    clear hb FR2
    have hor := order_any A c l w1 H.out (by rw [← HL.out]; exact hm)
    rw [← HL.out] at hor
    have OR := hid hor
    clear hor
    go_wp2_with fail
    refine (OR.out).mono ?_
    rintro e w2 ⟨OA, oc, rfl, ho, hb2⟩
    have hok := sl_ok Hb.out
    have hbi := bind_any A OA c oc l (ordL l) w2 (H.out.below hb2 (Nat.le_refl _) |>.more hb2.size) Hn.out (own_base ho (Nat.zero_le _)) hok (fun s hs => (ordL_mem.1 hs).1) (by rw [← HL.out]; exact hm) (Nat.le_trans ordL_len (by rw [← HL.out]; exact hm))
    rw [← HL.out] at hbi
    have BI := hid hbi
    have B2 := hid hb2
    clear ho hb2 hok hbi OR
    obtain ⟨O, hO⟩ : ∃ O, O = (ordL l).length := ⟨_, rfl⟩
    have bi := BI.out
    rw [← hO] at bi ⊢
    have BI2 := hid bi
    clear bi BI hO
    go_wp2_with fail
    refine (BI2.out).mono ?_
    rintro e w3 ⟨g, b, rfl, hg, hK, h1, h2, h3, h4, hb3⟩
    have R := hid (show NewBookEnd l w1 (.returned (.tuple #[.pointer (some ⟨g, 0, none⟩), .nilIface])) w3 from .inr ⟨Hb.out, g, b, rfl, Nat.le_trans B2.out.size hg, hK, ⟨h1, h2, h3, fun n hn => by have := h4 n hn; rw [h2] at this; exact this⟩, B2.out.trans (hb3.mono B2.out.size)⟩)
    clear hg hK h1 h2 h3 h4 hb3 BI2
    go_wp2_with fail
    go_ret2
    exact R.out
  · have Hb := hid hb
    clear hb FR2
    go_wp2_with fail
    go_ret2
    exact .inl ⟨Hb.out, rfl, Below.refl _ _⟩
end Go.Proofs.YtoppjcmkhhkbmaaGreat

namespace Go.Proofs.YtoppjcmkhhkbmaaGreat
open Go.RowKit

/-- the last code of lengths: its symbol, its length, its code -/
structure LastOf (l : List Int) (m : List Nat) (s ln cd : Nat) : Prop where
  ord : ordL l = m ++ [s]
  len : ln = lenOf l s
  cod : cd = Cd.tot (m.map (fun s => (s, lenOf l s))) / Cd.pw ln
theorem LastOf.bd {l : List Int} {m : List Nat} {s ln cd : Nat} (h : LastOf l m s ln cd) (hl : lensB l = true) : s < l.length ∧ l.getD s 0 = (ln : Int) ∧ 1 ≤ ln ∧ ln ≤ 16 ∧ (codesL l).getD s 0 = (cd : Int) ∧ cd < 65536 := by
  have hmem : s ∈ ordL l := by rw [h.ord]; simp
  obtain ⟨h1, i, hi, e⟩ := ordL_mem.1 hmem
  have hln : ln = i + 1 := by rw [h.len]; unfold lenOf; rw [e]; omega
  have hk := (sl_ok hl).kraft
  refine ⟨h1, by rw [e, hln], by omega, by omega, ?_, ?_⟩
  · have h2 : ordL l = m ++ s :: [] := h.ord
    rw [codes_at hl h2, ← h.len, ← h.cod]
  · have e2 : Cd.tot (slOf l) = Cd.tot (m.map (fun s => (s, lenOf l s))) + Cd.pw ln := by
      unfold slOf
      rw [h.ord, List.map_append, Cd.tot_append, List.map_cons, List.map_nil, Cd.tot_cons, Cd.tot_nil, h.len]
      rfl
    have hp := Cd.pw_pos ln
    rw [h.cod]
    have : Cd.tot (m.map (fun s => (s, lenOf l s))) / Cd.pw ln ≤ Cd.tot (m.map (fun s => (s, lenOf l s))) := Nat.div_le_self _ _
    omega
end Go.Proofs.YtoppjcmkhhkbmaaGreat
