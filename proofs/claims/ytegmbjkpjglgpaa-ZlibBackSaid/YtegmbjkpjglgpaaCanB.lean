/-
  canon.order; slices.Clone of ints; canon.assign.
-/
import Derived.Test.YtegmbjkpjglgpaaCanA
namespace Go.Proofs.Ytegmbjkpjglgpaa
open Go.RowKit

def natsV (l : List Nat) : List Int := l.map (fun i : Nat => (i : Int))
theorem natsV_append (l m : List Nat) : natsV (l ++ m) = natsV l ++ natsV m := by simp [natsV]
theorem natsV_length (l : List Nat) : (natsV l).length = l.length := by simp [natsV]
def OwnN (w : World) (base : Nat) (A : Option Addr) (c : Nat) (o : List Nat) : Prop := w.ownsRow base 3 1 (.slice A o.length c) o.length (intsV (natsV o))
def OrderEnd (l : List Int) (W : World) (e : Ending) (w' : World) : Prop := ∃ A c, e = .returned (.slice A (ordL l).length c) ∧ OwnN w' W.heap.size A c (ordL l) ∧ Below W.heap.size W w'
theorem rowF_le (l : List Int) (n : Nat) : (rowF l n).length ≤ l.length := by
  unfold rowF
  have := List.length_filter_le (fun s => l.getD s 0 == (n : Int)) (List.range l.length)
  simpa using this
set_option maxRecDepth 100000 in
set_option maxHeartbeats 4000000 in
theorem order_any (A : Option Addr) (c : Nat) (l : List Int) (W : World) (h : RdI W W.heap.size A l) (hm : l.length ≤ 1000) : Calls Try.prog 151 #[.slice A l.length c] W (OrderEnd l W) := by
  have H := hid h
  obtain ⟨i0, hi0, hz0, hz1, hz2⟩ := info_parts int_info
  have Hi0 := hid hi0
  have Hz0 := hid hz0
  have Hz1 := hid hz1
  have Hz2 := hid hz2
  clear hi0 hz0 hz1 hz2 h
  obtain ⟨L, hL⟩ : ∃ L, L = l.length := ⟨_, rfl⟩
  have HL := hid hL
  rw [← hL] at hm ⊢
  clear hL
  go_enter Try.func151, Try.ntmps151
  go_wp2_with fail
  go_loopw [3, 4] (fun v i wr => ∃ (n k : Nat) (A' : Option Addr) (c' : Nat) (o : List Nat), n ≤ 16 ∧ i = .int .i64 ((n : Int) + 1) ∧ v = .slice A' k c' ∧ k ≤ n * 1000 ∧ Hid (k = o.length) ∧ Hid (o = (List.range n).flatMap (fun i => rowF l (i + 1))) ∧ Hid (OwnN wr W.heap.size A' c' o) ∧ Hid (Below W.heap.size W wr)) (fun _ i _ => (17 - intOf i).toNat)
  case atStart => exact ⟨0, 0, none, 0, [], by omega, rfl, rfl, by omega, hid rfl, hid rfl, hid (World.ownsRow_nil _ _ _ _), hid (Below.refl _ _)⟩
  case round =>
    obtain ⟨n, k, A', c', o, hn, rfl, rfl, hk, Hk, Ho, O, B⟩ := hrel
    by_cases hlt : n < 16
    · have d1 : decide ((n : Int) + 1 ≤ 16) = true := decide_eq_true (by omega)
      have Ho0 := Ho
      go_wp2_with fail
      go_loopw [3, 13] (fun v i wr => ∃ (j k : Nat) (A' : Option Addr) (c' : Nat) (o2 : List Nat), j ≤ L ∧ i = .int .i64 (j : Int) ∧ v = .slice A' k c' ∧ k ≤ n * 1000 + j ∧ Hid (k = o2.length) ∧ Hid (o2 = o ++ rowF (l.take j) (n + 1)) ∧ Hid (OwnN wr W.heap.size A' c' o2) ∧ Hid (Below W.heap.size W wr)) (fun _ i _ => L - (intOf i).toNat)
      case atStart => exact ⟨0, k, A', c', o, by omega, rfl, rfl, by omega, Hk, hid (by simp [rowF]), O, B⟩
      case round =>
        clear Hk Ho O B
        obtain ⟨j, k, A', c', o2, hj, rfl, rfl, hk2, Hk, Ho, O, B⟩ := hrel
        by_cases hjl : j < L
        · have hjl2 : j < l.length := by rw [← HL.out]; exact hjl
          obtain ⟨b, off, hA, hb, hc⟩ := int_at (H.out.below B.out (Nat.le_refl _)) hjl2
          subst hA
          have htk : l.take (j + 1) = l.take j ++ [l[j]] := List.take_succ_eq_append_getElem hjl2
          have hrs := rowF_snoc (l.take j) l[j] (n + 1)
          rw [← htk, List.length_take, Nat.min_eq_left (by omega)] at hrs
          obtain ⟨x, hx⟩ : ∃ x, x = l[j] := ⟨_, rfl⟩
          rw [← hx] at hc hrs
          have hbw : b < wr.heap.size := by have := B.out.size; omega
          have hW := B.out.size
          by_cases e : x = ((n + 1 : Nat) : Int)
          · have Hrs := hid (show rowF (l.take (j + 1)) (n + 1) = rowF (l.take j) (n + 1) ++ [j] by rw [hrs, if_pos e])
            have d2 : (x == (n : Int) + 1) = true := by rw [beq_iff_eq]; omega
            clear htk hrs hx e
            go_wp2_with (at_builtin; refine wpList_app _ rfl _ _ _ rfl W.heap.size 3 i0 (.int .i64 0) 1 8 Try.underlying53 Hi0.out Hz0.out Hz1.out Hz2.out rfl (by omega) A' k c' (intsV (natsV o2)) rfl (by have h1 := O.out; unfold OwnN at h1; rw [← Hk.out] at h1; exact own_below h1 ((Below.refl _ _).alloc (Nat.le_refl _) _) (Nat.le_refl _)) _ _ 1 1 [.int .i64 (j : Int)] rfl (rd_one _ _ _ _ (Blk.new _ _ _)) (by simp) (by simp [Value.oneCell']) (by simp only [maxLen]; omega) (by omega) (by simp; omega) ?_; intro A4 c4 w4 ha4; have Ha4 := hid ha4; clear ha4)
            go_roundw
            case rel =>
              have ha := Ha4.out
              refine ⟨j + 1, k + 1, A4, c4, o2 ++ [j], by omega, by go_num, rfl, by omega, hid (by rw [List.length_append, Hk.out]; rfl), hid (by rw [Ho.out, Hrs.out, List.append_assoc]), hid ?_, hid (B.out.trans (((Below.refl _ _).alloc hW _).trans ha.2.2.1))⟩
              have h1 := ha.1
              unfold OwnN
              rw [List.length_append, ← Hk.out, natsV_append]
              have e1 : intsV (natsV o2) ++ [Value.int .i64 (j : Int)] = intsV (natsV o2 ++ natsV [j]) := by simp [intsV, natsV]
              rw [e1] at h1
              exact h1
            case measure => simp [intOf]; omega
          · have Hrs := hid (show rowF (l.take (j + 1)) (n + 1) = rowF (l.take j) (n + 1) by rw [hrs, if_neg e, List.append_nil])
            have d2 : (x == (n : Int) + 1) = false := by rw [beq_eq_false_iff_ne]; omega
            clear htk hrs hx e
            go_wp2_with fail
            go_roundw
            case rel => exact ⟨j + 1, k, A', c', o2, by omega, by go_num, rfl, by omega, Hk, hid (by rw [Ho.out, Hrs.out]), O, B⟩
            case measure => simp [intOf]; omega
        · have htl := hid (show l.take j = l from List.take_of_length_le (by rw [← HL.out]; omega))
          go_wp2_with fail
          go_roundw
          case rel =>
            refine ⟨n + 1, k, A', c', o2, by omega, by go_num, rfl, by omega, Hk, hid ?_, O, B⟩
            rw [Ho.out, htl.out, List.range_succ, List.flatMap_append, ← Ho0.out]
            simp
          case measure => simp [intOf]; omega
    · have hn16 : n = 16 := by omega
      have d1 : decide ((n : Int) + 1 ≤ 16) = false := decide_eq_false (by omega)
      have HO := hid (show o = ordL l by rw [Ho.out, hn16]; rfl)
      clear hn16
      go_wp2_with fail
      go_ret
      exact ⟨A', c', by rw [Hk.out, HO.out]; rfl, by rw [← HO.out]; exact O.out, B.out⟩
def ClonedI (l : List Int) (W : World) (e : Ending) (w' : World) : Prop :=
  ∃ A c, e = .returned (.slice A l.length c) ∧ w'.ownsRow W.heap.size 3 1 (.slice A l.length c) l.length (intsV l) ∧ Below W.heap.size W w'
theorem intsV_cells {l : List Int} : ∀ u ∈ intsV l, u.oneCell' = true := by intro u hu; obtain ⟨x, _, rfl⟩ := List.mem_map.1 hu; rfl
set_option maxRecDepth 100000 in
set_option maxHeartbeats 1000000 in
theorem cloneI_any (A : Option Addr) (c : Nat) (l : List Int) (W : World) (hr : RdI W W.heap.size A l) (hc : A = none → c = 0) (hm : l.length ≤ 1000000) :
    Calls Try.prog 157 #[.slice A l.length c] W (ClonedI l W) := by
  have hr2 : Rd W W.heap.size 1 A l.length (intsV l) := by rw [← intsV_eq]; exact hr
  cases A with
  | none =>
    obtain rfl := hc rfl
    have hl := rd_nil hr2 (by omega) rfl
    obtain rfl := List.eq_nil_of_length_eq_zero hl
    have hq := fun w => Lib.run_eql_slice_nil (P := Try.prog) w 53 3 none 0 0 0 0 Try.underlying53
    go_enter Try.func157, Try.ntmps157
    go_wp2
    go_ret
    exact ⟨none, 0, rfl, World.ownsRow_nil _ _ _ _, Below.refl _ _⟩
  | some ad =>
    obtain ⟨i0, hi0, hz0, hz1, hz2⟩ := info_parts int_info
    have Hi0 := hid hi0
    have Hz0 := hid hz0
    have Hz1 := hid hz1
    have Hz2 := hid hz2
    have Hr := hid hr2
    clear hi0 hz0 hz1 hz2 hr hc hr2
    have hq := fun w => Lib.run_eql_slice_nil (P := Try.prog) w 53 3 ad l.length c 0 0 Try.underlying53
    go_enter Try.func157, Try.ntmps157
    go_wp2_with (at_builtin; refine wpList_app _ rfl _ _ _ rfl W.heap.size 3 i0 (.int .i64 0) 1 8 Try.underlying53 Hi0.out Hz0.out Hz1.out Hz2.out rfl (by omega) _ 0 0 [] rfl (empty_own W _ 1) W.heap.size _ l.length c (intsV l) rfl (Hr.out.alloc (Nat.le_refl _) _) (by simp) intsV_cells (by simp only [maxLen]; omega) (by omega) (by simp) ?_; rintro A3 c3 w3 ⟨hown3, hgr3, hb3, _⟩)
    go_ret
    refine ⟨A3, c3, by simp, by simpa using hown3, ((Below.refl _ _).alloc (Nat.le_refl _) _).trans hb3⟩
def AssignEnd (l : List Int) (o : List Nat) (W : World) (e : Ending) (w' : World) : Prop :=
  ∃ g, e = .returned (.slice (some ⟨g, 0, none⟩) l.length l.length) ∧ W.heap.size ≤ g ∧ Blk w' g 3 (intsV (asg l o 0 0 (List.replicate l.length 0))).toArray ∧ Below W.heap.size W w'
theorem asg_step (l : List Int) (o : List Nat) (i nx la : Nat) (cs : List Int) (h : i < o.length) : asg l (o.drop i) nx la cs = asg l (o.drop (i + 1)) (nx * 2 ^ (lenOf l o[i] - la) + 1) (lenOf l o[i]) (cs.set o[i] ((nx * 2 ^ (lenOf l o[i] - la) : Nat) : Int)) := by
  rw [List.drop_eq_getElem_cons h]
  rfl
theorem tot_take (sl : Cd.SL) (i : Nat) (h : i < sl.length) : Cd.tot (sl.take (i + 1)) = Cd.tot (sl.take i) + Cd.pw sl[i].2 := by
  rw [List.take_succ_eq_append_getElem h, Cd.tot_append, Cd.tot_cons, Cd.tot_nil]
  rfl
theorem tot_take_le (sl : Cd.SL) (i : Nat) : Cd.tot (sl.take i) ≤ Cd.tot sl := by
  conv => rhs; rw [← List.take_append_drop i sl]
  rw [Cd.tot_append]
  omega
set_option maxRecDepth 100000 in
set_option maxHeartbeats 4000000 in
theorem assign_any (A OA : Option Addr) (c oc : Nat) (l : List Int) (o : List Nat) (W : World) (h : RdI W W.heap.size A l) (ho : RdI W W.heap.size OA (natsV o)) (hok : Cd.Ok (o.map fun s => (s, lenOf l s))) (hb : ∀ s ∈ o, s < l.length) (hm : l.length ≤ 1000) (hmo : o.length ≤ 1000) :
    Calls Try.prog 158 #[.slice A l.length c, .slice OA o.length oc] W (AssignEnd l o W) := by
  have H := hid h
  have HO := hid ho
  have Hok := hid hok
  have Hb := hid hb
  obtain ⟨i0, hi0, hz0, hz1, hz2⟩ := info_parts int_info
  obtain ⟨L, hL⟩ : ∃ L, L = l.length := ⟨_, rfl⟩
  have HL := hid hL
  rw [← hL] at hm ⊢
  have Hmk := hid (show ∀ w : World, (Instr.makeSlice 53 (.int .i64 (L : Int)) (.int .i64 (L : Int))).run Try.prog w = .ok (.slice (some ⟨w.heap.size, 0, none⟩) L L) (w.alloc (.cells (List.replicate L (Value.int .i64 0)).toArray 3)) from by
    intro w
    have h := run_make (P := Try.prog) w 53 3 i0 (.int .i64 0) Try.underlying53 hi0 hz0 .i64 .i64 (L : Int) (L : Int) (by omega) (by omega) (by rw [hz2]; omega) (by omega)
    rw [hz1, made_list _ _ rfl] at h
    exact h)
  clear h ho hok hb hi0 hz0 hz1 hz2 hL
  obtain ⟨N, hN⟩ : ∃ N, N = o.length := ⟨_, rfl⟩
  have HN := hid hN
  rw [← hN] at hmo ⊢
  clear hN
  have hmk := Hmk.out
  go_enter Try.func158, Try.ntmps158
  go_wp2_with fail
  have B0 := hid (Blk.new W 3 (Array.replicate L (Value.int .i64 0)))
  have Bb := hid ((Below.refl W.heap.size W).alloc (Nat.le_refl _) (.cells (Array.replicate L (Value.int .i64 0)) 3))
  obtain ⟨g, hg⟩ : ∃ g, g = W.heap.size := ⟨_, rfl⟩
  have hWg : W.heap.size ≤ g := by omega
  rw [← hg] at B0 ⊢
  generalize W.alloc (.cells (Array.replicate L (Value.int .i64 0)) 3) = w0 at *
  clear hmk hg
  go_loopw [6, 7, 15] (fun v6 v7 v15 wr => ∃ (i nx la : Nat) (cs : List Int), i ≤ N ∧ v6 = .int .i64 (nx : Int) ∧ v7 = .int .i64 (la : Int) ∧ v15 = .int .i64 (i : Int) ∧ la ≤ 16 ∧ Hid (cs.length = L) ∧ Hid (asg l o 0 0 (List.replicate L 0) = asg l (o.drop i) nx la cs) ∧ Hid (nx * Cd.pw la = Cd.tot ((o.map fun s => (s, lenOf l s)).take i)) ∧ Hid (∀ s ∈ o.drop i, la ≤ lenOf l s) ∧ Hid (Blk wr g 3 (intsV cs).toArray) ∧ Hid (Below W.heap.size W wr)) (fun _ _ i _ => N - (intOf i).toNat)
  case atStart => exact ⟨0, 0, 0, List.replicate L 0, by omega, rfl, rfl, rfl, by omega, hid (by simp), hid rfl, hid (by simp [Cd.tot]), hid (fun _ _ => Nat.zero_le _), hid (by have h1 := B0.out; unfold intsV; rw [List.map_replicate, List.toArray_replicate]; exact h1), Bb⟩
  case round =>
    obtain ⟨i, nx, la, cs, hi, rfl, rfl, rfl, hla, HC, HA, HT, HM, B, Be⟩ := hrel
    by_cases hlt : i < N
    · have hio : i < o.length := by rw [← HN.out]; exact hlt
      obtain ⟨b, off, hA, hbb, hc⟩ := int_at (HO.out.below Be.out (Nat.le_refl _)) (j := i) (by rw [natsV_length]; exact hio)
      subst hA
      have e1 : (natsV o)[i]'(by rw [natsV_length]; exact hio) = ((o[i] : Nat) : Int) := by simp [natsV]
      rw [e1] at hc
      have hstep := asg_step l o i nx la cs hio
      have hmem : o[i] ∈ o := List.getElem_mem hio
      have hsl : o[i] < L := by rw [HL.out]; exact Hb.out _ hmem
      have hlen := Hok.out.len (o[i], lenOf l o[i]) (List.mem_map.2 ⟨o[i], hmem, rfl⟩)
      have hdr : o[i] ∈ o.drop i := by rw [List.drop_eq_getElem_cons hio]; exact List.mem_cons_self
      have hla2 := HM.out _ hdr
      have hsorted := Hok.out.sorted
      have htt := tot_take (o.map fun s => (s, lenOf l s)) i (by simpa using hio)
      have htle := tot_take_le (o.map fun s => (s, lenOf l s)) (i + 1)
      have hkr := Hok.out.kraft
      rw [List.getElem_map] at htt
      have hnext : ∀ s ∈ o.drop (i + 1), lenOf l o[i] ≤ lenOf l s := fun s hs => by
        rw [List.pairwise_map, ← List.take_append_drop i o, List.pairwise_append, List.drop_eq_getElem_cons hio, List.pairwise_cons] at hsorted
        exact hsorted.2.1.1 s hs
      obtain ⟨s, hs⟩ : ∃ s, s = o[i] := ⟨_, rfl⟩
      rw [← hs] at hc hstep hsl hlen hla2 htt hnext hmem
      have hls : s < l.length := by rw [← HL.out]; exact hsl
      obtain ⟨b2, off2, hA2, hbb2, hc2⟩ := int_at (H.out.below Be.out (Nat.le_refl _)) (j := s) hls
      subst hA2
      have e2 : l[s] = ((lenOf l s : Nat) : Int) := by
        have : l.getD s 0 = l[s] := by rw [List.getD_eq_getElem?_getD, List.getElem?_eq_getElem hls]; rfl
        unfold lenOf at hlen ⊢
        rw [this] at hlen ⊢
        omega
      rw [e2] at hc2
      obtain ⟨n, hn⟩ : ∃ n, n = lenOf l s := ⟨_, rfl⟩
      rw [← hn] at hc2 hstep hlen hla2 htt hnext
      obtain ⟨nn, hnn⟩ : ∃ nn, nn = nx * 2 ^ (n - la) := ⟨_, rfl⟩
      have hnpw : nn * Cd.pw n = Cd.tot ((o.map fun s => (s, lenOf l s)).take i) := by
        rw [← HT.out, hnn, Nat.mul_assoc]
        congr 1
        unfold Cd.pw
        rw [← Nat.pow_add]
        congr 1
        omega
      have hpp := Cd.pw_pos n
      have hnb : nn ≤ 65536 := by
        have h1 : nn * 1 ≤ nn * Cd.pw n := Nat.mul_le_mul_left _ hpp
        simp only at htt
        omega
      rw [← hnn] at hstep
      simp only at htt hlen
      have HN2 := hid (show (nn + 1) * Cd.pw n = Cd.tot ((o.map fun s => (s, lenOf l s)).take (i + 1)) by rw [htt, ← hnpw, Nat.add_mul, Nat.one_mul])
      have Hst := hid hstep
      have Hne := hid hnext
      obtain ⟨d, hd⟩ : ∃ d : Nat, d = n - la := ⟨_, rfl⟩
      have td : wrap64 ((n : Int) - (la : Int)) = (d : Int) := by unfold wrap64; omega
      have td2 : (n : Int) - (la : Int) = (d : Int) := by omega
      have td3 : IntKind.i64.wrap ((n : Int) - (la : Int)) = (d : Int) := (IntWalk.i64_in _ (by omega)).trans td2
      have hsh := fun w => shl_run (P := Try.prog) (yk := .i64) (nx : Int) d (by omega) w (by omega) (by
        rw [← hd] at hnn
        have : ((nx * 2 ^ d : Nat) : Int) ≤ 65536 := by rw [← hnn]; omega
        push_cast at this
        omega)
      have enn : (nx : Int) * 2 ^ d = (nn : Int) := by rw [hnn, hd]; push_cast; rfl
      have Hn := hid hn
      have fz := fun o => B.out.frozen o
      have hgw := B.out.lt
      have hcs : s < cs.length := by rw [HC.out]; exact hsl
      have q0 : ∃ u, wr.cell? ⟨g, s, none⟩ = some u := ⟨_, (B.out.cell s).trans (by simp [intsV, hcs]; rfl)⟩
      obtain ⟨u, q0⟩ := q0
      have hlenn := hlen
      clear hstep hnext hn hnn hnpw htt htle hkr hdr hmem hs e1 e2 hd hio hcs hsorted hlen
      rw [enn] at hsh
      go_wp2_with fail
      have hset := B.out.set_ s (.int .i64 (nn : Int))
      have e5 : (intsV cs).toArray.setIfInBounds s (Value.int .i64 (nn : Int)) = (intsV (cs.set s (nn : Int))).toArray := by simp [intsV, List.map_set]
      rw [e5] at hset
      exact ⟨⟨i + 1, nn + 1, n, cs.set s (nn : Int), by omega, by go_num, rfl, by go_num, by omega, hid (by rw [List.length_set]; exact HC.out), hid (HA.out.trans Hst.out), HN2, Hne, hid hset, hid (Be.out.setCell (p := ⟨g, s, none⟩) hWg _)⟩, by simp [intOf]; omega⟩
    · have hdone := hid (show asg l o 0 0 (List.replicate L 0) = cs by
        rw [HA.out, List.drop_eq_nil_of_le (by rw [← HN.out]; omega)]
        rfl)
      go_wp2_with fail
      go_ret
      refine ⟨g, by rw [← HL.out]; rfl, hWg, ?_, Be.out⟩
      rw [← HL.out, hdone.out]
      exact B.out
end Go.Proofs.Ytegmbjkpjglgpaa
