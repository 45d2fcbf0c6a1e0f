/-
  burnishref18.Good, Unlike, sorted.
-/
import Derived.Test.YtbpdkpphhjmalaaShC
namespace Go.Proofs.Ytbpdkpphhjmalaa
open Go.RowKit

theorem unlS_in {acc : List Px} {p : Px} (h : p ∈ acc) : unlStep acc p = acc := if_pos h
theorem unlS_new {acc : List Px} {p : Px} (h : p ∉ acc) : unlStep acc p = acc ++ [p] := if_neg h
theorem dec_in {p : Px} {l : List Px} (h : p ∈ l) : decide (p ∉ l) = false := by simp [h]
theorem rd_px {w : World} {g : Nat} {p0 p1 p2 p3 : Int} (h : Blk w g 29 #[.int .i64 p0, .int .i64 p1, .int .i64 p2, .int .i64 p3]) : Rd w w.heap.size 4 (some ⟨g, 0, none⟩) 1 [.int .i64 p0, .int .i64 p1, .int .i64 p2, .int .i64 p3] := rd_one _ _ _ _ h

set_option maxRecDepth 100000 in
set_option maxHeartbeats 8000000 in
theorem runlike_any (A : Option Addr) (c : Nat) (l : List Px) (W : World) (hp : RdP W W.heap.size A l) (hm : l.length ≤ 1000000) :
    Calls Try.prog 115 #[.slice A l.length c] W (PxsEnd (unl l) W) := by
  have Hp := hid hp
  obtain ⟨i0, hi0, hz0, hz1, hz2⟩ := info_parts px_info
  have Hi0 := hid hi0
  have Hz0 := hid hz0
  have Hz1 := hid hz1
  have Hz2 := hid hz2
  clear hi0 hz0 hz1 hz2
  clear hp
  go_enter Try.func115, Try.ntmps115
  go_upto_region 3 with (fail)
  go_loopw [3, 4] (fun o i wr => ∃ (j : Nat) (A' : Option Addr) (c' : Nat), j ≤ l.length ∧ i = .int .i64 j ∧ o = .slice A' (unl (l.take j)).length c' ∧ wr.ownsRow W.heap.size 29 4 (.slice A' (unl (l.take j)).length c') (unl (l.take j)).length ((unl (l.take j)).flatMap encP) ∧ Below W.heap.size W wr) (fun _ i _ => l.length - (intOf i).toNat)
  case atStart => exact ⟨0, none, 0, by omega, rfl, rfl, World.ownsRow_nil _ _ _ _, Below.refl _ _⟩
  case round =>
    obtain ⟨j, A', c', hj, rfl, rfl, hown, hb⟩ := hrel
    have Hown := hid hown
    have Hb := hid hb
    clear hown hb
    by_cases hlt : j < l.length
    · have Hut := hid (unl_take l j hlt)
      have hul : (unl (l.take j)).length ≤ j := Nat.le_trans (unl_len _) (List.length_take_le _ _)
      have Hat := hid (fun (w : World) (h : Below W.heap.size W w) => px_at (Rd.below Hp.out h (Nat.le_refl _)) hlt)
      generalize l[j] = p at *
      obtain ⟨p0, p1, p2, p3⟩ := p
      generalize hgo : unl (l.take j) = out at *
      go_upto_region 7 with (fail)
      go_loopw [5, 6] (fun nw k wi => ∃ q : Nat, q ≤ out.length ∧ k = .int .i64 q ∧ nw = .bool (decide ((p0, p1, p2, p3) ∉ out.take q)) ∧ wi.ownsRow W.heap.size 29 4 (.slice A' out.length c') out.length (out.flatMap encP) ∧ Below W.heap.size W wi) (fun _ k _ => out.length - (intOf k).toNat)
      case atStart => exact ⟨0, by omega, rfl, by simp, Hown.out, Hb.out⟩
      case round =>
        obtain ⟨q, hq, rfl, rfl, hown, hb⟩ := hrel
        have Hown := hid hown
        have Hb := hid hb
        clear hown hb
        by_cases hql : q < out.length
        · obtain ⟨bo, offo, hAo, hbo, y0, y1, y2, y3⟩ := px_at (own_rdp Hown.out) hql
          subst hAo
          obtain ⟨b, off, hA, hbb, x0, x1, x2, x3⟩ := Hat.out wr Hb.out
          subst hA
          try simp only at x0 x1 x2 x3
          by_cases hin : (p0, p1, p2, p3) ∈ out.take q
          · have Hd := hid (show decide ((p0, p1, p2, p3) ∉ out.take (q + 1)) = false from dec_in (by rw [List.take_succ_eq_append_getElem hql]; exact List.mem_append_left _ hin))
            rw [show decide ((p0, p1, p2, p3) ∉ out.take q) = false from dec_in hin]
            clear hin
            go_wp2_with fail
            first | go_quiet (fail) | fail
            go_wp2_with fail
            go_roundw
            case rel => exact ⟨q + 1, by omega, by go_num, by rw [Hd.out], Hown.out, below_drewN Hb.out _⟩
            case measure => simp [intOf]; omega
          · rw [show decide ((p0, p1, p2, p3) ∉ out.take q) = true from decide_eq_true hin]
            by_cases hv : out[q] = (p0, p1, p2, p3)
            · have Hd := hid (show decide ((p0, p1, p2, p3) ∉ out.take (q + 1)) = false from dec_in (by rw [List.take_succ_eq_append_getElem hql, hv]; simp))
              rw [hv] at y0 y1 y2 y3
              simp only at y0 y1 y2 y3
              have hqq := px_neq p0 p1 p2 p3 p0 p1 p2 p3 false (by rw [decide_eq_true rfl]; rfl)
              clear hin hv
              go_wp2_with fail
              go_quiet (fail)
              go_wp2_with fail
              go_roundw
              case rel => exact ⟨q + 1, by omega, by go_num, by rw [Hd.out], Hown.out, below_drewN Hb.out _⟩
              case measure => simp [intOf]; omega
            · have Hd := hid (show decide ((p0, p1, p2, p3) ∉ out.take (q + 1)) = true from decide_eq_true (mem_take_px hql hin hv))
              generalize out[q] = v at *
              obtain ⟨v0, v1, v2, v3⟩ := v
              simp only at y0 y1 y2 y3
              have hqq := px_neq v0 v1 v2 v3 p0 p1 p2 p3 true (by rw [decide_eq_false hv]; rfl)
              clear hin hv
              go_wp2_with fail
              go_quiet (fail)
              go_wp2_with fail
              go_roundw
              case rel => exact ⟨q + 1, by omega, by go_num, by rw [Hd.out], Hown.out, below_drewN Hb.out _⟩
              case measure => simp [intOf]; omega
        · have e : q = out.length := by omega
          subst e
          rw [List.take_length]
          obtain ⟨b, off, hA, hbb, x0, x1, x2, x3⟩ := Hat.out wr Hb.out
          subst hA
          try simp only at x0 x1 x2 x3
          by_cases hin : (p0, p1, p2, p3) ∈ out
          · have he := hid (show unl (l.take (j + 1)) = out by rw [Hut.out]; exact unlS_in hin)
            rw [show decide ((p0, p1, p2, p3) ∉ out) = false from dec_in hin]
            clear hin
            go_wp2_with fail
            go_roundw
            case rel => exact ⟨j + 1, A', c', by omega, by go_num, by rw [he.out], by rw [he.out]; exact Hown.out, Hb.out⟩
            case measure => simp [intOf]; omega
          · have he := hid (show unl (l.take (j + 1)) = out ++ [(p0, p1, p2, p3)] by rw [Hut.out]; exact unlS_new hin)
            rw [show decide ((p0, p1, p2, p3) ∉ out) = true from decide_eq_true hin]
            have hws := Hb.out.size
            clear hin
            go_wp2_with (at_builtin; refine wpList_app _ rfl _ _ _ rfl (W.heap.size) 29 i0 (.agg #[.int .i64 0, .int .i64 0, .int .i64 0, .int .i64 0]) 4 32 Try.underlying24 Hi0.out Hz0.out Hz1.out Hz2.out rfl (by omega) A' (out).length c' _ rfl (Hown.out.alloc _) _ _ 1 1 [.int .i64 p0, .int .i64 p1, .int .i64 p2, .int .i64 p3] rfl (rd_one _ _ _ _ (Blk.new _ _ _)) (by simp) (by simp [Value.oneCell']) (by simp only [maxLen]; omega) (by omega) (by simp; omega) ?_; rintro A3 c3 w3 ⟨hown3, hgr3, hb3, _⟩)
            go_roundw
            case rel =>
              refine ⟨j + 1, A3, c3, by omega, by go_num, by rw [he.out, List.length_append]; rfl, ?_, (Hb.out.alloc hws _).trans hb3⟩
              rw [he.out, List.flatMap_append, List.length_append]
              exact hown3
            case measure => simp [intOf]; omega
    · have e : j = l.length := by omega
      have ht : l.take j = l := by rw [e, List.take_length]
      rw [ht] at Hown ⊢
      go_wp2
      go_ret
      exact ⟨A', c', rfl, Hown.out, Hb.out⟩

theorem clearL_take (l : List Px) (j : Nat) (hj : j < l.length) : clearL (l.take (j + 1)) = if l[j].2.2.2 = 65535 then clearL (l.take j) else clearL (l.take j) ++ [l[j]] := by
  unfold clearL
  rw [List.take_succ_eq_append_getElem hj, List.filter_append]
  by_cases h : l[j].2.2.2 = 65535
  · rw [if_pos h]; simp [h]
  · rw [if_neg h]; simp [h]
theorem restL_take (l : List Px) (j : Nat) (hj : j < l.length) : restL (l.take (j + 1)) = if l[j].2.2.2 = 65535 then restL (l.take j) ++ [l[j]] else restL (l.take j) := by
  unfold restL
  rw [List.take_succ_eq_append_getElem hj, List.filter_append]
  by_cases h : l[j].2.2.2 = 65535
  · rw [if_pos h]; simp [h]
  · rw [if_neg h]; simp [h]
theorem clearL_le (l : List Px) (j : Nat) : (clearL (l.take j)).length ≤ l.length := Nat.le_trans (clear_len _) (List.length_take_le' _ _)
theorem restL_le (l : List Px) (j : Nat) : (restL (l.take j)).length ≤ l.length := Nat.le_trans (rest_len _) (List.length_take_le' _ _)

/-- the palette while its opaque pixels are laid behind the others -/
def palAt (l : List Px) (j : Nat) : List Px := clearL l ++ restL (l.take j)
theorem palAt_0 (l : List Px) : palAt l 0 = clearL l := by simp [palAt, restL]
theorem palAt_all (l : List Px) : palAt l l.length = palM l := by unfold palAt palM; rw [List.take_length]
theorem palAt_le (l : List Px) (j : Nat) : (palAt l j).length ≤ 2 * l.length := by
  unfold palAt
  have := clear_len l
  have := restL_le l j
  rw [List.length_append]; omega
theorem palAt_yes (l : List Px) (j : Nat) (hj : j < l.length) (h : l[j].2.2.2 = 65535) : palAt l (j + 1) = palAt l j ++ [l[j]] := by
  unfold palAt
  rw [restL_take l j hj, if_pos h, List.append_assoc]
theorem palAt_no (l : List Px) (j : Nat) (hj : j < l.length) (h : ¬ l[j].2.2.2 = 65535) : palAt l (j + 1) = palAt l j := by
  unfold palAt
  rw [restL_take l j hj, if_neg h]
set_option maxRecDepth 100000 in
set_option maxHeartbeats 8000000 in
theorem rsorted_any (A : Option Addr) (c : Nat) (l : List Px) (W : World) (hp : RdP W W.heap.size A l) (hm : l.length ≤ 1000000) :
    Calls Try.prog 117 #[.slice A l.length c] W (PxsEnd (palM l) W) := by
  have Hp := hid hp
  obtain ⟨i0, hi0, hz0, hz1, hz2⟩ := info_parts px_info
  have Hi0 := hid hi0
  have Hz0 := hid hz0
  have Hz1 := hid hz1
  have Hz2 := hid hz2
  clear hi0 hz0 hz1 hz2
  clear hp
  go_enter Try.func117, Try.ntmps117
  go_upto_region 3 with (fail)
  go_loopw [3, 4] (fun o i wr => ∃ (j : Nat) (A' : Option Addr) (c' : Nat), j ≤ l.length ∧ i = .int .i64 j ∧ o = .slice A' (clearL (l.take j)).length c' ∧ wr.ownsRow W.heap.size 29 4 (.slice A' (clearL (l.take j)).length c') (clearL (l.take j)).length ((clearL (l.take j)).flatMap encP) ∧ Below W.heap.size W wr) (fun _ i _ => l.length - (intOf i).toNat)
  case atStart => exact ⟨0, none, 0, by omega, rfl, rfl, World.ownsRow_nil _ _ _ _, Below.refl _ _⟩
  case round =>
    obtain ⟨j, A', c', hj, rfl, rfl, hown, hb⟩ := hrel
    have Hown := hid hown
    have Hb := hid hb
    clear hown hb
    by_cases hlt : j < l.length
    · have Hut := hid (clearL_take l j hlt)
      have hul := clearL_le l j
      have hws := Hb.out.size
      obtain ⟨b, off, hA, hbb, x0, x1, x2, x3⟩ := px_at (Rd.below Hp.out Hb.out (Nat.le_refl _)) hlt
      subst hA
      generalize l[j] = p at *
      obtain ⟨p0, p1, p2, p3⟩ := p
      generalize clearL (l.take j) = out at *
      simp only at x0 x1 x2 x3
      by_cases h : p3 = 65535
      · have he := hid (show clearL (l.take (j + 1)) = out from Hut.out.trans (if_pos h))
        have d : (p3 != 65535) = false := by rw [bne_eq_false_iff_eq]; exact h
        clear h
        go_wp2_with fail
        go_roundw
        case rel => exact ⟨j + 1, A', c', by omega, by go_num, by rw [he.out], by rw [he.out]; exact Hown.out, Hb.out⟩
        case measure => simp [intOf]; omega
      · have he := hid (show clearL (l.take (j + 1)) = out ++ [(p0, p1, p2, p3)] from Hut.out.trans (if_neg h))
        have d : (p3 != 65535) = true := bne_iff_ne.2 h
        clear h
        go_wp2_with (at_builtin; refine wpList_app _ rfl _ _ _ rfl (W.heap.size) 29 i0 (.agg #[.int .i64 0, .int .i64 0, .int .i64 0, .int .i64 0]) 4 32 Try.underlying24 Hi0.out Hz0.out Hz1.out Hz2.out rfl (by omega) A' (out).length c' _ rfl (Hown.out.alloc _) _ _ 1 1 [.int .i64 p0, .int .i64 p1, .int .i64 p2, .int .i64 p3] rfl (rd_one _ _ _ _ (Blk.new _ _ _)) (by simp) (by simp [Value.oneCell']) (by simp only [maxLen]; omega) (by omega) (by simp; omega) ?_; rintro A3 c3 w3 ⟨hown3, hgr3, hb3, _⟩)
        go_roundw
        case rel =>
          refine ⟨j + 1, A3, c3, by omega, by go_num, by rw [he.out, List.length_append]; rfl, ?_, (Hb.out.alloc hws _).trans hb3⟩
          rw [he.out, List.flatMap_append, List.length_append]
          exact hown3
        case measure => simp [intOf]; omega
    · have e : j = l.length := by omega
      have ht : l.take j = l := by rw [e, List.take_length]
      rw [ht] at Hown ⊢
      obtain ⟨wz, rfl⟩ : ∃ wz : World, wz = wr := ⟨_, rfl⟩
      have Hown := hid (show wz.ownsRow W.heap.size 29 4 (.slice A' (palAt l 0).length c') (palAt l 0).length ((palAt l 0).flatMap encP) by rw [palAt_0]; exact Hown.out)
      rw [← palAt_0]
      clear e ht
      go_upto_region 8 with (fail)
      go_loopw [3, 5] (fun o i wr => ∃ (j : Nat) (A' : Option Addr) (c' : Nat), j ≤ l.length ∧ i = .int .i64 j ∧ o = .slice A' (palAt l j).length c' ∧ wr.ownsRow W.heap.size 29 4 (.slice A' (palAt l j).length c') (palAt l j).length ((palAt l j).flatMap encP) ∧ Below W.heap.size W wr) (fun _ i _ => l.length - (intOf i).toNat)
      case atStart => exact ⟨0, A', c', by omega, rfl, rfl, Hown.out, Hb.out⟩
      case round =>
        obtain ⟨j, A', c', hj, rfl, rfl, hown, hb⟩ := hrel
        have Hown := hid hown
        have Hb := hid hb
        clear hown hb
        by_cases hlt : j < l.length
        · have hul := palAt_le l j
          have hws := Hb.out.size
          obtain ⟨b, off, hA, hbb, x0, x1, x2, x3⟩ := px_at (Rd.below Hp.out Hb.out (Nat.le_refl _)) hlt
          subst hA
          have Hy := hid (palAt_yes l j hlt)
          have Hn := hid (palAt_no l j hlt)
          generalize l[j] = p at *
          obtain ⟨p0, p1, p2, p3⟩ := p
          simp only at x0 x1 x2 x3
          generalize palAt l j = out at *
          by_cases h : p3 = 65535
          · have he := hid (Hy.out h)
            have d : (p3 == 65535) = true := beq_iff_eq.2 h
            clear h
            go_wp2_with (at_builtin; refine wpList_app _ rfl _ _ _ rfl (W.heap.size) 29 i0 (.agg #[.int .i64 0, .int .i64 0, .int .i64 0, .int .i64 0]) 4 32 Try.underlying24 Hi0.out Hz0.out Hz1.out Hz2.out rfl (by omega) A' (out).length c' _ rfl (Hown.out.alloc _) _ _ 1 1 [.int .i64 p0, .int .i64 p1, .int .i64 p2, .int .i64 p3] rfl (rd_one _ _ _ _ (Blk.new _ _ _)) (by simp) (by simp [Value.oneCell']) (by simp only [maxLen]; omega) (by omega) (by simp; omega) ?_; rintro A3 c3 w3 ⟨hown3, hgr3, hb3, _⟩)
            go_roundw
            case rel =>
              refine ⟨j + 1, A3, c3, by omega, by go_num, by rw [he.out, List.length_append]; rfl, ?_, (Hb.out.alloc hws _).trans hb3⟩
              rw [he.out, List.flatMap_append, List.length_append]
              exact hown3
            case measure => simp [intOf]; omega
          · have he := hid (Hn.out h)
            have d : (p3 == 65535) = false := beq_eq_false_iff_ne.2 h
            clear h
            go_wp2_with fail
            go_roundw
            case rel => exact ⟨j + 1, A', c', by omega, by go_num, by rw [he.out], by rw [he.out]; exact Hown.out, Hb.out⟩
            case measure => simp [intOf]; omega
        · have e : j = l.length := by omega
          subst e
          rw [palAt_all] at Hown ⊢
          go_wp2
          go_ret
          exact ⟨A', c', rfl, Hown.out, Hb.out⟩

end Go.Proofs.Ytbpdkpphhjmalaa
