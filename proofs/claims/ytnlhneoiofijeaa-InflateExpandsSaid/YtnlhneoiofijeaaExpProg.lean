/-
  inflate.Expand: what it returns.
-/
import Derived.Test.YtnlhneoiofijeaaExpLay
namespace Go.Proofs.Ytnlhneoiofijeaa
open Go.RowKit

def errv (k : Int) : Value := if k = 0 then .nilIface else .iface 47 (.int .i64 k)
theorem scan_err {most s k : Int} {t : Int × Int} {r : List (Int × Int)} (h : terr most s t = k) (hk : k ≠ 0) : scan most (t :: r) s = k := by
  unfold scan; rw [if_neg (by rw [h]; exact hk), h]
theorem scan_ok {most s : Int} {t : Int × Int} {r : List (Int × Int)} (h : terr most s t = 0) : scan most (t :: r) s = scan most r (s + tn t) := by
  show (if terr most s t = 0 then _ else _) = _
  rw [if_pos h]
theorem own_base {w : World} {b b' : Nat} {e : TypeId} {size n : Nat} {v : Value} {xs : List Value} (h : w.ownsRow b' e size v n xs) (hb : b ≤ b') : w.ownsRow b e size v n xs := by
  refine ⟨h.1, ?_⟩
  rcases h.2 with hn | ⟨g, cap, cur, rfl, hg, rest⟩
  · exact .inl hn
  · exact .inr ⟨g, cap, cur, rfl, by omega, rest⟩

theorem progExpand_range (A : Option Addr) (c : Nat) (l : List (Int × Int)) (most : Int) (W : World) (h : most < 0 ∨ 4194304 < most) :
    Calls Try.prog 35 #[.slice A l.length c, .int .i64 most] W (ExpEnd errv most l 5 W) := by
  have he : expRes most l = 7 := by unfold expRes; rw [if_pos h]
  have He := hid he
  clear he
  rcases h with h | h
  all_goals
    go_enter Try.func35, Try.ntmps35
    go_wp2
    go_ret2
    exact expEnd_err (ev := errv) He.out (by omega) (Below.refl _ _)

set_option maxRecDepth 100000 in
set_option maxHeartbeats 4000000 in
theorem progExpand_in (A : Option Addr) (c : Nat) (l : List (Int × Int)) (most : Int) (W : World) (hr : Rd W W.heap.size 2 A l.length (l.flatMap encTok)) (hm : l.length ≤ 2000) (h0 : 0 ≤ most) (h1 : most ≤ 4194304) :
    Calls Try.prog 35 #[.slice A l.length c, .int .i64 most] W (ExpEnd errv most l 5 W) := by
  have he : expRes most l = scan most l 0 := by unfold expRes; rw [if_neg (by omega)]
  have He := hid he
  clear he
  have Hr := hid hr
  clear hr
  go_enter Try.func35, Try.ntmps35
  go_wp2
  go_loopw [21] (fun i wr => ∃ (j : Nat) (s : Int) (A' : Option Addr) (c' : Nat), j ≤ l.length ∧ i = .int .i64 j ∧ Blk wr W.heap.size 115 #[.int .i64 most, .int .i64 s, .slice A' (l.take j).length c'] ∧
      wr.ownsRow W.heap.size 38 2 (.slice A' (l.take j).length c') (l.take j).length ((l.take j).flatMap encTok) ∧ scan most l 0 = scan most (l.drop j) s ∧ 0 ≤ s ∧ s ≤ most ∧ Below W.heap.size W wr) (fun i _ => l.length - (intOf i).toNat)
  case atStart => exact ⟨0, 0, none, 0, by omega, rfl, Blk.new W _ _, World.ownsRow_nil _ _ _ _, rfl, by omega, h0, (Below.refl _ _).alloc (Nat.le_refl _) _⟩
  case round =>
    obtain ⟨j, s, A', c', hj, rfl, hk, hown, hsc, hs0, hs1, hb⟩ := hrel
    have Hk := hid hk
    have Hown := hid hown
    have Hsc := hid hsc
    have Hb := hid hb
    have hsz := hb.size
    have hkl := hk.lt
    clear hk hown hsc hb
    have htl : (l.take j).length = j := by rw [List.length_take]; omega
    have Htl := hid htl
    clear htl
    by_cases hlt : j < l.length
    · obtain ⟨b, off, rfl, hbb, q0, q1⟩ := tok_at (Hr.out.below Hb.out (Nat.le_refl _)) hlt
      have Hd := hid (drop_cons l j hlt)
      have Htk := hid (show l.take (j + 1) = l.take j ++ [l[j]] from List.take_succ_eq_append_getElem hlt)
      generalize l[j] = t at *
      obtain ⟨tl, td⟩ := t
      cases hg : tgood (tl, td)
      · have Hg := hid hg
        clear hg
        have Hend : Hid (expRes most l = 6) := by rw [He.out, Hsc.out, Hd.out]; simp [scan, terr, Hg.out, Hid]
        go_wp2_with (go_at_call 63; refine (progGood _ _ _ Hg.out _).mono ?_; rintro e w1 ⟨rfl, hb1⟩)
        go_ret2
        exact expEnd_err (ev := errv) Hend.out (by omega) ((Hb.out.alloc hsz _).trans (hb1.mono (by simp; omega)))
      · have Hg := hid hg
        have hgg := tgood_true.1 hg
        clear hg
        simp only at hgg
        have ht : (0 < tl ∧ s < td ∧ 3 ≤ tl ∧ tl ≤ 258) ∨ (¬ (0 < tl ∧ s < td) ∧ (tl = 0 ∨ (3 ≤ tl ∧ tl ≤ 258 ∧ td ≤ s))) := by omega
        clear hgg
        rcases ht with ⟨t1, t2, t3, t4⟩ | ⟨t1, ht⟩
        · have Hend : Hid (expRes most l = 2) := by rw [He.out, Hsc.out, Hd.out]; simp [scan, terr, Hg.out, Hid, t1, t2]
          go_wp2_with (go_at_call 63; refine (progGood _ _ _ Hg.out _).mono ?_; rintro e w1 ⟨rfl, hb1⟩; obtain ⟨hc1, hf1⟩ := bcell hb1; have hz1 := hb1.size; have k1 := (Hk.out.alloc (.cells #[.int .i64 tl, .int .i64 td] 38)).below hb1 (by simp; omega); have K1 := hid k1; clear k1)
          refine (put_far _ most s _ _ _ _ K1.out t3 t4 t2).mono ?_
          rintro e w2 ⟨rfl, hb2⟩
          go_wp2_with fail
          go_ret2
          exact expEnd_err (ev := errv) Hend.out (by omega) (((Hb.out.alloc hsz _).trans (hb1.mono (by simp; omega))).trans (hb2.mono (by simp at hz1; omega)))
        · by_cases hbig : most < s + tn (tl, td)
          · have Hend : Hid (expRes most l = 4) := hid (by rw [He.out, Hsc.out, Hd.out]; exact scan_err (by unfold terr; rw [if_neg (by simp [Hg.out]), if_neg t1, if_pos hbig]) (by omega))
            have Hbig := hid hbig
            clear hbig
            go_wp2_with (go_at_call 63; refine (progGood _ _ _ Hg.out _).mono ?_; rintro e w1 ⟨rfl, hb1⟩; obtain ⟨hc1, hf1⟩ := bcell hb1; have hz1 := hb1.size; have k1 := (Hk.out.alloc (.cells #[.int .i64 tl, .int .i64 td] 38)).below hb1 (by simp; omega); have K1 := hid k1; clear k1)
            refine (put_big _ most s _ _ _ _ K1.out hs0 h0 h1 hs1 ht Hbig.out).mono ?_
            rintro e w2 ⟨rfl, hb2⟩
            go_wp2_with fail
            go_ret2
            exact expEnd_err (ev := errv) Hend.out (by omega) (((Hb.out.alloc hsz _).trans (hb1.mono (by simp; omega))).trans (hb2.mono (by simp at hz1; omega)))
          · have Hnext : Hid (scan most l 0 = scan most (l.drop (j + 1)) (s + tn (tl, td))) := hid (by
              rw [Hsc.out, Hd.out]
              exact scan_ok (by unfold terr; rw [if_neg (by simp [Hg.out]), if_neg t1, if_neg hbig]))
            have Hbig := hid (show s + tn (tl, td) ≤ most by omega)
            have Hht := hid ht
            have hlj : (l.take j).length ≤ 2000 := by rw [List.length_take]; omega
            have Hlj := hid hlj
            clear hbig ht t1 hlj
            go_wp2_with (go_at_call 63; refine (progGood _ _ _ Hg.out _).mono ?_; rintro e w1 ⟨rfl, hb1⟩; obtain ⟨hc1, hf1⟩ := bcell hb1; have hz1 := hb1.size; have k1 := (Hk.out.alloc (.cells #[.int .i64 tl, .int .i64 td] 38)).below hb1 (by simp; omega); have K1 := hid k1; clear k1; have Hown1 := hid (own_below (Hown.out.alloc (.cells #[.int .i64 tl, .int .i64 td] 38)) hb1 (Nat.le_refl _)); have Hbw1 := hid ((Hb.out.alloc hsz (.cells #[.int .i64 tl, .int .i64 td] 38)).trans (hb1.mono (by simp; omega))))
            refine (put_ok _ most s A' c' (l.take j) tl td W.heap.size _ K1.out (Nat.le_refl _) Hbw1.out.size Hown1.out Hlj.out hs0 Hbig.out h1 Hht.out).mono ?_
            rintro e w2 ⟨rfl, A2, c2, hk2, hown2, hb2⟩
            have K2 := hid hk2
            have Hown2 := hid hown2
            have Hb2 := hid hb2
            clear hk2 hown2 hb2
            go_wp2_with fail
            go_roundw
            case rel => exact ⟨j + 1, s + tn (tl, td), A2, c2, by omega, by go_num, by rw [Htk.out, List.length_append]; exact K2.out, by rw [Htk.out, List.length_append]; exact Hown2.out, Hnext.out, by have := @tn_pos (tl, td); omega, Hbig.out, Hbw1.out.trans Hb2.out⟩
            case measure => simp [intOf]; omega
    · have e : j = l.length := by omega
      subst e
      have hscl : scan most l 0 = 0 := by rw [Hsc.out, List.drop_length]; rfl
      have hown := Hown.out
      have hk := Hk.out
      rw [List.take_length] at hown hk
      have hres : expRes most l = 0 := He.out.trans hscl
      have hout : expOut most l = l.foldl layTok [] := by unfold expOut; rw [if_pos hres]
      have Hres := hid hres
      have Hout := hid hout
      have c1 := hk.cell 1
      have c2 := hk.cell 2
      simp only [List.getElem?_toArray, List.getElem?_cons_zero, List.getElem?_cons_succ] at c1 c2
      have H := hid (lay_any A' c' l most s wr (own_rd hown) (by omega) hs0 (by omega) h1 hscl)
      clear hown hk hres hout hscl
      go_wp2_with (go_at_call 65; refine H.out.mono ?_; rintro e w2 ⟨A2, c2', rfl, hown2, hb2⟩)
      go_ret2
      refine ⟨A2, c2', ?_, by rw [Hout.out]; exact own_base hown2 hsz, Hb.out.trans (hb2.mono hsz)⟩
      rw [Hout.out, Hres.out]; rfl

theorem progExpand_any (A : Option Addr) (c : Nat) (l : List (Int × Int)) (most : Int) (W : World) (hr : Rd W W.heap.size 2 A l.length (l.flatMap encTok)) (hm : l.length ≤ 2000) :
    Calls Try.prog 35 #[.slice A l.length c, .int .i64 most] W (ExpEnd errv most l 5 W) := by
  by_cases h : most < 0 ∨ 4194304 < most
  · exact progExpand_range A c l most W h
  · exact progExpand_in A c l most W hr hm (by omega) (by omega)

end Go.Proofs.Ytnlhneoiofijeaa
