/-
  inflate.Expand: up to 4194304 tokens.
-/
import Derived.Test.YthhllollhjpheaaInfLay
import Derived.Test.YthhllollhjpheaaExpRef
import Derived.BigRegion
import Derived.Deep.RegionLaw
import Derived.Deep.DeepCutAuto
import Derived.Deep.CutRange
namespace Go.Proofs.Ythhllollhjpheaa
open Go.RowKit

set_option maxHeartbeats 1000000 in
theorem progGood : GoodSaid 61 := by
  intro l d g hg0 W
  rcases tgood_cases hg0 with ⟨rfl, q⟩ | ⟨hl, q⟩
  case' inl =>
    rcases q with ⟨rfl, q1, q2⟩ | ⟨rfl, q1⟩ | ⟨rfl, q1, q2⟩
  case' inr =>
    have hl' : (l == 0) = false := by rw [beq_eq_false_iff_ne]; exact hl
    clear hl
    rcases q with ⟨rfl, q1, q2, q3, q4⟩ | ⟨rfl, q1⟩ | ⟨rfl, q1, q2⟩ | ⟨rfl, q1, q2, q3⟩ | ⟨rfl, q1, q2, q3, q4⟩
  all_goals
    clear hg0
    go_enter Try.func61, Try.ntmps61
    go_wp2
    go_ret
    exact ⟨ret_bool (by first | rfl | (simp; done) | (simp; omega)), (Below.refl _ _).alloc (Nat.le_refl _) _⟩

theorem tok_info : (Try.prog.info? 54).map (fun i => (i.zero, i.size, i.bytes)) = some (some (.agg #[.int .i64 0, .int .i64 0]), 2, 16) := by kernel_rfl

/-- what put leaves: a size and a token more -/
def PutEndE (g : Nat) (most s : Int) (toks : List (Int × Int)) (t : Int × Int) (base : Nat) (W : World) (e : Ending) (w' : World) : Prop :=
  e = .returned .nilIface ∧ ∃ A c, Blk w' g 114 #[.int .i64 most, .int .i64 (s + tn t), .slice A (toks.length + 1) c] ∧
    w'.ownsRow base 54 2 (.slice A (toks.length + 1) c) (toks.length + 1) ((toks ++ [t]).flatMap encTok) ∧ Below base W w'
def PutErr (k : Int) (W : World) (e : Ending) (w' : World) : Prop := e = .returned (.iface 40 (.int .i64 k)) ∧ Below W.heap.size W w'

theorem put_mid {g : Nat} {most s v : Int} {A : Option Addr} {c : Nat} {toks : List (Int × Int)} {tl td : Int} {base : Nat} {W w2 : World} {k : Nat} (hk : Blk W g 114 #[.int .i64 most, .int .i64 s, .slice A toks.length c]) (hg : base ≤ g) (hbase : base ≤ W.heap.size)
    (hown : W.ownsRow base 54 2 (.slice A toks.length c) toks.length (toks.flatMap encTok))
    (hw2 : ((W.alloc (.cells #[.int .i64 tl, .int .i64 td] 54)).drewN k).setCell ⟨g, 1, none⟩ (.int .i64 v) = w2) :
    Blk w2 g 114 #[.int .i64 most, .int .i64 v, .slice A toks.length c] ∧ Blk w2 W.heap.size 54 #[.int .i64 tl, .int .i64 td] ∧
      w2.ownsRow base 54 2 (.slice A toks.length c) toks.length (toks.flatMap encTok) ∧ Below base W w2 ∧ w2.heap.size = W.heap.size + 1 := by
  subst hw2
  have hlt := hk.lt
  exact ⟨((hk.alloc _).drewN _).set_ 1 _, ((Blk.new W 54 #[.int .i64 tl, .int .i64 td]).drewN _).far (by show W.heap.size ≠ g; omega) _,
    ownsRow_setCell_other (a := ⟨g, 1, none⟩) (own_drewN (hown.alloc _) _) (fun h => own_blk_ne hown hk (by decide) h.symm) _,
    (below_drewN ((Below.refl _ _).alloc hbase _) _).setCell hg _, by simp [World.setCell]⟩

set_option maxRecDepth 100000 in
set_option maxHeartbeats 4000000 in
theorem put_ok (g : Nat) (most s : Int) (A : Option Addr) (c : Nat) (toks : List (Int × Int)) (tl td : Int) (base : Nat) (W : World) (hk : Blk W g 114 #[.int .i64 most, .int .i64 s, .slice A toks.length c]) (hg : base ≤ g) (hbase : base ≤ W.heap.size)
    (hown : W.ownsRow base 54 2 (.slice A toks.length c) toks.length (toks.flatMap encTok)) (hlen : toks.length ≤ 4194304) (hs0 : 0 ≤ s) (hs : s + tn (tl, td) ≤ most) (hm : most ≤ 4194304) (ht : tl = 0 ∨ (3 ≤ tl ∧ tl ≤ 258 ∧ td ≤ s)) :
    Calls Try.prog 62 #[.pointer (some ⟨g, 0, none⟩), .agg #[.int .i64 tl, .int .i64 td]] W (PutEndE g most s toks (tl, td) base W) := by
  obtain ⟨i0, hi0, hz0, hz1, hz2⟩ := info_parts tok_info
  have Hi0 := hid hi0
  have Hz0 := hid hz0
  have Hz1 := hid hz1
  have Hz2 := hid hz2
  have K0 := hid hk
  have Hown := hid hown
  have c0 := hk.cell 0
  have c1 := hk.cell 1
  have c2 := hk.cell 2
  have f1 := hk.frozen 1
  have f2 := hk.frozen 2
  have hlt := hk.lt
  simp only [List.getElem?_toArray, List.getElem?_cons_zero, List.getElem?_cons_succ] at c0 c1 c2
  clear hi0 hz0 hz1 hz2 hk hown
  obtain ⟨n, hn⟩ : ∃ n, tn (tl, td) = n := ⟨_, rfl⟩
  have Hn := hid hn
  rw [hn] at hs
  rcases ht with rfl | ⟨t1, t2, t3⟩
  case' inl =>
    obtain rfl : n = 1 := by rw [← hn]; rfl
  case' inr =>
    obtain rfl : n = tl := by rw [← hn]; unfold tn; rw [if_pos (by simp only; omega)]
    have hp : 0 < n := by omega
  all_goals
    clear hn
    go_enter Try.func62, Try.ntmps62
    go_wp2
    go_quiet (fail)
    go_wp2
    go_quiet (fail)
    go_wp2
    generalize hw2 : World.setCell (World.drewN _ _) _ _ = w2
    obtain ⟨k2, kb, hown2, hbw2, hsz2⟩ := put_mid K0.out hg hbase Hown.out hw2
    clear hw2 c0 c1 c2 f1 f2
    have c2 := k2.cell 2
    have d0 := kb.cell 0
    have d1 := kb.cell 1
    have f2 := k2.frozen 2
    simp only [List.getElem?_toArray, List.getElem?_cons_zero, List.getElem?_cons_succ] at c2 d0 d1
    have K2 := hid k2
    have Hown2 := hid hown2
    have Hbw2 := hid hbw2
    have Hsz2 := hid hsz2
    have hgl : g < w2.heap.size := by omega
    clear k2 kb hown2 hbw2 hsz2
    go_region_law (refine step_app _ (by rfl) _ _ _ (by rfl) base 54 i0 (.agg #[.int .i64 0, .int .i64 0]) 2 16 Try.underlying23 Hi0.out Hz0.out Hz1.out Hz2.out rfl (by omega) A toks.length c _ (by rfl) (Hown2.out.alloc _) _ _ 1 1 [.int .i64 _, .int .i64 td] (by rfl) (rd_one _ _ _ _ (Blk.new _ _ _)) (by simp) (by simp [Value.oneCell']) (by simp only [maxLen]; omega) (by omega) (by simp [Hsz2.out]; omega) ?_; rintro A3 c3 w3 ⟨hown3, hgr3, hb3, _⟩; have k3 := (Blk.drew (K2.out.alloc _)).grown hgr3 (own_blk_ne Hown2.out K2.out (by decide)); have q3 := k3.cell 2; have f3 := k3.frozen 2; simp only [List.getElem?_toArray, List.getElem?_cons_zero, List.getElem?_cons_succ] at q3; have K3 := hid k3; have Hown3 := hid hown3; have Hb3 := hid hb3; have Hgr3 := hid hgr3; clear k3 hown3 hb3 hgr3)
    all_goals
      go_wp2
      go_ret
      refine ⟨rfl, A3, c3, by rw [Hn.out]; exact K3.out.set_ 2 _, ?_, ?_⟩
      · have := ownsRow_setCell_other (a := ⟨g, 2, none⟩) Hown3.out (fun h => own_blk_ne Hown3.out K3.out (by decide) h.symm) (.slice A3 (toks.length + 1) c3)
        rw [List.flatMap_append]
        exact this
      · exact ((Hbw2.out.alloc (by have := Hsz2.out; omega) _).drew.trans Hb3.out).setCell (p := ⟨g, 2, none⟩) hg _

set_option maxRecDepth 100000 in
set_option maxHeartbeats 2000000 in
theorem put_far (g : Nat) (most s : Int) (v : Value) (tl td : Int) (W : World) (hk : Blk W g 114 #[.int .i64 most, .int .i64 s, v]) (t1 : 3 ≤ tl) (t2 : tl ≤ 258) (t3 : s < td) :
    Calls Try.prog 62 #[.pointer (some ⟨g, 0, none⟩), .agg #[.int .i64 tl, .int .i64 td]] W (PutErr 2 W) := by
  have c1 := hk.cell 1
  have hlt := hk.lt
  simp only [List.getElem?_toArray, List.getElem?_cons_zero, List.getElem?_cons_succ] at c1
  clear hk
  have hp : 0 < tl := by omega
  go_enter Try.func62, Try.ntmps62
  go_wp2
  go_quiet (fail)
  go_wp2
  go_ret
  exact ⟨rfl, below_drewN ((Below.refl _ _).alloc (Nat.le_refl _) _) _⟩

set_option maxRecDepth 100000 in
set_option maxHeartbeats 2000000 in
theorem put_big (g : Nat) (most s : Int) (v : Value) (tl td : Int) (W : World) (hk : Blk W g 114 #[.int .i64 most, .int .i64 s, v]) (_hs0 : 0 ≤ s) (_hm0 : 0 ≤ most) (_hm : most ≤ 4194304) (hsm : s ≤ most) (ht : tl = 0 ∨ (3 ≤ tl ∧ tl ≤ 258 ∧ td ≤ s)) (hs : most < s + tn (tl, td)) :
    Calls Try.prog 62 #[.pointer (some ⟨g, 0, none⟩), .agg #[.int .i64 tl, .int .i64 td]] W (PutErr 4 W) := by
  have c0 := hk.cell 0
  have c1 := hk.cell 1
  have hlt := hk.lt
  simp only [List.getElem?_toArray, List.getElem?_cons_zero, List.getElem?_cons_succ] at c0 c1
  clear hk
  obtain ⟨n, hn⟩ : ∃ n, tn (tl, td) = n := ⟨_, rfl⟩
  rw [hn] at hs
  rcases ht with rfl | ⟨t1, t2, t3⟩
  case' inl =>
    obtain rfl : n = 1 := by rw [← hn]; rfl
  case' inr =>
    obtain rfl : n = tl := by rw [← hn]; unfold tn; rw [if_pos (by simp only; omega)]
    have hp : 0 < n := by omega
  all_goals
    clear hn
    go_enter Try.func62, Try.ntmps62
    go_wp2
    go_quiet (fail)
    go_wp2
    go_quiet (fail)
    go_wp2
    go_ret
    exact ⟨rfl, below_drewN ((Below.refl _ _).alloc (Nat.le_refl _) _) _⟩

end Go.Proofs.Ythhllollhjpheaa

namespace Go.Proofs.Ythhllollhjpheaa
open Go.RowKit

theorem scan_err {most s k : Int} {t : Int × Int} {r : List (Int × Int)} (h : terr most s t = k) (hk : k ≠ 0) : scan most (t :: r) s = k := by
  unfold scan; rw [if_neg (by rw [h]; exact hk), h]
theorem scan_ok {most s : Int} {t : Int × Int} {r : List (Int × Int)} (h : terr most s t = 0) : scan most (t :: r) s = scan most r (s + tn t) := by
  show (if terr most s t = 0 then _ else _) = _
  rw [if_pos h]

theorem progExpandU_range (A : Option Addr) (c : Nat) (l : List (Int × Int)) (most : Int) (W : World) (h : most < 0 ∨ 4194304 < most) :
    Calls Try.prog 42 #[.slice A l.length c, .int .i64 most] W (ExpEnd errv most l 5 W) := by
  have he : expRes most l = 7 := by unfold expRes; rw [if_pos h]
  have He := hid he
  clear he
  rcases h with h | h
  all_goals
    go_enter Try.func42, Try.ntmps42
    go_wp2
    go_ret2
    exact expEnd_err (ev := errv) He.out (by omega) (Below.refl _ _)

set_option maxRecDepth 100000 in
set_option maxHeartbeats 4000000 in
theorem progExpandU_in (A : Option Addr) (c : Nat) (l : List (Int × Int)) (most : Int) (W : World) (hr : Rd W W.heap.size 2 A l.length (l.flatMap encTok)) (hm : l.length ≤ 4194304) (h0 : 0 ≤ most) (h1 : most ≤ 4194304) :
    Calls Try.prog 42 #[.slice A l.length c, .int .i64 most] W (ExpEnd errv most l 5 W) := by
  have he : expRes most l = scan most l 0 := by unfold expRes; rw [if_neg (by omega)]
  have He := hid he
  clear he
  have Hr := hid hr
  clear hr
  go_enter Try.func42, Try.ntmps42
  go_wp2
  go_loopw [21] (fun i wr => ∃ (j : Nat) (s : Int) (A' : Option Addr) (c' : Nat), j ≤ l.length ∧ i = .int .i64 j ∧ Blk wr W.heap.size 114 #[.int .i64 most, .int .i64 s, .slice A' (l.take j).length c'] ∧
      wr.ownsRow W.heap.size 54 2 (.slice A' (l.take j).length c') (l.take j).length ((l.take j).flatMap encTok) ∧ scan most l 0 = scan most (l.drop j) s ∧ 0 ≤ s ∧ s ≤ most ∧ Below W.heap.size W wr) (fun i _ => l.length - (intOf i).toNat)
  case atStart => exact ⟨0, 0, none, 0, by omega, rfl, Blk.new W _ _, World.ownsRow_nil _ _ _ _, rfl, by omega, h0, (Below.refl _ _).alloc (Nat.le_refl _) _⟩
  case round =>
    obtain ⟨j, s, A', c', hj, rfl, hk, hown, hsc, hs0, hs1, hb⟩ := hrel
    have Hk := hid hk
    have Hown := hid hown
    have Hsc := hid hsc
    have Hb := hid hb
    have hsz := hb.size
    have hkl := hk.lt
    clear hk hown hsc hb
    have htl : (l.take j).length = j := by rw [List.length_take]; omega
    have Htl := hid htl
    clear htl
    by_cases hlt : j < l.length
    · obtain ⟨b, off, rfl, hbb, q0, q1⟩ := tok_at (Hr.out.below Hb.out (Nat.le_refl _)) hlt
      have Hd := hid (drop_cons l j hlt)
      have Htk := hid (show l.take (j + 1) = l.take j ++ [l[j]] from List.take_succ_eq_append_getElem hlt)
      generalize l[j] = t at *
      obtain ⟨tl, td⟩ := t
      cases hg : tgood (tl, td)
      · have Hg := hid hg
        clear hg
        have Hend : Hid (expRes most l = 6) := by rw [He.out, Hsc.out, Hd.out]; simp [scan, terr, Hg.out, Hid]
        go_wp2_with (go_at_call 61; refine (progGood _ _ _ Hg.out _).mono ?_; rintro e w1 ⟨rfl, hb1⟩)
        go_ret2
        exact expEnd_err (ev := errv) Hend.out (by omega) ((Hb.out.alloc hsz _).trans (hb1.mono (by simp; omega)))
      · have Hg := hid hg
        have hgg := tgood_true.1 hg
        clear hg
        simp only at hgg
        have ht : (0 < tl ∧ s < td ∧ 3 ≤ tl ∧ tl ≤ 258) ∨ (¬ (0 < tl ∧ s < td) ∧ (tl = 0 ∨ (3 ≤ tl ∧ tl ≤ 258 ∧ td ≤ s))) := by omega
        clear hgg
        rcases ht with ⟨t1, t2, t3, t4⟩ | ⟨t1, ht⟩
        · have Hend : Hid (expRes most l = 2) := by rw [He.out, Hsc.out, Hd.out]; simp [scan, terr, Hg.out, Hid, t1, t2]
          go_wp2_with (go_at_call 61; refine (progGood _ _ _ Hg.out _).mono ?_; rintro e w1 ⟨rfl, hb1⟩; obtain ⟨hc1, hf1⟩ := bcell hb1; have hz1 := hb1.size; have k1 := (Hk.out.alloc (.cells #[.int .i64 tl, .int .i64 td] 54)).below hb1 (by simp; omega); have K1 := hid k1; clear k1)
          refine (put_far _ most s _ _ _ _ K1.out t3 t4 t2).mono ?_
          rintro e w2 ⟨rfl, hb2⟩
          go_wp2_with fail
          go_ret2
          exact expEnd_err (ev := errv) Hend.out (by omega) (((Hb.out.alloc hsz _).trans (hb1.mono (by simp; omega))).trans (hb2.mono (by simp at hz1; omega)))
        · by_cases hbig : most < s + tn (tl, td)
          · have Hend : Hid (expRes most l = 4) := hid (by rw [He.out, Hsc.out, Hd.out]; exact scan_err (by unfold terr; rw [if_neg (by simp [Hg.out]), if_neg t1, if_pos hbig]) (by omega))
            have Hbig := hid hbig
            clear hbig
            go_wp2_with (go_at_call 61; refine (progGood _ _ _ Hg.out _).mono ?_; rintro e w1 ⟨rfl, hb1⟩; obtain ⟨hc1, hf1⟩ := bcell hb1; have hz1 := hb1.size; have k1 := (Hk.out.alloc (.cells #[.int .i64 tl, .int .i64 td] 54)).below hb1 (by simp; omega); have K1 := hid k1; clear k1)
            refine (put_big _ most s _ _ _ _ K1.out hs0 h0 h1 hs1 ht Hbig.out).mono ?_
            rintro e w2 ⟨rfl, hb2⟩
            go_wp2_with fail
            go_ret2
            exact expEnd_err (ev := errv) Hend.out (by omega) (((Hb.out.alloc hsz _).trans (hb1.mono (by simp; omega))).trans (hb2.mono (by simp at hz1; omega)))
          · have Hnext : Hid (scan most l 0 = scan most (l.drop (j + 1)) (s + tn (tl, td))) := hid (by
              rw [Hsc.out, Hd.out]
              exact scan_ok (by unfold terr; rw [if_neg (by simp [Hg.out]), if_neg t1, if_neg hbig]))
            have Hbig := hid (show s + tn (tl, td) ≤ most by omega)
            have Hht := hid ht
            have hlj : (l.take j).length ≤ 4194304 := by rw [List.length_take]; omega
            have Hlj := hid hlj
            clear hbig ht t1 hlj
            go_wp2_with (go_at_call 61; refine (progGood _ _ _ Hg.out _).mono ?_; rintro e w1 ⟨rfl, hb1⟩; obtain ⟨hc1, hf1⟩ := bcell hb1; have hz1 := hb1.size; have k1 := (Hk.out.alloc (.cells #[.int .i64 tl, .int .i64 td] 54)).below hb1 (by simp; omega); have K1 := hid k1; clear k1; have Hown1 := hid (own_below (Hown.out.alloc (.cells #[.int .i64 tl, .int .i64 td] 54)) hb1 (Nat.le_refl _)); have Hbw1 := hid ((Hb.out.alloc hsz (.cells #[.int .i64 tl, .int .i64 td] 54)).trans (hb1.mono (by simp; omega))))
            refine (put_ok _ most s A' c' (l.take j) tl td W.heap.size _ K1.out (Nat.le_refl _) Hbw1.out.size Hown1.out Hlj.out hs0 Hbig.out h1 Hht.out).mono ?_
            rintro e w2 ⟨rfl, A2, c2, hk2, hown2, hb2⟩
            have K2 := hid hk2
            have Hown2 := hid hown2
            have Hb2 := hid hb2
            clear hk2 hown2 hb2
            go_wp2_with fail
            go_roundw
            case rel => exact ⟨j + 1, s + tn (tl, td), A2, c2, by omega, by go_num, by rw [Htk.out, List.length_append]; exact K2.out, by rw [Htk.out, List.length_append]; exact Hown2.out, Hnext.out, by have := @tn_pos (tl, td); omega, Hbig.out, Hbw1.out.trans Hb2.out⟩
            case measure => simp [intOf]; omega
    · have e : j = l.length := by omega
      subst e
      have hscl : scan most l 0 = 0 := by rw [Hsc.out, List.drop_length]; rfl
      have hown := Hown.out
      have hk := Hk.out
      rw [List.take_length] at hown hk
      have hres : expRes most l = 0 := He.out.trans hscl
      have hout : expOut most l = l.foldl layTok [] := by unfold expOut; rw [if_pos hres]
      have Hres := hid hres
      have Hout := hid hout
      have c1 := hk.cell 1
      have c2 := hk.cell 2
      simp only [List.getElem?_toArray, List.getElem?_cons_zero, List.getElem?_cons_succ] at c1 c2
      have H := hid (lay_any A' c' l most s wr (own_rd hown) (by omega) hs0 (by omega) h1 hscl)
      clear hown hk hres hout hscl
      go_wp2_with (go_at_call 63; refine H.out.mono ?_; rintro e w2 ⟨A2, c2', rfl, hown2, hb2⟩)
      go_ret2
      refine ⟨A2, c2', ?_, by rw [Hout.out]; exact own_base hown2 hsz, Hb.out.trans (hb2.mono hsz)⟩
      rw [Hout.out, Hres.out]; rfl

theorem progExpandU_any (A : Option Addr) (c : Nat) (l : List (Int × Int)) (most : Int) (W : World) (hr : Rd W W.heap.size 2 A l.length (l.flatMap encTok)) (hm : l.length ≤ 4194304) :
    Calls Try.prog 42 #[.slice A l.length c, .int .i64 most] W (ExpEnd errv most l 5 W) := by
  by_cases h : most < 0 ∨ 4194304 < most
  · exact progExpandU_range A c l most W h
  · exact progExpandU_in A c l most W hr hm (by omega) (by omega)

end Go.Proofs.Ythhllollhjpheaa
