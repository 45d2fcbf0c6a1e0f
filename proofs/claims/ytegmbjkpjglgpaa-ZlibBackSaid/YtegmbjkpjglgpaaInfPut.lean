/-
  inflate: a token put into the work's sink.
-/
import Derived.Test.YtegmbjkpjglgpaaInfSt
import Derived.Test.YtegmbjkpjglgpaaExpRef
import Derived.BigRegion
import Derived.Deep.RegionLaw
import Derived.Deep.DeepCutAuto
import Derived.Deep.CutRange
namespace Go.Proofs.Ytegmbjkpjglgpaa
open Go.RowKit

theorem tok_infoW : (Try.prog.info? 112).map (fun i => (i.zero, i.size, i.bytes)) = some (some (.agg #[.int .i64 0, .int .i64 0]), 2, 16) := by kernel_rfl
/-- how a put ends -/
def PutW (v : Ev) (s : Sk) (t : Int × Int) (lp dp : Value) (bs : List (Nat × BM)) (e : Ending) (w' : World) : Prop :=
  match putM v.most t s with
  | .error k => e = .returned (.iface 40 (.int .i64 k)) ∧ St v w' s lp dp bs
  | .ok s2 => e = .returned .nilIface ∧ St v w' s2 lp dp bs

theorem putW_mid {v : Ev} {s : Sk} {lp dp : Value} {T : Option Addr} {tc : Nat} {tl td z : Int} {W w2 : World} {k : Nat} (hk : Blk W v.g 99 (workCs v.gr v.most s.size T s.toks.length tc lp dp)) (hB : v.B ≤ v.g)
    (hown : W.ownsRow v.B 112 2 (.slice T s.toks.length tc) s.toks.length (s.toks.flatMap encTok))
    (hw2 : ((W.alloc (.cells #[.int .i64 tl, .int .i64 td] 112)).drewN k).setCell ⟨v.g, 2, none⟩ (.int .i64 z) = w2) :
    Blk w2 v.g 99 (workCs v.gr v.most z T s.toks.length tc lp dp) ∧ Blk w2 W.heap.size 112 #[.int .i64 tl, .int .i64 td] ∧
      w2.ownsRow v.B 112 2 (.slice T s.toks.length tc) s.toks.length (s.toks.flatMap encTok) ∧ Below v.B W w2 ∧ HoldT W w2 ∧ w2.heap.size = W.heap.size + 1 := by
  subst hw2
  have hlt := hk.lt
  have hBs : v.B ≤ W.heap.size := by omega
  have hk1 : Blk ((W.alloc (.cells #[.int .i64 tl, .int .i64 td] 112)).drewN k) v.g 99 (workCs v.gr v.most s.size T s.toks.length tc lp dp) := (hk.alloc _).drewN _
  exact ⟨hk1.set_ 2 _, ((Blk.new W 112 #[.int .i64 tl, .int .i64 td]).drewN _).far (by show W.heap.size ≠ v.g; omega) _,
    ownsRow_setCell_other (a := ⟨v.g, 2, none⟩) (own_drewN (hown.alloc _) _) (fun h => own_blk_ne hown hk (by decide) h.symm) _,
    (below_drewN ((Below.refl _ _).alloc hBs _) _).setCell hB _, (HoldT.below (below_drewN (below_alloc1 W _) _)).trans (HoldT.set hk1 (.inl rfl) _), by simp [World.setCell]⟩

theorem put_done {v : Ev} {s : Sk} {t : Int × Int} {lp dp : Value} {bs : List (Nat × BM)} {W w3 : World} {A3 T : Option Addr} {c3 tc n : Nat} (H : St v W s lp dp bs) (hh : HoldT W w3) (hfr : Below v.B W w3) (hk : Blk w3 v.g 99 (workCs v.gr v.most (s.size + tn t) T n tc lp dp))
    (ho : w3.ownsRow v.B 112 2 (.slice A3 (n + 1) c3) (n + 1) (s.toks.flatMap encTok ++ encTok t)) (hn : n = s.toks.length) (hsz : s.size + tn t ≤ v.most) : St v (w3.setCell ⟨v.g, 3, none⟩ (.slice A3 (n + 1) c3)) ⟨s.k, s.size + tn t, s.toks ++ [t]⟩ lp dp bs := by
  have hs := H.sz
  have h1 := @tn_pos t
  have hh2 := hh.trans (HoldT.set (i := 3) hk (.inl rfl) (.slice A3 (n + 1) c3))
  have hl : (s.toks ++ [t]).length = n + 1 := by simp [hn]
  refine ⟨⟨A3, c3, ?_, ?_⟩, H.rd.hold hh2, fun x hx => (H.bks x hx).hold hh2, H.gB, H.grB, (H.fr.trans hfr).setCell (p := ⟨v.g, 3, none⟩) H.gB _, ?_, fun x hx => hh2 _ _ _ (by decide) (by decide) (by decide) (H.ext x hx)⟩
  · show Blk _ _ _ (workCs v.gr v.most (s.size + tn t) A3 (s.toks ++ [t]).length c3 lp dp)
    rw [hl]
    exact hk.set_ 3 _
  · show World.ownsRow _ _ _ _ (.slice A3 (s.toks ++ [t]).length c3) (s.toks ++ [t]).length ((s.toks ++ [t]).flatMap encTok)
    have := ownsRow_setCell_other (a := ⟨v.g, 3, none⟩) ho (fun h => own_blk_ne ho hk (by decide) h.symm) (.slice A3 (n + 1) c3)
    rw [hl, List.flatMap_append]
    simpa using this
  · show 0 ≤ s.size + tn t ∧ s.size + tn t ≤ v.most ∧ v.most ≤ 4194304 ∧ ((s.toks ++ [t]).length : Int) ≤ s.size + tn t
    rw [hl]
    omega
theorem putw_ok {v : Ev} {s s2 : Sk} {t : Int × Int} {lp dp : Value} {bs : List (Nat × BM)} {e : Ending} {w' : World} (h : putM v.most t s = .ok s2) (he : e = .returned .nilIface) (hs : St v w' s2 lp dp bs) : PutW v s t lp dp bs e w' := by
  unfold PutW
  rw [h]
  exact ⟨he, hs⟩
set_option maxRecDepth 100000 in
set_option maxHeartbeats 8000000 in
theorem putW_any (v : Ev) (s : Sk) (tl td : Int) (lp dp : Value) (bs : List (Nat × BM)) (W : World) (h : St v W s lp dp bs) (ht : tl = 0 ∨ (3 ≤ tl ∧ tl ≤ 258 ∧ 1 ≤ td)) :
    Calls Try.prog 59 #[.pointer (some ⟨v.g, 1, none⟩), .agg #[.int .i64 tl, .int .i64 td]] W (PutW v s (tl, td) lp dp bs) := by
  obtain ⟨T, tc, hk, hown⟩ := h.tok
  obtain ⟨hs0, hs1, hs2, hs3⟩ := h.sz
  have H := hid h
  have K0 := hid hk
  have Hown := hid hown
  unfold workCs at hk
  have c0 := hk.cell 0
  have c1 := hk.cell 1
  have c2 := hk.cell 2
  have c3 := hk.cell 3
  simp only [List.getElem?_toArray, List.getElem?_cons_zero, List.getElem?_cons_succ] at c0 c1 c2 c3
  have f2 := hk.frozen 2
  have f3 := hk.frozen 3
  have hlt := hk.lt
  obtain ⟨sz, hsz⟩ : ∃ sz, sz = s.size := ⟨_, rfl⟩
  obtain ⟨nt, hnt⟩ : ∃ nt, nt = s.toks.length := ⟨_, rfl⟩
  obtain ⟨most, hmost⟩ : ∃ most, most = v.most := ⟨_, rfl⟩
  have Hmost := hid hmost
  have Hsz := hid hsz
  have Hnt := hid hnt
  rw [← hmost] at hs1 hs2 c1
  rw [← hsz] at hs0 hs1 hs3 c2
  rw [← hnt] at hs3 c3
  clear h hk hown hsz hnt hmost
  obtain ⟨n, hn⟩ : ∃ n, tn (tl, td) = n := ⟨_, rfl⟩
  have Hn := hid hn
  by_cases hfar : 0 < tl ∧ sz < td
  · have dg1 : decide (0 < tl) = true := decide_eq_true hfar.1
    have dg2 : decide (sz < td) = true := decide_eq_true hfar.2
    have HE := hid (show putM v.most (tl, td) s = .error 2 by unfold putM; rw [if_pos ⟨hfar.1, by rw [← Hsz.out]; exact hfar.2⟩])
    obtain ⟨t1, t2, t3⟩ : 3 ≤ tl ∧ tl ≤ 258 ∧ 1 ≤ td := by omega
    clear hn hfar ht
    go_enter Try.func59, Try.ntmps59
    go_wp2_with fail
    go_quiet (fail)
    go_wp2_with fail
    go_ret
    unfold PutW
    rw [HE.out]
    exact ⟨rfl, H.out.below (below_drewN (below_alloc1 _ _) _)⟩
  · have Hfar := hid (show ¬ (0 < (tl, td).1 ∧ s.size < (tl, td).2) by rw [← Hsz.out]; exact hfar)
    rcases ht with rfl | ⟨t1, t2, t3⟩
    · obtain rfl : n = 1 := by rw [← hn]; rfl
      clear hn hfar
      have tm : IntKind.i64.wrap (most - sz) = most - sz := IntWalk.i64_in _ (by omega)
      by_cases hbig : most - sz < 1
      · have db : decide (most - sz < 1) = true := decide_eq_true hbig
        have HE := hid (show putM v.most (0, td) s = .error 4 by unfold putM; rw [if_neg Hfar.out, Hn.out, ← Hsz.out, ← Hmost.out, if_pos (by omega)])
        clear hbig
        go_enter Try.func59, Try.ntmps59
        go_wp2_with fail
        go_quiet (fail)
        go_wp2_with fail
        go_quiet (fail)
        go_wp2_with fail
        go_ret
        unfold PutW
        rw [HE.out]
        exact ⟨rfl, H.out.below (below_drewN (below_alloc1 _ _) _)⟩
      · have db : decide (most - sz < 1) = false := decide_eq_false hbig
        have HE := hid (show putM v.most (0, td) s = .ok ⟨s.k, s.size + tn (0, td), s.toks ++ [(0, td)]⟩ by unfold putM; rw [if_neg Hfar.out, Hn.out, ← Hsz.out, ← Hmost.out, if_neg (by omega)])
        have Hbig := hid (show sz + 1 ≤ most by omega)
        clear hbig
        obtain ⟨i0, hi0, hz0, hz1, hz2⟩ := info_parts tok_infoW
        have Hi0 := hid hi0
        have Hz0 := hid hz0
        have Hz1 := hid hz1
        have Hz2 := hid hz2
        clear hi0 hz0 hz1 hz2
        go_enter Try.func59, Try.ntmps59
        go_wp2_with fail
        go_quiet (fail)
        go_wp2_with fail
        go_quiet (fail)
        go_wp2_with fail
        generalize hw2 : World.setCell (World.drewN _ _) _ _ = w2
        obtain ⟨k2, kb, hown2, hbw2, hht2, hsz2⟩ := putW_mid K0.out H.out.gB Hown.out hw2
        clear hw2 c0 c1 c2 c3 f2 f3
        rw [← Hmost.out, ← Hnt.out] at k2
        unfold workCs at k2
        have c3 := k2.cell 3
        simp only [List.getElem?_toArray, List.getElem?_cons_zero, List.getElem?_cons_succ] at c3
        have d0 := kb.cell 0
        have d1 := kb.cell 1
        simp only [List.getElem?_toArray, List.getElem?_cons_zero, List.getElem?_cons_succ] at d0 d1
        have f3 := k2.frozen 3
        have K2 := hid k2
        have Hown2 := hid hown2
        have Hbw2 := hid hbw2
        have Hht2 := hid hht2
        have Hsz2 := hid hsz2
        have hgl : v.g < w2.heap.size := by omega
        clear k2 kb hown2 hbw2 hsz2 hht2
        rw [← Hnt.out] at Hown2
        go_region_law (refine step_app _ (by rfl) _ _ _ (by rfl) v.B 112 i0 (.agg #[.int .i64 0, .int .i64 0]) 2 16 Try.underlying55 Hi0.out Hz0.out Hz1.out Hz2.out rfl (by omega) T nt tc _ (by rfl) (Hown2.out.alloc _) _ _ 1 1 [.int .i64 _, .int .i64 td] (by rfl) (rd_one _ _ _ _ (Blk.new _ _ _)) (by simp) (by simp [Value.oneCell']) (by simp only [maxLen]; omega) (by omega) (by have := H.out.gB; simp [Hsz2.out]; omega) ?_; rintro A3 c3 w3 ⟨hown3, hgr3, hb3, _⟩; have ho2a := Hown2.out.alloc (w := w2) (.cells #[.int .i64 0, .int .i64 td] 112); have k3 := (Blk.drew (K2.out.alloc _)).grown hgr3 (own_blk_ne Hown2.out K2.out (by decide)); have ht3 := hid (HoldT.grown (own_drewN ho2a 1) hgr3); unfold workCs at k3; have q3 := k3.cell 3; have f3 := k3.frozen 3; simp only [List.getElem?_toArray, List.getElem?_cons_zero, List.getElem?_cons_succ] at q3; have K3 := hid k3; have Hown3 := hid hown3; have Hb3 := hid hb3; have Hgr3 := hid hgr3; clear k3 hown3 hb3 hgr3 ho2a)
        all_goals
          go_wp2
          go_ret
          refine putw_ok HE.out rfl ?_
          refine put_done (T := T) (tc := tc) (t := (0, td)) H.out (Hht2.out.trans ((HoldT.below (below_drewN (below_alloc1 _ _) 1)).trans ht3.out)) ((Hbw2.out.alloc (by have := H.out.gB; have := Hsz2.out; omega) _).drew.trans Hb3.out) ?_ Hown3.out Hnt.out (by rw [Hn.out, ← Hsz.out, ← Hmost.out]; exact Hbig.out)
          rw [Hn.out, ← Hsz.out, ← Hmost.out]
          exact K3.out
    · obtain rfl : n = tl := by rw [← hn]; unfold tn; rw [if_pos (by simp only; omega)]
      have dg1 : decide (0 < n) = true := decide_eq_true (by omega)
      have dg2 : decide (sz < td) = false := decide_eq_false (by omega)
      have tmx : max n 1 = n := by omega
      clear hn hfar
      have tm : IntKind.i64.wrap (most - sz) = most - sz := IntWalk.i64_in _ (by omega)
      by_cases hbig : most - sz < n
      · have db : decide (most - sz < n) = true := decide_eq_true hbig
        have HE := hid (show putM v.most (n, td) s = .error 4 by unfold putM; rw [if_neg Hfar.out, Hn.out, ← Hsz.out, ← Hmost.out, if_pos (by omega)])
        clear hbig
        go_enter Try.func59, Try.ntmps59
        go_wp2_with fail
        go_quiet (fail)
        go_wp2_with fail
        go_quiet (fail)
        go_wp2_with fail
        go_ret
        unfold PutW
        rw [HE.out]
        exact ⟨rfl, H.out.below (below_drewN (below_alloc1 _ _) _)⟩
      · have db : decide (most - sz < n) = false := decide_eq_false hbig
        have HE := hid (show putM v.most (n, td) s = .ok ⟨s.k, s.size + tn (n, td), s.toks ++ [(n, td)]⟩ by unfold putM; rw [if_neg Hfar.out, Hn.out, ← Hsz.out, ← Hmost.out, if_neg (by omega)])
        have Hbig := hid (show sz + n ≤ most by omega)
        clear hbig
        obtain ⟨i0, hi0, hz0, hz1, hz2⟩ := info_parts tok_infoW
        have Hi0 := hid hi0
        have Hz0 := hid hz0
        have Hz1 := hid hz1
        have Hz2 := hid hz2
        clear hi0 hz0 hz1 hz2
        go_enter Try.func59, Try.ntmps59
        go_wp2_with fail
        go_quiet (fail)
        go_wp2_with fail
        go_quiet (fail)
        go_wp2_with fail
        generalize hw2 : World.setCell (World.drewN _ _) _ _ = w2
        obtain ⟨k2, kb, hown2, hbw2, hht2, hsz2⟩ := putW_mid K0.out H.out.gB Hown.out hw2
        clear hw2 c0 c1 c2 c3 f2 f3
        rw [← Hmost.out, ← Hnt.out] at k2
        unfold workCs at k2
        have c3 := k2.cell 3
        simp only [List.getElem?_toArray, List.getElem?_cons_zero, List.getElem?_cons_succ] at c3
        have d0 := kb.cell 0
        have d1 := kb.cell 1
        simp only [List.getElem?_toArray, List.getElem?_cons_zero, List.getElem?_cons_succ] at d0 d1
        have f3 := k2.frozen 3
        have K2 := hid k2
        have Hown2 := hid hown2
        have Hbw2 := hid hbw2
        have Hht2 := hid hht2
        have Hsz2 := hid hsz2
        have hgl : v.g < w2.heap.size := by omega
        clear k2 kb hown2 hbw2 hsz2 hht2
        rw [← Hnt.out] at Hown2
        go_region_law (refine step_app _ (by rfl) _ _ _ (by rfl) v.B 112 i0 (.agg #[.int .i64 0, .int .i64 0]) 2 16 Try.underlying55 Hi0.out Hz0.out Hz1.out Hz2.out rfl (by omega) T nt tc _ (by rfl) (Hown2.out.alloc _) _ _ 1 1 [.int .i64 _, .int .i64 td] (by rfl) (rd_one _ _ _ _ (Blk.new _ _ _)) (by simp) (by simp [Value.oneCell']) (by simp only [maxLen]; omega) (by omega) (by have := H.out.gB; simp [Hsz2.out]; omega) ?_; rintro A3 c3 w3 ⟨hown3, hgr3, hb3, _⟩; have ho2a := Hown2.out.alloc (w := w2) (.cells #[.int .i64 n, .int .i64 td] 112); have k3 := (Blk.drew (K2.out.alloc _)).grown hgr3 (own_blk_ne Hown2.out K2.out (by decide)); have ht3 := hid (HoldT.grown (own_drewN ho2a 1) hgr3); unfold workCs at k3; have q3 := k3.cell 3; have f3 := k3.frozen 3; simp only [List.getElem?_toArray, List.getElem?_cons_zero, List.getElem?_cons_succ] at q3; have K3 := hid k3; have Hown3 := hid hown3; have Hb3 := hid hb3; have Hgr3 := hid hgr3; clear k3 hown3 hb3 hgr3 ho2a)
        all_goals
          go_wp2
          go_ret
          refine putw_ok HE.out rfl ?_
          refine put_done (T := T) (tc := tc) (t := (n, td)) H.out (Hht2.out.trans ((HoldT.below (below_drewN (below_alloc1 _ _) 1)).trans ht3.out)) ((Hbw2.out.alloc (by have := H.out.gB; have := Hsz2.out; omega) _).drew.trans Hb3.out) ?_ Hown3.out Hnt.out (by rw [Hn.out, ← Hsz.out, ← Hmost.out]; exact Hbig.out)
          rw [Hn.out, ← Hsz.out, ← Hmost.out]
          exact K3.out
end Go.Proofs.Ytegmbjkpjglgpaa
