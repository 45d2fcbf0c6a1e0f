/-
  The plan of kind 2, plainly: its lengths are in form.
  block.Runs: the program's runs of lengths.
-/
import Derived.Test.YtoppjcmkhhkbmaaGreatSqueezePlainx4
import Derived.Test.YtoppjcmkhhkbmaaGreatSqueezePlainx7
import Derived.Test.YtoppjcmkhhkbmaaGreatSqueezePlainx11
import Derived.Deep.RegionHeld3
import Derived.Deep.DeepCutAuto
import Derived.Deep.CutRange
import Derived.Deep.CutBlock
namespace Go.Proofs.YtoppjcmkhhkbmaaGreat
open Go.RowKit
theorem best_bd {c : List Int} {K : Nat} (hK : (itemsOf c).length ≤ 2 ^ (K + 1)) : ∀ x ∈ bestLs (itemsOf c) K c.length, 0 ≤ x ∧ x ≤ ((K + 1 : Nat) : Int) := by
  intro x hx
  unfold bestLs at hx
  obtain ⟨s, hs, rfl⟩ := List.mem_map.1 hx
  have := (form_at hK (List.mem_range.1 hs)).1
  omega
theorem best_pos {c : List Int} {K s : Nat} (hK : (itemsOf c).length ≤ 2 ^ (K + 1)) (hs : s < c.length) : 0 < (bestLs (itemsOf c) K c.length).getD s 0 ↔ 0 < c.getD s 0 := by
  rw [bestLs_at _ _ _ hs]
  have := (form_at hK hs).2.1
  omega
theorem trim_at (k : Nat) (l : List Int) (i : Nat) : (trimM k l).getD i 0 = l.getD i 0 := by
  unfold trimM
  rw [List.getD_eq_getElem?_getD, List.getD_eq_getElem?_getD, List.getElem?_take]
  split
  · rfl
  · next h =>
    rcases Nat.lt_or_ge i l.length with h1 | h1
    · have := trimN_zero k l l.length i (by omega) h1
      rw [List.getD_eq_getElem?_getD] at this
      rw [this]
      rfl
    · rw [List.getElem?_eq_none h1]
theorem trim_mem {k : Nat} {l : List Int} {x : Int} (h : x ∈ trimM k l) : x ∈ l := List.mem_of_mem_take h
theorem trim_len (k : Nat) (l : List Int) : (trimM k l).length = trimN k l l.length := by
  unfold trimM
  rw [List.length_take]
  have := trimN_le k l l.length
  omega
theorem two_bd {b : Int} (hb : 1 ≤ b) : ∀ {l : List Int} {k : Nat}, (∀ x ∈ l, 0 ≤ x ∧ x ≤ b) → ∀ x ∈ twoN k l, 0 ≤ x ∧ x ≤ b
  | [], _, _ => fun x hx => by cases hx
  | y :: l, k, h => fun x hx => by
    have hl := fun z hz => h z (List.mem_cons_of_mem _ hz)
    unfold twoN at hx
    split at hx
    · exact h x hx
    · split at hx
      · rcases List.mem_cons.1 hx with h1 | h1
        · omega
        · exact two_bd hb hl x h1
      · rcases List.mem_cons.1 hx with h1 | h1
        · rw [h1]; exact h y List.mem_cons_self
        · exact two_bd hb hl x h1
theorem two_keep : ∀ (l : List Int) (k s : Nat), 0 < l.getD s 0 → (twoN k l).getD s 0 = l.getD s 0
  | [], _, _, h => by simp at h
  | y :: l, k, 0, h => by
    rw [List.getD_cons_zero] at h
    unfold twoN
    split
    · rfl
    · rw [if_neg (by omega)]
      rfl
  | y :: l, k, s + 1, h => by
    rw [List.getD_cons_succ] at h
    unfold twoN
    split
    · rfl
    · split
      · rw [List.getD_cons_succ, List.getD_cons_succ]; exact two_keep l _ s h
      · rw [List.getD_cons_succ, List.getD_cons_succ]; exact two_keep l _ s h
theorem good_of {l : List Int} {b : Int} (hm : l.length ≤ 300) (hb : b ≤ 1099511627776) (h : ∀ x ∈ l, 0 ≤ x ∧ x ≤ b) : goodc l 300 = true := by
  refine goodc_true.2 ⟨by omega, ?_⟩
  rw [List.any_eq_false]
  intro x hx
  have := h x hx
  rw [badc_false.2 (by omega)]
  decide
/-- runs' symbols -/
theorem run_sym {x : List Int} (hx : ∀ y ∈ x, 0 ≤ y ∧ y ≤ 15) : ∀ (f : Nat) (p : Option Int) (l : List Int), (∀ y ∈ l, y ∈ x) → ∀ r ∈ BlockRuns.runsOf f p l, 0 ≤ r.1 ∧ r.1 ≤ 18
  | 0, _, _, _ => fun r hr => by simp [BlockRuns.runsOf] at hr
  | f + 1, p, [], _ => fun r hr => by simp [BlockRuns.runsOf] at hr
  | f + 1, p, v :: l, h => fun r hr => by
    have hv := hx v (h v List.mem_cons_self)
    rw [BlockRuns.runsOf] at hr
    rcases List.mem_cons.1 hr with h1 | h1
    · rw [h1]
      unfold BlockRuns.cho
      dsimp only
      (repeat' split) <;> omega
    · exact run_sym hx f _ _ (fun y hy => h y (List.mem_of_mem_drop hy)) r h1
end Go.Proofs.YtoppjcmkhhkbmaaGreat

namespace Go.Proofs.YtoppjcmkhhkbmaaGreat.BlockRuns
open Go.RowKit Go.Proofs.YtoppjcmkhhkbmaaGreat

theorem run_info : (Tryz.prog.info? 195).map (fun i => (i.zero, i.size, i.bytes)) = some (some (.agg #[.int .i64 0, .int .i64 0]), 2, 16) := by kernel_rfl
/-- the length behind which a place lies -/
def prevAt (l : List Int) (j : Nat) : Option Int := if j = 0 then none else l[j - 1]?
def RunsEnd (l : List Int) (W : World) (e : Ending) (w' : World) : Prop :=
  ∃ (o : List (Int × Int)) (A : Option Addr) (c : Nat), o = runsOf l.length none l ∧ e = .returned (.tuple #[.slice A o.length c, .nilIface]) ∧ w'.ownsRow W.heap.size 195 2 (.slice A o.length c) o.length (o.flatMap encTok) ∧ Below W.heap.size W w'

theorem runsOf_nil (f : Nat) (p : Option Int) : runsOf f p [] = [] := by cases f <;> rfl
theorem allok_at {l : List Int} (h : l.any badl = false) (j : Nat) (hj : j < l.length) : 0 ≤ l[j] ∧ l[j] ≤ 15 := by
  rw [List.any_eq_false] at h
  exact badl_false.1 (by have := h l[j] (List.getElem_mem hj); simpa using this)
theorem runs_step (l : List Int) (j f : Nat) (o : List (Int × Int)) (v : Int) (n : Nat) (hlt : j < l.length) (hv : l[j] = v) (hn : 1 + same1 v (l.drop (j + 1)) = n) {s : Int} (hs : cho (prevAt l j) v n = s) :
    o ++ runsOf (f + 1) (prevAt l j) (l.drop j) = (o ++ [(s, (min n (rmax s) : Nat) - rl s)]) ++ runsOf f (prevAt l (j + min n (rmax s))) (l.drop (j + min n (rmax s))) := by
  have hd : l.drop j = v :: l.drop (j + 1) := by rw [List.drop_eq_getElem_cons hlt, hv]
  have htk : took (prevAt l j) v n = min n (rmax s) := by unfold took; rw [hs]
  have ht1 := took_pos (prevAt l j) v n (by omega)
  have ht2 := took_le (prevAt l j) v n
  rw [htk] at ht1 ht2
  have hrep : (v :: l.drop (j + 1)).take (min n (rmax s)) = List.replicate (min n (rmax s)) v := by
    refine same1_take v _ _ ?_
    unfold same1
    rw [if_pos rfl]
    omega
  have hp : prevAt l (j + min n (rmax s)) = some v := by
    unfold prevAt
    rw [if_neg (by omega)]
    have h : (l.drop j)[min n (rmax s) - 1]? = some v := by
      rw [hd, ← List.getElem?_take_of_lt (show min n (rmax s) - 1 < min n (rmax s) by omega), hrep, List.getElem?_replicate, if_pos (by omega)]
    rw [List.getElem?_drop] at h
    rw [← h]
    congr 1
    omega
  rw [hp]
  conv => lhs; rw [hd]
  rw [runsOf, hn, hs, htk, List.append_assoc, ← hd, List.drop_drop]
  rfl

set_option maxRecDepth 100000 in
set_option maxHeartbeats 4000000 in
theorem runs_good (A : Option Addr) (c : Nat) (l : List Int) (W : World) (hr : RdI W W.heap.size A l) (hm : l.length ≤ 5000) (hb : l.any badl = false) :
    Calls Tryz.prog 121 #[.slice A l.length c] W (RunsEnd l W) := by
  have H := hid (containsl_any A c l W _ hr (by simp only [maxLen]; omega) false hb)
  have Hr := hid hr
  obtain ⟨i0, hi0, hz0, hz1, hz2⟩ := info_parts run_info
  have Hi0 := hid hi0
  have Hz0 := hid hz0
  have Hz1 := hid hz1
  have Hz2 := hid hz2
  have Hbad := hid hb
  clear hr hb hi0 hz0 hz1 hz2
  go_enter Tryz.func121, Tryz.ntmps121
  go_wp2_with fail
  refine H.out.mono ?_
  rintro e w1 ⟨rfl, rfl⟩
  clear H
  go_wp2_with fail
  go_loopw [4, 5] (fun ov i wr => ∃ (j f : Nat) (o : List (Int × Int)) (A' : Option Addr) (c' : Nat), j ≤ l.length ∧ i = .int .i64 j ∧ ov = .slice A' o.length c' ∧ wr.ownsRow W.heap.size 195 2 (.slice A' o.length c') o.length (o.flatMap encTok) ∧
      l.length - j ≤ f ∧ o.length ≤ j ∧ runsOf l.length none l = o ++ runsOf f (prevAt l j) (l.drop j) ∧ Below W.heap.size W wr) (fun _ i _ => l.length - (intOf i).toNat)
  case atStart => exact ⟨0, l.length, [], none, 0, by omega, rfl, rfl, World.ownsRow_nil _ _ _ _, by omega, by simp, rfl, Below.refl _ _⟩
  case round =>
    obtain ⟨j, f, o, A', c', hj, rfl, rfl, hown, hf, hol, hro, hbw⟩ := hrel
    have Hown := hid hown
    have Hb := hid hbw
    have Hro := hid hro
    have hsz := hbw.size
    clear hown hro
    by_cases hlt : j < l.length
    · have hrd := Hr.out.below hbw (Nat.le_refl _)
      have Hsame := hid (same_any A c l j hlt wr.drew wr.heap.size (show RdI wr.drew wr.heap.size A l from hrd.more hsz) (by omega))
      obtain ⟨b, off, rfl, hbb, q0⟩ := int_at hrd hlt
      obtain ⟨f, rfl⟩ : ∃ f', f = f' + 1 := ⟨f - 1, by omega⟩
      have Hd := hid (show l.drop j = l[j] :: l.drop (j + 1) from List.drop_eq_getElem_cons hlt)
      clear hbw hrd
      generalize hv : l[j] = v at *
      generalize hn : 1 + same1 v (l.drop (j + 1)) = n at *
      go_upto_region 6 with (fail)
      go_region_held3 (fun w' => w'.cell? ⟨b, off + j, none⟩ = some (.int .i64 v)) (go_keep) ((go_at_call 154; refine Hsame.out.mono ?_; rintro e2 w2 ⟨rfl, nd, rfl⟩))
      have Hown1 := hid (own_drewN Hown.out (1 + nd))
      have Hb1 := hid (below_drewN Hb.out (1 + nd))
      have hs1 : W.heap.size ≤ (wr.drewN (1 + nd)).heap.size := hsz
      generalize wr.drewN (1 + nd) = wx at *
      obtain ⟨s, hs⟩ : ∃ s, cho (prevAt l j) v n = s := ⟨_, rfl⟩
      have Hst := hid (runs_step l j f o v n hlt hv hn hs)
      have hpv : 0 < j → wx.cell? ⟨b, off + (j - 1), none⟩ = some (.int .i64 (l.getD (j - 1) 0)) := by
        intro hj0
        obtain ⟨b', off', hA, _, p0⟩ := int_at (Hr.out.below Hb1.out (Nat.le_refl _)) (show j - 1 < l.length by omega)
        obtain ⟨rfl, rfl⟩ : b = b' ∧ off = off' := by simpa using hA
        rw [p0, List.getD_eq_getElem?_getD, List.getElem?_eq_getElem]
        rfl
      have hpr : 0 < j → prevAt l j = some (l.getD (j - 1) 0) := by
        intro hj0
        unfold prevAt
        rw [if_neg (by omega), List.getD_eq_getElem?_getD, List.getElem?_eq_getElem (show j - 1 < l.length by omega)]
        rfl
      have hpz : j = 0 → prevAt l j = none := by
        intro hj0
        unfold prevAt
        rw [if_pos hj0]
      have Hpr := hid hpr
      have Hpz := hid hpz
      have Hpv := hid hpv
      have Hs := hid hs
      clear hpr hpz hpv hs
      generalize hpp : l.getD (j - 1) 0 = p at *
      clear hpp
      go_upto_block 2 with (fail)
      go_cut [6] from 13 to 76 (fun sv w => sv = .int .i64 s ∧ wx = w)
      case first =>
        have Hc : Hid (s = if v = 0 ∧ 11 ≤ n then 18 else if v = 0 ∧ 3 ≤ n then 17 else if prevAt l j = some v ∧ 3 ≤ n then 16 else v) := Hs.out.symm
        by_cases v0 : v = 0
        · subst v0
          by_cases c1 : 11 ≤ n
          · have d1 : decide ((11 : Int) ≤ (n : Int)) = true := decide_eq_true (by omega)
            have Hc2 := hid (Hc.out.trans (if_pos ⟨rfl, c1⟩))
            go_wp2
            go_meet
            exact ⟨by rw [Hc2.out], rfl⟩
          by_cases c2 : 3 ≤ n
          · have d1 : decide ((11 : Int) ≤ (n : Int)) = false := decide_eq_false (by omega)
            have d2 : decide ((3 : Int) ≤ (n : Int)) = true := decide_eq_true (by omega)
            have Hc2 := hid (Hc.out.trans ((if_neg (by omega)).trans (if_pos ⟨rfl, c2⟩)))
            go_wp2
            go_meet
            exact ⟨by rw [Hc2.out], rfl⟩
          · have d1 : decide ((11 : Int) ≤ (n : Int)) = false := decide_eq_false (by omega)
            have d2 : decide ((3 : Int) ≤ (n : Int)) = false := decide_eq_false (by omega)
            have Hc2 := hid (Hc.out.trans ((if_neg (by omega)).trans ((if_neg (by omega)).trans (if_neg (by omega)))))
            by_cases hj0 : j = 0
            · subst hj0
              go_wp2
              go_meet
              exact ⟨by rw [Hc2.out], rfl⟩
            · have q1 := Hpv.out (by omega)
              go_wp2
              all_goals
                go_meet
                exact ⟨by rw [Hc2.out], rfl⟩
        · have v1 : (v == 0) = false := beq_eq_false_iff_ne.2 v0
          have Hc2 := hid (Hc.out.trans ((if_neg (fun h => v0 h.1)).trans (if_neg (fun h => v0 h.1))))
          clear v0
          by_cases hj0 : j = 0
          · have Hc3 := hid (Hc2.out.trans (if_neg (by rw [Hpz.out hj0]; simp)))
            subst hj0
            go_wp2
            go_meet
            exact ⟨by rw [Hc3.out], rfl⟩
          · have q1 := Hpv.out (by omega)
            by_cases hpe : p = v
            · subst hpe
              by_cases c2 : 3 ≤ n
              · have d2 : decide ((3 : Int) ≤ (n : Int)) = true := decide_eq_true (by omega)
                have Hc3 := hid (Hc2.out.trans (if_pos ⟨Hpr.out (by omega), c2⟩))
                go_wp2
                go_meet
                exact ⟨by rw [Hc3.out], rfl⟩
              · have d2 : decide ((3 : Int) ≤ (n : Int)) = false := decide_eq_false (by omega)
                have Hc3 := hid (Hc2.out.trans (if_neg (fun h => c2 h.2)))
                go_wp2
                go_meet
                exact ⟨by rw [Hc3.out], rfl⟩
            · have p1 : (p == v) = false := beq_eq_false_iff_ne.2 hpe
              have Hc3 := hid (Hc2.out.trans (if_neg (by rw [Hpr.out (by omega)]; simp; intro h; exact absurd h hpe)))
              clear hpe
              go_wp2
              go_meet
              exact ⟨by rw [Hc3.out], rfl⟩
      case rest =>
        obtain ⟨rfl, rfl⟩ := hcut
        have hv2 := allok_at Hbad.out j hlt
        have n1 : 1 ≤ n := by omega
        have hlast : j + n ≤ l.length := by
          have := same1_le v (l.drop (j + 1))
          rw [List.length_drop] at this
          omega
        have hcs : s = 18 ∨ s = 17 ∨ s = 16 ∨ s = v := by
          rw [← Hs.out]; unfold cho; (repeat' split) <;> simp
        rw [hv] at hv2
        clear Hs Hpr Hpz Hpv hn Hsame Hd hv
        obtain ⟨v0, v15⟩ := hv2
        rcases hcs with rfl | rfl | rfl | rfl
        · have e1 : rl 18 = 11 := rfl
          have e2 : rb 18 = 7 := rfl
          have e3 : rmax 18 = 138 := rfl
          have hre : ∀ W : World, Calls Tryz.prog 125 #[.int .i64 18] W fun e w' => e = .returned (.tuple #[.int .i64 11, .int .i64 7]) ∧ w' = W := fun W => by
            have h := reach_any 18 W
            rw [e1, e2] at h
            exact h
          have Hre := hid hre
          have Hst1 := Hst.out
          rw [e1, e3] at Hst1
          clear hre e1 e2 e3
          by_cases ht : 138 < n
          · have Hn : Hid (runsOf l.length none l = (o ++ [(18, 127)]) ++ runsOf f (prevAt l (j + 138)) (l.drop (j + 138))) := by
              have h := Hst1
              rw [show min n 138 = 138 by omega] at h
              exact Hro.out.trans h
            clear Hst1 Hst Hro
            go_wp2_with fail
            refine (Hre.out _).mono ?_
            rintro e2 w2 ⟨rfl, rfl⟩
            go_wp2_with (at_builtin; refine wpList_app _ rfl _ _ _ rfl W.heap.size 195 i0 (.agg #[.int .i64 0, .int .i64 0]) 2 16 Tryz.underlying98 Hi0.out Hz0.out Hz1.out Hz2.out rfl (by omega) A' o.length c' _ rfl (Hown1.out.alloc _) _ _ 1 1 [.int .i64 (18), .int .i64 (127)] rfl (rd_one _ _ _ _ (Blk.new _ _ _)) (by simp) (by simp [Value.oneCell']) (by simp only [maxLen]; omega) (by omega) (by simp; omega) ?_; rintro A4 c4 w4 ⟨hown4, hgr4, hb4, _⟩)
            go_roundw
            case rel => exact ⟨j + 138, f, o ++ [(18, 127)], A4, c4, by omega, by go_num, by simp, by simpa [encTok] using hown4, by omega, by simp; omega, Hn.out, (Hb1.out.alloc hs1 _).trans hb4⟩
            case measure => simp [intOf]; omega
          · have Hn : Hid (runsOf l.length none l = (o ++ [(18, (n : Int) - 11)]) ++ runsOf f (prevAt l (j + n)) (l.drop (j + n))) := by
              have h := Hst1
              rw [show min n 138 = n by omega] at h
              exact Hro.out.trans h
            clear Hst1 Hst Hro
            go_wp2_with fail
            refine (Hre.out _).mono ?_
            rintro e2 w2 ⟨rfl, rfl⟩
            go_wp2_with (at_builtin; refine wpList_app _ rfl _ _ _ rfl W.heap.size 195 i0 (.agg #[.int .i64 0, .int .i64 0]) 2 16 Tryz.underlying98 Hi0.out Hz0.out Hz1.out Hz2.out rfl (by omega) A' o.length c' _ rfl (Hown1.out.alloc _) _ _ 1 1 [.int .i64 (18), .int .i64 ((n : Int) - 11)] rfl (rd_one _ _ _ _ (Blk.new _ _ _)) (by simp) (by simp [Value.oneCell']) (by simp only [maxLen]; omega) (by omega) (by simp; omega) ?_; rintro A4 c4 w4 ⟨hown4, hgr4, hb4, _⟩)
            go_roundw
            case rel => exact ⟨j + n, f, o ++ [(18, (n : Int) - 11)], A4, c4, by omega, by go_num, by simp, by simpa [encTok] using hown4, by omega, by simp; omega, Hn.out, (Hb1.out.alloc hs1 _).trans hb4⟩
            case measure => simp [intOf]; omega
        · have e1 : rl 17 = 3 := rfl
          have e2 : rb 17 = 3 := rfl
          have e3 : rmax 17 = 10 := rfl
          have hre : ∀ W : World, Calls Tryz.prog 125 #[.int .i64 17] W fun e w' => e = .returned (.tuple #[.int .i64 3, .int .i64 3]) ∧ w' = W := fun W => by
            have h := reach_any 17 W
            rw [e1, e2] at h
            exact h
          have Hre := hid hre
          have Hst1 := Hst.out
          rw [e1, e3] at Hst1
          clear hre e1 e2 e3
          by_cases ht : 10 < n
          · have Hn : Hid (runsOf l.length none l = (o ++ [(17, 7)]) ++ runsOf f (prevAt l (j + 10)) (l.drop (j + 10))) := by
              have h := Hst1
              rw [show min n 10 = 10 by omega] at h
              exact Hro.out.trans h
            clear Hst1 Hst Hro
            go_wp2_with fail
            refine (Hre.out _).mono ?_
            rintro e2 w2 ⟨rfl, rfl⟩
            go_wp2_with (at_builtin; refine wpList_app _ rfl _ _ _ rfl W.heap.size 195 i0 (.agg #[.int .i64 0, .int .i64 0]) 2 16 Tryz.underlying98 Hi0.out Hz0.out Hz1.out Hz2.out rfl (by omega) A' o.length c' _ rfl (Hown1.out.alloc _) _ _ 1 1 [.int .i64 (17), .int .i64 (7)] rfl (rd_one _ _ _ _ (Blk.new _ _ _)) (by simp) (by simp [Value.oneCell']) (by simp only [maxLen]; omega) (by omega) (by simp; omega) ?_; rintro A4 c4 w4 ⟨hown4, hgr4, hb4, _⟩)
            go_roundw
            case rel => exact ⟨j + 10, f, o ++ [(17, 7)], A4, c4, by omega, by go_num, by simp, by simpa [encTok] using hown4, by omega, by simp; omega, Hn.out, (Hb1.out.alloc hs1 _).trans hb4⟩
            case measure => simp [intOf]; omega
          · have Hn : Hid (runsOf l.length none l = (o ++ [(17, (n : Int) - 3)]) ++ runsOf f (prevAt l (j + n)) (l.drop (j + n))) := by
              have h := Hst1
              rw [show min n 10 = n by omega] at h
              exact Hro.out.trans h
            clear Hst1 Hst Hro
            go_wp2_with fail
            refine (Hre.out _).mono ?_
            rintro e2 w2 ⟨rfl, rfl⟩
            go_wp2_with (at_builtin; refine wpList_app _ rfl _ _ _ rfl W.heap.size 195 i0 (.agg #[.int .i64 0, .int .i64 0]) 2 16 Tryz.underlying98 Hi0.out Hz0.out Hz1.out Hz2.out rfl (by omega) A' o.length c' _ rfl (Hown1.out.alloc _) _ _ 1 1 [.int .i64 (17), .int .i64 ((n : Int) - 3)] rfl (rd_one _ _ _ _ (Blk.new _ _ _)) (by simp) (by simp [Value.oneCell']) (by simp only [maxLen]; omega) (by omega) (by simp; omega) ?_; rintro A4 c4 w4 ⟨hown4, hgr4, hb4, _⟩)
            go_roundw
            case rel => exact ⟨j + n, f, o ++ [(17, (n : Int) - 3)], A4, c4, by omega, by go_num, by simp, by simpa [encTok] using hown4, by omega, by simp; omega, Hn.out, (Hb1.out.alloc hs1 _).trans hb4⟩
            case measure => simp [intOf]; omega
        · have e1 : rl 16 = 3 := rfl
          have e2 : rb 16 = 2 := rfl
          have e3 : rmax 16 = 6 := rfl
          have hre : ∀ W : World, Calls Tryz.prog 125 #[.int .i64 16] W fun e w' => e = .returned (.tuple #[.int .i64 3, .int .i64 2]) ∧ w' = W := fun W => by
            have h := reach_any 16 W
            rw [e1, e2] at h
            exact h
          have Hre := hid hre
          have Hst1 := Hst.out
          rw [e1, e3] at Hst1
          clear hre e1 e2 e3
          by_cases ht : 6 < n
          · have Hn : Hid (runsOf l.length none l = (o ++ [(16, 3)]) ++ runsOf f (prevAt l (j + 6)) (l.drop (j + 6))) := by
              have h := Hst1
              rw [show min n 6 = 6 by omega] at h
              exact Hro.out.trans h
            clear Hst1 Hst Hro
            go_wp2_with fail
            refine (Hre.out _).mono ?_
            rintro e2 w2 ⟨rfl, rfl⟩
            go_wp2_with (at_builtin; refine wpList_app _ rfl _ _ _ rfl W.heap.size 195 i0 (.agg #[.int .i64 0, .int .i64 0]) 2 16 Tryz.underlying98 Hi0.out Hz0.out Hz1.out Hz2.out rfl (by omega) A' o.length c' _ rfl (Hown1.out.alloc _) _ _ 1 1 [.int .i64 (16), .int .i64 (3)] rfl (rd_one _ _ _ _ (Blk.new _ _ _)) (by simp) (by simp [Value.oneCell']) (by simp only [maxLen]; omega) (by omega) (by simp; omega) ?_; rintro A4 c4 w4 ⟨hown4, hgr4, hb4, _⟩)
            go_roundw
            case rel => exact ⟨j + 6, f, o ++ [(16, 3)], A4, c4, by omega, by go_num, by simp, by simpa [encTok] using hown4, by omega, by simp; omega, Hn.out, (Hb1.out.alloc hs1 _).trans hb4⟩
            case measure => simp [intOf]; omega
          · have Hn : Hid (runsOf l.length none l = (o ++ [(16, (n : Int) - 3)]) ++ runsOf f (prevAt l (j + n)) (l.drop (j + n))) := by
              have h := Hst1
              rw [show min n 6 = n by omega] at h
              exact Hro.out.trans h
            clear Hst1 Hst Hro
            go_wp2_with fail
            refine (Hre.out _).mono ?_
            rintro e2 w2 ⟨rfl, rfl⟩
            go_wp2_with (at_builtin; refine wpList_app _ rfl _ _ _ rfl W.heap.size 195 i0 (.agg #[.int .i64 0, .int .i64 0]) 2 16 Tryz.underlying98 Hi0.out Hz0.out Hz1.out Hz2.out rfl (by omega) A' o.length c' _ rfl (Hown1.out.alloc _) _ _ 1 1 [.int .i64 (16), .int .i64 ((n : Int) - 3)] rfl (rd_one _ _ _ _ (Blk.new _ _ _)) (by simp) (by simp [Value.oneCell']) (by simp only [maxLen]; omega) (by omega) (by simp; omega) ?_; rintro A4 c4 w4 ⟨hown4, hgr4, hb4, _⟩)
            go_roundw
            case rel => exact ⟨j + n, f, o ++ [(16, (n : Int) - 3)], A4, c4, by omega, by go_num, by simp, by simpa [encTok] using hown4, by omega, by simp; omega, Hn.out, (Hb1.out.alloc hs1 _).trans hb4⟩
            case measure => simp [intOf]; omega
        · have e1 : rl s = 1 := by unfold rl; rw [if_neg (by omega), if_neg (by omega)]
          have e2 : rb s = 0 := by unfold rb; rw [if_neg (by omega), if_neg (by omega), if_neg (by omega)]
          have e3 : rmax s = 1 := by unfold rmax; rw [if_neg (by omega), if_neg (by omega), if_neg (by omega)]
          have hre : ∀ W : World, Calls Tryz.prog 125 #[.int .i64 s] W fun e w' => e = .returned (.tuple #[.int .i64 1, .int .i64 0]) ∧ w' = W := fun W => by
            have h := reach_any s W
            rw [e1, e2] at h
            exact h
          have Hre := hid hre
          have Hst1 := Hst.out
          rw [e1, e3] at Hst1
          clear hre e1 e2 e3
          by_cases ht : 1 < n
          · have Hn : Hid (runsOf l.length none l = (o ++ [(s, 0)]) ++ runsOf f (prevAt l (j + 1)) (l.drop (j + 1))) := by
              have h := Hst1
              rw [show min n 1 = 1 by omega] at h
              exact Hro.out.trans h
            clear Hst1 Hst Hro
            go_wp2_with fail
            refine (Hre.out _).mono ?_
            rintro e2 w2 ⟨rfl, rfl⟩
            go_wp2_with (at_builtin; refine wpList_app _ rfl _ _ _ rfl W.heap.size 195 i0 (.agg #[.int .i64 0, .int .i64 0]) 2 16 Tryz.underlying98 Hi0.out Hz0.out Hz1.out Hz2.out rfl (by omega) A' o.length c' _ rfl (Hown1.out.alloc _) _ _ 1 1 [.int .i64 (s), .int .i64 (0)] rfl (rd_one _ _ _ _ (Blk.new _ _ _)) (by simp) (by simp [Value.oneCell']) (by simp only [maxLen]; omega) (by omega) (by simp; omega) ?_; rintro A4 c4 w4 ⟨hown4, hgr4, hb4, _⟩)
            go_roundw
            case rel => exact ⟨j + 1, f, o ++ [(s, 0)], A4, c4, by omega, by go_num, by simp, by simpa [encTok] using hown4, by omega, by simp; omega, Hn.out, (Hb1.out.alloc hs1 _).trans hb4⟩
            case measure => simp [intOf]; omega
          · have Hn : Hid (runsOf l.length none l = (o ++ [(s, (n : Int) - 1)]) ++ runsOf f (prevAt l (j + n)) (l.drop (j + n))) := by
              have h := Hst1
              rw [show min n 1 = n by omega] at h
              exact Hro.out.trans h
            clear Hst1 Hst Hro
            go_wp2_with fail
            refine (Hre.out _).mono ?_
            rintro e2 w2 ⟨rfl, rfl⟩
            go_wp2_with (at_builtin; refine wpList_app _ rfl _ _ _ rfl W.heap.size 195 i0 (.agg #[.int .i64 0, .int .i64 0]) 2 16 Tryz.underlying98 Hi0.out Hz0.out Hz1.out Hz2.out rfl (by omega) A' o.length c' _ rfl (Hown1.out.alloc _) _ _ 1 1 [.int .i64 (s), .int .i64 ((n : Int) - 1)] rfl (rd_one _ _ _ _ (Blk.new _ _ _)) (by simp) (by simp [Value.oneCell']) (by simp only [maxLen]; omega) (by omega) (by simp; omega) ?_; rintro A4 c4 w4 ⟨hown4, hgr4, hb4, _⟩)
            go_roundw
            case rel => exact ⟨j + n, f, o ++ [(s, (n : Int) - 1)], A4, c4, by omega, by go_num, by simp, by simpa [encTok] using hown4, by omega, by simp; omega, Hn.out, (Hb1.out.alloc hs1 _).trans hb4⟩
            case measure => simp [intOf]; omega
    · go_wp2
      go_ret2
      have e : j = l.length := by omega
      subst e
      refine ⟨o, A', c', ?_, rfl, Hown.out, hbw⟩
      have h := Hro.out
      rw [List.drop_length, runsOf_nil, List.append_nil] at h
      exact h.symm

end Go.Proofs.YtoppjcmkhhkbmaaGreat.BlockRuns
