/-
  burnishref06.Good and Expand: what they return.
-/
import Derived.Test.YthhllollhjpheaaExpPlain
import Derived.Test.YthhllollhjpheaaWindow
namespace Go.Proofs.Ythhllollhjpheaa
open Go.RowKit

/-- one of the two checks of a token, at function number F: stated of both -/
def GoodSaid (F : FuncId) : Prop := ∀ (l d : Int) (g : Bool), tgood (l, d) = g → ∀ W : World, Calls Try.prog F #[.agg #[.int .i64 l, .int .i64 d]] W fun e w' => e = .returned (.bool g) ∧ Below W.heap.size W w'

theorem tgood_cases {l d : Int} {g : Bool} (h : tgood (l, d) = g) :
    (l = 0 ∧ ((g = true ∧ 0 ≤ d ∧ d ≤ 255) ∨ (g = false ∧ d < 0) ∨ (g = false ∧ 0 ≤ d ∧ 255 < d))) ∨
    (l ≠ 0 ∧ ((g = true ∧ 3 ≤ l ∧ l ≤ 258 ∧ 1 ≤ d ∧ d ≤ 32768) ∨ (g = false ∧ l < 3) ∨ (g = false ∧ 3 ≤ l ∧ 258 < l) ∨ (g = false ∧ 3 ≤ l ∧ l ≤ 258 ∧ d < 1) ∨ (g = false ∧ 3 ≤ l ∧ l ≤ 258 ∧ 1 ≤ d ∧ 32768 < d))) := by
  by_cases hg : tgood (l, d) = true
  · have e : g = true := by rw [← h, hg]
    rcases tgood_true.1 hg with ⟨a, b, c⟩ | ⟨a, b, c, f⟩
    · exact .inl ⟨a, .inl ⟨e, b, c⟩⟩
    · have a' : (3 : Int) ≤ l := a
      exact .inr ⟨by omega, .inl ⟨e, a, b, c, f⟩⟩
  · have e : g = false := by rw [← h]; simpa using hg
    have hn : ¬ ((l = 0 ∧ 0 ≤ d ∧ d ≤ 255) ∨ (3 ≤ l ∧ l ≤ 258 ∧ 1 ≤ d ∧ d ≤ 32768)) := fun x => hg (tgood_true.2 x)
    by_cases hl : l = 0
    · by_cases hd : d < 0
      · exact .inl ⟨hl, .inr (.inl ⟨e, hd⟩)⟩
      · exact .inl ⟨hl, .inr (.inr ⟨e, by omega, by omega⟩)⟩
    · refine .inr ⟨hl, ?_⟩
      by_cases h1 : l < 3
      · exact .inr (.inl ⟨e, h1⟩)
      · by_cases h2 : 258 < l
        · exact .inr (.inr (.inl ⟨e, by omega, h2⟩))
        · by_cases h3 : d < 1
          · exact .inr (.inr (.inr (.inl ⟨e, by omega, by omega, h3⟩)))
          · exact .inr (.inr (.inr (.inr ⟨e, by omega, by omega, by omega, by omega⟩)))

set_option maxHeartbeats 1000000 in
theorem refGood : GoodSaid 18 := by
  intro l d g hg0 W
  rcases tgood_cases hg0 with ⟨rfl, q⟩ | ⟨hl, q⟩
  case' inl =>
    rcases q with ⟨rfl, q1, q2⟩ | ⟨rfl, q1⟩ | ⟨rfl, q1, q2⟩
  case' inr =>
    have hl' : (l == 0) = false := by rw [beq_eq_false_iff_ne]; exact hl
    clear hl
    rcases q with ⟨rfl, q1, q2, q3, q4⟩ | ⟨rfl, q1⟩ | ⟨rfl, q1, q2⟩ | ⟨rfl, q1, q2, q3⟩ | ⟨rfl, q1, q2, q3, q4⟩
  all_goals
    clear hg0
    go_enter Try.func18, Try.ntmps18
    go_wp2
    go_ret
    exact ⟨ret_bool (by first | rfl | (simp; done) | (simp; omega)), (Below.refl _ _).alloc (Nat.le_refl _) _⟩


theorem byte_info : (Try.prog.info? 5).map (fun i => (i.zero, i.size, i.bytes)) = some (some (.int .u8 0), 1, 1) := by kernel_rfl

theorem refExpand_range (A : Option Addr) (c : Nat) (l : List (Int × Int)) (most : Int) (W : World) (h : most < 0 ∨ 4194304 < most) :
    Calls Try.prog 38 #[.slice A l.length c, .int .i64 most] W (ExpEnd (fun k => .int .i64 k) most l 5 W) := by
  have he : expRes most l = 7 := by unfold expRes; rw [if_pos h]
  have He := hid he
  clear he
  rcases h with h | h
  all_goals
    go_enter Try.func38, Try.ntmps38
    go_wp2
    go_ret2
    exact expEnd_err (ev := fun k => .int .i64 k) He.out (by omega) (Below.refl _ _)

set_option maxRecDepth 100000 in
set_option maxHeartbeats 4000000 in
theorem refExpand_in (A : Option Addr) (c : Nat) (l : List (Int × Int)) (most : Int) (W : World) (hr : Rd W W.heap.size 2 A l.length (l.flatMap encTok)) (hm : l.length ≤ 2000) (h0 : 0 ≤ most) (h1 : most ≤ 4194304) :
    Calls Try.prog 38 #[.slice A l.length c, .int .i64 most] W (ExpEnd (fun k => .int .i64 k) most l 5 W) := by
  have he : expRes most l = scan most l 0 := by unfold expRes; rw [if_neg (by omega)]
  have He := hid he
  clear he
  have Hr := hid hr
  clear hr
  obtain ⟨i0, hi0, hz0, hz1, hz2⟩ := info_parts byte_info
  have Hi0 := hid hi0
  have Hz0 := hid hz0
  have Hz1 := hid hz1
  have Hz2 := hid hz2
  clear hi0 hz0 hz1 hz2
  go_enter Try.func38, Try.ntmps38
  go_wp2
  go_loopw [6, 7] (fun o i wr => ∃ (j : Nat) (out : List Int) (A' : Option Addr) (c' : Nat), j ≤ l.length ∧ i = .int .i64 j ∧ o = .slice A' out.length c' ∧ wr.ownsRow W.heap.size 5 1 (.slice A' out.length c') out.length (bytesV out) ∧
      scan most l 0 = scan most (l.drop j) out.length ∧ l.foldl layTok [] = (l.drop j).foldl layTok out ∧ (∀ x ∈ out, isB x) ∧ (out.length : Int) ≤ most ∧ Below W.heap.size W wr) (fun _ i _ => l.length - (intOf i).toNat)
  case atStart => exact ⟨0, [], none, 0, by omega, rfl, rfl, World.ownsRow_nil _ _ _ _, rfl, rfl, by simp, by simpa using h0, Below.refl _ _⟩
  case round =>
    obtain ⟨j, out, A', c', hj, rfl, rfl, hown, hsc, hfo, hB, hle, hb⟩ := hrel
    have Hown := hid hown
    have Hsc := hid hsc
    have Hfo := hid hfo
    have HB := hid hB
    have hsz := hb.size
    clear hown hsc hfo hB
    obtain ⟨wo, rfl⟩ : ∃ wo : World, wo = wr := ⟨_, rfl⟩
    by_cases hlt : j < l.length
    · obtain ⟨b, off, rfl, hbb, q0, q1⟩ := tok_at (Hr.out.below hb (Nat.le_refl _)) hlt
      have Hd := hid (drop_cons l j hlt)
      generalize l[j] = t at *
      obtain ⟨tl, td⟩ := t
      cases hg : tgood (tl, td)
      · have Hg := hid hg
        clear hg
        have Hend : Hid (expRes most l = 6) := by rw [He.out, Hsc.out, Hd.out]; simp [scan, terr, Hg.out, Hid]
        go_wp2_with (go_at_call 18; refine (refGood _ _ _ Hg.out _).mono ?_; rintro e w1 ⟨rfl, hb1⟩)
        go_ret2
        exact expEnd_err (ev := fun k => .int .i64 k) Hend.out (by omega) ((hb.alloc (by exact hsz) _).trans (hb1.mono (by simp; omega)))
      · have Hg := hid hg
        have hgg := tgood_true.1 hg
        clear hg
        simp only at hgg
        by_cases hpos : 0 < tl
        · obtain ⟨g1, g2, g3, g4⟩ : 3 ≤ tl ∧ tl ≤ 258 ∧ 1 ≤ td ∧ td ≤ 32768 := by omega
          clear hgg
          obtain ⟨d, rfl⟩ := Int.eq_ofNat_of_zero_le (show 0 ≤ td by omega)
          by_cases hfar : (out.length : Int) < d
          · have Hend : Hid (expRes most l = 2) := by rw [He.out, Hsc.out, Hd.out]; simp [scan, terr, Hg.out, Hid, hpos, hfar]
            go_wp2_with (go_at_call 18; refine (refGood _ _ _ Hg.out _).mono ?_; rintro e w1 ⟨rfl, hb1⟩; obtain ⟨hc1, hf1⟩ := bcell hb1; have hz1 := hb1.size)
            go_ret2
            exact expEnd_err (ev := fun k => .int .i64 k) Hend.out (by omega) ((hb.alloc (by exact hsz) _).trans (hb1.mono (by simp; omega)))
          · by_cases hbig : most < (out.length : Int) + tl
            · have Hend : Hid (expRes most l = 4) := by rw [He.out, Hsc.out, Hd.out]; simp [scan, terr, Hg.out, Hid, hpos, hfar, tn, hbig]
              go_wp2_with (go_at_call 18; refine (refGood _ _ _ Hg.out _).mono ?_; rintro e w1 ⟨rfl, hb1⟩; obtain ⟨hc1, hf1⟩ := bcell hb1; have hz1 := hb1.size)
              go_ret2
              exact expEnd_err (ev := fun k => .int .i64 k) Hend.out (by omega) ((hb.alloc (by exact hsz) _).trans (hb1.mono (by simp; omega)))
            · have Hnext : Hid (scan most l 0 = scan most (l.drop (j + 1)) ((out.length : Int) + tl)) := by rw [Hsc.out, Hd.out]; simp [scan, terr, Hg.out, Hid, hpos, hfar, tn, hbig]
              have Hlay : Hid (l.foldl layTok [] = (l.drop (j + 1)).foldl layTok (iterB (tl, (d : Int)) tl.toNat out)) := by rw [Hfo.out, Hd.out]; simp [layTok, tn, hpos, Hid]
              obtain ⟨n, rfl⟩ := Int.eq_ofNat_of_zero_le (show 0 ≤ tl by omega)
              have n1 : 0 < n := by omega
              have n2 : decide (out.length < d) = false := by simp; omega
              have n3 : (out.length : Int) + n ≤ most := by omega
              go_wp2_with (go_at_call 18; refine (refGood _ _ _ Hg.out _).mono ?_; rintro e w1 ⟨rfl, hb1⟩; obtain ⟨hc1, hf1⟩ := bcell hb1; have hz1 := hb1.size)
              have hbw : Below W.heap.size W w1 := (hb.alloc (by exact hsz) _).trans (hb1.mono (by simp; omega))
              have k1 : Blk w1 wo.heap.size 54 #[.int .i64 n, .int .i64 d] := (Blk.new wo 54 #[.int .i64 n, .int .i64 d]).below hb1 (by simp)
              have Hown1 := hid (own_below (Hown.out.alloc (.cells #[.int .i64 n, .int .i64 d] 54)) hb1 (Nat.le_refl _))
              have K1 := hid k1
              have Hbw := hid hbw
              have hol : (out.length : Int) ≤ 4194304 := by omega
              clear hbw k1 hb1 hc1 hf1
              go_loopw [6, 10] (fun o kv wi => ∃ (k : Nat) (A2 : Option Addr) (c2 : Nat), k ≤ n ∧ kv = .int .i64 k ∧ o = .slice A2 (out.length + k) c2 ∧ wi.ownsRow W.heap.size 5 1 (.slice A2 (out.length + k) c2) (out.length + k) (bytesV (iterB ((n : Int), (d : Int)) k out)) ∧
                Blk wi wo.heap.size 54 #[.int .i64 n, .int .i64 d] ∧ Below W.heap.size W wi) (fun _ kv _ => n - (intOf kv).toNat)
              case atStart => exact ⟨0, A', c', by omega, rfl, rfl, Hown1.out, K1.out, Hbw.out⟩
              case round =>
                obtain ⟨k, A2, c2, hk, rfl, rfl, hown2, k2, hbw2⟩ := hrel
                have q3 := k2.cell 0
                have q4 := k2.cell 1
                simp only [List.getElem?_toArray, List.getElem?_cons_zero, List.getElem?_cons_succ] at q3 q4
                by_cases hkn : k < n
                · obtain ⟨g, u, rfl, hg1, hg2, hu, hcell⟩ := own_cell (j := out.length + k - d) hown2 (by omega)
                  have Hu := hid hu
                  have Hk2 := hid k2
                  have Hbw2 := hid hbw2
                  have Hown2 := hid hown2
                  clear hu k2 hbw2 hown2
                  obtain ⟨x, rfl⟩ : ∃ x, u = .int .u8 x := by
                    have := Hu.out
                    simp only [bytesV, List.getElem?_map] at this
                    cases hx : (iterB ((n : Int), (d : Int)) k out)[out.length + k - d]? with
                    | none => rw [hx] at this; simp at this
                    | some x => rw [hx] at this; simp at this; exact ⟨x, this.symm⟩
                  have Hx : Hid (bytesV (iterB ((n : Int), (d : Int)) k out) ++ [.int .u8 x] = bytesV (iterB ((n : Int), (d : Int)) (k + 1) out)) := by
                    have := Hu.out
                    simp only [bytesV, List.getElem?_map] at this
                    show _ = bytesV (stepB _ _)
                    unfold stepB bytesV
                    rw [List.map_append, if_pos (show (0 : Int) < (n : Int) by omega), iterB_length]
                    simp only [List.map_cons, List.map_nil]
                    rw [List.getD_eq_getElem?_getD]
                    simp only [Int.toNat_natCast]
                    cases hx : (iterB ((n : Int), (d : Int)) k out)[out.length + k - d]? with
                    | none => rw [hx] at this; simp at this
                    | some x => rw [hx] at this; simp at this; subst this; rfl
                  have hszr := Hbw2.out.size
                  go_wp2_with (at_builtin; refine wpList_app _ rfl _ _ _ rfl W.heap.size 5 i0 (.int .u8 0) 1 1 Try.underlying22 Hi0.out Hz0.out Hz1.out Hz2.out rfl (by omega) (some ⟨g, 0, none⟩) (out.length + k) c2 _ rfl (Hown2.out.alloc _) _ _ 1 1 [.int .u8 x] rfl (rd_one _ _ _ _ (Blk.new _ _ _)) (by simp) (by simp [Value.oneCell']) (by simp only [maxLen]; omega) (by omega) (by simp; omega) ?_; rintro A3 c3 w3 ⟨hown3, hgr3, hb3, _⟩)
                  go_roundw
                  case rel => exact ⟨k + 1, A3, c3, by omega, by go_num, rfl, by rw [← Hx.out]; exact hown3, (Hk2.out.alloc _).grown hgr3 (own_blk_ne Hown2.out Hk2.out (by decide)), (Hbw2.out.alloc hszr _).trans hb3⟩
                  case measure => simp [intOf]; omega
                · have ek : k = n := by omega
                  subst ek
                  clear q3 q4
                  have Hk2 := hid k2
                  have Hbw2 := hid hbw2
                  have Hown2 := hid hown2
                  clear k2 hbw2 hown2
                  go_wp2
                  go_roundw
                  case rel => exact ⟨j + 1, iterB ((k : Int), (d : Int)) k out, A2, c2, by omega, by go_num, by rw [iterB_length], by rw [iterB_length]; exact Hown2.out, by rw [iterB_length]; push_cast; exact Hnext.out, by have := Hlay.out; rwa [Int.toNat_natCast] at this, iterB_isB Hg.out HB.out k, by rw [iterB_length]; push_cast; omega, Hbw2.out⟩
                  case measure => simp [intOf]; omega
        · obtain rfl : tl = 0 := by omega
          obtain ⟨g1, g2⟩ : 0 ≤ td ∧ td ≤ 255 := by omega
          clear hgg
          obtain ⟨d, rfl⟩ := Int.eq_ofNat_of_zero_le g1
          by_cases hbig : most < (out.length : Int) + 1
          · have Hend : Hid (expRes most l = 4) := by rw [He.out, Hsc.out, Hd.out]; simp [scan, terr, Hg.out, Hid, tn, hbig]
            go_wp2_with (go_at_call 18; refine (refGood _ _ _ Hg.out _).mono ?_; rintro e w1 ⟨rfl, hb1⟩; obtain ⟨hc1, hf1⟩ := bcell hb1; have hz1 := hb1.size)
            go_ret2
            exact expEnd_err (ev := fun k => .int .i64 k) Hend.out (by omega) ((hb.alloc (by exact hsz) _).trans (hb1.mono (by simp; omega)))
          · have Hnext : Hid (scan most l 0 = scan most (l.drop (j + 1)) ((out.length : Int) + 1)) := by rw [Hsc.out, Hd.out]; simp [scan, terr, Hg.out, Hid, tn, hbig]
            have Hlay : Hid (l.foldl layTok [] = (l.drop (j + 1)).foldl layTok (iterB (0, (d : Int)) 1 out)) := by rw [Hfo.out, Hd.out]; simp [layTok, tn, Hid]
            have n3 : (out.length : Int) + 1 ≤ most := by omega
            go_wp2_with (go_at_call 18; refine (refGood _ _ _ Hg.out _).mono ?_; rintro e w1 ⟨rfl, hb1⟩; obtain ⟨hc1, hf1⟩ := bcell hb1; have hz1 := hb1.size)
            have hbw : Below W.heap.size W w1 := (hb.alloc (by exact hsz) _).trans (hb1.mono (by simp; omega))
            have k1 : Blk w1 wo.heap.size 54 #[.int .i64 0, .int .i64 d] := (Blk.new wo 54 #[.int .i64 0, .int .i64 d]).below hb1 (by simp)
            have Hown1 := hid (own_below (Hown.out.alloc (.cells #[.int .i64 0, .int .i64 d] 54)) hb1 (Nat.le_refl _))
            have K1 := hid k1
            have Hbw := hid hbw
            have hol : (out.length : Int) ≤ 4194304 := by omega
            clear hbw k1 hb1 hc1 hf1
            go_loopw [6, 10] (fun o kv wi => ∃ (k : Nat) (A2 : Option Addr) (c2 : Nat), k ≤ 1 ∧ kv = .int .i64 k ∧ o = .slice A2 (out.length + k) c2 ∧ wi.ownsRow W.heap.size 5 1 (.slice A2 (out.length + k) c2) (out.length + k) (bytesV (iterB (0, (d : Int)) k out)) ∧
              Blk wi wo.heap.size 54 #[.int .i64 0, .int .i64 d] ∧ Below W.heap.size W wi) (fun _ kv _ => 1 - (intOf kv).toNat)
            case atStart => exact ⟨0, A', c', by omega, rfl, rfl, Hown1.out, K1.out, Hbw.out⟩
            case round =>
              obtain ⟨k, A2, c2, hk, rfl, rfl, hown2, k2, hbw2⟩ := hrel
              have q3 := k2.cell 0
              have q4 := k2.cell 1
              simp only [List.getElem?_toArray, List.getElem?_cons_zero, List.getElem?_cons_succ] at q3 q4
              have Hk2 := hid k2
              have Hbw2 := hid hbw2
              have Hown2 := hid hown2
              clear k2 hbw2 hown2
              have hszr := Hbw2.out.size
              by_cases hkn : k < 1
              · have Hx : Hid (bytesV (iterB (0, (d : Int)) k out) ++ [.int .u8 d] = bytesV (iterB (0, (d : Int)) (k + 1) out)) := by
                  show _ = bytesV (stepB _ _)
                  unfold stepB bytesV
                  rw [List.map_append, if_neg (by simp)]
                  rfl
                go_wp2_with (at_builtin; refine wpList_app _ rfl _ _ _ rfl W.heap.size 5 i0 (.int .u8 0) 1 1 Try.underlying22 Hi0.out Hz0.out Hz1.out Hz2.out rfl (by omega) A2 (out.length + k) c2 _ rfl (Hown2.out.alloc _) _ _ 1 1 [.int .u8 d] rfl (rd_one _ _ _ _ (Blk.new _ _ _)) (by simp) (by simp [Value.oneCell']) (by simp only [maxLen]; omega) (by omega) (by simp; omega) ?_; rintro A3 c3 w3 ⟨hown3, hgr3, hb3, _⟩)
                go_roundw
                case rel => exact ⟨k + 1, A3, c3, by omega, by go_num, rfl, by rw [← Hx.out]; exact hown3, (Hk2.out.alloc _).grown hgr3 (own_blk_ne Hown2.out Hk2.out (by decide)), (Hbw2.out.alloc hszr _).trans hb3⟩
                case measure => simp [intOf]; omega
              · have ek : k = 1 := by omega
                subst ek
                clear q3 q4
                go_wp2
                go_roundw
                case rel => exact ⟨j + 1, iterB (0, (d : Int)) 1 out, A2, c2, by omega, by go_num, by rw [iterB_length], by rw [iterB_length]; exact Hown2.out, by rw [iterB_length]; push_cast; exact Hnext.out, Hlay.out, iterB_isB Hg.out HB.out 1, by rw [iterB_length]; push_cast; omega, Hbw2.out⟩
                case measure => simp [intOf]; omega
    · go_wp2
      go_ret2
      have e : j = l.length := by omega
      subst e
      have hs0 := Hsc.out
      have hf0 := Hfo.out
      rw [List.drop_length] at hs0 hf0
      have hres : expRes most l = 0 := He.out.trans hs0
      have hout : expOut most l = out := by unfold expOut; rw [if_pos hres]; exact hf0
      refine ⟨A', c', ?_, by rw [hout]; exact Hown.out, hb⟩
      rw [hout, hres]; rfl

theorem refExpand_any (A : Option Addr) (c : Nat) (l : List (Int × Int)) (most : Int) (W : World) (hr : Rd W W.heap.size 2 A l.length (l.flatMap encTok)) (hm : l.length ≤ 2000) :
    Calls Try.prog 38 #[.slice A l.length c, .int .i64 most] W (ExpEnd (fun k => .int .i64 k) most l 5 W) := by
  by_cases h : most < 0 ∨ 4194304 < most
  · exact refExpand_range A c l most W h
  · exact refExpand_in A c l most W hr hm (by omega) (by omega)

end Go.Proofs.Ythhllollhjpheaa
