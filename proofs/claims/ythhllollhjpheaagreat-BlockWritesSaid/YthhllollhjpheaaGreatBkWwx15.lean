/-
  burnishref06.Good and Expand: what they return.
  block.sound, block.check and the reference's Fits: which tokens come to a text.
  The reference's Fits; block.check.
-/
import Derived.Test.YthhllollhjpheaaGreatBkWwx4
import Derived.Test.YthhllollhjpheaaGreatBkWwx7
import Derived.BigQuiet
import Derived.Deep.DeepCutAuto
import Derived.Deep.CutRange
namespace Go.Proofs.YthhllollhjpheaaGreat
open Go.RowKit

/-- one of the two checks of a token, at function number F: stated of both -/
def GoodSaid (F : FuncId) : Prop := ∀ (l d : Int) (g : Bool), tgood (l, d) = g → ∀ W : World, Calls Tryz.prog F #[.agg #[.int .i64 l, .int .i64 d]] W fun e w' => e = .returned (.bool g) ∧ Below W.heap.size W w'

theorem tgood_cases {l d : Int} {g : Bool} (h : tgood (l, d) = g) :
    (l = 0 ∧ ((g = true ∧ 0 ≤ d ∧ d ≤ 255) ∨ (g = false ∧ d < 0) ∨ (g = false ∧ 0 ≤ d ∧ 255 < d))) ∨
    (l ≠ 0 ∧ ((g = true ∧ 3 ≤ l ∧ l ≤ 258 ∧ 1 ≤ d ∧ d ≤ 32768) ∨ (g = false ∧ l < 3) ∨ (g = false ∧ 3 ≤ l ∧ 258 < l) ∨ (g = false ∧ 3 ≤ l ∧ l ≤ 258 ∧ d < 1) ∨ (g = false ∧ 3 ≤ l ∧ l ≤ 258 ∧ 1 ≤ d ∧ 32768 < d))) := by
  by_cases hg : tgood (l, d) = true
  · have e : g = true := by rw [← h, hg]
    rcases tgood_true.1 hg with ⟨a, b, c⟩ | ⟨a, b, c, f⟩
    · exact .inl ⟨a, .inl ⟨e, b, c⟩⟩
    · have a' : (3 : Int) ≤ l := a
      exact .inr ⟨by omega, .inl ⟨e, a, b, c, f⟩⟩
  · have e : g = false := by rw [← h]; simpa using hg
    have hn : ¬ ((l = 0 ∧ 0 ≤ d ∧ d ≤ 255) ∨ (3 ≤ l ∧ l ≤ 258 ∧ 1 ≤ d ∧ d ≤ 32768)) := fun x => hg (tgood_true.2 x)
    by_cases hl : l = 0
    · by_cases hd : d < 0
      · exact .inl ⟨hl, .inr (.inl ⟨e, hd⟩)⟩
      · exact .inl ⟨hl, .inr (.inr ⟨e, by omega, by omega⟩)⟩
    · refine .inr ⟨hl, ?_⟩
      by_cases h1 : l < 3
      · exact .inr (.inl ⟨e, h1⟩)
      · by_cases h2 : 258 < l
        · exact .inr (.inr (.inl ⟨e, by omega, h2⟩))
        · by_cases h3 : d < 1
          · exact .inr (.inr (.inr (.inl ⟨e, by omega, by omega, h3⟩)))
          · exact .inr (.inr (.inr (.inr ⟨e, by omega, by omega, by omega, by omega⟩)))

set_option maxHeartbeats 1000000 in
theorem refGood : GoodSaid 74 := by
  intro l d g hg0 W
  rcases tgood_cases hg0 with ⟨rfl, q⟩ | ⟨hl, q⟩
  case' inl =>
    rcases q with ⟨rfl, q1, q2⟩ | ⟨rfl, q1⟩ | ⟨rfl, q1, q2⟩
  case' inr =>
    have hl' : (l == 0) = false := by rw [beq_eq_false_iff_ne]; exact hl
    clear hl
    rcases q with ⟨rfl, q1, q2, q3, q4⟩ | ⟨rfl, q1⟩ | ⟨rfl, q1, q2⟩ | ⟨rfl, q1, q2, q3⟩ | ⟨rfl, q1, q2, q3, q4⟩
  all_goals
    clear hg0
    go_enter Tryz.func74, Tryz.ntmps74
    go_wp2
    go_ret
    exact ⟨ret_bool (by first | rfl | (simp; done) | (simp; omega)), (Below.refl _ _).alloc (Nat.le_refl _) _⟩


theorem byte_info : (Tryz.prog.info? 5).map (fun i => (i.zero, i.size, i.bytes)) = some (some (.int .u8 0), 1, 1) := by kernel_rfl

theorem refExpand_range (A : Option Addr) (c : Nat) (l : List (Int × Int)) (most : Int) (W : World) (h : most < 0 ∨ 4194304 < most) :
    Calls Tryz.prog 32 #[.slice A l.length c, .int .i64 most] W (ExpEnd (fun k => .int .i64 k) most l 5 W) := by
  have he : expRes most l = 7 := by unfold expRes; rw [if_pos h]
  have He := hid he
  clear he
  rcases h with h | h
  all_goals
    go_enter Tryz.func32, Tryz.ntmps32
    go_wp2
    go_ret2
    exact expEnd_err (ev := fun k => .int .i64 k) He.out (by omega) (Below.refl _ _)

set_option maxRecDepth 100000 in
set_option maxHeartbeats 4000000 in
theorem refExpand_in (A : Option Addr) (c : Nat) (l : List (Int × Int)) (most : Int) (W : World) (hr : Rd W W.heap.size 2 A l.length (l.flatMap encTok)) (hm : l.length ≤ 2000) (h0 : 0 ≤ most) (h1 : most ≤ 4194304) :
    Calls Tryz.prog 32 #[.slice A l.length c, .int .i64 most] W (ExpEnd (fun k => .int .i64 k) most l 5 W) := by
  have he : expRes most l = scan most l 0 := by unfold expRes; rw [if_neg (by omega)]
  have He := hid he
  clear he
  have Hr := hid hr
  clear hr
  obtain ⟨i0, hi0, hz0, hz1, hz2⟩ := info_parts byte_info
  have Hi0 := hid hi0
  have Hz0 := hid hz0
  have Hz1 := hid hz1
  have Hz2 := hid hz2
  clear hi0 hz0 hz1 hz2
  go_enter Tryz.func32, Tryz.ntmps32
  go_wp2
  go_loopw [6, 7] (fun o i wr => ∃ (j : Nat) (out : List Int) (A' : Option Addr) (c' : Nat), j ≤ l.length ∧ i = .int .i64 j ∧ o = .slice A' out.length c' ∧ wr.ownsRow W.heap.size 5 1 (.slice A' out.length c') out.length (bytesV out) ∧
      scan most l 0 = scan most (l.drop j) out.length ∧ l.foldl layTok [] = (l.drop j).foldl layTok out ∧ (∀ x ∈ out, isB x) ∧ (out.length : Int) ≤ most ∧ Below W.heap.size W wr) (fun _ i _ => l.length - (intOf i).toNat)
  case atStart => exact ⟨0, [], none, 0, by omega, rfl, rfl, World.ownsRow_nil _ _ _ _, rfl, rfl, by simp, by simpa using h0, Below.refl _ _⟩
  case round =>
    obtain ⟨j, out, A', c', hj, rfl, rfl, hown, hsc, hfo, hB, hle, hb⟩ := hrel
    have Hown := hid hown
    have Hsc := hid hsc
    have Hfo := hid hfo
    have HB := hid hB
    have hsz := hb.size
    clear hown hsc hfo hB
    obtain ⟨wo, rfl⟩ : ∃ wo : World, wo = wr := ⟨_, rfl⟩
    by_cases hlt : j < l.length
    · obtain ⟨b, off, rfl, hbb, q0, q1⟩ := tok_at (Hr.out.below hb (Nat.le_refl _)) hlt
      have Hd := hid (drop_cons l j hlt)
      generalize l[j] = t at *
      obtain ⟨tl, td⟩ := t
      cases hg : tgood (tl, td)
      · have Hg := hid hg
        clear hg
        have Hend : Hid (expRes most l = 6) := by rw [He.out, Hsc.out, Hd.out]; simp [scan, terr, Hg.out, Hid]
        go_wp2_with (go_at_call 74; refine (refGood _ _ _ Hg.out _).mono ?_; rintro e w1 ⟨rfl, hb1⟩)
        go_ret2
        exact expEnd_err (ev := fun k => .int .i64 k) Hend.out (by omega) ((hb.alloc (by exact hsz) _).trans (hb1.mono (by simp; omega)))
      · have Hg := hid hg
        have hgg := tgood_true.1 hg
        clear hg
        simp only at hgg
        by_cases hpos : 0 < tl
        · obtain ⟨g1, g2, g3, g4⟩ : 3 ≤ tl ∧ tl ≤ 258 ∧ 1 ≤ td ∧ td ≤ 32768 := by omega
          clear hgg
          obtain ⟨d, rfl⟩ := Int.eq_ofNat_of_zero_le (show 0 ≤ td by omega)
          by_cases hfar : (out.length : Int) < d
          · have Hend : Hid (expRes most l = 2) := by rw [He.out, Hsc.out, Hd.out]; simp [scan, terr, Hg.out, Hid, hpos, hfar]
            go_wp2_with (go_at_call 74; refine (refGood _ _ _ Hg.out _).mono ?_; rintro e w1 ⟨rfl, hb1⟩; obtain ⟨hc1, hf1⟩ := bcell hb1; have hz1 := hb1.size)
            go_ret2
            exact expEnd_err (ev := fun k => .int .i64 k) Hend.out (by omega) ((hb.alloc (by exact hsz) _).trans (hb1.mono (by simp; omega)))
          · by_cases hbig : most < (out.length : Int) + tl
            · have Hend : Hid (expRes most l = 4) := by rw [He.out, Hsc.out, Hd.out]; simp [scan, terr, Hg.out, Hid, hpos, hfar, tn, hbig]
              go_wp2_with (go_at_call 74; refine (refGood _ _ _ Hg.out _).mono ?_; rintro e w1 ⟨rfl, hb1⟩; obtain ⟨hc1, hf1⟩ := bcell hb1; have hz1 := hb1.size)
              go_ret2
              exact expEnd_err (ev := fun k => .int .i64 k) Hend.out (by omega) ((hb.alloc (by exact hsz) _).trans (hb1.mono (by simp; omega)))
            · have Hnext : Hid (scan most l 0 = scan most (l.drop (j + 1)) ((out.length : Int) + tl)) := by rw [Hsc.out, Hd.out]; simp [scan, terr, Hg.out, Hid, hpos, hfar, tn, hbig]
              have Hlay : Hid (l.foldl layTok [] = (l.drop (j + 1)).foldl layTok (iterB (tl, (d : Int)) tl.toNat out)) := by rw [Hfo.out, Hd.out]; simp [layTok, tn, hpos, Hid]
              obtain ⟨n, rfl⟩ := Int.eq_ofNat_of_zero_le (show 0 ≤ tl by omega)
              have n1 : 0 < n := by omega
              have n2 : decide (out.length < d) = false := by simp; omega
              have n3 : (out.length : Int) + n ≤ most := by omega
              go_wp2_with (go_at_call 74; refine (refGood _ _ _ Hg.out _).mono ?_; rintro e w1 ⟨rfl, hb1⟩; obtain ⟨hc1, hf1⟩ := bcell hb1; have hz1 := hb1.size)
              have hbw : Below W.heap.size W w1 := (hb.alloc (by exact hsz) _).trans (hb1.mono (by simp; omega))
              have k1 : Blk w1 wo.heap.size 67 #[.int .i64 n, .int .i64 d] := (Blk.new wo 67 #[.int .i64 n, .int .i64 d]).below hb1 (by simp)
              have Hown1 := hid (own_below (Hown.out.alloc (.cells #[.int .i64 n, .int .i64 d] 67)) hb1 (Nat.le_refl _))
              have K1 := hid k1
              have Hbw := hid hbw
              have hol : (out.length : Int) ≤ 4194304 := by omega
              clear hbw k1 hb1 hc1 hf1
              go_loopw [6, 10] (fun o kv wi => ∃ (k : Nat) (A2 : Option Addr) (c2 : Nat), k ≤ n ∧ kv = .int .i64 k ∧ o = .slice A2 (out.length + k) c2 ∧ wi.ownsRow W.heap.size 5 1 (.slice A2 (out.length + k) c2) (out.length + k) (bytesV (iterB ((n : Int), (d : Int)) k out)) ∧
                Blk wi wo.heap.size 67 #[.int .i64 n, .int .i64 d] ∧ Below W.heap.size W wi) (fun _ kv _ => n - (intOf kv).toNat)
              case atStart => exact ⟨0, A', c', by omega, rfl, rfl, Hown1.out, K1.out, Hbw.out⟩
              case round =>
                obtain ⟨k, A2, c2, hk, rfl, rfl, hown2, k2, hbw2⟩ := hrel
                have q3 := k2.cell 0
                have q4 := k2.cell 1
                simp only [List.getElem?_toArray, List.getElem?_cons_zero, List.getElem?_cons_succ] at q3 q4
                by_cases hkn : k < n
                · obtain ⟨g, u, rfl, hg1, hg2, hu, hcell⟩ := own_cell (j := out.length + k - d) hown2 (by omega)
                  have Hu := hid hu
                  have Hk2 := hid k2
                  have Hbw2 := hid hbw2
                  have Hown2 := hid hown2
                  clear hu k2 hbw2 hown2
                  obtain ⟨x, rfl⟩ : ∃ x, u = .int .u8 x := by
                    have := Hu.out
                    simp only [bytesV, List.getElem?_map] at this
                    cases hx : (iterB ((n : Int), (d : Int)) k out)[out.length + k - d]? with
                    | none => rw [hx] at this; simp at this
                    | some x => rw [hx] at this; simp at this; exact ⟨x, this.symm⟩
                  have Hx : Hid (bytesV (iterB ((n : Int), (d : Int)) k out) ++ [.int .u8 x] = bytesV (iterB ((n : Int), (d : Int)) (k + 1) out)) := by
                    have := Hu.out
                    simp only [bytesV, List.getElem?_map] at this
                    show _ = bytesV (stepB _ _)
                    unfold stepB bytesV
                    rw [List.map_append, if_pos (show (0 : Int) < (n : Int) by omega), iterB_length]
                    simp only [List.map_cons, List.map_nil]
                    rw [List.getD_eq_getElem?_getD]
                    simp only [Int.toNat_natCast]
                    cases hx : (iterB ((n : Int), (d : Int)) k out)[out.length + k - d]? with
                    | none => rw [hx] at this; simp at this
                    | some x => rw [hx] at this; simp at this; subst this; rfl
                  have hszr := Hbw2.out.size
                  go_wp2_with (at_builtin; refine wpList_app _ rfl _ _ _ rfl W.heap.size 5 i0 (.int .u8 0) 1 1 Tryz.underlying22 Hi0.out Hz0.out Hz1.out Hz2.out rfl (by omega) (some ⟨g, 0, none⟩) (out.length + k) c2 _ rfl (Hown2.out.alloc _) _ _ 1 1 [.int .u8 x] rfl (rd_one _ _ _ _ (Blk.new _ _ _)) (by simp) (by simp [Value.oneCell']) (by simp only [maxLen]; omega) (by omega) (by simp; omega) ?_; rintro A3 c3 w3 ⟨hown3, hgr3, hb3, _⟩)
                  go_roundw
                  case rel => exact ⟨k + 1, A3, c3, by omega, by go_num, rfl, by rw [← Hx.out]; exact hown3, (Hk2.out.alloc _).grown hgr3 (own_blk_ne Hown2.out Hk2.out (by decide)), (Hbw2.out.alloc hszr _).trans hb3⟩
                  case measure => simp [intOf]; omega
                · have ek : k = n := by omega
                  subst ek
                  clear q3 q4
                  have Hk2 := hid k2
                  have Hbw2 := hid hbw2
                  have Hown2 := hid hown2
                  clear k2 hbw2 hown2
                  go_wp2
                  go_roundw
                  case rel => exact ⟨j + 1, iterB ((k : Int), (d : Int)) k out, A2, c2, by omega, by go_num, by rw [iterB_length], by rw [iterB_length]; exact Hown2.out, by rw [iterB_length]; push_cast; exact Hnext.out, by have := Hlay.out; rwa [Int.toNat_natCast] at this, iterB_isB Hg.out HB.out k, by rw [iterB_length]; push_cast; omega, Hbw2.out⟩
                  case measure => simp [intOf]; omega
        · obtain rfl : tl = 0 := by omega
          obtain ⟨g1, g2⟩ : 0 ≤ td ∧ td ≤ 255 := by omega
          clear hgg
          obtain ⟨d, rfl⟩ := Int.eq_ofNat_of_zero_le g1
          by_cases hbig : most < (out.length : Int) + 1
          · have Hend : Hid (expRes most l = 4) := by rw [He.out, Hsc.out, Hd.out]; simp [scan, terr, Hg.out, Hid, tn, hbig]
            go_wp2_with (go_at_call 74; refine (refGood _ _ _ Hg.out _).mono ?_; rintro e w1 ⟨rfl, hb1⟩; obtain ⟨hc1, hf1⟩ := bcell hb1; have hz1 := hb1.size)
            go_ret2
            exact expEnd_err (ev := fun k => .int .i64 k) Hend.out (by omega) ((hb.alloc (by exact hsz) _).trans (hb1.mono (by simp; omega)))
          · have Hnext : Hid (scan most l 0 = scan most (l.drop (j + 1)) ((out.length : Int) + 1)) := by rw [Hsc.out, Hd.out]; simp [scan, terr, Hg.out, Hid, tn, hbig]
            have Hlay : Hid (l.foldl layTok [] = (l.drop (j + 1)).foldl layTok (iterB (0, (d : Int)) 1 out)) := by rw [Hfo.out, Hd.out]; simp [layTok, tn, Hid]
            have n3 : (out.length : Int) + 1 ≤ most := by omega
            go_wp2_with (go_at_call 74; refine (refGood _ _ _ Hg.out _).mono ?_; rintro e w1 ⟨rfl, hb1⟩; obtain ⟨hc1, hf1⟩ := bcell hb1; have hz1 := hb1.size)
            have hbw : Below W.heap.size W w1 := (hb.alloc (by exact hsz) _).trans (hb1.mono (by simp; omega))
            have k1 : Blk w1 wo.heap.size 67 #[.int .i64 0, .int .i64 d] := (Blk.new wo 67 #[.int .i64 0, .int .i64 d]).below hb1 (by simp)
            have Hown1 := hid (own_below (Hown.out.alloc (.cells #[.int .i64 0, .int .i64 d] 67)) hb1 (Nat.le_refl _))
            have K1 := hid k1
            have Hbw := hid hbw
            have hol : (out.length : Int) ≤ 4194304 := by omega
            clear hbw k1 hb1 hc1 hf1
            go_loopw [6, 10] (fun o kv wi => ∃ (k : Nat) (A2 : Option Addr) (c2 : Nat), k ≤ 1 ∧ kv = .int .i64 k ∧ o = .slice A2 (out.length + k) c2 ∧ wi.ownsRow W.heap.size 5 1 (.slice A2 (out.length + k) c2) (out.length + k) (bytesV (iterB (0, (d : Int)) k out)) ∧
              Blk wi wo.heap.size 67 #[.int .i64 0, .int .i64 d] ∧ Below W.heap.size W wi) (fun _ kv _ => 1 - (intOf kv).toNat)
            case atStart => exact ⟨0, A', c', by omega, rfl, rfl, Hown1.out, K1.out, Hbw.out⟩
            case round =>
              obtain ⟨k, A2, c2, hk, rfl, rfl, hown2, k2, hbw2⟩ := hrel
              have q3 := k2.cell 0
              have q4 := k2.cell 1
              simp only [List.getElem?_toArray, List.getElem?_cons_zero, List.getElem?_cons_succ] at q3 q4
              have Hk2 := hid k2
              have Hbw2 := hid hbw2
              have Hown2 := hid hown2
              clear k2 hbw2 hown2
              have hszr := Hbw2.out.size
              by_cases hkn : k < 1
              · have Hx : Hid (bytesV (iterB (0, (d : Int)) k out) ++ [.int .u8 d] = bytesV (iterB (0, (d : Int)) (k + 1) out)) := by
                  show _ = bytesV (stepB _ _)
                  unfold stepB bytesV
                  rw [List.map_append, if_neg (by simp)]
                  rfl
                go_wp2_with (at_builtin; refine wpList_app _ rfl _ _ _ rfl W.heap.size 5 i0 (.int .u8 0) 1 1 Tryz.underlying22 Hi0.out Hz0.out Hz1.out Hz2.out rfl (by omega) A2 (out.length + k) c2 _ rfl (Hown2.out.alloc _) _ _ 1 1 [.int .u8 d] rfl (rd_one _ _ _ _ (Blk.new _ _ _)) (by simp) (by simp [Value.oneCell']) (by simp only [maxLen]; omega) (by omega) (by simp; omega) ?_; rintro A3 c3 w3 ⟨hown3, hgr3, hb3, _⟩)
                go_roundw
                case rel => exact ⟨k + 1, A3, c3, by omega, by go_num, rfl, by rw [← Hx.out]; exact hown3, (Hk2.out.alloc _).grown hgr3 (own_blk_ne Hown2.out Hk2.out (by decide)), (Hbw2.out.alloc hszr _).trans hb3⟩
                case measure => simp [intOf]; omega
              · have ek : k = 1 := by omega
                subst ek
                clear q3 q4
                go_wp2
                go_roundw
                case rel => exact ⟨j + 1, iterB (0, (d : Int)) 1 out, A2, c2, by omega, by go_num, by rw [iterB_length], by rw [iterB_length]; exact Hown2.out, by rw [iterB_length]; push_cast; exact Hnext.out, Hlay.out, iterB_isB Hg.out HB.out 1, by rw [iterB_length]; push_cast; omega, Hbw2.out⟩
                case measure => simp [intOf]; omega
    · go_wp2
      go_ret2
      have e : j = l.length := by omega
      subst e
      have hs0 := Hsc.out
      have hf0 := Hfo.out
      rw [List.drop_length] at hs0 hf0
      have hres : expRes most l = 0 := He.out.trans hs0
      have hout : expOut most l = out := by unfold expOut; rw [if_pos hres]; exact hf0
      refine ⟨A', c', ?_, by rw [hout]; exact Hown.out, hb⟩
      rw [hout, hres]; rfl

theorem refExpand_any (A : Option Addr) (c : Nat) (l : List (Int × Int)) (most : Int) (W : World) (hr : Rd W W.heap.size 2 A l.length (l.flatMap encTok)) (hm : l.length ≤ 2000) :
    Calls Tryz.prog 32 #[.slice A l.length c, .int .i64 most] W (ExpEnd (fun k => .int .i64 k) most l 5 W) := by
  by_cases h : most < 0 ∨ 4194304 < most
  · exact refExpand_range A c l most W h
  · exact refExpand_in A c l most W hr hm (by omega) (by omega)

end Go.Proofs.YthhllollhjpheaaGreat

namespace Go.Proofs.YthhllollhjpheaaGreat
open Go.RowKit

theorem fit_step {text : List Int} {l : List (Int × Int)} {j k : Nat} (hj : j < l.length) : fitM text k (l.drop j) = (fitT text k l[j] && fitM text (k + tln l[j]) (l.drop (j + 1))) := by
  rw [List.drop_eq_getElem_cons hj, fitM]
theorem fit_no {text : List Int} {l : List (Int × Int)} {j k : Nat} {t : Int × Int} (hj : j < l.length) (ht : l[j] = t) (h : fitT text k t = false) : fitM text k (l.drop j) = false := by
  rw [fit_step hj, ht, h, Bool.false_and]
theorem fit_yes {text : List Int} {l : List (Int × Int)} {j k n : Nat} {t : Int × Int} (hj : j < l.length) (ht : l[j] = t) (h : fitT text k t = true) (hn : tln t = n) : fitM text k (l.drop j) = fitM text (k + n) (l.drop (j + 1)) := by
  rw [fit_step hj, ht, h, hn, Bool.true_and]
theorem fitT_iff {text : List Int} {k : Nat} {t : Int × Int} : fitT text k t = true ↔ tgood t = true ∧ k + tln t ≤ text.length ∧ (if t.1 = 0 then text.getD k 0 = t.2 else ∀ i, i < tln t → farB text t.2 (k + i) = true) := by
  unfold fitT
  rw [Bool.and_eq_true, Bool.and_eq_true, decide_eq_true_iff]
  split
  · rw [beq_iff_eq]
  · rw [List.all_eq_true]
    simp only [List.mem_range]
theorem fitT_no {text : List Int} {k : Nat} {t : Int × Int} (h : ¬ (tgood t = true ∧ k + tln t ≤ text.length ∧ (if t.1 = 0 then text.getD k 0 = t.2 else ∀ i, i < tln t → farB text t.2 (k + i) = true))) : fitT text k t = false := by
  cases h1 : fitT text k t with
  | false => rfl
  | true => exact absurd (fitT_iff.1 h1) h
theorem tln_cases (a b : Int) : ((tln (a, b) : Nat) : Int) = if 0 < a then a else 1 := by rw [tln_eq]; rfl
theorem okTok_bd {t : Int × Int} (h : okTok t) : -9223372036854775808 ≤ t.1 ∧ t.1 ≤ 9223372036854775807 ∧ -9223372036854775808 ≤ t.2 ∧ t.2 ≤ 9223372036854775807 := by
  obtain ⟨h1, h2⟩ := h
  simp [Lit.wf, IntKind.min, IntKind.max, IntKind.signed, IntKind.bits] at h1 h2
  omega
theorem one_of {n : Nat} (h : (n : Int) = if (0 : Int) < 0 then 0 else 1) : n = 1 := by
  rw [if_neg (by omega)] at h
  omega
theorem beq_cast (a b : Nat) : ((a : Int) == (b : Int)) = (a == b) := by
  by_cases h : a = b
  · rw [h, beq_self_eq_true, beq_self_eq_true]
  · rw [beq_eq_false_iff_ne.2 h, beq_eq_false_iff_ne.2 (by omega)]
theorem text_isB {text : List Int} (h : ∀ x ∈ text, isB x) (k : Nat) : isB (text.getD k 0) := getD_isB h k

set_option maxRecDepth 100000 in
set_option maxHeartbeats 8000000 in
theorem sound10_any (A B : Option Addr) (c d : Nat) (l : List (Int × Int)) (text : List Int) (W : World) (hr : Rd W W.heap.size 2 A l.length (l.flatMap encTok)) (ht : Rd W W.heap.size 1 B text.length (bytesV text)) (hm : l.length ≤ 1000000) (hm2 : text.length ≤ 1000000) (hok : ∀ t ∈ l, okTok t) (hB : ∀ x ∈ text, isB x) :
    Calls Tryz.prog 79 #[.slice A l.length c, .slice B text.length d] W fun e w' => e = .returned (.bool (fitM text 0 l)) ∧ Below W.heap.size W w' := by
  have Hr := hid hr
  have Ht := hid ht
  have Hok := hid hok
  have HB := hid hB
  clear hr ht hok hB
  go_enter Tryz.func79, Tryz.ntmps79
  go_wp2
  go_loopw [5, 12] (fun kv i wr => ∃ (j k : Nat), j ≤ l.length ∧ k ≤ text.length ∧ i = .int .i64 j ∧ kv = .int .i64 k ∧ fitM text 0 l = fitM text k (l.drop j) ∧ Below W.heap.size W wr) (fun _ i _ => l.length - (intOf i).toNat)
  case atStart => exact ⟨0, 0, by omega, by omega, rfl, rfl, rfl, Below.refl _ _⟩
  case round =>
    obtain ⟨j, k, hj, hk, rfl, rfl, hf, hb⟩ := hrel
    have Hf := hid hf
    clear hf
    by_cases hlt : j < l.length
    · obtain ⟨b, off, rfl, hbb, h0, h1⟩ := tok_at (Hr.out.below hb (Nat.le_refl _)) hlt
      obtain ⟨t, htj⟩ : ∃ t, l[j] = t := ⟨_, rfl⟩
      have Htj := hid htj
      have hto := Hok.out _ (List.getElem_mem hlt)
      rw [htj] at h0 h1 hto
      obtain ⟨a, dd⟩ := t
      have Hno := hid (fun h => Hf.out.trans (fit_no (k := k) hlt Htj.out h))
      have Hyes := hid (fun n h hn => Hf.out.trans (fit_yes (k := k) (n := n) hlt Htj.out h hn))
      have ha := okTok_bd hto
      obtain ⟨ha1, ha2, hd1, hd2⟩ := ha
      simp only at ha1 ha2 hd1 hd2 h0 h1
      clear hto htj
      obtain ⟨n, hn⟩ : ∃ n, n = tln (a, dd) := ⟨_, rfl⟩
      have hnc := tln_cases a dd
      rw [← hn] at hnc
      have Hn := hid hn
      clear hn
      have hmx : (if a < 1 then (1 : Int) else a) = (n : Int) := by rw [hnc]; (repeat' split) <;> omega
      have hn1 : 1 ≤ n := by split at hnc <;> omega
      have Hnc := hid hnc
      have hal := hid (Below.alloc hb hb.size (.cells #[.int .i64 a, .int .i64 dd] 67))
      have g0 := hb.size
      have hrdT := (Ht.out.below hal.out (Nat.le_refl _))
      have HrdT := hid hrdT
      clear hnc hrdT
      go_upto_region 6 with (fail)
      clear hmx
      by_cases hfar : text.length - k < n
      · have e := Hno.out (fitT_no fun h => by have := h.2.1; rw [← Hn.out] at this; omega)
        go_wp2
        go_ret
        exact ⟨by rw [e]; rfl, hal.out⟩
      by_cases hz : a = 0
      · subst hz
        have hn' : n = 1 := one_of Hnc.out
        subst hn'
        obtain ⟨bt, ot, rfl, hbt, p0⟩ := byte_at HrdT.out (show k < text.length by omega)
        have hx := text_isB HB.out k
        generalize hxx : text.getD k 0 = x at *
        have Hxx := hid hxx
        unfold isB at hx
        clear hxx
        by_cases hne : dd = x
        · subst hne
          have e := Hyes.out 1 (fitT_iff.2 ⟨tgood_true.2 (.inl ⟨rfl, hx.1, hx.2⟩), by rw [← Hn.out]; omega, by rw [if_pos rfl]; exact Hxx.out⟩) Hn.out.symm
          have E := hid e
          clear e
          go_upto_region 9 with (fail)
          go_quiet (fail)
          go_wp2
          go_loop [9] (fun v => v = .int .i64 k) (fun _ => 0)
          case atStart => rfl
          case round =>
            obtain rfl := hrel
            go_wp2
            go_roundw
            case rel => exact ⟨j + 1, k + 1, by omega, by omega, by go_num, by go_num, E.out, below_drewN hal.out nq⟩
            case measure => simp [intOf]; omega
        · have e := Hno.out (fitT_no fun h => by have := h.2.2; rw [if_pos rfl, Hxx.out] at this; exact hne this.symm)
          go_upto_region 9 with (fail)
          go_quiet (fail)
          go_wp2
          go_ret
          exact ⟨by rw [e]; rfl, below_drewN hal.out nq⟩
      by_cases hform : a < 3 ∨ 258 < a ∨ dd < 1 ∨ 32768 < dd
      · have e := Hno.out (fitT_no fun h => by have := tgood_true.1 h.1; simp only at this; omega)
        have E := hid e
        clear e
        rcases (show a < 3 ∨ (¬ a < 3 ∧ 258 < a) ∨ (¬ a < 3 ∧ ¬ 258 < a ∧ dd < 1) ∨ (¬ a < 3 ∧ ¬ 258 < a ∧ ¬ dd < 1 ∧ 32768 < dd) by omega) with g | ⟨g1, g2⟩ | ⟨g1, g2, g3⟩ | ⟨g1, g2, g3, g4⟩
        all_goals
          clear hform
          go_wp2
          go_ret
          exact ⟨by rw [E.out]; rfl, hal.out⟩
      have hg : tgood (a, dd) = true := tgood_true.2 (.inr (by simp only; omega))
      have Hg := hid hg
      obtain ⟨D, rfl⟩ : ∃ D : Nat, dd = (D : Int) := ⟨dd.toNat, by omega⟩
      have han : a = (n : Int) := by have := Hnc.out; rw [if_pos (by omega)] at this; omega
      subst han
      have g3 : ¬ (n : Int) < 3 := by omega
      have g4 : ¬ 258 < (n : Int) := by omega
      have g5 : ¬ (D : Int) < 1 := by omega
      have g6 : ¬ 32768 < (D : Int) := by omega
      clear hg hform
      go_wp2
      have Z0 : (wr.alloc (.cells #[.int .i64 (n : Int), .int .i64 (D : Int)] 67)).cell? ⟨wr.heap.size, 0, none⟩ = some (.int .i64 (n : Int)) := (Blk.new wr _ _).cell 0
      have Z1 : (wr.alloc (.cells #[.int .i64 (n : Int), .int .i64 (D : Int)] 67)).cell? ⟨wr.heap.size, 1, none⟩ = some (.int .i64 (D : Int)) := (Blk.new wr _ _).cell 1
      have hz3 : wr.heap.size < (wr.alloc (.cells #[.int .i64 (n : Int), .int .i64 (D : Int)] 67)).heap.size := (Blk.new wr _ _).lt
      generalize wr.alloc (.cells #[.int .i64 (n : Int), .int .i64 (D : Int)] 67) = wz at *
      generalize wr.heap.size = gz at *
      go_loopw [9] (fun v w2 => ∃ i q0 : Nat, v = .int .i64 i ∧ k ≤ i ∧ i ≤ k + n ∧ w2 = wz.drewN q0 ∧ ∀ q, k ≤ q → q < i → farB text D q = true) (fun v _ => k + n - (intOf v).toNat)
      case atStart => exact ⟨k, 0, rfl, by omega, by omega, rfl, fun q h1 h2 => by omega⟩
      case round =>
        obtain ⟨i, q0, rfl, hi1, hi2, rfl, hall⟩ := hrel
        have Hall := hid hall
        clear hall
        by_cases hlt2 : i < k + n
        · have hin : ((i : Int) < (k : Int) + (n : Int)) := by omega
          by_cases hD : D ≤ i
          · obtain ⟨bt, ot, rfl, hbt, p0⟩ := byte_at HrdT.out (show i < text.length by omega)
            obtain ⟨bt2, ot2, hA2, _, p1⟩ := byte_at HrdT.out (show i - D < text.length by omega)
            obtain ⟨rfl, rfl⟩ : bt = bt2 ∧ ot = ot2 := by simpa using hA2
            have hfq : farB text D i = (text.getD i 0 == text.getD (i - D) 0) := by
              unfold farB
              rw [decide_eq_false (by omega), Bool.false_or, Int.toNat_natCast]
            have hDi : (D : Int) ≤ (i : Int) := by omega
            have HFq := hid hfq
            clear hA2 hfq
            generalize text.getD i 0 = x at *
            generalize text.getD (i - D) 0 = y at *
            by_cases hxy : x = y
            · subst hxy
              go_upto_region 16 with (fail)
              go_quiet (fail)
              go_wp2
              go_roundw
              case rel =>
                refine ⟨i + 1, q0 + nq, by go_num, by omega, by omega, by simp, fun q h1 h2 => ?_⟩
                by_cases hq : q = i
                · subst hq; rw [HFq.out]; exact beq_self_eq_true _
                · exact Hall.out q h1 (by omega)
              case measure => simp [intOf]; omega
            · have e := Hno.out (fitT_no fun h => by
                have h2 := h.2.2
                rw [if_neg hz] at h2
                have := h2 (i - k) (by rw [← Hn.out]; omega)
                rw [show k + (i - k) = i by omega, HFq.out] at this
                exact hxy (beq_iff_eq.1 this))
              go_upto_region 16 with (fail)
              go_quiet (fail)
              go_wp2
              go_ret
              exact ⟨by rw [e]; rfl, below_drewN (below_drewN hal.out q0) nq⟩
          · have hDi : ¬ (D : Int) ≤ (i : Int) := by omega
            have hfq : farB text D i = true := by unfold farB; rw [decide_eq_true (by omega), Bool.true_or]
            have HFq := hid hfq
            clear hfq
            go_upto_region 16 with (fail)
            go_quiet (fail)
            go_wp2
            go_roundw
            case rel =>
              refine ⟨i + 1, q0 + nq, by go_num, by omega, by omega, by simp, fun q h1 h2 => ?_⟩
              by_cases hq : q = i
              · subst hq; exact HFq.out
              · exact Hall.out q h1 (by omega)
            case measure => simp [intOf]; omega
        · have hin : ¬ ((i : Int) < (k : Int) + (n : Int)) := by omega
          have e := Hyes.out n (fitT_iff.2 ⟨Hg.out, by rw [← Hn.out]; omega, by rw [if_neg hz]; exact fun q hq => Hall.out (k + q) (by omega) (by rw [← Hn.out] at hq; omega)⟩) Hn.out.symm
          have E := hid e
          clear e
          go_wp2
          go_roundw
          case rel => exact ⟨j + 1, k + n, by omega, by omega, by go_num, by go_num, E.out, below_drewN hal.out q0⟩
          case measure => simp [intOf]; omega
    · have e : j = l.length := by omega
      subst e
      have e : fitM text 0 l = (k == text.length) := by rw [Hf.out, List.drop_length, fitM]
      have E := hid e
      clear e
      go_wp2
      go_ret
      exact ⟨by rw [E.out, ← beq_cast]; rfl, hb⟩
end Go.Proofs.YthhllollhjpheaaGreat

namespace Go.Proofs.YthhllollhjpheaaGreat
open Go.RowKit
set_option maxRecDepth 100000 in
set_option maxHeartbeats 8000000 in
theorem check10_any (A B : Option Addr) (c d : Nat) (kind : Int) (l : List (Int × Int)) (text : List Int) (W : World) (hr : Rd W W.heap.size 2 A l.length (l.flatMap encTok)) (ht : Rd W W.heap.size 1 B text.length (bytesV text)) (hm : l.length ≤ 1000000) (hm2 : text.length ≤ 1000000) (hok : ∀ t ∈ l, okTok t) (hB : ∀ x ∈ text, isB x) (g : Bool) (hg : blkGood kind l text = g) :
    Calls Tryz.prog 37 #[.agg #[.int .i64 kind, .slice A l.length c, .slice B text.length d]] W fun e w' => e = .returned (match (generalizing := false) g with | true => .nilIface | false => .iface 54 (.int .i64 6)) ∧ Below W.heap.size W w' := by
  have hal : Below W.heap.size W (W.alloc (.cells #[.int .i64 kind, .slice A l.length c, .slice B text.length d] 36)) := (Below.refl _ _).alloc (Nat.le_refl _) _
  have hcall := sound10_any A B c d l text (W.alloc (.cells #[.int .i64 kind, .slice A l.length c, .slice B text.length d] 36)) ((hr.below hal (Nat.le_refl _)).more hal.size) ((ht.below hal (Nat.le_refl _)).more hal.size) hm hm2 hok hB
  have Hal := hid hal
  have Hc := hid hcall
  have hmm : (text.length : Int) ≤ 1000000 := by omega
  have z0 := (Blk.new W 36 #[.int .i64 kind, .slice A l.length c, .slice B text.length d]).cell 0
  have z2 := (Blk.new W 36 #[.int .i64 kind, .slice A l.length c, .slice B text.length d]).cell 2
  have z3 := (Blk.new W 36 #[.int .i64 kind, .slice A l.length c, .slice B text.length d]).lt
  simp only [List.getElem?_toArray, List.getElem?_cons_zero, List.getElem?_cons_succ] at z0 z2
  have Zb := hid (Blk.new W 36 #[.int .i64 kind, .slice A l.length c, .slice B text.length d])
  unfold blkGood at hg
  clear hr ht hok hB hal hcall
  go_enter Tryz.func37, Tryz.ntmps37
  by_cases h1 : kind < 0
  · have e : g = false := by rw [← hg, decide_eq_false (by omega), Bool.false_and]
    subst e
    clear hg
    go_wp2_with fail
    go_ret
    exact ⟨rfl, Hal.out⟩
  by_cases h2 : 2 < kind
  · have e : g = false := by rw [← hg, decide_eq_false (by omega), Bool.false_and]
    subst e
    clear hg
    go_wp2_with fail
    go_ret
    exact ⟨rfl, Hal.out⟩
  have e : g = (fitM text 0 l && decide (kind = 0 → text.length ≤ 65535)) := by rw [← hg, decide_eq_true (by omega), Bool.true_and]
  have E := hid e
  clear e hg
  cases hf : fitM text 0 l with
  | false =>
    have e : g = false := by rw [E.out, hf, Bool.false_and]
    subst e
    rw [hf] at Hc
    have hc := Hc.out
    clear hf
    go_wp2_with fail
    refine hc.mono ?_
    rintro e w1 ⟨rfl, hb1⟩
    go_wp2_with fail
    go_ret
    exact ⟨rfl, Hal.out.trans (hb1.mono Hal.out.size)⟩
  | true =>
    rw [hf] at Hc
    have hc := Hc.out
    have E2 := hid (show g = decide (kind = 0 → text.length ≤ 65535) by rw [E.out, hf, Bool.true_and])
    clear hf E
    by_cases hk0 : kind = 0
    · subst hk0
      by_cases hbig : 65535 < text.length
      · have e : g = false := by rw [E2.out]; exact decide_eq_false fun h => by have := h rfl; omega
        subst e
        go_wp2_with fail
        refine hc.mono ?_
        rintro e w1 ⟨rfl, hb1⟩
        have q0 := (Zb.out.below hb1 Zb.out.lt).cell 0
        have q2 := (Zb.out.below hb1 Zb.out.lt).cell 2
        simp only [List.getElem?_toArray, List.getElem?_cons_zero, List.getElem?_cons_succ] at q0 q2
        have g2 := hb1.size
        go_wp2_with fail
        go_ret
        exact ⟨rfl, Hal.out.trans (hb1.mono Hal.out.size)⟩
      · have e : g = true := by rw [E2.out]; exact decide_eq_true fun _ => by omega
        subst e
        go_wp2_with fail
        refine hc.mono ?_
        rintro e w1 ⟨rfl, hb1⟩
        have q0 := (Zb.out.below hb1 Zb.out.lt).cell 0
        have q2 := (Zb.out.below hb1 Zb.out.lt).cell 2
        simp only [List.getElem?_toArray, List.getElem?_cons_zero, List.getElem?_cons_succ] at q0 q2
        have g2 := hb1.size
        go_wp2_with fail
        go_ret
        exact ⟨rfl, Hal.out.trans (hb1.mono Hal.out.size)⟩
    · have e : g = true := by rw [E2.out]; exact decide_eq_true fun h => absurd h hk0
      subst e
      go_wp2_with fail
      refine hc.mono ?_
      rintro e w1 ⟨rfl, hb1⟩
      have q0 := (Zb.out.below hb1 Zb.out.lt).cell 0
      have q2 := (Zb.out.below hb1 Zb.out.lt).cell 2
      simp only [List.getElem?_toArray, List.getElem?_cons_zero, List.getElem?_cons_succ] at q0 q2
      have g2 := hb1.size
      go_wp2_with fail
      go_ret
      exact ⟨rfl, Hal.out.trans (hb1.mono Hal.out.size)⟩
end Go.Proofs.YthhllollhjpheaaGreat
