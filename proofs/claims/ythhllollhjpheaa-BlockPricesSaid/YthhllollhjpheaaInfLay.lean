/-
  inflate.lay: tokens without a fault, written out.
-/
import Derived.Test.YthhllollhjpheaaInfPut
namespace Go.Proofs.Ythhllollhjpheaa
open Go.RowKit

theorem Blk.new1 (w : World) (o : Obj) (t : TypeId) (cs : Array Value) : Blk ((w.alloc o).alloc (.cells cs t)) (w.heap.size + 1) t cs := by
  have := Blk.new (w.alloc o) t cs
  rwa [World.size_alloc] at this

theorem scan_step {most s : Int} {t : Int × Int} {r : List (Int × Int)} (h : scan most (t :: r) s = 0) : tgood t = true ∧ ¬ (0 < t.1 ∧ s < t.2) ∧ s + tn t ≤ most ∧ scan most r (s + tn t) = 0 := by
  unfold scan at h
  split at h
  · rename_i he
    unfold terr at he
    split at he
    · omega
    · rename_i hg
      split at he
      · omega
      · split at he
        · omega
        · exact ⟨by simpa using hg, by assumption, by omega, h⟩
  · rename_i he
    exact absurd h he

def LayEnd (toks : List (Int × Int)) (W : World) (e : Ending) (w' : World) : Prop :=
  ∃ A c, e = .returned (.slice A (toks.foldl layTok []).length c) ∧ w'.ownsRow W.heap.size 5 1 (.slice A (toks.foldl layTok []).length c) (toks.foldl layTok []).length (bytesV (toks.foldl layTok [])) ∧ Below W.heap.size W w'

set_option maxRecDepth 100000 in
set_option maxHeartbeats 4000000 in
theorem lay_any (A : Option Addr) (c : Nat) (l : List (Int × Int)) (most size : Int) (W : World) (hr : Rd W W.heap.size 2 A l.length (l.flatMap encTok)) (hm : l.length ≤ 4194304) (h0 : 0 ≤ size) (h1 : size ≤ 4194304) (hmost : most ≤ 4194304) (hsc0 : scan most l 0 = 0) :
    Calls Try.prog 63 #[.slice A l.length c, .int .i64 size] W (LayEnd l W) := by
  obtain ⟨sz, rfl⟩ := Int.eq_ofNat_of_zero_le h0
  have Hr := hid hr
  have Hsc0 := hid hsc0
  clear hr hsc0
  obtain ⟨i0, hi0, hz0, hz1, hz2⟩ := info_parts byte_info
  have Hi0 := hid hi0
  have Hz0 := hid hz0
  have Hz1 := hid hz1
  have Hz2 := hid hz2
  clear hi0 hz0 hz1 hz2
  go_enter Try.func63, Try.ntmps63
  go_wp2_with (refine wpList_make_own _ rfl _ _ _ rfl W.heap.size 5 i0 (.int .u8 0) 1 Try.underlying22 Hi0.out Hz0.out Hz1.out .i64 .i64 (sz : Int) sz rfl rfl rfl (by rw [Hz2.out]; omega) (by simp only [maxLen]; omega) (Nat.le_refl _) ?_; intro w0 hown0 hgr0)
  have hb0 : Below W.heap.size W w0 := (Below.refl _ W).grown hgr0 (Nat.le_refl _) (fun _ h => by cases h)
  have Hown0 := hid hown0
  have Hb0 := hid hb0
  clear hown0 hgr0 hb0
  go_loopw [5, 12] (fun o i wr => ∃ (j : Nat) (out : List Int) (A' : Option Addr) (c' : Nat), j ≤ l.length ∧ i = .int .i64 j ∧ o = .slice A' out.length c' ∧ wr.ownsRow W.heap.size 5 1 (.slice A' out.length c') out.length (bytesV out) ∧
      scan most (l.drop j) out.length = 0 ∧ l.foldl layTok [] = (l.drop j).foldl layTok out ∧ (out.length : Int) ≤ 4194304 ∧ Below W.heap.size W wr) (fun _ i _ => l.length - (intOf i).toNat)
  case atStart => exact ⟨0, [], _, sz, by omega, rfl, rfl, Hown0.out, Hsc0.out, rfl, by simp, Hb0.out⟩
  case round =>
    obtain ⟨j, out, A', c', hj, rfl, rfl, hown, hsc, hfo, hle, hb⟩ := hrel
    obtain ⟨wo, rfl⟩ : ∃ wo : World, wo = wr := ⟨_, rfl⟩
    have Hown := hid hown
    have Hfo := hid hfo
    have hsz := hb.size
    have Hb := hid hb
    clear hown hfo hb
    by_cases hlt : j < l.length
    · obtain ⟨b, off, rfl, hbb, q0, q1⟩ := tok_at (Hr.out.below Hb.out (Nat.le_refl _)) hlt
      have Hd := hid (drop_cons l j hlt)
      rw [Hd.out] at hsc
      generalize l[j] = t at *
      obtain ⟨tl, td⟩ := t
      obtain ⟨hg, hfar, hsm, hsn⟩ := scan_step hsc
      have Hsn := hid hsn
      have hgg := tgood_true.1 hg
      simp only at hgg hfar
      clear hsc hsn hg
      have Hfo2 : Hid (l.foldl layTok [] = (l.drop (j + 1)).foldl layTok (iterB (tl, td) (tn (tl, td)).toNat out)) := by rw [Hfo.out, Hd.out]; rfl
      by_cases hpos : 0 < tl
      · obtain ⟨g1, g2, g3, g4⟩ : 3 ≤ tl ∧ tl ≤ 258 ∧ 1 ≤ td ∧ td ≤ 32768 := by omega
        have htn : tn (tl, td) = tl := by unfold tn; rw [if_pos hpos]
        rw [htn] at hsm Hfo2 Hsn
        clear hgg htn
        obtain ⟨d, rfl⟩ := Int.eq_ofNat_of_zero_le (show 0 ≤ td by omega)
        obtain ⟨n, rfl⟩ := Int.eq_ofNat_of_zero_le (show 0 ≤ tl by omega)
        have n1 : ((n : Int) == 0) = false := by rw [beq_eq_false_iff_ne]; omega
        have n2 : d ≤ out.length := by omega
        have n4 : (n : Int) ≠ 0 := by omega
        clear hfar
        go_wp2
        have k1 : Blk (wo.alloc (.cells #[.int .i64 n, .int .i64 d] 54)) wo.heap.size 54 #[.int .i64 n, .int .i64 d] := Blk.new wo 54 #[.int .i64 n, .int .i64 d]
        have K1 := hid k1
        clear k1
        go_loopw [5, 27] (fun o kv wi => ∃ (k : Nat) (A2 : Option Addr) (c2 : Nat), k ≤ n ∧ kv = .int .i64 k ∧ o = .slice A2 (out.length + k) c2 ∧ wi.ownsRow W.heap.size 5 1 (.slice A2 (out.length + k) c2) (out.length + k) (bytesV (iterB ((n : Int), (d : Int)) k out)) ∧
          Blk wi wo.heap.size 54 #[.int .i64 n, .int .i64 d] ∧ Below W.heap.size W wi) (fun _ kv _ => n - (intOf kv).toNat)
        case atStart => exact ⟨0, A', c', by omega, rfl, rfl, Hown.out.alloc _, K1.out, Hb.out.alloc hsz _⟩
        case round =>
          obtain ⟨k, A2, c2, hk, rfl, rfl, hown2, k2, hbw2⟩ := hrel
          have q3 := k2.cell 0
          have q4 := k2.cell 1
          simp only [List.getElem?_toArray, List.getElem?_cons_zero, List.getElem?_cons_succ] at q3 q4
          by_cases hkn : k < n
          · obtain ⟨g, u, rfl, hg1, hg2, hu, hcell⟩ := own_cell (j := out.length + k - d) hown2 (by omega)
            have Hu := hid hu
            have Hk2 := hid k2
            have Hbw2 := hid hbw2
            have Hown2 := hid hown2
            clear hu k2 hbw2 hown2
            obtain ⟨x, rfl⟩ : ∃ x, u = .int .u8 x := by
              have := Hu.out
              simp only [bytesV, List.getElem?_map] at this
              cases hx : (iterB ((n : Int), (d : Int)) k out)[out.length + k - d]? with
              | none => rw [hx] at this; simp at this
              | some x => rw [hx] at this; simp at this; exact ⟨x, this.symm⟩
            have Hx : Hid (bytesV (iterB ((n : Int), (d : Int)) k out) ++ [.int .u8 x] = bytesV (iterB ((n : Int), (d : Int)) (k + 1) out)) := by
              have := Hu.out
              simp only [bytesV, List.getElem?_map] at this
              show _ = bytesV (stepB _ _)
              unfold stepB bytesV
              rw [List.map_append, if_pos (show (0 : Int) < (n : Int) by omega), iterB_length]
              simp only [List.map_cons, List.map_nil]
              rw [List.getD_eq_getElem?_getD]
              simp only [Int.toNat_natCast]
              cases hx : (iterB ((n : Int), (d : Int)) k out)[out.length + k - d]? with
              | none => rw [hx] at this; simp at this
              | some x => rw [hx] at this; simp at this; subst this; rfl
            have hszr := Hbw2.out.size
            go_wp2_with (at_builtin; refine wpList_app _ rfl _ _ _ rfl W.heap.size 5 i0 (.int .u8 0) 1 1 Try.underlying22 Hi0.out Hz0.out Hz1.out Hz2.out rfl (by omega) (some ⟨g, 0, none⟩) (out.length + k) c2 _ rfl (Hown2.out.alloc _) _ _ 1 1 [.int .u8 x] rfl (rd_one _ _ _ _ (Blk.new _ _ _)) (by simp) (by simp [Value.oneCell']) (by simp only [maxLen]; omega) (by omega) (by simp; omega) ?_; rintro A3 c3 w3 ⟨hown3, hgr3, hb3, _⟩)
            go_roundw
            case rel => exact ⟨k + 1, A3, c3, by omega, by go_num, rfl, by rw [← Hx.out]; exact hown3, (Hk2.out.alloc _).grown hgr3 (own_blk_ne Hown2.out Hk2.out (by decide)), (Hbw2.out.alloc hszr _).trans hb3⟩
            case measure => simp [intOf]; omega
          · have ek : k = n := by omega
            subst ek
            clear q3 q4
            have Hk2 := hid k2
            have Hbw2 := hid hbw2
            have Hown2 := hid hown2
            clear k2 hbw2 hown2
            go_wp2
            go_roundw
            case rel => exact ⟨j + 1, iterB ((k : Int), (d : Int)) k out, A2, c2, by omega, by go_num, by rw [iterB_length], by rw [iterB_length]; exact Hown2.out, by rw [iterB_length]; push_cast; exact Hsn.out, by have := Hfo2.out; rwa [Int.toNat_natCast] at this, by rw [iterB_length]; push_cast; omega, Hbw2.out⟩
            case measure => simp [intOf]; omega
      · obtain rfl : tl = 0 := by omega
        obtain ⟨g1, g2⟩ : 0 ≤ td ∧ td ≤ 255 := by omega
        have htn : tn (0, td) = 1 := rfl
        rw [htn] at hsm Hfo2 Hsn
        clear hgg htn hfar
        obtain ⟨d, rfl⟩ := Int.eq_ofNat_of_zero_le g1
        have Hx : Hid (bytesV out ++ [.int .u8 d] = bytesV (iterB (0, (d : Int)) 1 out)) := by
          show _ = bytesV (stepB _ _)
          unfold stepB bytesV
          rw [List.map_append, if_neg (by simp)]
          rfl
        have K1 := hid (Blk.new wo 54 #[.int .i64 0, .int .i64 d])
        go_wp2_with (at_builtin; refine wpList_app _ rfl _ _ _ rfl W.heap.size 5 i0 (.int .u8 0) 1 1 Try.underlying22 Hi0.out Hz0.out Hz1.out Hz2.out rfl (by omega) A' out.length c' _ rfl ((Hown.out.alloc _).alloc _) _ _ 1 1 [.int .u8 d] rfl (rd_one _ _ _ _ (Blk.new1 _ _ _ _)) (by simp) (by simp [Value.oneCell']) (by simp only [maxLen]; omega) (by omega) (by simp; omega) ?_; rintro A3 c3 w3 ⟨hown3, hgr3, hb3, _⟩; have k3 := (Blk.alloc K1.out (.cells #[.int .u8 d] 5)).grown hgr3 (own_blk_ne (Hown.out.alloc _) K1.out (by decide)); have q3 := k3.cell 0; have q4 := k3.cell 1; simp only [List.getElem?_toArray, List.getElem?_cons_zero, List.getElem?_cons_succ] at q3 q4; have Hown3 := hid hown3; have Hb3 := hid hb3; have Hgr3 := hid hgr3; clear k3 hown3 hb3 hgr3)
        go_loop [5, 27] (fun o kv => o = .slice A3 (out.length + 1) c3 ∧ kv = .int .i64 0) (fun _ _ => 0)
        case atStart => exact ⟨rfl, rfl⟩
        case round =>
          obtain ⟨rfl, rfl⟩ := hrel
          have hl1 : (iterB (0, (d : Int)) 1 out).length = out.length + 1 := iterB_length _ _ _
          have Hl1 := hid hl1
          clear hl1
          go_wp2
          go_roundw
          case rel => exact ⟨j + 1, iterB (0, (d : Int)) 1 out, A3, c3, by omega, by go_num, by rw [Hl1.out], by rw [Hl1.out, ← Hx.out]; exact Hown3.out, by rw [Hl1.out]; push_cast; exact Hsn.out, Hfo2.out, by rw [Hl1.out]; push_cast; omega, ((Hb.out.alloc hsz _).alloc (by simp; omega) _).trans Hb3.out⟩
          case measure => simp [intOf]; omega
    · go_wp2
      go_ret
      have e : j = l.length := by omega
      subst e
      have hf0 := Hfo.out
      rw [List.drop_length] at hf0
      have hf1 : l.foldl layTok [] = out := hf0
      refine ⟨A', c', ?_, by rw [hf1]; exact Hown.out, Hb.out⟩
      rw [hf1]; rfl

end Go.Proofs.Ythhllollhjpheaa
