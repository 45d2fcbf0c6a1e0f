/-
  burnishref06.Tokens: the blocks, in plain Lean.
  burnishref06.Tokens, walked.
  The reference's inflate: a block's symbols, walked.
-/
import Derived.Test.YthhllollhjpheaaGreatBkWwx22
import Derived.Test.YthhllollhjpheaaGreatBkWwx23
import Derived.Test.YthhllollhjpheaaGreatBkWwx24
namespace Go.Proofs.YthhllollhjpheaaGreat
open Go.RowKit

theorem rtake_gen1 {v : Rv} {w : World} {s : Sk} {b : Int} (h : RI v w s b) (n : Nat) (hn : n ≤ 32) (h1 : 1 ≤ n) : Calls Tryz.prog 48 #[.pointer (some ⟨v.g, 0, none⟩), .int .i64 (n : Int)] w fun e w' => ∃ (x : Nat) (s' : Sk) (b' : Int), e = .returned (.int .i64 (x : Int)) ∧ RI v w' s' b' ∧ Kp w w' ∧ TkG v n s b x s' b' := by
  have hp : 0 < 2 ^ n := Nat.pow_pos (by decide)
  by_cases hL : 0 < v.L.length
  · exact rtake_gen h n hn hL
  · by_cases hb : b = 0
    · subst hb
      have hk : v.L.length < s.k + n := by omega
      refine (rtake_no h n hk hn).mono ?_
      rintro e w' ⟨rfl, h1, h2⟩
      exact ⟨0, s, 8, rfl, h1, h2, hp, fun h => absurd rfl h, fun _ => .inl ⟨tkM_none hk, rfl, rfl⟩⟩
    · refine (rtake_bad h hb (n : Int)).mono ?_
      rintro e w' ⟨rfl, h1, h2⟩
      exact ⟨0, s, b, rfl, h1, h2, hp, fun _ => ⟨rfl, rfl⟩, fun h => absurd h hb⟩
/-- which tokens packed bytes are, by the reference -/
def RTk (bl : List Int) (most : Int) (W : World) (e : Ending) (w' : World) : Prop := Below W.heap.size W w' ∧ match infM (bitsL bl) most with
  | .error k => k ≠ 0 ∧ e = .returned (.tuple #[.slice none 0 0, .int .i64 0, .int .i64 k])
  | .ok s2 => ∃ T tc, e = .returned (.tuple #[.slice T s2.toks.length tc, .int .i64 (((s2.k + 7) / 8 : Nat) : Int), .int .i64 0]) ∧ w'.ownsRow W.heap.size 67 2 (.slice T s2.toks.length tc) s2.toks.length (s2.toks.flatMap encTok) ∧ (s2.toks.length : Int) ≤ most
/-- where the blocks stand -/
def BkG (v : Rv) (r : Except Int Sk) (last : Nat) (s : Sk) (b : Int) : Prop :=
  (b ≠ 0 → r = .error b) ∧ (b = 0 → (last = 0 → ∃ f, v.L.length + 1 ≤ f + s.k ∧ r = runM v.L v.most f s) ∧ (last ≠ 0 → r = .ok s))
/-- what a block's bits behind its head say -/
def bodM (L : List Int) (most : Int) (kind : Int) (s : Sk) : Except Int Sk :=
  if kind = 0 then storedM L most s else if kind = 1 then symsAll fixL fixD L most s else if kind = 2 then (match dynM L s.k with
    | .error e => .error e
    | .ok (k2, l, d) => symsAll l d L most ⟨k2, s.size, s.toks⟩) else .error 2
theorem bk_head {v : Rv} {r : Except Int Sk} {s s1 s2 : Sk} {x y : Nat} {b1 b2 : Int} (h : BkG v r 0 s 0) (hk : s.k ≤ v.L.length) (h1 : TkG v 1 s 0 x s1 b1) (h2 : TkG v 2 s1 b1 y s2 b2) :
    (b2 ≠ 0 → r = .error b2) ∧ (b2 = 0 → s2 = ⟨s.k + 3, s.size, s.toks⟩ ∧ x < 2 ∧ 0 < v.L.length ∧ ∃ f, v.L.length + 1 ≤ f + 1 + s.k ∧ r = match bodM v.L v.most (y : Int) s2 with
      | .error e => .error e
      | .ok s3 => if x = 1 then .ok s3 else runM v.L v.most f s3) := by
  obtain ⟨f, hf, hr⟩ := (h.2 rfl).1 rfl
  obtain ⟨f1, rfl⟩ : ∃ f1, f = f1 + 1 := ⟨f - 1, by omega⟩
  rw [runM] at hr
  unfold blockM at hr
  rcases h1.2.2 rfl with ⟨t1, _, rfl⟩ | ⟨t1, rfl, rfl⟩
  · rw [t1] at hr
    have e2 := (h2.2.1 (by decide)).2
    exact ⟨fun _ => by rw [e2]; exact hr, fun h => absurd (e2.symm.trans h) (by decide)⟩
  · rw [t1] at hr
    dsimp only at hr
    rcases h2.2.2 rfl with ⟨t2, _, rfl⟩ | ⟨t2, rfl, rfl⟩
    · have t2 : tkM v.L (s.k + 1) 2 = none := t2
      rw [t2] at hr
      exact ⟨fun _ => hr, fun h => absurd h (by decide)⟩
    · have t2 : tkM v.L (s.k + 1) 2 = some (y : Int) := t2
      rw [t2] at hr
      dsimp only at hr
      have hpos : 0 < v.L.length := by
        unfold tkM at t1
        by_cases hh : v.L.length < s.k + 1
        · rw [if_pos hh] at t1; cases t1
        · omega
      refine ⟨fun h => absurd rfl h, fun _ => ⟨rfl, h1.1, hpos, f1, by omega, ?_⟩⟩
      rw [hr]
      have hx := h1.1
      show (match (match bodM v.L v.most (y : Int) ⟨s.k + 3, s.size, s.toks⟩ with
        | .error e => (Except.error e : Except Int (Bool × Sk))
        | .ok s2 => .ok (decide ((x : Int) = 1), s2)) with
        | .error e => (Except.error e : Except Int Sk)
        | .ok (true, s2) => .ok s2
        | .ok (false, s2) => runM v.L v.most f1 s2) = match bodM v.L v.most (y : Int) ⟨s.k + 3, s.size, s.toks⟩ with
        | .error e => .error e
        | .ok s3 => if x = 1 then .ok s3 else runM v.L v.most f1 s3
      cases bodM v.L v.most (y : Int) ⟨s.k + 3, s.size, s.toks⟩ with
      | error e => rfl
      | ok s3 =>
        dsimp only
        by_cases h1 : x = 1
        · rw [if_pos h1, decide_eq_true (by omega)]
        · rw [if_neg h1, decide_eq_false (by omega)]
theorem bodM_k {L : List Int} {most : Int} {kind : Int} {s s3 : Sk} (h : bodM L most kind s = .ok s3) : s.k ≤ s3.k := by
  unfold bodM at h
  split at h
  · exact storedM_k h
  · split at h
    · exact symsM_k h
    · split at h
      · split at h
        · cases h
        · rename_i hd
          have h1 := dynM_k hd
          have h2 := symsM_k h
          simp only at h2
          omega
      · cases h
/-- a block's end -/
theorem bk_next {v : Rv} {r q : Except Int Sk} {s s2 : Sk} {x f : Nat} (hf : v.L.length + 1 ≤ f + 1 + s.k) (hs2 : s2.k = s.k + 3) (hr : r = match q with
      | .error e => .error e
      | .ok s3 => if x = 1 then .ok s3 else runM v.L v.most f s3) (hx : x < 2) (hq : ∀ s3, q = .ok s3 → s2.k ≤ s3.k) :
    (∀ k s', q = .error k → k ≠ 0 → BkG v r x s' k) ∧ (∀ s3, q = .ok s3 → BkG v r x s3 0) := by
  refine ⟨fun k s' h h0 => ⟨fun _ => by rw [hr, h], fun h => absurd h h0⟩, fun s3 h => ⟨fun h => absurd rfl h, fun _ => ⟨fun hx0 => ⟨f, by have := hq s3 h; omega, by rw [hr, h]; dsimp only; rw [if_neg (by omega)]⟩, fun hx1 => by rw [hr, h]; dsimp only; rw [if_pos (by omega)]⟩⟩⟩
end Go.Proofs.YthhllollhjpheaaGreat

namespace Go.Proofs.YthhllollhjpheaaGreat
open Go.RowKit
/-- what the walk of a block's symbols says (RqL) -/
def SymsSaid : Prop := ∀ (v : Rv) (w : World) (s : Sk), RI v w s 0 → 0 < v.L.length → ∀ (A D : Option Addr) (c d : Nat) (l m : List Int), IRowB w A l → IRowB w D m → l.length ≤ 1000 → m.length ≤ 1000 → lensB l = true → lensB m = true →
    Calls Tryz.prog 51 #[.pointer (some ⟨v.g, 0, none⟩), .slice A l.length c, .slice D m.length d] w fun e w' => e = .returned (.tuple #[]) ∧ ROut v w (symsAll l m v.L v.most s) w'
theorem fix_lensR : lensB fixL = true ∧ lensB fixD = true := by constructor <;> kernel_rfl
theorem dyn_lens {L : List Int} (hL : ∀ x ∈ L, isBit x) {k k2 : Nat} {l d : List Int} (h : dynM L k = .ok (k2, l, d)) : lensB l = true ∧ lensB d = true := by
  unfold dynM at h
  split at h
  · cases h
  rename_i a ha
  split at h
  · cases h
  split at h
  · cases h
  rename_i b hb
  split at h
  · cases h
  split at h
  · cases h
  rename_i c hc
  split at h
  · cases h
  rename_i k3 sm hsm
  split at h
  · cases h
  split at h
  · cases h
  rename_i k4 row hrow
  have hsl := smallM_len _ _ _ _ _ hsm
  have hab := tkM_bd hL ha
  have hbb := tkM_bd hL hb
  have hr := rowM_bd hL (by rw [hsl]; simp) _ _ [] _ _ (fun x hx => absurd hx List.not_mem_nil) (Nat.zero_le _) (by simp) hrow
  have hrl : row.length = 258 + a.toNat + b.toNat := hr.2
  split at h
  · cases h
  rename_i hno
  injection h with h
  injection h with _ h
  injection h with h1 h2
  subst h1 h2
  have n1 : fullB (row.take (257 + a.toNat)) = true := by
    cases hf : fullB (row.take (257 + a.toNat)) with
    | true => rfl
    | false => exact absurd (.inl hf) hno
  refine ⟨full_lens n1, ?_⟩
  cases hf : fullB (row.drop (257 + a.toNat)) with
  | true => exact full_lens hf
  | false =>
    refine few_lens ?_ (fun x hx => (hr.1 x (List.mem_of_mem_drop hx)).1) ?_
    · rw [List.length_drop, hrl]
      have h5 : (2 : Int) ^ 5 = 32 := by decide
      rw [h5] at hab hbb
      omega
    · have : ¬ 1 < (row.drop (257 + a.toNat)).sum := fun h => hno (.inr (.inr ⟨hf, h⟩))
      omega
theorem rout_bk {v : Rv} {w w' : World} {r q : Except Int Sk} {x : Nat} (h : ROut v w q w') (hb : (∀ k s', q = .error k → k ≠ 0 → BkG v r x s' k) ∧ (∀ s3, q = .ok s3 → BkG v r x s3 0)) : ∃ s' b', RI v w' s' b' ∧ BkG v r x s' b' ∧ (b' = 0 → q = .ok s') := by
  cases q with
  | error k =>
    obtain ⟨_, h0, s', h1⟩ := h
    exact ⟨s', k, h1, hb.1 k s' rfl h0, fun h => absurd h h0⟩
  | ok s3 => exact ⟨s3, 0, h.2, hb.2 s3 rfl, fun _ => rfl⟩
theorem rtk_err {bl : List Int} {most k : Int} {W w' : World} (h : infM (bitsL bl) most = .error k) (h0 : k ≠ 0) (hb : Below W.heap.size W w') : RTk bl most W (.returned (.tuple #[.slice none 0 0, .int .i64 0, .int .i64 k])) w' := by
  refine ⟨hb, ?_⟩
  rw [h]
  exact ⟨h0, rfl⟩
def mBk (g N : Nat) (x : Value) (w : World) : Nat := if badOf g w = 0 ∧ intOf x = 0 then N + 2 - atOf g w else 0
theorem mBk_lt {v : Rv} {w w' : World} {s s' : Sk} {b' : Int} {x : Nat} (h : RI v w s 0) (h' : RI v w' s' b') (hk : b' = 0 → s.k < s'.k) : mBk v.g v.L.length (.int .i64 (x : Int)) w' < mBk v.g v.L.length (.int .i64 0) w := by
  have e1 : mBk v.g v.L.length (.int .i64 0) w = v.L.length + 2 - s.k := by unfold mBk; rw [if_pos ⟨badOf_eq h, rfl⟩, atOf_eq h]
  rw [e1]
  unfold mBk
  rw [badOf_eq h', atOf_eq h']
  have := h.kl
  split
  · rename_i hb
    have := hk hb.1
    have := h'.kl
    omega
  · omega
set_option maxRecDepth 100000 in
set_option maxHeartbeats 8000000 in
theorem rtok_in (SA : SymsSaid) (A : Option Addr) (c : Nat) (bl : List Int) (most : Int) (W : World) (hr : Rd W W.heap.size 1 A bl.length (bytesV bl)) (hb : ∀ x ∈ bl, isB x) (hm : bl.length ≤ 100000) (h0 : 0 ≤ most) (h1 : most ≤ 4194304) : Calls Tryz.prog 21 #[.slice A bl.length c, .int .i64 most] W (RTk bl most W) := by
  have BA := hid (bits_any A c bl W hr hb (by omega))
  obtain ⟨nb, hnb⟩ : ∃ nb, nb = bl.length := ⟨_, rfl⟩
  rw [← hnb] at BA ⊢
  have d1 : decide (most < 0) = false := decide_eq_false (by omega)
  have d2 : decide (4194304 < most) = false := decide_eq_false (by omega)
  have HBL := hid (bitsL_length bl)
  have hm8 : (bitsL bl).length ≤ 800000 := by rw [HBL.out]; omega
  have Hm8 := hid hm8
  have HM := hid (show 0 ≤ most ∧ most ≤ 4194304 from ⟨h0, h1⟩)
  clear hr hb hm hnb hm8
  go_enter Tryz.func21, Tryz.ntmps21
  go_wp2_with fail
  refine BA.out.mono ?_
  rintro e w1 ⟨LA, lc, rfl, ho1, hb1⟩
  have O1 := hid ho1
  have B1 := hid hb1
  clear ho1 hb1
  go_upto_region 5 with (fail)
  obtain ⟨g, hg⟩ : ∃ g, g = w1.heap.size := ⟨_, rfl⟩
  have Hg := hid hg
  rw [← hg]
  generalize hw2 : World.alloc w1 _ = w2
  obtain ⟨v, hv⟩ : ∃ v : Rv, v = ⟨W, g, LA, lc, bitsL bl, most⟩ := ⟨_, rfl⟩
  have hb2 : Below W.heap.size W w2 := by rw [← hw2]; exact B1.out.trans ((below_alloc1 w1 _).mono B1.out.size)
  have hR : RI v w2 ⟨0, 0, []⟩ 0 := by
    subst hv
    refine ⟨Nat.zero_le _, ⟨none, 0, ?_, World.ownsRow_nil _ _ _ _⟩, ?_, hb2, ?_, bitsL_bit bl, ?_, HM.out, ⟨Int.le_refl _, HM.out.1⟩, Int.le_refl _⟩
    · show Blk w2 g _ _
      rw [← hw2, Hg.out]
      exact Blk.new w1 _ _
    · rw [← hw2]
      exact own_base (own_below O1.out (below_alloc1 w1 _) (Nat.le_refl _)) (Nat.zero_le _)
    · show W.heap.size ≤ g
      rw [Hg.out]; exact B1.out.size
    · show (bitsL bl).length ≤ 1000000
      have := Hm8.out
      omega
  have hvg : v.g = g := by rw [hv]
  have RR := hid hR
  have HVL := hid (show v.L = bitsL bl from by rw [hv])
  have HVW := hid (show v.W = W from by rw [hv])
  have HVm := hid (show v.most = most from by rw [hv])
  rw [← hvg]
  have GG := hid (show BkG v (infM (bitsL bl) most) 0 ⟨0, 0, []⟩ 0 from ⟨fun h => absurd rfl h, fun _ => ⟨fun _ => ⟨v.L.length + 1, by show v.L.length + 1 ≤ v.L.length + 1 + 0; omega, by rw [HVL.out, HVm.out, infM, if_neg (by have := HM.out; omega)]⟩, fun h => absurd rfl h⟩⟩)
  have H8 := hid (show v.L.length % 8 = 0 from by rw [HVL.out, HBL.out]; omega)
  clear hw2 hv hb2 hR hvg hg BA O1 B1
  generalize w2 = w2' at RR ⊢
  have r0 := hid (rfl : infM (bitsL bl) most = infM (bitsL bl) most)
  obtain ⟨r, hr⟩ : ∃ r, r = infM (bitsL bl) most := ⟨_, rfl⟩
  rw [← hr] at GG
  have Hr := hid hr
  have HSA := hid SA
  clear hr r0
  go_loopw [8] (fun v8 wr => ∃ (x : Nat) (sj : Sk) (bj : Int), v8 = .int .i64 (x : Int) ∧ x < 2 ∧ Hid (RI v wr sj bj) ∧ Hid (BkG v r x sj bj)) (fun x wr => mBk v.g v.L.length x wr)
  case atStart => exact ⟨0, ⟨0, 0, []⟩, 0, rfl, by omega, RR, GG⟩
  case round =>
    clear RR GG
    obtain ⟨x, sj, bj, rfl, hx2, R, G⟩ := hrel
    obtain ⟨T, tc, hb, _⟩ := R.out.tok
    unfold inCs at hb
    have q2 := hb.cell 2
    simp only [List.getElem?_toArray, List.getElem?_cons_zero, List.getElem?_cons_succ] at q2
    have hg := hb.lt
    clear hb
    by_cases hex : x = 0 ∧ bj = 0
    · obtain ⟨rfl, rfl⟩ := hex
      have T1 := hid (rtake_gen1 R.out 1 (by decide) (by decide))
      go_wp2_with fail
      refine T1.out.mono ?_
      rintro e w3 ⟨x1, s1, b1, rfl, hr1, hk1, ht1⟩
      have R1 := hid hr1
      have TG1 := hid ht1
      clear hr1 hk1 ht1 q2 hg T1
      go_wp2_with fail
      refine (rtake_gen1 R1.out 2 (by decide) (by decide)).mono ?_
      rintro e w4 ⟨y, s2, b2, rfl, hr2, hk2, ht2⟩
      have R2 := hid hr2
      have hy4 : y < 4 := ht2.1
      have BH := hid (bk_head G.out R.out.kl TG1.out ht2)
      obtain ⟨T2, tc2, hb2, _⟩ := hr2.tok
      unfold inCs at hb2
      have p2 := hb2.cell 2
      simp only [List.getElem?_toArray, List.getElem?_cons_zero, List.getElem?_cons_succ] at p2
      have hg2 := hb2.lt
      clear hb2 hr2 hk2 ht2 TG1
      by_cases hb2 : b2 = 0
      · subst hb2
        obtain ⟨hs2, hx1, hpos, f, hf, hrr⟩ := BH.out.2 rfl
        have HS2 := hid hs2
        have HP := hid hpos
        have HF := hid hf
        have HRR := hid hrr
        have NX := hid (fun (q : Except Int Sk) (hq : bodM v.L v.most (y : Int) s2 = q) (w' : World) (h : ROut v w4 q w') => show ∃ s' b', RI v w' s' b' ∧ BkG v r x1 s' b' ∧ (b' = 0 → sj.k < s'.k) from by
          have hq2 : ∀ s3, q = .ok s3 → s2.k ≤ s3.k := fun s3 h3 => bodM_k (hq.trans h3)
          have hsk : s2.k = sj.k + 3 := by rw [HS2.out]
          obtain ⟨s', b', h1, h2, h3⟩ := rout_bk h (bk_next HF.out hsk (HRR.out.trans (by rw [hq])) hx1 hq2)
          exact ⟨s', b', h1, h2, fun hb => by have := hq2 s' (h3 hb); omega⟩)
        clear hs2 hpos hf hrr BH
        have hcase : y = 0 ∨ y = 1 ∨ y = 2 ∨ y = 3 := by omega
        rcases hcase with hy | hy | hy | hy
        · have HQ := hid (show bodM v.L v.most (y : Int) s2 = storedM v.L v.most s2 from by unfold bodM; rw [if_pos (by omega)])
          have c0 : ((y : Int) == 0) = true := by rw [beq_iff_eq]; omega
          clear hy
          go_wp2_with fail
          refine (rstored_any R2.out H8.out HP.out).mono ?_
          rintro e w5 ⟨rfl, hO⟩
          have N5 := hid (NX.out _ HQ.out w5 hO)
          clear hO
          go_wp2_with fail
          obtain ⟨s5, b5, h1, h2, h3⟩ := N5.out
          exact ⟨⟨x1, s5, b5, rfl, hx1, hid h1, hid h2⟩, mBk_lt R.out h1 h3⟩
        · have HQ := hid (show bodM v.L v.most (y : Int) s2 = symsAll fixL fixD v.L v.most s2 from by unfold bodM; rw [if_neg (by omega), if_pos (by omega)])
          have c0 : ((y : Int) == 0) = false := by rw [beq_eq_false_iff_ne]; omega
          have c1 : ((y : Int) == 1) = true := by rw [beq_iff_eq]; omega
          clear hy
          go_wp2_with fail
          refine (rfixed_any w4).mono ?_
          rintro e w5 ⟨A5, c5, D5, d5, rfl, hA5, hD5, hb5⟩
          have R5 := hid (R2.out.below hb5 (Nat.le_refl _))
          have SY := hid (HSA.out v w5 s2 R5.out.1 HP.out A5 D5 c5 d5 fixL fixD (IRowB.own hA5) (IRowB.own hD5) (by decide) (by decide) fix_lensR.1 fix_lensR.2)
          rw [show fixL.length = 288 from rfl, show fixD.length = 32 from rfl] at SY
          clear hA5 hD5 hb5
          go_wp2_with fail
          refine SY.out.mono ?_
          rintro e w6 ⟨rfl, hO⟩
          have N6 := hid (NX.out _ HQ.out w6 ⟨R5.out.2.trans hO.1, hO.2⟩)
          clear hO
          go_wp2_with fail
          obtain ⟨s6, b6, h1, h2, h3⟩ := N6.out
          exact ⟨⟨x1, s6, b6, rfl, hx1, hid h1, hid h2⟩, mBk_lt R.out h1 h3⟩
        · have HQ := hid (show bodM v.L v.most (y : Int) s2 = (match dynM v.L s2.k with
            | .error e => .error e
            | .ok (k2, l, d) => symsAll l d v.L v.most ⟨k2, s2.size, s2.toks⟩) from by unfold bodM; rw [if_neg (by omega), if_neg (by omega), if_pos (by omega)] <;> rfl)
          have c0 : ((y : Int) == 0) = false := by rw [beq_eq_false_iff_ne]; omega
          have c1 : ((y : Int) == 1) = false := by rw [beq_eq_false_iff_ne]; omega
          have c2 : ((y : Int) == 2) = true := by rw [beq_iff_eq]; omega
          clear hy
          go_wp2_with fail
          refine (rlengths_any R2.out HP.out (fun b h => by obtain ⟨lb, e1, _, e2⟩ := own_block R2.out.lr HP.out; rw [h] at e1; cases e1; exact e2)).mono ?_
          rintro e w5 ⟨hk5, A5, c5, l5, D5, d5, m5, rfl, hA5, hD5, hl5, hm5, hE⟩
          have K5 := hid hk5
          have SY : Hid (Calls Tryz.prog 51 #[.pointer (some ⟨v.g, 0, none⟩), .slice A5 l5.length c5, .slice D5 m5.length d5] w5 fun e w' => e = .returned (.tuple #[]) ∧ ∃ s' b', RI v w' s' b' ∧ BkG v r x1 s' b' ∧ (b' = 0 → sj.k < s'.k)) := hid (by
            cases hd : dynM v.L s2.k with
            | error k =>
              rw [hd] at hE
              obtain ⟨h0, s', hR'⟩ := hE
              refine (rsyms_bad hR' h0 A5 D5 c5 d5 l5 m5 hA5 hD5 hl5 hm5).mono ?_
              rintro e w6 ⟨he, hr6, hk6⟩
              exact ⟨he, NX.out (.error k) (by rw [HQ.out, hd]) w6 ⟨hk5.trans hk6, h0, s', hr6⟩⟩
            | ok p =>
              obtain ⟨k2, l0, d0⟩ := p
              rw [hd] at hE
              obtain ⟨rfl, rfl, hR'⟩ := hE
              have hls := dyn_lens R2.out.bit hd
              refine (HSA.out v w5 _ hR' HP.out A5 D5 c5 d5 l5 m5 hA5 hD5 hl5 hm5 hls.1 hls.2).mono ?_
              rintro e w6 ⟨he, hO⟩
              exact ⟨he, NX.out _ (by rw [HQ.out, hd]) w6 ⟨hk5.trans hO.1, hO.2⟩⟩)
          obtain ⟨n5, hn5⟩ : ∃ n, n = l5.length := ⟨_, rfl⟩
          obtain ⟨n6, hn6⟩ : ∃ n, n = m5.length := ⟨_, rfl⟩
          rw [← hn5, ← hn6] at SY ⊢
          clear hE hA5 hD5 hl5 hm5 hk5 hn5 hn6
          go_wp2_with fail
          refine SY.out.mono ?_
          rintro e w6 ⟨rfl, hO⟩
          have N6 := hid hO
          clear hO
          go_wp2_with fail
          obtain ⟨s6, b6, h1, h2, h3⟩ := N6.out
          exact ⟨⟨x1, s6, b6, rfl, hx1, hid h1, hid h2⟩, mBk_lt R.out h1 h3⟩
        · have HQ := hid (show bodM v.L v.most (y : Int) s2 = .error 2 from by unfold bodM; rw [if_neg (by omega), if_neg (by omega), if_neg (by omega)])
          have c0 : ((y : Int) == 0) = false := by rw [beq_eq_false_iff_ne]; omega
          have c1 : ((y : Int) == 1) = false := by rw [beq_eq_false_iff_ne]; omega
          have c2 : ((y : Int) == 2) = false := by rw [beq_eq_false_iff_ne]; omega
          clear hy
          go_wp2_with fail
          refine (fail_any R2.out 2).mono ?_
          rintro e w5 ⟨rfl, hr5, hk5⟩
          have N5 := hid (NX.out _ HQ.out w5 ⟨hk5, by decide, _, hr5⟩)
          clear hr5 hk5
          go_wp2_with fail
          obtain ⟨s5, b5, h1, h2, h3⟩ := N5.out
          exact ⟨⟨x1, s5, b5, rfl, hx1, hid h1, hid h2⟩, mBk_lt R.out h1 h3⟩
      · have d0 : (b2 == 0) = false := by rw [beq_eq_false_iff_ne]; exact hb2
        have d0b : (b2 != 0) = true := by rw [bne, d0]; rfl
        have HE := hid (BH.out.1 hb2)
        have H0 := hid hb2
        clear hb2 BH
        go_upto_region 20 with (fail)
        go_quiet (fail)
        go_wp2_with fail
        go_ret3
        refine rtk_err (Hr.out.symm.trans HE.out) H0.out ?_
        exact HVW.out ▸ (R2.out.drewN _).1.fr
    · obtain ⟨T3, tc3, hb3, ho3⟩ := R.out.tok
      by_cases hb0 : bj = 0
      · subst hb0
        have hx1 : x ≠ 0 := fun h => hex ⟨h, rfl⟩
        have HE := hid ((G.out.2 rfl).2 hx1)
        have e1 : ((x : Int) == 0) = false := by rw [beq_eq_false_iff_ne]; omega
        obtain ⟨nt, hnt⟩ : ∃ nt, nt = sj.toks.length := ⟨_, rfl⟩
        have Hnt := hid hnt
        have HO := hid ho3
        unfold inCs at hb3
        rw [← hnt] at hb3
        obtain ⟨kk, hkk⟩ : ∃ kk, kk = sj.k := ⟨_, rfl⟩
        have Hkk := hid hkk
        rw [← hkk] at hb3
        have p0 := hb3.cell 0
        have p1 := hb3.cell 1
        have p2 := hb3.cell 2
        have p3 := hb3.cell 3
        have p4 := hb3.cell 4
        have p5 := hb3.cell 5
        simp only [List.getElem?_toArray, List.getElem?_cons_zero, List.getElem?_cons_succ] at p0 p1 p2 p3 p4 p5
        have hg3 := hb3.lt
        have hkl : kk ≤ 800000 := by rw [hkk]; have := R.out.kl; have := Hm8.out; rw [HVL.out] at *; omega
        have tw : IntKind.i64.wrap ((kk : Int) + 7) = (kk : Int) + 7 := IntWalk.i64_in _ (by omega)
        have td : ((kk : Int) + 7).tdiv 8 = (((kk + 7) / 8 : Nat) : Int) := by rw [Int.tdiv_eq_ediv_of_nonneg (by omega)]; omega
        have tw2 : IntKind.i64.wrap ((((kk + 7) / 8 : Nat) : Int)) = (((kk + 7) / 8 : Nat) : Int) := IntWalk.i64_in _ (by omega)
        clear hb3 ho3 hnt hkk hex hx1 q2 hg
        go_upto_region 21 with (fail)
        go_quiet (fail)
        go_wp2_with fail
        go_ret3
        have hR := (R.out.drewN nq).1
        refine ⟨HVW.out ▸ hR.fr, ?_⟩
        rw [← Hr.out, HE.out]
        refine ⟨T3, tc3, ?_, ?_, ?_⟩
        · rw [← Hnt.out, ← Hkk.out]; rfl
        · rw [← HVW.out]; exact own_drewN HO.out _
        · have h1 := R.out.tl
          have h2 := R.out.sz
          rw [HVm.out] at h2
          omega
      · have d0 : (bj == 0) = false := by rw [beq_eq_false_iff_ne]; exact hb0
        have d0b : (bj != 0) = true := by rw [bne, d0]; rfl
        have HE := hid (G.out.1 hb0)
        have H0 := hid hb0
        have hxc : x = 0 ∨ x = 1 := by omega
        clear hb0 hex G hb3 ho3
        rcases hxc with rfl | rfl
        all_goals
          go_upto_region 20 with (fail)
          go_quiet (fail)
          go_wp2_with fail
          go_ret3
          refine rtk_err (Hr.out.symm.trans HE.out) H0.out ?_
          exact HVW.out ▸ (R.out.drewN _).1.fr
end Go.Proofs.YthhllollhjpheaaGreat

namespace Go.Proofs.YthhllollhjpheaaGreat
open Go.RowKit

set_option maxRecDepth 100000 in
set_option maxHeartbeats 8000000 in
theorem rsyms_any {v : Rv} {w : World} {s : Sk} (h : RI v w s 0) (hL : 0 < v.L.length) (A D : Option Addr) (c d : Nat) (l m : List Int) (hl : IRowB w A l) (hd : IRowB w D m) (hlm : l.length ≤ 1000) (hdm : m.length ≤ 1000) (hll : lensB l = true) (hdl : lensB m = true) :
    Calls Tryz.prog 51 #[.pointer (some ⟨v.g, 0, none⟩), .slice A l.length c, .slice D m.length d] w fun e w' => e = .returned (.tuple #[]) ∧ ROut v w (symsAll l m v.L v.most s) w' := by
  have H := hid h
  have Ll := hid hll
  have Ld := hid hdl
  have c1 := hid (codesR A c l w hl hlm)
  have c2 := hid (fun (w' : World) (hk : Kp w w') => codesR D d m w' (hd.kp hk) hdm)
  obtain ⟨N, hN⟩ : ∃ N, N = v.L.length := ⟨_, rfl⟩
  have HN := hid hN
  have hln := h.ln
  rw [← hN] at hL hln
  obtain ⟨nl, hnl⟩ : ∃ nl, nl = l.length := ⟨_, rfl⟩
  obtain ⟨nd, hnd⟩ : ∃ nd, nd = m.length := ⟨_, rfl⟩
  rw [← hnl] at c1 ⊢
  rw [← hnd] at c2 ⊢
  clear h hl hd hlm hdm hnl hnd hll hdl hN
  go_enter Tryz.func51, Tryz.ntmps51
  go_wp2_with fail
  refine c1.out.mono ?_
  rintro e w1 ⟨C, cc, K, rfl, hB1, hb1⟩
  have R1 := hid (H.out.below hb1 (Nat.le_refl _))
  have B1 := hid hB1
  clear hb1 hB1
  go_wp2_with fail
  refine (c2.out w1 R1.out.2).mono ?_
  rintro e w2 ⟨C2, cc2, K2, rfl, hB2, hb2⟩
  have R2 := hid (R1.out.1.below hb2 (Nat.le_refl _))
  have B2 := hid hB2
  clear hb2 hB2
  go_wp2_with fail
  refine (lensB_any w2).mono ?_
  rintro e w3 ⟨a3, b3, rfl, hb3, ht3, ht4⟩
  have R3 := hid (R2.out.1.below hb3 (Nat.le_refl _))
  have T3 := hid ht3
  have T4 := hid ht4
  clear hb3 ht3 ht4
  go_wp2_with fail
  refine (distsB_any w3).mono ?_
  rintro e w4 ⟨a4, b4, rfl, hb4, ht5, ht6⟩
  have R4 := hid (R3.out.1.below hb4 (Nat.le_refl _))
  have TD5 := hid ht5
  have TD6 := hid ht6
  have KK := hid (R1.out.2.trans (R2.out.2.trans (R3.out.2.trans R4.out.2)))
  have B1' := hid (B1.out.kp (R2.out.2.trans (R3.out.2.trans R4.out.2)))
  have B2' := hid (B2.out.kp (R3.out.2.trans R4.out.2))
  have T3' := hid (T3.out.kp R4.out.2)
  have T4' := hid (T4.out.kp R4.out.2)
  clear hb4 ht5 ht6 B1 B2 T3 T4
  go_wp2_with fail
  go_loopw [] (fun wr => ∃ (sj : Sk) (bj : Int) (f : Nat), Hid (RI v wr sj bj) ∧ Hid (Kp w4 wr) ∧ Hid (YG v l m (symsAll l m v.L v.most s) f sj bj)) (fun wr => mOf v.g N wr)
  case atStart => exact ⟨s, 0, N + 1 - s.k, hid R4.out.1, hid (Kp.refl _), hid ⟨fun _ => ⟨by rw [HN.out]; rfl, by rw [← HN.out]; omega⟩, fun h => absurd rfl h⟩⟩
  case round =>
    obtain ⟨sj, bj, f, R, KW, G⟩ := hrel
    rw [HN.out]
    obtain ⟨T, tc, hb, _⟩ := R.out.tok
    unfold inCs at hb
    have q2 := hb.cell 2
    simp only [List.getElem?_toArray, List.getElem?_cons_zero, List.getElem?_cons_succ] at q2
    have hg := hb.lt
    clear hb
    by_cases hb0 : bj = 0
    · subst hb0
      have SY := hid (rsym_gen R.out l Ll.out C cc K (B1'.out.kp KW.out) (by rw [← HN.out]; exact hL))
      have HKL := hid R.out.kl
      go_wp2_with fail
      refine SY.out.mono ?_
      rintro e w5 ⟨y, s5, b5, rfl, hr5, hk5, hsy⟩
      have R5 := hid hr5
      have K5 := hid (KW.out.trans hk5)
      have YR := hid (yg_round G.out HKL.out hsy)
      obtain ⟨T5, tc5, hb5, _⟩ := hr5.tok
      unfold inCs at hb5
      have p2 := hb5.cell 2
      simp only [List.getElem?_toArray, List.getElem?_cons_zero, List.getElem?_cons_succ] at p2
      have hg5 := hb5.lt
      clear hb5 hr5 hk5 hsy q2 hg SY G
      by_cases hb5 : b5 = 0
      case neg =>
        have d0 : (b5 == 0) = false := by rw [beq_eq_false_iff_ne]; exact hb5
        have d0b : (b5 != 0) = true := by rw [bne, d0]; rfl
        have HE := hid (YR.out.1 hb5).2
        have H0 := hid hb5
        clear hb5
        go_wp2_with fail
        refine bodyPost_ret (results_none rfl _ _ _) rfl ?_
        refine ⟨rfl, KK.out.trans K5.out, ?_⟩
        rw [HE.out]
        exact ⟨H0.out, _, R5.out⟩
      subst hb5
      obtain ⟨hgt, h256a, h256b⟩ := YR.out.2 rfl
      have Hgt := hid hgt
      by_cases h256 : y = 256
      · have e1 : ((y : Int) == 256) = true := by rw [beq_iff_eq]; omega
        have HE := hid (h256a h256)
        clear h256 h256a h256b hgt
        go_wp2_with fail
        refine bodyPost_ret (results_none rfl _ _ _) rfl ?_
        refine ⟨rfl, KK.out.trans K5.out, ?_⟩
        rw [HE.out]
        exact R5.out
      have e1 : ((y : Int) == 256) = false := by rw [beq_eq_false_iff_ne]; omega
      obtain ⟨f1, hf1, hr1⟩ := h256b h256
      have HF := hid hf1
      have HR := hid hr1
      clear h256a h256b hgt hf1 hr1
      by_cases hy : y < 256
      · have e2 : decide ((y : Int) < 256) = true := decide_eq_true (by omega)
        have e3 : decide (y < 256) = true := decide_eq_true hy
        have PU := hid (rput_gen R5.out 0 (y : Int) (.inl rfl))
        have HQ := hid (show (if y < 256 then putM v.most (0, (y : Int)) s5 else matchM m v.L v.most y s5) = putM v.most (0, (y : Int)) s5 from if_pos hy)
        clear h256 hy
        go_wp2_with fail
        refine PU.out.mono ?_
        rintro e w6 ⟨s6, b6, rfl, hr6, hk6, hp6⟩
        have R6 := hid hr6
        have K6 := hid (K5.out.trans hk6)
        have Y6 := hid (yg_put HF.out Hgt.out HR.out HQ.out hp6)
        clear hk6 hr6 hp6
        go_wp2_with fail
        exact ⟨⟨s6, b6, f1, R6, K6, hid Y6.out.1⟩, mOf_lt R.out R6.out Y6.out.2⟩
      have e2 : decide ((y : Int) < 256) = false := decide_eq_false (by omega)
      have e3 : decide (y < 256) = false := decide_eq_false hy
      have HR2 := hid (show symsAll l m v.L v.most s = match matchM m v.L v.most y s5 with
        | .error e => .error e
        | .ok s2 => symsM l m v.L v.most f1 s2 from by have := HR.out; rw [if_neg hy] at this; exact this)
      clear HR
      by_cases h285 : 285 < y
      · have e4 : decide ((285 : Int) < (y : Int)) = true := decide_eq_true (by omega)
        have e5 : decide (285 < y) = true := decide_eq_true h285
        have HE := hid (show symsAll l m v.L v.most s = .error 2 from by rw [HR2.out, matchM, if_pos h285])
        clear h285 hy h256
        go_wp2_with fail
        refine (fail_any R5.out 2).mono ?_
        rintro e w6 ⟨rfl, hr6, hk6⟩
        have R6 := hid hr6
        have K6 := hid (K5.out.trans hk6)
        clear hr6 hk6
        go_wp2_with fail
        refine bodyPost_ret (results_none rfl _ _ _) rfl ?_
        refine ⟨rfl, KK.out.trans K6.out, ?_⟩
        rw [HE.out]
        exact ⟨by decide, _, R6.out⟩
      have e4 : decide ((285 : Int) < (y : Int)) = false := decide_eq_false (by omega)
      have e5 : decide (285 < y) = false := decide_eq_false h285
      have H285 := hid h285
      obtain ⟨j, hj⟩ : ∃ j, 257 + j = y := ⟨y - 257, by omega⟩
      have hj29 : j < 29 := by omega
      have hjy : 257 + (j : Int) = (y : Int) := by omega
      have lbb := lbase_bd ⟨j, hj29⟩
      have leb := lextra_bd ⟨j, hj29⟩
      simp only at lbb leb
      rw [hjy] at lbb leb
      obtain ⟨le, hle⟩ : ∃ le : Nat, lextra (y : Int) = (le : Int) := ⟨(lextra (y : Int)).toNat, by omega⟩
      have Hle := hid hle
      rw [hle] at lbb leb
      rw [Int.toNat_natCast] at lbb
      obtain ⟨lb, hlb⟩ : ∃ lb, lb = lbase (y : Int) := ⟨_, rfl⟩
      have Hlb := hid hlb
      rw [← hlb] at lbb
      have hle5 : le ≤ 5 := by omega
      have tw : IntKind.i64.wrap ((y : Int) - 257) = (j : Int) := (IntWalk.i64_in _ (by omega)).trans (by omega)
      have T3c := hid (fun (w : World) (h : Kp w5 w) => show w.cell? ⟨a3, j, none⟩ = some (.int .i64 lb) ∧ a3 < w.heap.size from by have this : w.cell? ⟨a3, j, none⟩ = some (.int .i64 (lbase (257 + (j : Int)))) := tab_at ((T3'.out.kp K5.out).kp h) hj29; rw [hjy, ← hlb] at this; exact ⟨this, ((T3'.out.kp K5.out).kp h).lt⟩)
      have T4c := hid (fun (w : World) (h : Kp w5 w) => show w.cell? ⟨b3, j, none⟩ = some (.int .i64 (le : Int)) ∧ b3 < w.heap.size from by have this : w.cell? ⟨b3, j, none⟩ = some (.int .i64 (lextra (257 + (j : Int)))) := tab_at ((T4'.out.kp K5.out).kp h) hj29; rw [hjy, hle] at this; exact ⟨this, ((T4'.out.kp K5.out).kp h).lt⟩)
      obtain ⟨t3, ha3⟩ := T3c.out w5 (Kp.refl _)
      obtain ⟨t4, hb3⟩ := T4c.out w5 (Kp.refl _)
      have LBX := hid (show ∀ x : Nat, x < 2 ^ le → 3 ≤ lb + (x : Int) ∧ lb + (x : Int) ≤ 258 from fun x hx => by
        have h1 := lbb.2
        have h2 : (x : Int) < 2 ^ le := by have : ((2 ^ le : Nat) : Int) = 2 ^ le := by push_cast; rfl
                                           omega
        have := lbb.1
        omega)
      have F := hid (rtake_gen (R5.out.drewN 1).1 le (by omega) (by rw [← HN.out]; exact hL))
      clear lbb leb hle hlb h256 hy h285 hj YR
      go_upto_region 11 with (fail)
      go_cut [13] from 55 to 67 (fun v13 wq => ∃ (x : Nat) (s6 : Sk) (b6 tl : Int), v13 = .int .i64 tl ∧ Hid (lb + (x : Int) = tl) ∧ 3 ≤ tl ∧ tl ≤ 258 ∧ Hid (RI v wq s6 b6) ∧ Hid (Kp w5 wq) ∧ Hid (TkG v le s5 0 x s6 b6))
      case first =>
        go_region_with (go_at_call 48; refine Calls.mono F.out ?_; rintro e w6 ⟨x, s6, b6, rfl, hr6, hk6, htx⟩; have R6 := hid hr6; have K56 := hid ((R5.out.drewN 1).2.trans hk6); have TX := hid htx; obtain ⟨t3, ha3⟩ := T3c.out w6 K56.out; obtain ⟨t4, hb3⟩ := T4c.out w6 K56.out; obtain ⟨tl, htl⟩ : ∃ tl, lb + (x : Int) = tl := ⟨_, rfl⟩; have Htl := hid htl; have htb := LBX.out x htx.1; rw [htl] at htb; have twl : IntKind.i64.wrap (lb + (x : Int)) = tl := (IntWalk.i64_in _ (by omega)).trans htl; clear hr6 hk6 htx htl)
        all_goals
          go_wp2_with fail
          go_meet
          exact ⟨x, s6, b6, tl, rfl, Htl, htb.1, htb.2, R6, K56, TX⟩
      case rest =>
      obtain ⟨x, s6, b6, tl, rfl, Htl, htb1, htb2, R6, K56, TX⟩ := hcut
      have K6 := hid (K5.out.trans K56.out)
      have SY2 := hid (rsym_gen R6.out m Ld.out C2 cc2 K2 (B2'.out.kp K6.out) (by rw [← HN.out]; exact hL))
      clear t3 t4 ha3 hb3 p2 hg5 T3c T4c F LBX
      go_wp2_with fail
      refine SY2.out.mono ?_
      rintro e w7 ⟨t, s7, b7, rfl, hr7, hk7, hst⟩
      have R7 := hid hr7
      have K7 := hid (K6.out.trans hk7)
      have YM := hid (yg_match H285.out Hle.out Hlb.out TX.out hst)
      obtain ⟨T7, tc7, hb7, _⟩ := hr7.tok
      unfold inCs at hb7
      have r2 := hb7.cell 2
      simp only [List.getElem?_toArray, List.getElem?_cons_zero, List.getElem?_cons_succ] at r2
      have hg7 := hb7.lt
      clear hb7 hr7 hk7 hst SY2 TX
      by_cases hb7 : b7 = 0
      case neg =>
        have d0 : (b7 == 0) = false := by rw [beq_eq_false_iff_ne]; exact hb7
        have d0b : (b7 != 0) = true := by rw [bne, d0]; rfl
        have HE := hid (show symsAll l m v.L v.most s = .error b7 from by rw [HR2.out, (YM.out.1 hb7).2])
        have H0 := hid hb7
        clear hb7
        go_wp2_with fail
        refine bodyPost_ret (results_none rfl _ _ _) rfl ?_
        refine ⟨rfl, KK.out.trans K7.out, ?_⟩
        rw [HE.out]
        exact ⟨H0.out, _, R7.out⟩
      subst hb7
      obtain ⟨hk57, h29a, h29b⟩ := YM.out.2 rfl
      have HK57 := hid hk57
      clear YM hk57
      by_cases h29 : 29 < t
      · have e6 : decide ((29 : Int) < (t : Int)) = true := decide_eq_true (by omega)
        have e7 : decide (29 < t) = true := decide_eq_true h29
        have HE := hid (show symsAll l m v.L v.most s = .error 2 from by rw [HR2.out, h29a h29])
        clear h29 h29a h29b
        go_wp2_with fail
        refine (fail_any R7.out 2).mono ?_
        rintro e w8 ⟨rfl, hr8, hk8⟩
        have R8 := hid hr8
        have K8 := hid (K7.out.trans hk8)
        obtain ⟨T8, tc8, hb8, _⟩ := hr8.tok
        unfold inCs at hb8
        have u2 := hb8.cell 2
        simp only [List.getElem?_toArray, List.getElem?_cons_zero, List.getElem?_cons_succ] at u2
        have hg8 := hb8.lt
        clear hr8 hk8 hb8
        go_wp2_with fail
        refine bodyPost_ret (results_none rfl _ _ _) rfl ?_
        refine ⟨rfl, KK.out.trans K8.out, ?_⟩
        rw [HE.out]
        exact ⟨by decide, _, R8.out⟩
      have e6 : decide ((29 : Int) < (t : Int)) = false := decide_eq_false (by omega)
      have e7 : decide (29 < t) = false := decide_eq_false h29
      have ht30 : t < 30 := by omega
      have dbb := dbase_bd ⟨t, ht30⟩
      have deb := dextra_bd ⟨t, ht30⟩
      simp only at dbb deb
      obtain ⟨de, hde⟩ : ∃ de : Nat, dextra (t : Int) = (de : Int) := ⟨(dextra (t : Int)).toNat, by omega⟩
      have HM := hid (h29b h29 de hde)
      rw [hde] at dbb deb
      rw [Int.toNat_natCast] at dbb
      obtain ⟨db, hdb⟩ : ∃ db, db = dbase (t : Int) := ⟨_, rfl⟩
      have Hdb := hid hdb
      rw [← hdb] at dbb
      have hde13 : de ≤ 13 := by omega
      have T5c := hid (fun (w : World) (h : Kp w7 w) => show w.cell? ⟨a4, t, none⟩ = some (.int .i64 db) ∧ a4 < w.heap.size from by have this : w.cell? ⟨a4, t, none⟩ = some (.int .i64 (dbase (t : Int))) := tab_at ((TD5.out.kp K7.out).kp h) ht30; rw [← hdb] at this; exact ⟨this, ((TD5.out.kp K7.out).kp h).lt⟩)
      have T6c := hid (fun (w : World) (h : Kp w7 w) => show w.cell? ⟨b4, t, none⟩ = some (.int .i64 (de : Int)) ∧ b4 < w.heap.size from by have this : w.cell? ⟨b4, t, none⟩ = some (.int .i64 (dextra (t : Int))) := tab_at ((TD6.out.kp K7.out).kp h) ht30; rw [hde] at this; exact ⟨this, ((TD6.out.kp K7.out).kp h).lt⟩)
      obtain ⟨t5, ha4⟩ := T5c.out w7 (Kp.refl _)
      obtain ⟨t6, hb4⟩ := T6c.out w7 (Kp.refl _)
      have DBX := hid (show ∀ x : Nat, x < 2 ^ de → 1 ≤ db + (x : Int) ∧ db + (x : Int) ≤ 32768 from fun x hx => by
        have h1 := dbb.2
        have h2 : (x : Int) < 2 ^ de := by have : ((2 ^ de : Nat) : Int) = 2 ^ de := by push_cast; rfl
                                           omega
        have := dbb.1
        omega)
      have F := hid (rtake_gen (R7.out.drewN 1).1 de (by omega) (by rw [← HN.out]; exact hL))
      clear dbb deb hde hdb h29 h29a h29b
      go_upto_region 16 with (fail)
      go_cut [15] from 87 to 97 (fun v15 wq => ∃ (z : Nat) (s8 : Sk) (b8 td : Int), v15 = .int .i64 td ∧ Hid (db + (z : Int) = td) ∧ 1 ≤ td ∧ td ≤ 32768 ∧ Hid (RI v wq s8 b8) ∧ Hid (Kp w7 wq) ∧ Hid (TkG v de s7 0 z s8 b8))
      case first =>
        go_region_with (go_at_call 48; refine Calls.mono F.out ?_; rintro e w8 ⟨z, s8, b8, rfl, hr8, hk8, htz⟩; have R8 := hid hr8; have K78 := hid ((R7.out.drewN 1).2.trans hk8); have TZ := hid htz; obtain ⟨t5, ha4⟩ := T5c.out w8 K78.out; obtain ⟨t6, hb4⟩ := T6c.out w8 K78.out; obtain ⟨td, htd⟩ : ∃ td, db + (z : Int) = td := ⟨_, rfl⟩; have Htd := hid htd; have hdb2 := DBX.out z htz.1; rw [htd] at hdb2; have twd : IntKind.i64.wrap (db + (z : Int)) = td := (IntWalk.i64_in _ (by omega)).trans htd; clear hr8 hk8 htz htd)
        all_goals
          go_wp2_with fail
          go_meet
          exact ⟨z, s8, b8, td, rfl, Htd, hdb2.1, hdb2.2, R8, K78, TZ⟩
      case rest =>
      obtain ⟨z, s8, b8, td, rfl, Htd, hd1, hd2, R8, K78, TZ⟩ := hcut
      have PU := hid (rput_gen R8.out tl td (.inr ⟨htb1, htb2, hd1⟩))
      have K8 := hid (K7.out.trans K78.out)
      have MM := hid (HM.out z s8 b8 TZ.out)
      clear t5 t6 ha4 hb4 r2 hg7 T5c T6c F DBX HM
      go_wp2_with fail
      refine PU.out.mono ?_
      rintro e w9 ⟨s9, b9, rfl, hr9, hk9, hp9⟩
      have R9 := hid hr9
      have K9 := hid (K8.out.trans hk9)
      have Y9 := hid (show YG v l m (symsAll l m v.L v.most s) f1 s9 b9 ∧ (b9 = 0 → sj.k < s9.k) from by
        by_cases hb8 : b8 = 0
        · obtain ⟨g1, g2⟩ := MM.out.2 hb8
          subst hb8
          exact yg_put HF.out (by have := Hgt.out; have := HK57.out; omega) HR2.out (g2.trans (by rw [← Htl.out, ← Htd.out, ← Hdb.out])) hp9
        · have e9 := hp9.1 hb8
          subst e9
          exact ⟨yg_err (by rw [HR2.out, MM.out.1 hb8]) hb8, fun h => absurd h hb8⟩)
      clear hk9 hr9 hp9 MM
      go_wp2_with fail
      exact ⟨⟨s9, b9, f1, R9, K9, hid Y9.out.1⟩, mOf_lt R.out R9.out Y9.out.2⟩
    · have d0 : (bj == 0) = false := by rw [beq_eq_false_iff_ne]; exact hb0
      have GE := hid (G.out.2 hb0)
      have H0 := hid hb0
      clear hb0 G
      go_wp2_with fail
      go_end0
      refine ⟨rfl, KK.out.trans KW.out, ?_⟩
      rw [GE.out]
      exact ⟨H0.out, _, R.out⟩
end Go.Proofs.YthhllollhjpheaaGreat
