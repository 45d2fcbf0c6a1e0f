/-
  sample.Unpack: a row's numbers.
-/
import Derived.Test.YtphhoihhmphbdaaRdrH
import Derived.Test.YtphhoihhmphbdaaSample
namespace Go.Proofs.Ytphhoihhmphbdaa
open Go.RowKit

/-- the numbers of a row -/
def unpM (row : List Int) (d count : Nat) : List Int := (List.range count).map fun i => numH (bitsH row) (i * d) d
theorem unpM_len (row : List Int) (d count : Nat) : (unpM row d count).length = count := by simp [unpM]
/-- the numbers so far, noughts behind them -/
def unpC (row : List Int) (d count i : Nat) : Array Value := (intsV (unpM row d i ++ List.replicate (count - i) 0)).toArray
theorem unpC_zero (row : List Int) (d count : Nat) : unpC row d count 0 = (List.replicate count (Value.int .i64 0)).toArray := by
  unfold unpC unpM intsV
  simp
theorem unpC_set (row : List Int) (d count i : Nat) (hi : i < count) : (unpC row d count i).setIfInBounds i (.int .i64 (numH (bitsH row) (i * d) d)) = unpC row d count (i + 1) := by
  unfold unpC
  rw [List.setIfInBounds_toArray]
  congr 1
  unfold intsV
  have e1 : count - i = (count - (i + 1)) + 1 := by omega
  have hl : (unpM row d i).length = i := unpM_len row d i
  rw [e1, List.replicate_succ, List.map_append, List.set_append_right _ _ (by simp [hl])]
  rw [show unpM row d (i + 1) = unpM row d i ++ [numH (bitsH row) (i * d) d] from by unfold unpM; rw [List.range_succ, List.map_append]; rfl]
  simp [hl]
theorem unpC_size (row : List Int) (d count i : Nat) (hi : i ≤ count) : (unpC row d count i).size = count := by
  unfold unpC intsV
  simp [unpM_len]
  omega
theorem blk_neS {w : World} {g h : Nat} {t s : TypeId} {cs ds : Array Value} (k : Blk w g t cs) (m : Blk w h s ds) (hts : t ≠ s) : g ≠ h := by
  intro e
  subst e
  unfold Blk at k m
  rw [k] at m
  injection m with m
  injection m with m1 m2
  exact hts m2
theorem BRH.store {w : World} {g gi i : Nat} {A : Option Addr} {c : Nat} {bl : List Int} {k : Nat} {cs : Array Value} {u : Value} (h : BRH w g A c bl k) (hk : Blk w gi 3 cs) : BRH (w.setCell ⟨gi, i, none⟩ u) g A c bl k :=
  ⟨h.blk.far (blk_neS h.blk hk (by decide)) u, h.row.kept (gr_set1 (World.grownBy.refl w (some gi)) i u) (.inr fun e => own_blk_ne h.row hk (by decide) e.symm), h.ok, h.len, h.at_⟩
def UnpEnd (row : List Int) (d count : Nat) (W : World) (e : Ending) (w' : World) : Prop :=
  ∃ g, e = .returned (.tuple #[.slice (some ⟨g, 0, none⟩) count count, .nilIface]) ∧ W.heap.size ≤ g ∧ Blk w' g 3 (unpC row d count count) ∧ Below W.heap.size W w'
set_option maxRecDepth 100000 in
set_option maxHeartbeats 8000000 in
theorem sunpack_any (A : Option Addr) (c n d count : Nat) (row : List Int) (W : World) (hd : deepOk (d : Int)) (hn : n = row.length) (hl : 8 * n = count * d + 7 - (count * d + 7) % 8) (hc : count ≤ 1000000) (hA : A = none → c = 0) (hr : Rd W W.heap.size 1 A row.length (bytesV row)) (ok : ∀ x ∈ row, isB x) (hm : n ≤ 1000000) :
    Calls Try.prog 37 #[.slice A n c, .int .i64 (d : Int), .int .i64 (count : Int)] W (UnpEnd row d count W) := by
  obtain ⟨i0, hi0, hz0, hz1, hz2⟩ := info_parts int_info
  have hd16 : 1 ≤ d ∧ d ≤ 16 := by unfold deepOk at hd; omega
  have hd1 := hd16.1
  have hd2 := hd16.2
  obtain ⟨Q, hQ⟩ : ∃ Q, Q = count * d := ⟨_, rfl⟩
  have hQm : (count : Int) * (d : Int) = (Q : Int) := by rw [hQ]; simp
  have hQb : Q ≤ 16000000 := by rw [hQ]; exact Nat.mul_le_mul hc hd2
  rw [← hQ] at hl
  have HQ := hid hQ
  have hdv : ((Q : Int) + 7).tdiv 8 = (n : Int) := by rw [Int.tdiv_eq_ediv_of_nonneg (by omega)]; omega
  have hdv2 : ((Q : Int) + 7) / 8 = (n : Int) := by omega
  have hQn : Q ≤ 8 * n := by omega
  have HD := hid (show deepB (d : Int) = true from decide_eq_true hd)
  have hmk : ∀ w : World, (Instr.makeSlice 25 (.int .i64 (count : Int)) (.int .i64 (count : Int))).run Try.prog w = .ok (.slice (some ⟨w.heap.size, 0, none⟩) count count) (w.alloc (.cells (unpC row d count 0) 3)) := by
    intro w
    have h := run_make (P := Try.prog) w 25 3 i0 (.int .i64 0) Try.underlying25 hi0 hz0 .i64 .i64 (count : Int) (count : Int) (by omega) (by omega) (by rw [hz2]; omega) (by omega)
    rw [hz1, made_list _ _ rfl] at h
    rw [unpC_zero]
    exact h
  have Hr := hid hr
  have Hok := hid ok
  have Hn := hid hn
  have HA := hid hA
  clear hi0 hz0 hz1 hz2 hr ok hd hd16 hQ hA hl hn
  go_enter Try.func37, Try.ntmps37
  go_upto_region 1 with (fail)
  go_cut [33] from 13 to 33 (fun v wq => v = .bool false ∧ Hid (Below W.heap.size W wq))
  · go_wp2_with (go_at_call 84; refine (deep_any (d : Int) W).mono ?_; rintro e w5 ⟨rfl, hb5⟩; have HB5 := hid hb5; clear hb5; rw [HD.out])
    go_meet
    exact ⟨by rw [decide_eq_false (show ¬ (count : Int) < 0 by omega), decide_eq_false (show ¬ 1048576 < (count : Int) by omega)]; rfl, HB5⟩
  obtain ⟨rfl, B1⟩ := hcut
  clear hdv hdv2
  go_upto_region 3 with (fail)
  have NR := hid (newReaderH_any A c row wc (Hr.out.below B1.out (Nat.le_refl _) |>.more B1.out.size) HA.out Hok.out (by rw [← Hn.out]; omega))
  rw [← Hn.out] at NR
  go_wp2_with fail
  refine (NR.out).mono ?_
  rintro e w2 ⟨gr, Ar, cr, rfl, hgr, hR2, hb2⟩
  have B2 := hid (B1.out.trans (hb2.mono B1.out.size))
  have hsz2 := hb2.size
  have hsz1 := B1.out.size
  have hgr2 : W.heap.size ≤ gr := by omega
  have R2 := hid hR2
  have hgl := hR2.blk.lt
  clear hb2 hR2 hgr hsz1
  go_upto_region 6 with (fail)
  have R3 := hid (R2.out.below ((Below.refl w2.heap.size w2).alloc (Nat.le_refl _) (.cells (unpC row d count 0) 3)))
  have K3 := hid (Blk.new w2 3 (unpC row d count 0))
  have B3 := hid (B2.out.alloc B2.out.size (.cells (unpC row d count 0) 3))
  obtain ⟨g, hg⟩ : ∃ g, g = w2.heap.size := ⟨_, rfl⟩
  have hgW : W.heap.size ≤ g := by rw [hg]; exact B2.out.size
  rw [← hg] at K3 ⊢
  generalize w2.alloc (.cells (unpC row d count 0) 3) = w3 at *
  clear hg R2 B2 hsz2 hgl hmk
  go_loopw [41] (fun i wr => ∃ k : Nat, k ≤ count ∧ i = .int .i64 (k : Int) ∧ Hid (BRH wr gr Ar cr row (k * d)) ∧ Hid (Blk wr g 3 (unpC row d count k)) ∧ Hid (Below W.heap.size W wr)) (fun i _ => count - (intOf i).toNat)
  case atStart => exact ⟨0, by omega, rfl, hid (by rw [Nat.zero_mul]; exact R3.out), K3, B3⟩
  case round =>
    obtain ⟨k, hk, rfl, RR, KK, BB⟩ := hrel
    by_cases hlt : k < count
    · have d2 : decide (k < count) = true := decide_eq_true hlt
      have hkd : k * d + d ≤ 8 * n := by
        have h1 : (k + 1) * d ≤ count * d := Nat.mul_le_mul_right _ (by omega)
        rw [Nat.succ_mul, ← HQ.out] at h1
        omega
      have TK := hid (takeH_ok gr Ar cr row (k * d) d (by omega) wr RR.out (by rw [← Hn.out]; exact hkd))
      have HS := hid (unpC_set row d count k hlt)
      have HZ := hid (unpC_size row d count k hk)
      generalize numH (bitsH row) (k * d) d = v at *
      go_wp2_with fail
      refine (TK.out).mono ?_
      rintro e w5 ⟨rfl, hR5, hg5⟩
      have hne : g ≠ gr := blk_neS KK.out RR.out.blk (by decide)
      have K5 := hid (KK.out.grown hg5 (by intro e; injection e with e; exact hne e))
      have B5 := hid (BB.out.trans ((Below.refl W.heap.size wr).grown hg5 BB.out.size (fun q hq => by injection hq with hq; omega)))
      have R5 := hid hR5
      clear hR5 hg5 TK KK BB RR
      have hgl := K5.out.lt
      obtain ⟨u, hu⟩ : ∃ u, (unpC row d count k)[k]? = some u := by
        have : k < (unpC row d count k).size := by rw [HZ.out]; exact hlt
        exact ⟨_, Array.getElem?_eq_getElem this⟩
      have q5 : w5.cell? ⟨g, k, none⟩ = some u := (K5.out.cell k).trans hu
      have fz := K5.out.frozen k
      go_wp2_with fail
      go_roundw
      case rel =>
        refine ⟨k + 1, by omega, by go_num, hid ?_, hid ?_, hid (B5.out.setCell (p := ⟨g, k, none⟩) hgW _)⟩
        · rw [Nat.succ_mul]
          exact R5.out.store K5.out
        · rw [← HS.out]
          exact K5.out.set_ k _
      case measure => simp [intOf]; omega
    · obtain rfl : k = count := by omega
      go_wp2_with fail
      go_ret2
      exact ⟨g, rfl, hgW, KK.out, BB.out⟩
end Go.Proofs.Ytphhoihhmphbdaa
