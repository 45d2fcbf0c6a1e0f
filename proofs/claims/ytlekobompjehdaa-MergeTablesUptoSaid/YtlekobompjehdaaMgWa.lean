/-
  merge.Table of counts in form: none stands.
-/
import Derived.Test.YtlekobompjehdaaMgW
namespace Go.Proofs.Ytlekobompjehdaa
open Go.RowKit Mg

set_option maxRecDepth 100000 in
set_option maxHeartbeats 8000000 in
theorem mtable_single (A : Option Addr) (c N : Nat) (l : List Int) (W : World) (h : RdI W W.heap.size A l) (hN : l.length = N) (hl : N ≤ 256) (hg : goodc l 256 = true) (h0 : (itemsOf l).length = 0) :
    Calls Try.prog 25 #[.slice A N c] W fun e w' => ∃ A' c' M, e = .returned (.tuple #[.agg (codesC (fun k => (grp (codeL l) (k + 1) N).length) A' M c'), .nilIface]) ∧ M = (syTo (codeL l) N 16).length ∧ Rd w' w'.heap.size 1 A' M (bytesV (ints (syTo (codeL l) N 16))) ∧ Below W.heap.size W w' := by
  obtain ⟨i0, hi0, hz0, hz1, hz2⟩ := info_parts mit_info
  have Hi0 := hid hi0
  have Hz0 := hid hz0
  have Hz1 := hid hz1
  have Hz2 := hid hz2
  obtain ⟨i1, hi1, hy0, hy1, hy2⟩ := info_parts byte_info
  have Hi1 := hid hi1
  have Hy0 := hid hy0
  have Hy1 := hid hy1
  have Hy2 := hid hy2
  have H := hid h
  have HN := hid hN
  have Hgd := hid hg
  have H00 := hid h0
  have tN : IntKind.i64.wrap ((N : Int) + 1) = ((N + 1 : Nat) : Int) := (IntWalk.i64_in _ (by omega)).trans (by omega)
  obtain ⟨N1, hN1⟩ : ∃ N1, N1 = N + 1 := ⟨_, rfl⟩
  rw [← hN1] at tN
  have HN1 := hid hN1
  clear hi0 hz0 hz1 hz2 hi1 hy0 hy1 hy2 h hN hg hN1 h0
  go_enter Try.func25, Try.ntmps25
  go_upto_region 1 with (fail)
  have C0 := hid (Blk.new W 43 zeroC)
  have B0 := hid (show Below W.heap.size W (W.alloc (.cells zeroC 43)) from (Below.refl _ _).alloc (Nat.le_refl _) _)
  obtain ⟨g, hg⟩ : ∃ g, g = W.heap.size := ⟨_, rfl⟩
  have Hg := hid hg
  rw [← hg] at C0 ⊢
  change Code.wp _ _ _ _ (W.alloc (.cells zeroC 43))
  generalize W.alloc (.cells zeroC 43) = w1 at *
  have H1 := hid (H.out.below B0.out (Nat.le_refl _))
  clear hg
  have hsnd := sound_any A c l 256 w1 W.heap.size H1.out (by rw [HN.out]; simp only [maxLen]; omega) true Hgd.out
  rw [HN.out] at hsnd
  have Hsnd := hid hsnd
  clear hsnd
  go_wp2_with fail
  refine (Hsnd.out).mono ?_
  rintro e w2 ⟨rfl, rfl⟩
  -- the row of one item
  have hit := fun w hw => items_any A c l w hw (by rw [HN.out]; omega)
  rw [HN.out] at hit
  have Hit := hid hit
  clear hit
  go_wp2_with fail
  obtain ⟨b1, hb1⟩ : ∃ b1, b1 = w1.heap.size := ⟨_, rfl⟩
  obtain ⟨b2, hb2⟩ : ∃ b2, b2 = w1.heap.size + 1 := ⟨_, rfl⟩
  have hw1 := B0.out.size
  have Q1 := hid (show Blk ((w1.alloc (.cells #[.int .i64 (N : Int)] 3)).alloc (.cells #[.int .i64 0, .slice (some ⟨w1.heap.size, 0, none⟩) 1 1] 92)) b1 3 #[.int .i64 (N : Int)] from by rw [hb1]; exact (Blk.new w1 3 #[.int .i64 (N : Int)]).alloc _)
  have Q2 := hid (show Blk ((w1.alloc (.cells #[.int .i64 (N : Int)] 3)).alloc (.cells #[.int .i64 0, .slice (some ⟨w1.heap.size, 0, none⟩) 1 1] 92)) b2 92 #[.int .i64 0, .slice (some ⟨b1, 0, none⟩) 1 1] from by
    have h := Blk.new (w1.alloc (.cells #[.int .i64 (N : Int)] 3)) 92 #[.int .i64 0, .slice (some ⟨w1.heap.size, 0, none⟩) 1 1]
    rw [World.size_alloc] at h
    rw [hb2, hb1]
    exact h)
  have QB := hid (show Below W.heap.size W ((w1.alloc (.cells #[.int .i64 (N : Int)] 3)).alloc (.cells #[.int .i64 0, .slice (some ⟨w1.heap.size, 0, none⟩) 1 1] 92)) from (B0.out.alloc hw1 _).alloc (by rw [World.size_alloc]; omega) _)
  have QC := hid (show Blk ((w1.alloc (.cells #[.int .i64 (N : Int)] 3)).alloc (.cells #[.int .i64 0, .slice (some ⟨w1.heap.size, 0, none⟩) 1 1] 92)) g 43 zeroC from (C0.out.alloc _).alloc _)
  rw [← hb2, ← hb1]
  rw [← hb1] at Q1 Q2 QB QC
  have hbW1 : W.heap.size ≤ b1 := by omega
  have hbW2 : W.heap.size ≤ b2 := by omega
  generalize (w1.alloc (.cells #[.int .i64 (N : Int)] 3)).alloc (.cells #[.int .i64 0, .slice (some ⟨b1, 0, none⟩) 1 1] 92) = w2 at *
  have H2 := hid ((H.out.below QB.out (Nat.le_refl _)).more QB.out.size)
  have X0 := hid (own_lit N Q1.out hbW1 0)
  have LR := hid (show w2.ownsRow W.heap.size 92 2 (.slice (some ⟨b2, 0, none⟩) 1 1) 1 (encR ⟨⟨0, [N]⟩, some ⟨b1, 0, none⟩, 1⟩) from ⟨rfl, .inr ⟨b2, 1, _, rfl, hbW2, Q2.out, Nat.le_refl _, by simp [maxLen], rfl, rfl⟩⟩)
  clear hb1 hb2 Q1 Q2 hbW1 hbW2 C0 B0 H1
  refine (Hit.out w2 H2.out).mono ?_
  rintro e w3 ⟨A2, c2, X, rfl, hX, hI⟩
  have hXe : X.map (·.it) = itemsOf l := st_isort hX
  have HX := hid hXe
  have I3 := hid (IOwn.base hI QB.out.size QB.out)
  have X3 := hid (X0.out.below hI.old (Nat.le_refl _))
  have L3 := hid (own_below LR.out hI.old (Nat.le_refl _))
  have C3 := hid (QC.out.below hI.old QC.out.lt)
  have hXl : X.length ≤ 256 := by
    have := itemsOf_le l
    rw [← hXe, List.length_map, HN.out] at this
    omega
  have HNl := hid (show A2 = none → X.length = 0 from fun hA => rd_nil (own_ri I3.out) (by omega) hA)
  have HO1 := hid (show ∀ u ∈ fl X, u.oneCell' = true from fun u hu => by
    obtain ⟨z, _, hz⟩ := List.mem_flatMap.1 hu
    rcases List.mem_cons.1 hz with rfl | hz
    · rfl
    · rw [List.mem_singleton.1 hz]; rfl)
  clear hX hI hXe QC QB H2 X0 LR Hit hw1
  generalize hA0 : (some (⟨b2, 0, none⟩ : Addr)) = A0 at *
  clear hA0
  go_wp2_with (at_builtin; refine wpList_app _ rfl _ _ _ rfl W.heap.size 92 i0 (.agg #[.int .i64 0, .slice none 0 0]) 2 32 Try.underlying86 Hi0.out Hz0.out Hz1.out Hz2.out rfl (by omega) A0 1 1 (encR ⟨⟨0, [N]⟩, some ⟨b1, 0, none⟩, 1⟩) rfl L3.out _ A2 X.length c2 (fl X) rfl (own_ri I3.out) HNl.out HO1.out (by simp only [maxLen]; omega) (by omega) I3.out.old.size ?_; intro A4 c4 w4 ha4; have Ha4 := hid ha4; clear ha4)
  have I4 := hid (items_app I3.out X3.out Ha4.out L3.out)
  have C4 := hid (C3.out.grown Ha4.out.2.1 (own_blk_ne L3.out C3.out (by decide)))
  have hmap : (⟨⟨0, [N]⟩, some ⟨b1, 0, none⟩, 1⟩ :: X : List IR).map (·.it) = extra l := by
    show ⟨0, [N]⟩ :: X.map (·.it) = ⟨0, [l.length]⟩ :: itemsOf l
    rw [HX.out, HN.out]
  have hB := best_any A4 c4 (N + 1) 15 _ w4 (RRow.of_own I4.out) (by
    obtain ⟨_, _, hv, hn⟩ := own_form I4.out.row
    injection hv with _ _ hv
    rw [hv]; exact hn) (by rw [hmap, ← HN.out]; exact extra_in Hgd.out (by rw [HN.out]; exact hl))
  rw [hmap, List.length_cons, Nat.add_comm X.length 1, ← HN1.out] at hB
  have HB := hid hB
  have HXl := hid (show X.length = (itemsOf l).length by rw [← HX.out, List.length_map])
  clear hB hmap L3 X3 I3 C3 Ha4 HNl HO1
  refine (HB.out).mono ?_
  rintro e w5 ⟨A5, c5, rfl, ho5, hb5⟩
  have Hle := hid (bestLs_len (extra l) 15 N1)
  have O5 := hid (show w5.ownsRow W.heap.size 3 1 (.slice A5 N1 c5) N1 (intsV (bestLs (extra l) 15 N1)) from by
    rw [Hle.out] at ho5
    exact own_base ho5 I4.out.old.size)
  have C5 := hid (C4.out.below hb5 C4.out.lt)
  have B5 := hid (I4.out.old.trans (hb5.mono I4.out.old.size))
  rw [Hle.out]
  have Hex := hid (show ∀ s, s < N1 → (bestLs (extra l) 15 N1).getD s 0 = (codeL l s : Int) from fun s hs => bestLs_at _ _ _ hs)
  generalize bestLs (extra l) 15 N1 = ls at *
  clear ho5 hb5 C4 I4 HX HB
  generalize X.length = mX at *
  have Hcnt := hid (show (syTo (codeL l) N 16).length = mX from by
    have := code_count Hgd.out (by rw [HN.out]; exact hl)
    rw [HN.out] at this
    rw [this, HXl.out])
  have hm0 : mX = 0 := HXl.out.trans H00.out
  have d1 : ((1 + (mX : Int)) == 1) = true := by rw [hm0]; rfl
  have Hm0 := hid hm0
  clear hm0
  go_upto_region 6 with (fail)
  have fz := fun o => C5.out.frozen o
  have hgw := C5.out.lt
  have q0 : w5.cell? ⟨g, 0, none⟩ = some (.int .i64 0) := (C5.out.cell 0).trans rfl
  have q1 : w5.cell? ⟨g, 1, none⟩ = some (.int .i64 0) := (C5.out.cell 1).trans rfl
  have q2 : w5.cell? ⟨g, 2, none⟩ = some (.int .i64 0) := (C5.out.cell 2).trans rfl
  have q3 : w5.cell? ⟨g, 3, none⟩ = some (.int .i64 0) := (C5.out.cell 3).trans rfl
  have q4 : w5.cell? ⟨g, 4, none⟩ = some (.int .i64 0) := (C5.out.cell 4).trans rfl
  have q5 : w5.cell? ⟨g, 5, none⟩ = some (.int .i64 0) := (C5.out.cell 5).trans rfl
  have q6 : w5.cell? ⟨g, 6, none⟩ = some (.int .i64 0) := (C5.out.cell 6).trans rfl
  have q7 : w5.cell? ⟨g, 7, none⟩ = some (.int .i64 0) := (C5.out.cell 7).trans rfl
  have q8 : w5.cell? ⟨g, 8, none⟩ = some (.int .i64 0) := (C5.out.cell 8).trans rfl
  have q9 : w5.cell? ⟨g, 9, none⟩ = some (.int .i64 0) := (C5.out.cell 9).trans rfl
  have q10 : w5.cell? ⟨g, 10, none⟩ = some (.int .i64 0) := (C5.out.cell 10).trans rfl
  have q11 : w5.cell? ⟨g, 11, none⟩ = some (.int .i64 0) := (C5.out.cell 11).trans rfl
  have q12 : w5.cell? ⟨g, 12, none⟩ = some (.int .i64 0) := (C5.out.cell 12).trans rfl
  have q13 : w5.cell? ⟨g, 13, none⟩ = some (.int .i64 0) := (C5.out.cell 13).trans rfl
  have q14 : w5.cell? ⟨g, 14, none⟩ = some (.int .i64 0) := (C5.out.cell 14).trans rfl
  have q15 : w5.cell? ⟨g, 15, none⟩ = some (.int .i64 0) := (C5.out.cell 15).trans rfl
  have q16 : w5.cell? ⟨g, 16, none⟩ = some (.slice none 0 0) := (C5.out.cell 16).trans rfl
  have PB := hid (putC_blk (w := w5) (g := g) C5.out (fun _ => 0) none 0 0)
  have PG := hid (B5.out.grown (putC_grown w5 g (fun _ => 0) none 0 0) B5.out.size (fun k hk => by injection hk with hk; have := Hg.out; omega))
  clear C5
  go_wp2
  clear q0 q1 q2 q3 q4 q5 q6 q7 q8 q9 q10 q11 q12 q13 q14 q15 q16
  change bodyPost _ _ _ _ _ (putC w5 g (fun _ => 0) none 0 0)
  generalize putC w5 g (fun _ => 0) none 0 0 = w9 at *
  have r0 : w9.cell? ⟨g, 0, none⟩ = some (.int .i64 0) := (PB.out.cell 0).trans rfl
  have r1 : w9.cell? ⟨g, 1, none⟩ = some (.int .i64 0) := (PB.out.cell 1).trans rfl
  have r2 : w9.cell? ⟨g, 2, none⟩ = some (.int .i64 0) := (PB.out.cell 2).trans rfl
  have r3 : w9.cell? ⟨g, 3, none⟩ = some (.int .i64 0) := (PB.out.cell 3).trans rfl
  have r4 : w9.cell? ⟨g, 4, none⟩ = some (.int .i64 0) := (PB.out.cell 4).trans rfl
  have r5 : w9.cell? ⟨g, 5, none⟩ = some (.int .i64 0) := (PB.out.cell 5).trans rfl
  have r6 : w9.cell? ⟨g, 6, none⟩ = some (.int .i64 0) := (PB.out.cell 6).trans rfl
  have r7 : w9.cell? ⟨g, 7, none⟩ = some (.int .i64 0) := (PB.out.cell 7).trans rfl
  have r8 : w9.cell? ⟨g, 8, none⟩ = some (.int .i64 0) := (PB.out.cell 8).trans rfl
  have r9 : w9.cell? ⟨g, 9, none⟩ = some (.int .i64 0) := (PB.out.cell 9).trans rfl
  have r10 : w9.cell? ⟨g, 10, none⟩ = some (.int .i64 0) := (PB.out.cell 10).trans rfl
  have r11 : w9.cell? ⟨g, 11, none⟩ = some (.int .i64 0) := (PB.out.cell 11).trans rfl
  have r12 : w9.cell? ⟨g, 12, none⟩ = some (.int .i64 0) := (PB.out.cell 12).trans rfl
  have r13 : w9.cell? ⟨g, 13, none⟩ = some (.int .i64 0) := (PB.out.cell 13).trans rfl
  have r14 : w9.cell? ⟨g, 14, none⟩ = some (.int .i64 0) := (PB.out.cell 14).trans rfl
  have r15 : w9.cell? ⟨g, 15, none⟩ = some (.int .i64 0) := (PB.out.cell 15).trans rfl
  have r16 : w9.cell? ⟨g, 16, none⟩ = some (.slice none 0 0) := (PB.out.cell 16).trans rfl
  refine bodyPost_ret (v := .tuple #[.agg zeroC, .nilIface]) (by simp [results, Try.results25, go_sem, zeroC, r0, r1, r2, r3, r4, r5, r6, r7, r8, r9, r10, r11, r12, r13, r14, r15, r16]) rfl ?_
  have hnil : syTo (codeL l) N 16 = [] := List.eq_nil_of_length_eq_zero (by rw [Hcnt.out]; exact Hm0.out)
  have hz := zeroC_eq (fun k => (grp (codeL l) (k + 1) N).length) (fun k hk => by
    have h1 := syTo_len (codeL l) N k
    have h2 := syTo_mono (codeL l) N (n := k + 1) (m := 16) (by omega)
    rw [hnil, List.length_nil] at h2
    show (grp (codeL l) (k + 1) N).length = 0
    omega)
  refine ⟨none, 0, 0, by rw [hz], by rw [hnil]; rfl, by rw [hnil]; exact Rd.nil, PG.out⟩
end Go.Proofs.Ytlekobompjehdaa
