/-
  WishRunes: for every text and number the law returns true: wish.Runes gives the whole runes that the text begins with, as many as are asked for. No condition.
-/
import Derived.Test.YtegmbjkpjglgpaaWpK
import Derived.Test.YtegmbjkpjglgpaaWpR
namespace Go.Proofs.Ytegmbjkpjglgpaa.WishRunes
open Go.ChangeShapes Go.WideShapes Go.ChangeAt Go.RowKit Go.Shelf Go.Lib Go.Proofs.Ytegmbjkpjglgpaa

attribute [local go_sem] Oper.semAt_some

theorem leaves_nil {n : Nat} {P : Program} {fn : Func} {R : Ending → World → Prop} {tmps : Array Value} {W : World} (h : ∃ v, (results fn tmps).run P W = .ok v W ∧ R (.returned v) W) : LeavesInM Fence.wide n P fn tmps R [] .returning W := h
theorem marks_end2 {n : Nat} {P : Program} {fn : Func} {R : Ending → World → Prop} {tmps : Array Value} {W : World} {D E : Nat} (hK : W.heap[D]? = some (.deferred (some []))) (hE : W.heap[E]? = some (.deferred (some []))) (hne : E ≠ D)
    (h : ∃ v, (results fn tmps).run P ((W.putObj D (.deferred none)).putObj E (.deferred none)) = .ok v ((W.putObj D (.deferred none)).putObj E (.deferred none)) ∧ R (.returned v) ((W.putObj D (.deferred none)).putObj E (.deferred none))) :
    LeavesInM Fence.wide n P fn tmps R [{ target := .collected D, args := #[] }, { target := .collected E, args := #[] }] .returning W :=
  ⟨by simp, .inl ⟨_, _, rfl, run_takeDeferred hK, marks_end ((World.putObj_heap_other hne).trans hE) h⟩⟩
/-- between two rounds -/
structure WI (W0 : World) (g3 g4 g5 g7 M B : Nat) (A : Option Addr) (c : Nat) (L : List Int) (k : Nat) (w : World) : Prop where
  m3 : Blk w g3 3 #[.int .i64 (M : Int)]
  m4 : Blk w g4 4 #[.bool false]
  m5 : Blk w g5 24 #[.slice A L.length c]
  m7 : Blk w g7 3 #[.int .i64 (k : Int)]
  row : w.ownsRow B 21 1 (.slice A L.length c) L.length (runesV L)
  below : Below W0.heap.size W0 w
theorem WI.other {W0 : World} {g3 g4 g5 g7 M B : Nat} {A : Option Addr} {c : Nat} {L : List Int} {k : Nat} {w w' : World} {row : Option Nat} (h : WI W0 g3 g4 g5 g7 M B A c L k w) (hg : w.grownBy w' row) (hr : ∀ r, row = some r → W0.heap.size ≤ r ∧ ∃ o : Obj, w.heap[r]? = some o ∧ o.isCells = false) : WI W0 g3 g4 g5 g7 M B A c L k w' := by
  have hr2 : ∀ r, row = some r → ∃ o : Obj, w.heap[r]? = some o ∧ o.isCells = false := fun r e => (hr r e).2
  exact ⟨h.m3.other hg hr2, h.m4.other hg hr2, h.m5.other hg hr2, h.m7.other hg hr2, own_other h.row hg hr2, below_other h.below hg h.below.size (fun r e => (hr r e).1)⟩
theorem WI.below' {W0 : World} {g3 g4 g5 g7 M B : Nat} {A : Option Addr} {c : Nat} {L : List Int} {k : Nat} {w w' : World} (h : WI W0 g3 g4 g5 g7 M B A c L k w) (hb : Below w.heap.size w w') : WI W0 g3 g4 g5 g7 M B A c L k w' :=
  ⟨h.m3.below hb h.m3.lt, h.m4.below hb h.m4.lt, h.m5.below hb h.m5.lt, h.m7.below hb h.m7.lt, own_below h.row hb (Nat.le_refl _), h.below.trans (hb.mono h.below.size)⟩
theorem WI.step {W0 : World} {g3 g4 g5 g7 M B : Nat} {A : Option Addr} {c : Nat} {L : List Int} {k j : Nat} {w : World} (h : WI W0 g3 g4 g5 g7 M B A c L k w) (h3 : g3 ≠ g7) (h4 : g4 ≠ g7) (h5 : g5 ≠ g7) (hb : W0.heap.size ≤ g7) : WI W0 g3 g4 g5 g7 M B A c L j (w.setCell ⟨g7, 0, none⟩ (.int .i64 (j : Int))) :=
  ⟨h.m3.far (p := ⟨g7, 0, none⟩) h3 _, h.m4.far (p := ⟨g7, 0, none⟩) h4 _, h.m5.far (p := ⟨g7, 0, none⟩) h5 _, h.m7.set_ 0 _, h.row.kept (grown_set1 (World.grownBy.refl w (some g7)) 0 _) (.inr (fun e => own_blk_ne h.row h.m7 (by decide) e.symm)), h.below.setCell (p := ⟨g7, 0, none⟩) hb _⟩
theorem WI.far {W0 : World} {g3 g4 g5 g7 g M B : Nat} {A : Option Addr} {c : Nat} {L : List Int} {k : Nat} {w : World} {t : TypeId} {cs : Array Value} (h : WI W0 g3 g4 g5 g7 M B A c L k w) (hg : Blk w g t cs) (ht : 21 ≠ t) (h3 : g3 ≠ g) (h4 : g4 ≠ g) (h5 : g5 ≠ g) (h7 : g7 ≠ g) (hb : W0.heap.size ≤ g) (u : Value) : WI W0 g3 g4 g5 g7 M B A c L k (w.setCell ⟨g, 0, none⟩ u) :=
  ⟨h.m3.far (p := ⟨g, 0, none⟩) h3 _, h.m4.far (p := ⟨g, 0, none⟩) h4 _, h.m5.far (p := ⟨g, 0, none⟩) h5 _, h.m7.far (p := ⟨g, 0, none⟩) h7 _, h.row.kept (grown_set1 (World.grownBy.refl w (some g)) 0 _) (.inr (fun e => own_blk_ne h.row hg ht e.symm)), h.below.setCell (p := ⟨g, 0, none⟩) hb _⟩
/-- a round goes on; a round has left -/
def WJ (W0 : World) (g3 g4 g5 g7 g8 M B : Nat) (A : Option Addr) (c : Nat) (L : List Int) (s : ByteArray) (pre : List (Nat × Int)) (w : World) : Prop := WI W0 g3 g4 g5 g7 M B A c L pre.length w ∧ Blk w g8 9 #[.string s] ∧ pre = upR L pre.length ∧ pre.length < M
def WX (W0 : World) (g3 g4 g5 g7 M B : Nat) (A : Option Addr) (c : Nat) (L : List Int) (cd : Code) (pre : List (Nat × Int)) (w : World) : Prop := (cd = .ret ∧ pre ≠ upR L pre.length) ∨ (cd = .exit 0 ∧ WI W0 g3 g4 g5 g7 M B A c L pre.length w ∧ pre = upR L pre.length ∧ pre.length = M)
def ex3 : ByteArray := ⟨#[97, 195, 169, 255]⟩
theorem ex3_len : (rnL ex3).length = 2 := by kernel_rfl
theorem upR_pre {L : List Int} {k : Nat} {x : Nat × Int} (h : upR L k ++ [x] = upR L (upR L k ++ [x]).length) : x = (k, L[k]?.getD 0) := by
  rw [List.length_append, upR_length, List.length_singleton, upR_succ] at h
  have := List.append_cancel_left h
  injection this
theorem most_in (x : Int) : ∃ M : Nat, wrap64 (1 + wrap64 ((IntKind.u64.wrap x).tmod 50)) = (M : Int) ∧ 1 ≤ M ∧ M ≤ 50 := by
  have h0 : 0 ≤ IntKind.u64.wrap x := by
    simp only [IntKind.wrap, IntKind.signed, IntKind.bits]
    simp
    omega
  have h1 : (IntKind.u64.wrap x).tmod 50 = (IntKind.u64.wrap x) % 50 := Int.tmod_eq_emod_of_nonneg h0
  rw [h1]
  generalize IntKind.u64.wrap x = u at *
  refine ⟨(1 + u % 50).toNat, ?_, by omega, by omega⟩
  have h2 : wrap64 (u % 50) = u % 50 := by unfold wrap64; omega
  rw [h2]
  have h3 : wrap64 (1 + u % 50) = 1 + u % 50 := by unfold wrap64; omega
  rw [h3]
  omega
set_option maxRecDepth 100000 in
set_option maxHeartbeats 4000000 in
theorem law_any (s : ByteArray) (most : Int) (W : World) : Calls Try.prog 3 #[.string s, .int .i64 most] W fun e w' => e = .returned (.bool true) ∧ Below W.heap.size W w' := by
  refine (callsIn_wide (n := 5)).1 (callsIn_of_wp_marks Try.func3 rfl trivial (wpIn_wide.2 ?_) rfl)
  simp only [Try.ntmps3, List.size_toArray, List.length_cons, List.length_nil, Nat.reduceAdd, Nat.reduceSub, Array.replicate_succ, Array.replicate_zero, List.push_toArray, List.append_toArray, List.nil_append, List.cons_append]
  have G3 := hid (Blk.new W 3 #[.int .i64 most])
  have g4 := Blk.new (W.alloc (.cells #[.int .i64 most] 3)) 4 #[.bool false]
  rw [World.size_alloc] at g4
  have G4 := hid g4
  clear g4
  go_upto_region 1 with (fail)
  have B0 := hid (((Below.refl W.heap.size W).alloc (Nat.le_refl _) (.cells #[.int .i64 most] 3)).alloc (by simp) (.cells #[.bool false] 4))
  have G3' := hid (G3.out.alloc (.cells #[.bool false] 4))
  obtain ⟨g3, hg3⟩ : ∃ g, g = W.heap.size := ⟨_, rfl⟩
  have Hg3 := hid hg3
  obtain ⟨g4, hg4⟩ : ∃ g, g = g3 + 1 := ⟨_, rfl⟩
  have Hg4 := hid hg4
  rw [← hg3] at G3' G4 ⊢
  rw [← hg4] at G4 ⊢
  clear hg3 hg4 G3
  generalize (W.alloc (.cells #[.int .i64 most] 3)).alloc (.cells #[.bool false] 4) = w0 at *
  go_wp2_with fail
  refine (alive_any _).mono ?_
  rintro e w1 ⟨rfl, hb1⟩
  have K3 := hid (G3'.out.below hb1 G3'.out.lt)
  have K4 := hid (G4.out.below hb1 G4.out.lt)
  have B1 := hid (B0.out.trans (hb1.mono B0.out.size))
  clear hb1 G3' G4 B0
  by_cases hlong : 65536 < s.size
  · have d1 : decide (65536 < s.size) = true := decide_eq_true hlong
    have d2 : decide ((65536 : Int) < (s.size : Int)) = true := decide_eq_true (by omega)
    have k4 : w1.cell? ⟨g4, 0, none⟩ = some (.bool false) := (K4.out.cell 0).trans rfl
    have f4 := K4.out.frozen 0
    have l4 := K4.out.lt
    go_wp2_with fail
    have R4 := K4.out.set_ 0 (.bool true)
    have r4 : (w1.setCell ⟨g4, 0, none⟩ (.bool true)).cell? ⟨g4, 0, none⟩ = some (.bool true) := (R4.cell 0).trans rfl
    refine leaves_nil ⟨_, by simp [results, Try.results3, go_sem, r4], rfl, B1.out.setCell (p := ⟨g4, 0, none⟩) (by show W.heap.size ≤ g4; have := Hg3.out; have := Hg4.out; omega) _⟩
  · have d1 : decide (65536 < s.size) = false := decide_eq_false hlong
    have d2 : decide ((65536 : Int) < (s.size : Int)) = false := decide_eq_false (by omega)
    have k3 : w1.cell? ⟨g3, 0, none⟩ = some (.int .i64 most) := (K3.out.cell 0).trans rfl
    have f3 := K3.out.frozen 0
    have l3 := K3.out.lt
    go_upto_region 6 with (fail)
    obtain ⟨M, hM, hM1, hM50⟩ := most_in most
    rw [hM]
    have J3 := hid (K3.out.set_ 0 (.int .i64 (M : Int)))
    have J4 := hid (K4.out.far (p := ⟨g3, 0, none⟩) (show g4 ≠ g3 by have := Hg4.out; omega) (.int .i64 (M : Int)))
    have B2 := hid (B1.out.setCell (p := ⟨g3, 0, none⟩) (by show W.heap.size ≤ g3; have := Hg3.out; omega) (.int .i64 (M : Int)))
    generalize w1.setCell ⟨g3, 0, none⟩ (.int .i64 (M : Int)) = w2 at *
    clear hM k3 f3 l3 K3 K4 B1 d1 d2
    go_wp2_with fail
    refine (refRunes_any s (by omega) _).mono ?_
    rintro e w3 ⟨A, c, rfl, hrow, hb3⟩
    obtain ⟨L, hL⟩ : ∃ L, L = rnL s := ⟨_, rfl⟩
    rw [← hL] at hrow ⊢
    have hLs : L.length ≤ s.size := by rw [hL]; exact rnL_len s
    have HL := hid hL
    clear hL
    have E3 := hid (J3.out.below hb3 J3.out.lt)
    have E4 := hid (J4.out.below hb3 J4.out.lt)
    have B3 := hid (B2.out.trans (hb3.mono B2.out.size))
    have Row := hid hrow
    clear hb3 J3 J4 B2 hrow
    go_wp2_with fail
    refine (runes_any s _).mono ?_
    rintro e w4 ⟨rfl, rfl⟩
    go_wp2_with fail
    have F5 := (Blk.new w3 24 #[.slice A L.length c]).alloc (.cells #[.int .i64 0] 3)
    have F7 := Blk.new (w3.alloc (.cells #[.slice A L.length c] 24)) 3 #[.int .i64 0]
    rw [World.size_alloc] at F7
    have F8 := Blk.new ((w3.alloc (.cells #[.slice A L.length c] 24)).alloc (.cells #[.int .i64 0] 3)) 9 #[.string s]
    rw [World.size_alloc, World.size_alloc] at F8
    have V5 := hid (F5.alloc (.cells #[.string s] 9))
    have V7 := hid (F7.alloc (.cells #[.string s] 9))
    have V8 := hid F8
    have bb : Below w3.heap.size w3 (((w3.alloc (.cells #[.slice A L.length c] 24)).alloc (.cells #[.int .i64 0] 3)).alloc (.cells #[.string s] 9)) := (((Below.refl w3.heap.size w3).alloc (Nat.le_refl _) _).alloc (by simp) _).alloc (by simp; omega) _
    have V3 := hid (E3.out.below bb E3.out.lt)
    have V4 := hid (E4.out.below bb E4.out.lt)
    have VR := hid (own_below Row.out bb (Nat.le_refl _))
    have VB := hid (B3.out.trans (bb.mono B3.out.size))
    have hlt4 := E4.out.lt
    have hlt3 := E3.out.lt
    clear F5 F7 F8 bb E3 E4 Row B3
    obtain ⟨g5, hg5⟩ : ∃ g, g = w3.heap.size := ⟨_, rfl⟩
    obtain ⟨g7, hg7⟩ : ∃ g, g = g5 + 1 := ⟨_, rfl⟩
    obtain ⟨g8, hg8⟩ : ∃ g, g = g7 + 1 := ⟨_, rfl⟩
    rw [← hg5] at V5 V7 V8 hlt4 hlt3 ⊢
    rw [← hg7] at V7 V8 ⊢
    rw [← hg8] at V8 ⊢
    generalize ((w3.alloc (.cells #[.slice A L.length c] 24)).alloc (.cells #[.int .i64 0] 3)).alloc (.cells #[.string s] 9) = w4 at *
    have hn37 : g3 ≠ g7 := by omega
    have hn47 : g4 ≠ g7 := by omega
    have hn57 : g5 ≠ g7 := by omega
    have hn87 : g8 ≠ g7 := by omega
    have hW7 : W.heap.size ≤ g7 := by have := Hg3.out; omega
    have V := hid (show WI W g3 g4 g5 g7 M w2.heap.size A c L 0 w4 from ⟨V3.out, V4.out, V5.out, V7.out, VR.out, VB.out⟩)
    clear V3 V4 V5 V7 VR VB hg5 hg7 hg8
    refine wpIn_wide.1 (wpIn_rangeFunc_ownG (n := 5) (F := Fence.wide) rfl (by omega) (gf := 38) (lb := #[.pointer (some ⟨g8, 0, none⟩)]) rfl trivial (enters_of Try.func38 (by kernel_rfl) rfl)
      (runes_stops 4 (by omega) g8 s L HL.out (by omega) w4 V8.out.lt ((V8.out.cell 0).trans rfl)) kps_t (kps_b V8.out.lt) (Below.refl _ _) (fun _ => rfl)
      (WJ W g3 g4 g5 g7 g8 M w2.heap.size A c L s) (WX W g3 g4 g5 g7 M w2.heap.size A c L)
      (fun pre w w' row h hg hr => ⟨h.1.other hg (fun r e => ⟨Nat.le_trans V.out.below.size (hr r e).1, (hr r e).2⟩), h.2.1.other hg (fun r e => (hr r e).2), h.2.2⟩)
      (fun cd pre w w' row h hg hr => by
        rcases h with h | ⟨h1, h2, h3⟩
        · exact .inl h
        · exact .inr ⟨h1, h2.other hg (fun r e => ⟨Nat.le_trans V.out.below.size (hr r e).1, (hr r e).2⟩), h3⟩) ⟨V.out, V8.out, rfl, by show 0 < M; omega⟩ ?a1 ?assign ?body ?done ?stop)
    case assign =>
      intro l x W K hK
      simp only [encR]
      gi_wp2
      exact hK
    case body =>
      rintro l pre x w ⟨hI, h8, hpre, hlM⟩ hlt
      obtain ⟨xn, xc⟩ := x
      dsimp only
      obtain ⟨k, hk⟩ : ∃ k, k = pre.length := ⟨_, rfl⟩
      rw [← hk] at hI hpre hlt hlM
      have Hk := hid hk
      clear hk
      have HI := hid hI
      have H8 := hid h8
      have k3 : w.cell? ⟨g3, 0, none⟩ = some (.int .i64 (M : Int)) := (hI.m3.cell 0).trans rfl
      have k5 : w.cell? ⟨g5, 0, none⟩ = some (.slice A L.length c) := (hI.m5.cell 0).trans rfl
      have k7 : w.cell? ⟨g7, 0, none⟩ = some (.int .i64 (k : Int)) := (hI.m7.cell 0).trans rfl
      have k4 : w.cell? ⟨g4, 0, none⟩ = some (.bool false) := (hI.m4.cell 0).trans rfl
      have f7 := hI.m7.frozen 0
      have f4 := hI.m4.frozen 0
      have l7 := hI.m7.lt
      have l4 := hI.m4.lt
      have l3 := hI.m3.lt
      obtain ⟨b, off, rfl, hb, hcl⟩ := (own_rd hI.row).at_ (k := k) hlt (by omega)
      have x0 : w.cell? ⟨b, off + k, none⟩ = some (.int .i32 L[k]) := hcl k _ (by simp [runesV, hlt])
      have hLk : L[k]?.getD 0 = L[k] := by rw [List.getElem?_eq_getElem hlt]; rfl
      generalize L[k] = lk at *
      have HLk := hid hLk
      have Hpre := hid hpre
      have dlt : decide (L.length ≤ k) = false := decide_eq_false (by omega)
      clear hcl hLk hI h8 hpre
      obtain ⟨Ln, hLn⟩ : ∃ Ln, Ln = L.length := ⟨_, rfl⟩
      rw [← hLn] at k5 hlt dlt
      have HLn := hid hLn
      clear hLn
      by_cases e1 : xn = k
      · by_cases e2 : xc = lk
        · subst e1 e2
          have hext : pre ++ [(xn, xc)] = upR L (xn + 1) := by rw [upR_succ, HLk.out, ← Hpre.out]
          have Hext := hid hext
          have he7 := hid (HI.out.step (j := xn + 1) hn37 hn47 hn57 hW7)
          clear hext
          by_cases e3 : xn + 1 = M
          · have d3 : (((xn : Int) + 1) == (M : Int)) = true := by rw [beq_iff_eq]; omega
            have KF := hid ((KeepsOthers.setCell w ⟨g7, 0, none⟩ (.int .i64 ((xn + 1 : Nat) : Int))).from w4.heap.size)
            have X := hid (show WX W g3 g4 g5 g7 M w2.heap.size (some ⟨b, off, none⟩) c L (.exit 0) (pre ++ [(xn, xc)]) (w.setCell ⟨g7, 0, none⟩ (.int .i64 ((xn + 1 : Nat) : Int))) from
              .inr ⟨rfl, by rw [Hext.out, upR_length]; exact he7.out, by rw [Hext.out, upR_length], by rw [Hext.out, upR_length]; exact e3⟩)
            clear e3
            gi_wp2
            exact ⟨KF.out, X.out⟩
          · have d3 : (((xn : Int) + 1) == (M : Int)) = false := by rw [beq_eq_false_iff_ne]; omega
            have KF := hid ((KeepsOthers.setCell w ⟨g7, 0, none⟩ (.int .i64 ((xn + 1 : Nat) : Int))).from w4.heap.size)
            have KS := hid (show KpS g8 w (w.setCell ⟨g7, 0, none⟩ (.int .i64 ((xn + 1 : Nat) : Int))) from ⟨keeps_walks (KeepsOthers.setCell _ _ _), (H8.out.far (p := ⟨g7, 0, none⟩) hn87 _).trans H8.out.symm⟩)
            have X := hid (show WJ W g3 g4 g5 g7 g8 M w2.heap.size (some ⟨b, off, none⟩) c L s (pre ++ [(xn, xc)]) (w.setCell ⟨g7, 0, none⟩ (.int .i64 ((xn + 1 : Nat) : Int))) from
              ⟨by rw [Hext.out, upR_length]; exact he7.out, H8.out.far (p := ⟨g7, 0, none⟩) hn87 _, by rw [Hext.out, upR_length], by rw [Hext.out, upR_length]; omega⟩)
            clear e3
            gi_wp2
            exact ⟨KF.out, KS.out, X.out⟩
        · subst e1
          have d2 : (xc == lk) = false := beq_eq_false_iff_ne.2 e2
          have d3 : (xc != lk) = true := by simp [e2]
          have hno := hid (show pre ++ [(xn, xc)] ≠ upR L (pre ++ [(xn, xc)]).length from fun h => by
            rw [Hpre.out] at h
            have h1 := upR_pre h
            injection h1 with _ h2
            rw [HLk.out] at h2
            exact e2 h2)
          have KF := hid ((KeepsOthers.setCell w ⟨g4, 0, none⟩ (.bool false)).from w4.heap.size)
          clear e2
          gi_wp2
          exact ⟨KF.out, .inl ⟨rfl, hno.out⟩⟩
      · have d1 : ((xn : Int) == (k : Int)) = false := by rw [beq_eq_false_iff_ne]; omega
        have d2 : ((xn : Int) != (k : Int)) = true := by rw [bne_iff_ne]; omega
        have hno := hid (show pre ++ [(xn, xc)] ≠ upR L (pre ++ [(xn, xc)]).length from fun h => by
          rw [Hpre.out] at h
          have h1 := upR_pre h
          injection h1 with h2 _
          exact e1 h2)
        have KF := hid ((KeepsOthers.setCell w ⟨g4, 0, none⟩ (.bool false)).from w4.heap.size)
        clear e1
        gi_wp2
        exact ⟨KF.out, .inl ⟨rfl, hno.out⟩⟩
    case done =>
      rintro D ys w5 hD rfl ⟨hI, _, _, hlM⟩ hK
      rw [upR_length] at hI hlM
      have HK1 := hid hK
      have I5 := hid hI
      have hD2 := Nat.le_trans V.out.below.size hD
      clear hK hI
      go_wp2_with fail
      refine (runes_any ⟨#[97, 195, 169, 255]⟩ _).mono ?_
      rintro e w6 ⟨rfl, rfl⟩
      go_wp2_with fail
      have bb : Below w5.heap.size w5 ((w5.alloc (.cells #[.int .i64 0] 3)).alloc (.cells #[.string ⟨#[97, 195, 169, 255]⟩] 9)) := ((Below.refl w5.heap.size w5).alloc (Nat.le_refl _) _).alloc (by simp) _
      have I6 := hid (I5.out.below' bb)
      have HK6 := hid ((bb.block D (Array.getElem?_eq_some_iff.1 HK1.out).1).trans HK1.out)
      have T0 := hid ((Blk.new w5 3 #[.int .i64 0]).alloc (.cells #[.string ⟨#[97, 195, 169, 255]⟩] 9))
      have t1 := Blk.new (w5.alloc (.cells #[.int .i64 0] 3)) 9 #[.string ⟨#[97, 195, 169, 255]⟩]
      rw [World.size_alloc] at t1
      have T1 := hid t1
      have hDlt := (Array.getElem?_eq_some_iff.1 HK1.out).1
      have hl3 := I5.out.m3.lt
      have hl4 := I5.out.m4.lt
      have hl5 := I5.out.m5.lt
      have hl7 := I5.out.m7.lt
      obtain ⟨g10, hg10⟩ : ∃ g, g = w5.heap.size := ⟨_, rfl⟩
      obtain ⟨g11, hg11⟩ : ∃ g, g = g10 + 1 := ⟨_, rfl⟩
      rw [← hg10] at T0 T1 hDlt hl3 hl4 hl5 hl7 ⊢
      rw [← hg11] at T1 ⊢
      have hne : g11 ≠ g10 := by omega
      have hW10 : W.heap.size ≤ g10 := by omega
      clear bb t1 I5 HK1 hg11
      generalize (w5.alloc (.cells #[.int .i64 0] 3)).alloc (.cells #[.string ⟨#[97, 195, 169, 255]⟩] 9) = w6 at *
      clear hg10
      refine wpIn_wide.1 (wpIn_rangeFunc_ownG (n := 5) (F := Fence.wide) rfl (by omega) (gf := 38) (lb := #[.pointer (some ⟨g11, 0, none⟩)]) rfl trivial (enters_of Try.func38 (by kernel_rfl) rfl)
        (runes_stops 4 (by omega) g11 ex3 (rnL ex3) rfl (by rw [ex3_len]; omega) w6 T1.out.lt ((T1.out.cell 0).trans rfl)) kps_t (kps_b T1.out.lt) (Below.refl _ _) (fun _ => rfl)
        (fun pre w => WI W g3 g4 g5 g7 M w2.heap.size A c L L.length w ∧ Blk w g10 3 #[.int .i64 (pre.length : Int)] ∧ Blk w g11 9 #[.string ⟨#[97, 195, 169, 255]⟩] ∧ w.heap[D]? = some (.deferred (some [])))
        (fun _ _ _ => False)
        (fun pre w w' row h hg hr => ⟨h.1.other hg (fun r e => ⟨Nat.le_trans I6.out.below.size (hr r e).1, (hr r e).2⟩), h.2.1.other hg (fun r e => (hr r e).2), h.2.2.1.other hg (fun r e => (hr r e).2), (hg.block D (Array.getElem?_eq_some_iff.1 h.2.2.2).1 (fun e => by have h1 := (hr D e.symm).1; have h2 := T0.out.lt; omega)).trans h.2.2.2⟩)
        (fun _ _ _ _ _ h _ _ => h) ⟨I6.out, T0.out, T1.out, HK6.out⟩ ?b1 ?assign2 ?body2 ?done2 ?stop2)
      case assign2 =>
        intro l x w K hK
        simp only [encR]
        gi_wp2
        exact hK
      case stop2 =>
        rintro D2 cd pre w _ _ h _
        exact h.elim
      case body2 =>
        rintro l pre x w ⟨hI, h10, h11, hD1⟩ hlt
        obtain ⟨xn, xc⟩ := x
        obtain ⟨k, hk⟩ : ∃ k, k = pre.length := ⟨_, rfl⟩
        rw [← hk] at h10
        rw [ex3_len, ← hk] at hlt
        have Hk := hid hk
        clear hk
        have k10 : w.cell? ⟨g10, 0, none⟩ = some (.int .i64 (k : Int)) := (h10.cell 0).trans rfl
        have f10 := h10.frozen 0
        have l10 := h10.lt
        have KF := hid ((KeepsOthers.setCell w ⟨g10, 0, none⟩ (.int .i64 ((k + 1 : Nat) : Int))).from w6.heap.size)
        have KS := hid (show KpS g11 w (w.setCell ⟨g10, 0, none⟩ (.int .i64 ((k + 1 : Nat) : Int))) from ⟨keeps_walks (KeepsOthers.setCell _ _ _), (h11.far (p := ⟨g10, 0, none⟩) hne _).trans h11.symm⟩)
        have N1 := hid (hI.far h10 (by decide) (show g3 ≠ g10 by omega) (show g4 ≠ g10 by omega) (show g5 ≠ g10 by omega) (show g7 ≠ g10 by omega) hW10 (.int .i64 ((k + 1 : Nat) : Int)))
        have N2 := hid (show Blk (w.setCell ⟨g10, 0, none⟩ (.int .i64 ((k + 1 : Nat) : Int))) g10 3 #[.int .i64 ((pre ++ [(xn, xc)]).length : Int)] from by rw [List.length_append, ← Hk.out]; exact h10.set_ 0 _)
        have N3 := hid (h11.far (p := ⟨g10, 0, none⟩) hne (.int .i64 ((k + 1 : Nat) : Int)))
        have N4 := hid ((KeepsOthers.setCell w ⟨g10, 0, none⟩ (.int .i64 ((k + 1 : Nat) : Int))).same D _ hD1 rfl)
        clear hI h10 h11 hD1
        gi_wp2
        exact ⟨KF.out, KS.out, N1.out, N2.out, N3.out, N4.out⟩
      case done2 =>
        rintro D2 ys w7 hD3 rfl ⟨hI, h10, _, hK1⟩ hK2
        rw [upR_length, ex3_len] at h10
        have hDD : D ≠ D2 := fun e => by have h1 := T0.out.lt; omega
        have k3 : w7.cell? ⟨g3, 0, none⟩ = some (.int .i64 (M : Int)) := (hI.m3.cell 0).trans rfl
        have k4 : w7.cell? ⟨g4, 0, none⟩ = some (.bool false) := (hI.m4.cell 0).trans rfl
        have k5 : w7.cell? ⟨g5, 0, none⟩ = some (.slice A L.length c) := (hI.m5.cell 0).trans rfl
        have k7 : w7.cell? ⟨g7, 0, none⟩ = some (.int .i64 (L.length : Int)) := (hI.m7.cell 0).trans rfl
        have k10 : w7.cell? ⟨g10, 0, none⟩ = some (.int .i64 2) := (h10.cell 0).trans rfl
        have f4 := hI.m4.frozen 0
        have l3 := hI.m3.lt
        have l4 := hI.m4.lt
        have l5 := hI.m5.lt
        have l7 := hI.m7.lt
        have l10 := h10.lt
        have R4 := hid (hI.m4.set_ 0 (.bool true))
        have RB := hid (hI.below.setCell (p := ⟨g4, 0, none⟩) (show W.heap.size ≤ g4 by have := Hg3.out; have := Hg4.out; omega) (.bool true))
        have R1 := hid ((KeepsOthers.setCell w7 ⟨g4, 0, none⟩ (.bool true)).same D _ hK1 rfl)
        have R2 := hid ((KeepsOthers.setCell w7 ⟨g4, 0, none⟩ (.bool true)).same D2 _ hK2 rfl)
        obtain ⟨Ln, hLn⟩ : ∃ Ln, Ln = L.length := ⟨_, rfl⟩
        rw [← hLn] at k5 k7 hlM
        have c1 : decide ((Ln : Int) < (M : Int)) = true := decide_eq_true (by omega)
        have c2 : decide (Ln < M) = true := decide_eq_true (by omega)
        clear hI h10 hK1 hK2 hLn
        go_wp2_with fail
        refine marks_end2 R2.out R1.out hDD ⟨.bool true, ?_, rfl, ?_⟩
        · have b1 := R4.out.other (grownBy_putObj' _ D2 (.deferred none)) (fun r e => by cases e; exact ⟨_, R2.out, rfl⟩)
          have b2 := b1.other (grownBy_putObj' _ D (.deferred none)) (fun r e => by cases e; exact ⟨_, (World.putObj_heap_other hDD).trans R1.out, rfl⟩)
          have r4 := (b2.cell 0).trans rfl
          simp [results, Try.results3, go_sem, r4]
        · have b1 := below_other RB.out (grownBy_putObj' _ D2 (.deferred none)) RB.out.size (fun r e => by cases e; have := I6.out.below.size; omega)
          exact below_other b1 (grownBy_putObj' _ D (.deferred none)) b1.size (fun r e => by cases e; omega)
    case stop =>
      rintro D cd pre w5 hD ⟨kz, hk, rfl⟩ (⟨_, h⟩ | ⟨rfl, hI, _, hlM⟩) hK
      · exact absurd (by rw [upR_length]) h
      · rw [upR_length] at hI hlM
        subst hlM
        refine wpIn_wide.2 ?_
        have HK1 := hid hK
        have I5 := hid hI
        have hD2 := Nat.le_trans V.out.below.size hD
        clear hK hI
        go_wp2_with fail
        refine (runes_any ⟨#[97, 195, 169, 255]⟩ _).mono ?_
        rintro e w6 ⟨rfl, rfl⟩
        go_wp2_with fail
        have bb : Below w5.heap.size w5 ((w5.alloc (.cells #[.int .i64 0] 3)).alloc (.cells #[.string ⟨#[97, 195, 169, 255]⟩] 9)) := ((Below.refl w5.heap.size w5).alloc (Nat.le_refl _) _).alloc (by simp) _
        have I6 := hid (I5.out.below' bb)
        have HK6 := hid ((bb.block D (Array.getElem?_eq_some_iff.1 HK1.out).1).trans HK1.out)
        have T0 := hid ((Blk.new w5 3 #[.int .i64 0]).alloc (.cells #[.string ⟨#[97, 195, 169, 255]⟩] 9))
        have t1 := Blk.new (w5.alloc (.cells #[.int .i64 0] 3)) 9 #[.string ⟨#[97, 195, 169, 255]⟩]
        rw [World.size_alloc] at t1
        have T1 := hid t1
        have hDlt := (Array.getElem?_eq_some_iff.1 HK1.out).1
        have hl3 := I5.out.m3.lt
        have hl4 := I5.out.m4.lt
        have hl5 := I5.out.m5.lt
        have hl7 := I5.out.m7.lt
        obtain ⟨g10, hg10⟩ : ∃ g, g = w5.heap.size := ⟨_, rfl⟩
        obtain ⟨g11, hg11⟩ : ∃ g, g = g10 + 1 := ⟨_, rfl⟩
        rw [← hg10] at T0 T1 hDlt hl3 hl4 hl5 hl7 ⊢
        rw [← hg11] at T1 ⊢
        have hne : g11 ≠ g10 := by omega
        have hW10 : W.heap.size ≤ g10 := by omega
        clear bb t1 I5 HK1 hg11
        generalize (w5.alloc (.cells #[.int .i64 0] 3)).alloc (.cells #[.string ⟨#[97, 195, 169, 255]⟩] 9) = w6 at *
        clear hg10
        refine wpIn_wide.1 (wpIn_rangeFunc_ownG (n := 5) (F := Fence.wide) rfl (by omega) (gf := 38) (lb := #[.pointer (some ⟨g11, 0, none⟩)]) rfl trivial (enters_of Try.func38 (by kernel_rfl) rfl)
          (runes_stops 4 (by omega) g11 ex3 (rnL ex3) rfl (by rw [ex3_len]; omega) w6 T1.out.lt ((T1.out.cell 0).trans rfl)) kps_t (kps_b T1.out.lt) (Below.refl _ _) (fun _ => rfl)
          (fun pre w => WI W g3 g4 g5 g7 kz w2.heap.size A c L kz w ∧ Blk w g10 3 #[.int .i64 (pre.length : Int)] ∧ Blk w g11 9 #[.string ⟨#[97, 195, 169, 255]⟩] ∧ w.heap[D]? = some (.deferred (some [])))
          (fun _ _ _ => False)
          (fun pre w w' row h hg hr => ⟨h.1.other hg (fun r e => ⟨Nat.le_trans I6.out.below.size (hr r e).1, (hr r e).2⟩), h.2.1.other hg (fun r e => (hr r e).2), h.2.2.1.other hg (fun r e => (hr r e).2), (hg.block D (Array.getElem?_eq_some_iff.1 h.2.2.2).1 (fun e => by have h1 := (hr D e.symm).1; have h2 := T0.out.lt; omega)).trans h.2.2.2⟩)
          (fun _ _ _ _ _ h _ _ => h) ⟨I6.out, T0.out, T1.out, HK6.out⟩ ?c1a ?assign3 ?body3 ?done3 ?stop3)
        case assign3 =>
          intro l x w K hK
          simp only [encR]
          gi_wp2
          exact hK
        case stop3 =>
          rintro D2 cd pre w _ _ h _
          exact h.elim
        case body3 =>
          rintro l pre x w ⟨hI, h10, h11, hD1⟩ hlt
          obtain ⟨xn, xc⟩ := x
          obtain ⟨k, hk⟩ : ∃ k, k = pre.length := ⟨_, rfl⟩
          rw [← hk] at h10
          rw [ex3_len, ← hk] at hlt
          have Hk := hid hk
          clear hk
          have k10 : w.cell? ⟨g10, 0, none⟩ = some (.int .i64 (k : Int)) := (h10.cell 0).trans rfl
          have f10 := h10.frozen 0
          have l10 := h10.lt
          have KF := hid ((KeepsOthers.setCell w ⟨g10, 0, none⟩ (.int .i64 ((k + 1 : Nat) : Int))).from w6.heap.size)
          have KS := hid (show KpS g11 w (w.setCell ⟨g10, 0, none⟩ (.int .i64 ((k + 1 : Nat) : Int))) from ⟨keeps_walks (KeepsOthers.setCell _ _ _), (h11.far (p := ⟨g10, 0, none⟩) hne _).trans h11.symm⟩)
          have N1 := hid (hI.far h10 (by decide) (show g3 ≠ g10 by omega) (show g4 ≠ g10 by omega) (show g5 ≠ g10 by omega) (show g7 ≠ g10 by omega) hW10 (.int .i64 ((k + 1 : Nat) : Int)))
          have N2 := hid (show Blk (w.setCell ⟨g10, 0, none⟩ (.int .i64 ((k + 1 : Nat) : Int))) g10 3 #[.int .i64 ((pre ++ [(xn, xc)]).length : Int)] from by rw [List.length_append, ← Hk.out]; exact h10.set_ 0 _)
          have N3 := hid (h11.far (p := ⟨g10, 0, none⟩) hne (.int .i64 ((k + 1 : Nat) : Int)))
          have N4 := hid ((KeepsOthers.setCell w ⟨g10, 0, none⟩ (.int .i64 ((k + 1 : Nat) : Int))).same D _ hD1 rfl)
          clear hI h10 h11 hD1
          gi_wp2
          exact ⟨KF.out, KS.out, N1.out, N2.out, N3.out, N4.out⟩
        case done3 =>
          rintro D2 ys w7 hD3 rfl ⟨hI, h10, _, hK1⟩ hK2
          rw [upR_length, ex3_len] at h10
          have hDD : D ≠ D2 := fun e => by have h1 := T0.out.lt; omega
          have k3 : w7.cell? ⟨g3, 0, none⟩ = some (.int .i64 (kz : Int)) := (hI.m3.cell 0).trans rfl
          have k4 : w7.cell? ⟨g4, 0, none⟩ = some (.bool false) := (hI.m4.cell 0).trans rfl
          have k5 : w7.cell? ⟨g5, 0, none⟩ = some (.slice A L.length c) := (hI.m5.cell 0).trans rfl
          have k7 : w7.cell? ⟨g7, 0, none⟩ = some (.int .i64 (kz : Int)) := (hI.m7.cell 0).trans rfl
          have k10 : w7.cell? ⟨g10, 0, none⟩ = some (.int .i64 2) := (h10.cell 0).trans rfl
          have f4 := hI.m4.frozen 0
          have l3 := hI.m3.lt
          have l4 := hI.m4.lt
          have l5 := hI.m5.lt
          have l7 := hI.m7.lt
          have l10 := h10.lt
          have R4 := hid (hI.m4.set_ 0 (.bool true))
          have RB := hid (hI.below.setCell (p := ⟨g4, 0, none⟩) (show W.heap.size ≤ g4 by have := Hg3.out; have := Hg4.out; omega) (.bool true))
          have R1 := hid ((KeepsOthers.setCell w7 ⟨g4, 0, none⟩ (.bool true)).same D _ hK1 rfl)
          have R2 := hid ((KeepsOthers.setCell w7 ⟨g4, 0, none⟩ (.bool true)).same D2 _ hK2 rfl)
          obtain ⟨Ln, hLn⟩ : ∃ Ln, Ln = L.length := ⟨_, rfl⟩
          rw [← hLn] at k5 hk
          have c1 : decide ((Ln : Int) < (kz : Int)) = false := decide_eq_false (by omega)
          have c2 : decide (Ln < kz) = false := decide_eq_false (by omega)
          clear hI h10 hK1 hK2 hLn
          go_wp2_with fail
          refine marks_end2 R2.out R1.out hDD ⟨.bool true, ?_, rfl, ?_⟩
          · have b1 := R4.out.other (grownBy_putObj' _ D2 (.deferred none)) (fun r e => by cases e; exact ⟨_, R2.out, rfl⟩)
            have b2 := b1.other (grownBy_putObj' _ D (.deferred none)) (fun r e => by cases e; exact ⟨_, (World.putObj_heap_other hDD).trans R1.out, rfl⟩)
            have r4 := (b2.cell 0).trans rfl
            simp [results, Try.results3, go_sem, r4]
          · have b1 := below_other RB.out (grownBy_putObj' _ D2 (.deferred none)) RB.out.size (fun r e => by cases e; have := I6.out.below.size; omega)
            exact below_other b1 (grownBy_putObj' _ D (.deferred none)) b1.size (fun r e => by cases e; omega)
set_option maxRecDepth 100000 in
theorem lifted (os : Os) (started : os.Started) (H : Type) (enc : TypeId × Value → H) :
    ReturnsInHanded {} Try.checked os 3 .any (Rows.wishRunesSpec.pre6 enc Try.prog Try.f3 Rows.wishRunesRow.domain false) (Rows.wishRunesSpec.post enc Try.prog Try.f3 false true false false) :=
  law_lifted own laidOut started (by kernel_rfl) Try.func3 rfl rfl Try.underlying4
    (by rw [Try.params3]; intro t ht; simp at ht; rcases ht with rfl | rfl <;> exact ⟨by kernel_rfl, of_decide_eq_true (by kernel_rfl)⟩)
    (by
      intro ds h
      match ds, h with
      | [_, _], _ => exact ⟨rfl, rfl, rfl⟩)
    (ChangeSpec.witness6 (enc := enc) (C := Try.checked) false ⟨#[], #[.string ByteArray.empty, .int .i64 0], []⟩ 8 (by kernel_rfl) (by kernel_rfl) (by kernel_rfl) (by kernel_rfl))
    (by
      intro W base args ds ps hval0 hA0
      have hval : ∀ (j : Nat) t v, Try.f3.params[j]? = some t → args[j]? = some v → Value.okWide Try.prog W .any base t v := hval0
      have hA : DataW.TrodAll enc Try.prog W 0 (fun _ => true) true Try.f3.params.toList args.toList ds ps := hA0
      clear hval0 hA0
      rw [Try.params3] at hA hval
      obtain ⟨v0, vs0, d0, ds0, p0, q0, hargs, rfl, rfl, h0, r0⟩ := trodAll_cons hA
      obtain ⟨v1, vs1, d1, ds1, p1, q1, rfl, rfl, rfl, h1, r1⟩ := trodAll_cons r0
      obtain ⟨rfl, rfl, rfl⟩ := trodAll_nil r1
      obtain rfl : args = #[v0, v1] := by cases args; simp_all
      obtain ⟨a0, rfl, rfl, rfl, w0⟩ := Go.ChangeMaps.open_string Try.underlying9 (hval 0 9 v0 rfl rfl) h0
      obtain ⟨a1, rfl, rfl, rfl, w1⟩ := open_int Try.underlying3 (hval 1 3 v1 rfl rfl) h1
      exact law_any a0 a1 _)

theorem over : Rows.wishRunesRow.holds Try.pinned (OpenSpec.ofChange Rows.wishRunesSpec) :=
  OpenClaim.holds_of_wide 3 Try.f3 rfl rfl rfl rfl rfl rfl rfl ⟨rfl, rfl, rfl, rfl, rfl⟩ rfl rfl rfl rfl rfl (by kernel_rfl) Try.func3 (by kernel_rfl)
    (of_decide_eq_true (by kernel_rfl)) (by unfold Func.isWrapper; first | (rw [if_pos (by decide +kernel)]; kernel_rfl) | (rw [if_neg (by decide +kernel)]; exact ⟨rfl, rfl⟩))
    (fun os started H enc _ => lifted os started H enc)

theorem proved : Rows.WishRunesSaid := over
#print axioms proved
end Go.Proofs.Ytegmbjkpjglgpaa.WishRunes
