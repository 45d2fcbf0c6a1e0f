/-
  lace.Data: how many bytes all rows have.
-/
import Derived.Test.YtphhoihhmphbdaaLaceB
import Derived.Test.YtphhoihhmphbdaaQst
import Derived.BigQuiet
namespace Go.Proofs.Ytphhoihhmphbdaa
open Go.RowKit Go.Shelf
attribute [local go_sem] Oper.semAt_some

theorem headErr_bnd {w h d c l : Int} (hh : headErr w h d c l = 0) : 1 ≤ w ∧ w ≤ 65535 ∧ 1 ≤ h ∧ h ≤ 65535 ∧ w * h ≤ 262144 ∧ 0 ≤ l ∧ l ≤ 1 := by
  unfold headErr at hh
  split at hh
  · cases hh
  · split at hh
    · cases hh
    · omega
theorem passesF_any (w h l : Int) (W : World) :
    Calls Try.prog 32 #[.int .i64 w, .int .i64 h, .int .i64 l] W fun e w' => e = .returned (.func (.func 79) #[] #[.pointer (some ⟨W.heap.size, 0, none⟩), .pointer (some ⟨W.heap.size + 1, 0, none⟩), .pointer (some ⟨W.heap.size + 2, 0, none⟩)]) ∧ Box3 w' W.heap.size w h l ∧ Below W.heap.size W w' ∧ w'.heap.size = W.heap.size + 3 := by
  have h2 := (Blk.new (W.alloc (.cells #[.int .i64 w] 3)) 3 #[.int .i64 h]).alloc (.cells #[.int .i64 l] 3)
  have h3 := Blk.new ((W.alloc (.cells #[.int .i64 w] 3)).alloc (.cells #[.int .i64 h] 3)) 3 #[.int .i64 l]
  simp only [World.size_alloc] at h2 h3
  go_enter Try.func32, Try.ntmps32
  go_wp2
  go_ret
  exact ⟨rfl, ⟨((Blk.new W 3 #[.int .i64 w]).alloc _).alloc _, h2, h3⟩, (((Below.refl _ _).alloc (Nat.le_refl _) _).alloc (by simp) _).alloc (by simp; omega) _, by simp⟩
theorem rowM_bd (w h d c l width : Int) : 0 ≤ rowM w h d c l width ∧ rowM w h d c l width ≤ 600000 := by
  unfold rowM
  split
  · rename_i hh
    obtain ⟨hh, w1, w2⟩ := hh
    obtain ⟨c1, c2⟩ := chan_bd c
    obtain ⟨dd1, dd2⟩ := deep_bd (headErr_deep hh).1
    have m1 : 0 ≤ width * chan c := Int.mul_nonneg (by omega) c1
    have m2 : width * chan c ≤ 65535 * 4 := Int.mul_le_mul w2 c2 c1 (by omega)
    have m3 : 0 ≤ width * chan c * d := Int.mul_nonneg m1 (by omega)
    have m4 : width * chan c * d ≤ 65535 * 4 * 16 := Int.mul_le_mul m2 dd2 (by omega) (by omega)
    omega
  · omega
set_option maxRecDepth 100000 in
theorem rowSize_all (w h d c l width : Int) (W : World) (hh : headErr w h d c l = 0) :
    Calls Try.prog 33 #[.agg #[.int .i64 w, .int .i64 h, .int .i64 d, .int .i64 c, .int .i64 l], .int .i64 width] W fun e w' => e = .returned (.int .i64 (rowM w h d c l width)) ∧ Below W.heap.size W w' := by
  by_cases h1 : 1 ≤ width ∧ width ≤ 65535
  · exact rowSize_any w h d c l width W h1.1 h1.2 hh
  · have Hr := hid (show rowM w h d c l width = 0 from if_neg (fun h => h1 h.2))
    have Hh := hid hh
    have Hb0 := hid ((Below.refl W.heap.size W).alloc (Nat.le_refl _) (.cells #[.int .i64 w, .int .i64 h, .int .i64 d, .int .i64 c, .int .i64 l] 23))
    have hc : width < 1 ∨ (¬ width < 1 ∧ 65535 < width) := by omega
    clear h1 hh
    rcases hc with h1 | ⟨h1, h2⟩
    · have d1 : decide (width < 1) = true := decide_eq_true h1
      go_enter Try.func33, Try.ntmps33
      go_wp2_with fail
      refine (headCheck_any w h d c l _).mono ?_
      rintro e w1' ⟨rfl, hb⟩
      have Hb1 := hid (Hb0.out.trans (hb.mono (by simp)))
      clear hb
      rw [Hh.out, errv_0]
      go_wp2
      go_ret
      exact ⟨ret_int Hr.out.symm, Hb1.out⟩
    · have d1 : decide (width < 1) = false := decide_eq_false h1
      have d2 : decide (65535 < width) = true := decide_eq_true h2
      go_enter Try.func33, Try.ntmps33
      go_wp2_with fail
      refine (headCheck_any w h d c l _).mono ?_
      rintro e w1' ⟨rfl, hb⟩
      have Hb1 := hid (Hb0.out.trans (hb.mono (by simp)))
      clear hb
      rw [Hh.out, errv_0]
      go_wp2
      go_ret
      exact ⟨ret_int Hr.out.symm, Hb1.out⟩

def dstep (w h d c l : Int) (s : Int) (x : Nat × Int × Int) : Int := wrap64 (s + wrap64 (x.2.2 * (1 + rowM w h d c l x.2.1)))
def dsum (w h d c l : Int) (xs : List (Nat × Int × Int)) : Int := xs.foldl (dstep w h d c l) 0
theorem dsum_snoc (w h d c l : Int) (pre : List (Nat × Int × Int)) (x : Nat × Int × Int) : dsum w h d c l (pre ++ [x]) = wrap64 (dsum w h d c l pre + wrap64 (x.2.2 * (1 + rowM w h d c l x.2.1))) := by simp [dsum, dstep]
/-- all rows' bytes -/
def dataM (w h d c l : Int) : Int := if headErr w h d c l = 0 then dsum w h d c l (passesM w h l) else 0
theorem hcheck_yes (w h d c l : Int) (W : World) (hh : headErr w h d c l = 0) : Calls Try.prog 76 #[.agg #[.int .i64 w, .int .i64 h, .int .i64 d, .int .i64 c, .int .i64 l]] W fun e w' => e = .returned .nilIface ∧ Below W.heap.size W w' :=
  (headCheck_any w h d c l W).mono fun e w' ⟨he, hb⟩ => ⟨by rw [he, hh, errv_0], hb⟩

theorem blk_own {β : Type} (g : Nat) (t : TypeId) (cs : β → Array Value) (B : Nat) : OwnFrom B (fun s W => Blk W g t (cs s)) := fun s W W' row hs hg hr =>
  hs.grown hg (fun e => by
    obtain ⟨_, o, ho, hc⟩ := hr g e.symm
    have hs' : W.heap[g]? = some (.cells (cs s) t (0, 0)) := hs
    rw [hs'] at ho
    injection ho with ho
    subst ho
    cases hc)
theorem kp3_b {b : Nat} {w : World} (hb : b + 2 < w.heap.size) (W : World) (l : Nat) (o o' : Obj) (hl : w.heap.size ≤ l) (h : W.heap[l]? = some o) (_ : o.isCells = false) (_ : o.isWalk = false) : Kp3 b W (W.putObj l o') := fun k _ h2 =>
  (grownBy_putObj' W l o').block k (by have := (Array.getElem?_eq_some_iff.1 h).1; omega) (by simp; omega)
theorem kp3_below {b B : Nat} {W W' : World} (h : Below B W W') (hb : b + 2 < B) : Kp3 b W W' := fun k _ h2 => h.block k (by omega)
theorem kp3_set {b g o : Nat} {W : World} {u : Value} (hg : g < b) : Kp3 b W (W.setCell ⟨g, o, none⟩ u) := fun k h1 _ => Below.heap_setCell W ⟨g, o, none⟩ u k (by show k ≠ g; omega)
theorem keeps_below {W W' : World} (h : Below W.heap.size W W') : KeepsOthers W W' := KeepsOthers.of_grownBy (row := none) ⟨h.os, h.tape, h.output, h.size, fun k hk _ => h.block k hk⟩ (by simp)
set_option maxRecDepth 100000 in
set_option maxHeartbeats 4000000 in
theorem data_yes (w h d c l : Int) (W : World) (hh : headErr w h d c l = 0) :
    Calls Try.prog 29 #[.agg #[.int .i64 w, .int .i64 h, .int .i64 d, .int .i64 c, .int .i64 l]] W fun e w' => e = .returned (.int .i64 (dsum w h d c l (passesM w h l))) ∧ Below W.heap.size W w' := by
  obtain ⟨b1, b2, b3, b4, _, b5, b6⟩ := headErr_bnd hh
  have Hh := hid hh
  have Hx := hid (Blk.new W 23 #[.int .i64 w, .int .i64 h, .int .i64 d, .int .i64 c, .int .i64 l])
  have Hb0 := hid ((Below.refl W.heap.size W).alloc (Nat.le_refl _) (.cells #[.int .i64 w, .int .i64 h, .int .i64 d, .int .i64 c, .int .i64 l] 23))
  clear hh
  refine (callsIn_wide (n := 5)).1 ?_
  refine callsIn_of_wp_marks Try.func29 rfl trivial ?_ rfl
  simp only [Try.ntmps29, List.size_toArray, List.length_cons, List.length_nil, Nat.reduceAdd, Nat.reduceSub, Array.replicate_succ, Array.replicate_zero, List.push_toArray, List.append_toArray, List.nil_append, List.cons_append]
  gi_wp2_with (first
    | (refine ⟨trivial, ?_⟩; gi_at_call 76; refine (callsIn_wide.2 (hcheck_yes w h d c l _ Hh.out)).mono ?_; rintro e w1 ⟨rfl, hb⟩; have hx1 := Hx.out.below hb (by simp); have Hx1 := hid hx1; have Hb1 := hid (Hb0.out.trans (hb.mono (by simp))); have q0 := hx1.cell 0; have q1 := hx1.cell 1; have q4 := hx1.cell 4; have hgl := hx1.lt; simp only [List.getElem?_toArray, List.getElem?_cons_zero, List.getElem?_cons_succ] at q0 q1 q4; clear hb hx1 Hx Hb0)
    | (refine ⟨trivial, ?_⟩; gi_at_call 32; refine (callsIn_wide.2 (passesF_any w h l _)).mono ?_; rintro e w3 ⟨rfl, hbx, hb3, hsz⟩))
  have hS := w1.heap.size
  have Hs0 := hid (((Blk.new w1 3 #[.int .i64 0]).below hb3 (by simp) : Blk w3 w1.heap.size 3 #[.int .i64 0]))
  have hx3 := (Hx1.out.alloc (.cells #[.int .i64 0] 3)).below hb3 (by simp; omega)
  have Hx3 := hid hx3
  have hw3 : Below W.heap.size W w3 := (Hb1.out.alloc Hb1.out.size (.cells #[.int .i64 0] 3)).trans (hb3.mono (by simp; have := Hb1.out.size; omega))
  have Hw3 := hid hw3
  simp only [World.size_alloc] at hbx hsz ⊢
  have hbx2 : Box3 w3 (w1.heap.size + 1) w h l := hbx
  have Hbx := hid hbx2
  have hsz2 : w3.heap.size = w1.heap.size + 4 := by omega
  clear hb3 hx3 hw3 hbx hbx2 hsz q0 q1 q4
  generalize hS' : w1.heap.size = S at *
  have hgS : W.heap.size < S := by omega
  have hW3 := Hw3.out.size
  clear hS'
  refine wpIn_rangeFunc_ownH rfl (by omega) (gf := 79) (lb := #[.pointer (some ⟨S + 1, 0, none⟩), .pointer (some ⟨S + 1 + 1, 0, none⟩), .pointer (some ⟨S + 1 + 2, 0, none⟩)]) rfl trivial (enters_of Try.func79 (by kernel_rfl) rfl)
    (passes_stops _ (by omega) (S + 1) w h l b1 b2 b3 b4 b5 b6 w3 Hbx.out) kp3_t (kp3_b (by omega)) (Below.refl _ _) (fun _ => rfl)
    (fun pre W' => (Blk W' S 3 #[.int .i64 (dsum w h d c l pre)] ∧ Blk W' W.heap.size 23 #[.int .i64 w, .int .i64 h, .int .i64 d, .int .i64 c, .int .i64 l]) ∧ (Below W.heap.size W W' ∧ S + 4 ≤ W'.heap.size))
    (fun _ _ _ => False)
    (OwnFrom.and (OwnFrom.and (blk_own S 3 (fun pre => #[.int .i64 (dsum w h d c l pre)]) _) (blk_own W.heap.size 23 (fun _ => #[.int .i64 w, .int .i64 h, .int .i64 d, .int .i64 c, .int .i64 l]) _)) (OwnFrom.and (ownFrom_below (Nat.le_refl _) (by omega)) (fun _ _ _ _ hs hg _ => Nat.le_trans hs hg.size)))
    (fun _ _ _ _ _ hs _ _ => hs)
    ⟨⟨Hs0.out, Hx3.out⟩, Hw3.out, by omega⟩
    (fun x a' W' => ∃ Bx, S + 3 < Bx ∧ Blk W' Bx 72 #[.int .i64 x.2.1, .int .i64 x.2.2] ∧ a' = { tmps := #[.agg #[.int .i64 w, .int .i64 h, .int .i64 d, .int .i64 c, .int .i64 l], .pointer (some ⟨W.heap.size, 0, none⟩), .int .i64 0, .pointer (some ⟨S, 0, none⟩), undef, .pointer (some ⟨Bx, 0, none⟩), .agg #[.int .i64 w, .int .i64 h, .int .i64 d, .int .i64 c, .int .i64 l], .nilIface, .bool false, .pointer (some ⟨W.heap.size, 0, none⟩), .int .i64 w, .pointer (some ⟨W.heap.size, 1, none⟩), .int .i64 h, .pointer (some ⟨W.heap.size, 4, none⟩), .int .i64 l, .func (.func 79) #[] #[.pointer (some ⟨S + 1, 0, none⟩), .pointer (some ⟨S + 1 + 1, 0, none⟩), .pointer (some ⟨S + 1 + 2, 0, none⟩)], .int .i64 (x.1 : Nat), .agg #[.int .i64 x.2.1, .int .i64 x.2.2], undef, undef, undef, undef, undef, undef, undef, undef, undef, undef, undef], defers := [] })
    (fun x a' _ X Y row hs hg hr => by obtain ⟨Bx, h1, h2, h3⟩ := hs; exact ⟨Bx, h1, blk_own Bx 72 (fun (_ : Unit) => #[.int .i64 x.2.1, .int .i64 x.2.2]) _ () X Y row h2 hg hr, h3⟩)
    ?assign ?body ?done ?stop
  case assign =>
    rintro lp pre x W' K ⟨⟨hs1, hx1⟩, hB1, hS1⟩ hK
    gi_wp2
    exact hK _ _ ((KeepsOthers.alloc _ _).from _) (kp3_below ((Below.refl _ W').alloc (Nat.le_refl _) _) (by omega)) ⟨⟨hs1.alloc _, hx1.alloc _⟩, hB1.alloc hB1.size _, by simp; omega⟩ ⟨W'.heap.size, by omega, Blk.new W' _ _, rfl⟩
  case body =>
    rintro lp pre x a' W' hl ⟨r, hr⟩ ⟨⟨hs1, hx1⟩, hB1, hS1⟩ ⟨Bx, hBx, bX, rfl⟩ hlt
    have hmx : Try.prog.follows .mixedOrders = true := by kernel_rfl
    have Hs1 := hid hs1
    have HX1 := hid hx1
    have HBX := hid bX
    have c0 := hs1.cell 0
    have f0 := hs1.frozen 0
    have q0 := hx1.cell 0
    have q1 := hx1.cell 1
    have q2 := hx1.cell 2
    have q3 := hx1.cell 3
    have q4 := hx1.cell 4
    have x0 := bX.cell 0
    have x1 := bX.cell 1
    simp only [List.getElem?_toArray, List.getElem?_cons_zero, List.getElem?_cons_succ] at c0 q0 q1 q2 q3 q4 x0 x1
    obtain ⟨rb1, rb2⟩ := rowM_bd w h d c l x.2.1
    have hbl := bX.lt
    have k0 := cell_regrown c0
    have k1 := cell_regrown q0
    have k2 := cell_regrown q1
    have k3 := cell_regrown q2
    have k4 := cell_regrown q3
    have k5 := cell_regrown q4
    have k6 := cell_regrown x0
    have k7 := cell_regrown x1
    have hhc : headErr w h d c l = 0 := Hh.out
    have cR : ∀ d' os, Calls Try.prog 33 #[.agg #[.int .i64 w, .int .i64 h, .int .i64 d, .int .i64 c, .int .i64 l], .int .i64 x.2.1] (Sort.grow (redrawn W' d') os) fun e w'' => e = .returned (.int .i64 (rowM w h d c l x.2.1)) ∧ ∃ p : Regrown, w'' = Sort.grow (redrawn W' p.d) p.os := fun d' os => Calls.regrown_of (rowSize_all w h d c l x.2.1 _ hhc)
    clear hs1 hx1 bX hhc
    gi_wp2
    refine round_lit (by kernel_rfl) (by assumption) (by kernel_rfl) (by kernel_rfl) ?_
    simp only [List.dropLast_cons_cons, List.dropLast_singleton, List.getLastD_cons, List.getLastD_nil]
    repeat (go_big_quiet_step (exact cR _ _))
    refine wpQuiet_nil ?_
    intro w2 hw2
    obtain ⟨⟨dq, osq⟩, hw2⟩ := hw2
    have hb2 : Below W'.heap.size W' w2 := by rw [hw2]; exact below_regrown W' dq osq
    clear hw2 k0 k1 k2 k3 k4 k5 k6 k7 cR c0 f0 q0 q1 q2 q3 q4 x0 x1
    have d0 := (Hs1.out.below hb2 Hs1.out.lt).cell 0
    have d0f := (Hs1.out.below hb2 Hs1.out.lt).frozen 0
    simp only [List.getElem?_toArray, List.getElem?_cons_zero] at d0
    have Hb2 := hid hb2
    clear hb2
    go_simp
    gi_wp2
    have hsw := Hb2.out.size
    refine ⟨((keeps_below Hb2.out).trans (KeepsOthers.setCell w2 _ _)).from _, kp3_t (kp3_below Hb2.out (by omega)) (kp3_set (by omega)), ⟨?_, ?_⟩, ?_, ?_⟩
    · rw [dsum_snoc]
      exact (Hs1.out.below Hb2.out Hs1.out.lt).set_ 0 _
    · exact (HX1.out.below Hb2.out HX1.out.lt).far (by show W.heap.size ≠ S; omega) _
    · exact (hB1.trans (Hb2.out.mono hB1.size)).setCell (by show W.heap.size ≤ S; omega) _
    · simp only [World.size_setCell]; omega
  case done =>
    rintro D zs W' hD rfl ⟨⟨hs1, hx1⟩, hB1, _⟩ hK
    have c0 := hs1.cell 0
    simp only [List.getElem?_toArray, List.getElem?_cons_zero] at c0
    gi_wp2
    refine ⟨by simp, .inl ⟨_, _, rfl, run_takeDeferred hK, ?_⟩⟩
    exact ⟨_, results_tmp rfl _ _ _, rfl, hB1.trans (belowK_b (w := W) (Nat.le_refl _) W' D _ _ (by omega) hK rfl rfl)⟩
  case stop =>
    rintro D cc pre W' _ _ h _
    exact h.elim

theorem headErr_24 {w h d c l : Int} (hh : headErr w h d c l ≠ 0) : headErr w h d c l = 2 ∨ headErr w h d c l = 4 := by
  revert hh
  unfold headErr
  split
  · intro _; exact .inl rfl
  · split
    · intro _; exact .inr rfl
    · intro h0; exact absurd rfl h0
set_option maxRecDepth 100000 in
theorem data_no (w h d c l : Int) (W : World) (hh : headErr w h d c l ≠ 0) :
    Calls Try.prog 29 #[.agg #[.int .i64 w, .int .i64 h, .int .i64 d, .int .i64 c, .int .i64 l]] W fun e w' => e = .returned (.int .i64 0) ∧ Below W.heap.size W w' := by
  have Hx := hid (Blk.new W 23 #[.int .i64 w, .int .i64 h, .int .i64 d, .int .i64 c, .int .i64 l])
  have Hb0 := hid ((Below.refl W.heap.size W).alloc (Nat.le_refl _) (.cells #[.int .i64 w, .int .i64 h, .int .i64 d, .int .i64 c, .int .i64 l] 23))
  go_enter Try.func29, Try.ntmps29
  go_wp2_with fail
  refine (headCheck_any w h d c l _).mono ?_
  rintro e w1' ⟨rfl, hb⟩
  have Hb1 := hid (Hb0.out.trans (hb.mono (by simp)))
  clear hb
  rcases headErr_24 hh with h2 | h2
  · rw [h2, errv_2]
    go_wp2
    go_ret
    exact ⟨rfl, Hb1.out⟩
  · rw [h2, errv_4]
    go_wp2
    go_ret
    exact ⟨rfl, Hb1.out⟩
theorem data_any (w h d c l : Int) (W : World) :
    Calls Try.prog 29 #[.agg #[.int .i64 w, .int .i64 h, .int .i64 d, .int .i64 c, .int .i64 l]] W fun e w' => e = .returned (.int .i64 (dataM w h d c l)) ∧ Below W.heap.size W w' := by
  unfold dataM
  by_cases hh : headErr w h d c l = 0
  · rw [if_pos hh]; exact data_yes w h d c l W hh
  · rw [if_neg hh]; exact data_no w h d c l W hh

end Go.Proofs.Ytphhoihhmphbdaa
