/-
  shrink.palette, fits; slices.Clone and IndexFunc of pixels.
-/
import Derived.Test.YtchkogfgkaaogaaShB
import Derived.Test.YtchkogfgkaaogaaPair
import Derived.WalkSpells
namespace Go.Proofs.Ytchkogfgkaaogaa
open Go.RowKit

/-- the pixels that aren't opaque, then the others -/
def clearL (l : List Px) : List Px := l.filter (fun p => decide (p.2.2.2 ≠ 65535))
def restL (l : List Px) : List Px := l.filter (fun p => decide (p.2.2.2 = 65535))
def palM (l : List Px) : List Px := clearL l ++ restL l
theorem clear_len (l : List Px) : (clearL l).length ≤ l.length := List.length_filter_le _ _
theorem rest_len (l : List Px) : (restL l).length ≤ l.length := List.length_filter_le _ _
theorem parts_len (l : List Px) : (clearL l).length + (restL l).length = l.length := by
  unfold clearL restL
  induction l with
  | nil => rfl
  | cons a l ih =>
    by_cases h : a.2.2.2 = 65535
    · rw [List.filter_cons_of_neg (by simp [h]), List.filter_cons_of_pos (by simp [h])]; simp only [List.length_cons]; omega
    · rw [List.filter_cons_of_pos (by simp [h]), List.filter_cons_of_neg (by simp [h])]; simp only [List.length_cons]; omega

theorem two_start (W : World) (e : TypeId) (size : Nat) : Two W W e size none 0 0 [] none 0 0 [] :=
  ⟨World.ownsRow_nil _ _ _ _, World.ownsRow_nil _ _ _ _, by intro g h; simp [Value.ownBlock] at h, Below.refl _ _⟩

set_option maxRecDepth 100000 in
set_option maxHeartbeats 8000000 in
theorem palette_any (A : Option Addr) (c : Nat) (l : List Px) (W : World) (hp : RdP W W.heap.size A l) (hm : l.length ≤ 1000000) :
    Calls Try.prog 78 #[.slice A l.length c] W (PxsEnd (palM l) W) := by
  have Hp := hid hp
  obtain ⟨i0, hi0, hz0, hz1, hz2⟩ := info_parts px_info
  have Hi0 := hid hi0
  have Hz0 := hid hz0
  have Hz1 := hid hz1
  have Hz2 := hid hz2
  clear hp hi0 hz0 hz1 hz2
  go_enter Try.func78, Try.ntmps78
  go_upto_region 3 with (fail)
  go_loopw [3, 4, 9] (fun o q i wr => ∃ (j : Nat) (A1 : Option Addr) (c1 : Nat) (A2 : Option Addr) (c2 : Nat), j ≤ l.length ∧ i = .int .i64 j ∧ o = .slice A1 (clearL (l.take j)).length c1 ∧ q = .slice A2 (restL (l.take j)).length c2 ∧ Two W wr 69 4 A1 (clearL (l.take j)).length c1 ((clearL (l.take j)).flatMap encP) A2 (restL (l.take j)).length c2 ((restL (l.take j)).flatMap encP)) (fun _ _ i _ => l.length - (intOf i).toNat)
  case atStart =>
    exact ⟨0, none, 0, none, 0, by omega, rfl, rfl, rfl, two_start W _ _⟩
  case round =>
    obtain ⟨j, A1, c1, A2, c2, hj, rfl, rfl, rfl, htwo⟩ := hrel
    have Ht := hid htwo
    have hsz := htwo.2.2.2.size
    clear htwo
    by_cases hlt : j < l.length
    · obtain ⟨b, off, rfl, hbb, x0, x1, x2, x3⟩ := px_at (Rd.below Hp.out Ht.out.2.2.2 (Nat.le_refl _)) hlt
      have hl1 : (clearL (l.take j)).length ≤ j := Nat.le_trans (clear_len _) (List.length_take_le _ _)
      have hl2 : (restL (l.take j)).length ≤ j := Nat.le_trans (rest_len _) (List.length_take_le _ _)
      have Hc := hid (show clearL (l.take (j + 1)) = clearL (l.take j) ++ (if l[j].2.2.2 = 65535 then [] else [l[j]]) by
        unfold clearL
        rw [List.take_succ_eq_append_getElem hlt, List.filter_append]
        by_cases h : l[j].2.2.2 = 65535 <;> simp [h])
      have Hr := hid (show restL (l.take (j + 1)) = restL (l.take j) ++ (if l[j].2.2.2 = 65535 then [l[j]] else []) by
        unfold restL
        rw [List.take_succ_eq_append_getElem hlt, List.filter_append]
        by_cases h : l[j].2.2.2 = 65535 <;> simp [h])
      generalize l[j] = p at *
      obtain ⟨p0, p1, p2, p3⟩ := p
      simp only at x0 x1 x2 x3
      have Ht1 := hid (Ht.out.alloc (.cells #[.int .i64 p0, .int .i64 p1, .int .i64 p2, .int .i64 p3] 69))
      have Ht2 := hid (Ht1.out.alloc (.cells #[.int .i64 p0, .int .i64 p1, .int .i64 p2, .int .i64 p3] 69))
      have hk1 := Blk.new (wr.alloc (.cells #[.int .i64 p0, .int .i64 p1, .int .i64 p2, .int .i64 p3] 69)) 69 #[.int .i64 p0, .int .i64 p1, .int .i64 p2, .int .i64 p3]
      simp only [World.size_alloc] at hk1
      have Hk1 := hid hk1
      clear hk1
      by_cases ha : p3 = 65535
      · have hq : (p3 == 65535) = true := beq_iff_eq.2 ha
        have hc1 := hid (show clearL (l.take (j + 1)) = clearL (l.take j) by rw [Hc.out, if_pos ha, List.append_nil])
        have hr1 := hid (show restL (l.take (j + 1)) = restL (l.take j) ++ [(p0, p1, p2, p3)] by rw [Hr.out, if_pos ha])
        clear ha
        go_wp2_with (at_builtin; refine wpList_app _ rfl _ _ _ rfl W.heap.size 69 i0 (.agg #[.int .i64 0, .int .i64 0, .int .i64 0, .int .i64 0]) 4 32 Try.underlying22 Hi0.out Hz0.out Hz1.out Hz2.out rfl (by omega) A2 (restL (l.take j)).length c2 _ rfl Ht2.out.2.1 _ _ 1 1 [.int .i64 p0, .int .i64 p1, .int .i64 p2, .int .i64 p3] rfl (rd_one _ _ _ _ Hk1.out) (by simp) (by simp [Value.oneCell']) (by simp only [maxLen]; omega) (by omega) (by simp; omega) ?_; intro A3 c3 w3 ha3)
        go_roundw
        case rel =>
          refine ⟨j + 1, A1, c1, A3, c3, by omega, by go_num, by rw [hc1.out], by rw [hr1.out, List.length_append]; rfl, ?_⟩
          have := (Ht2.out.swap.app ha3).1.swap
          rw [hc1.out, hr1.out, List.length_append, List.flatMap_append]
          exact this
        case measure => simp [intOf]; omega
      · have hq : (p3 == 65535) = false := beq_eq_false_iff_ne.2 ha
        have hc1 := hid (show clearL (l.take (j + 1)) = clearL (l.take j) ++ [(p0, p1, p2, p3)] by rw [Hc.out, if_neg ha])
        have hr1 := hid (show restL (l.take (j + 1)) = restL (l.take j) by rw [Hr.out, if_neg ha, List.append_nil])
        clear ha
        go_wp2_with (at_builtin; refine wpList_app _ rfl _ _ _ rfl W.heap.size 69 i0 (.agg #[.int .i64 0, .int .i64 0, .int .i64 0, .int .i64 0]) 4 32 Try.underlying22 Hi0.out Hz0.out Hz1.out Hz2.out rfl (by omega) A1 (clearL (l.take j)).length c1 _ rfl Ht2.out.1 _ _ 1 1 [.int .i64 p0, .int .i64 p1, .int .i64 p2, .int .i64 p3] rfl (rd_one _ _ _ _ Hk1.out) (by simp) (by simp [Value.oneCell']) (by simp only [maxLen]; omega) (by omega) (by simp; omega) ?_; intro A3 c3 w3 ha3)
        go_roundw
        case rel =>
          refine ⟨j + 1, A3, c3, A2, c2, by omega, by go_num, by rw [hc1.out, List.length_append]; rfl, by rw [hr1.out], ?_⟩
          have := (Ht2.out.app ha3).1
          rw [hc1.out, hr1.out, List.length_append, List.flatMap_append]
          exact this
        case measure => simp [intOf]; omega
    · have e : j = l.length := by omega
      have ht : l.take j = l := by rw [e, List.take_length]
      rw [ht] at Ht ⊢
      have hpl := Nat.le_of_eq (parts_len l)
      have Hrr := hid (own_rdp Ht.out.2.1)
      have Hrn := hid (fun h => own_nil_n Ht.out.2.1 h)
      have Henc := hid (enc_cells (restL l))
      have Hpm := hid (show palM l = clearL l ++ restL l from rfl)
      generalize clearL l = cl at *
      generalize restL l = rl at *
      clear ht
      go_wp2_with (at_builtin; refine wpList_app _ rfl _ _ _ rfl W.heap.size 69 i0 (.agg #[.int .i64 0, .int .i64 0, .int .i64 0, .int .i64 0]) 4 32 Try.underlying22 Hi0.out Hz0.out Hz1.out Hz2.out rfl (by omega) A1 cl.length c1 _ rfl Ht.out.1 _ A2 rl.length c2 (rl.flatMap encP) rfl Hrr.out Hrn.out Henc.out (by simp only [maxLen]; omega) (by omega) (by omega) ?_; intro A3 c3 w3 ha3)
      go_ret
      rw [Hpm.out]
      have ho : w3.ownsRow W.heap.size 69 4 (.slice A3 (cl ++ rl).length c3) (cl ++ rl).length ((cl ++ rl).flatMap encP) := by
        rw [List.length_append, List.flatMap_append]; exact ha3.1
      exact ⟨A3, c3, by rw [List.length_append]; rfl, ho, Ht.out.2.2.2.trans ha3.2.2.1⟩

set_option maxRecDepth 100000 in
set_option maxHeartbeats 4000000 in
theorem cloneP_any (A : Option Addr) (c : Nat) (l : List Px) (W : World) (hp : RdP W W.heap.size A l) (hn : A = none → l.length = 0) (hm : l.length ≤ 1000000) :
    Calls Try.prog 80 #[.slice A l.length c] W (PxsEnd l W) := by
  have Hp := hid hp
  have Hn := hid hn
  obtain ⟨i0, hi0, hz0, hz1, hz2⟩ := info_parts px_info
  have Hi0 := hid hi0
  have Hz0 := hid hz0
  have Hz1 := hid hz1
  have Hz2 := hid hz2
  have hnil := fun (w : World) => Lib.run_eql_slice_nil (P := Try.prog) w 22 69 A l.length c 0 0 Try.underlying22
  have Henc := hid (enc_cells l)
  clear hp hn hi0 hz0 hz1 hz2
  cases A with
  | none =>
    have hl := hid (Hn.out rfl)
    go_enter Try.func80, Try.ntmps80
    go_wp2
    go_ret
    obtain rfl := List.eq_nil_of_length_eq_zero hl.out
    exact ⟨none, 0, rfl, World.ownsRow_nil _ _ _ _, Below.refl _ _⟩
  | some ad =>
    have Ho := hid (empty_rowP W 69 4)
    go_enter Try.func80, Try.ntmps80
    go_wp2_with (at_builtin; refine wpList_app _ rfl _ _ _ rfl W.heap.size 69 i0 (.agg #[.int .i64 0, .int .i64 0, .int .i64 0, .int .i64 0]) 4 32 Try.underlying22 Hi0.out Hz0.out Hz1.out Hz2.out rfl (by omega) _ 0 0 _ rfl Ho.out W.heap.size (some ad) l.length c (l.flatMap encP) rfl (Rd.alloc Hp.out (Nat.le_refl _) _) (by simp) Henc.out (by simp only [maxLen]; omega) (by omega) (by simp) ?_; intro A3 c3 w3 ha3)
    go_ret
    have ho : w3.ownsRow W.heap.size 69 4 (.slice A3 l.length c3) l.length (l.flatMap encP) := by
      have := ha3.1; simpa using this
    exact ⟨A3, c3, by first | rfl | (rw [Nat.zero_add]; rfl) | simp, ho, ((Below.refl _ _).alloc (Nat.le_refl _) _).trans ha3.2.2.1⟩

/-- where the first clear pixel stands -/
def clearAt (l : List Px) : Int := if l.findIdx (fun p => p.2.2.2 == 0) < l.length then (l.findIdx (fun p => p.2.2.2 == 0) : Nat) else -1
set_option maxRecDepth 100000 in
theorem isclear_any (a0 a1 a2 a3 : Int) (W : World) :
    Calls Try.prog 76 #[.agg #[.int .i64 a0, .int .i64 a1, .int .i64 a2, .int .i64 a3]] W fun e w' => e = .returned (.bool (a3 == 0)) ∧ Below W.heap.size W w' := by
  go_enter Try.func76, Try.ntmps76
  go_wp2
  go_ret
  exact ⟨rfl, (Below.refl _ _).alloc (Nat.le_refl _) _⟩
set_option maxHeartbeats 1000000 in
theorem indexClear_any (A : Option Addr) (c : Nat) (l : List Px) (W : World) (hr : RdP W W.heap.size A l) (hm : l.length ≤ 1000000) :
    Calls Try.prog 75 #[.slice A l.length c, .func (.func 76) #[] #[]] W fun e w' => e = .returned (.int .i64 (clearAt l)) ∧ Below W.heap.size W w' := by
  have Hr := hid hr
  clear hr
  go_enter Try.func75, Try.ntmps75
  go_wp2
  go_loopw [8] (fun i wr => ∃ j : Nat, j ≤ l.length ∧ i = .int .i64 j ∧ (∀ p ∈ l.take j, (p.2.2.2 == 0) = false) ∧ Below W.heap.size W wr) (fun i _ => l.length - (intOf i).toNat)
  case atStart => exact ⟨0, by omega, rfl, by simp, Below.refl _ _⟩
  case round =>
    obtain ⟨j, hj, rfl, hno, hb⟩ := hrel
    have Hno := hid hno
    have Hb := hid hb
    clear hno hb
    by_cases hlt : j < l.length
    · obtain ⟨b, off, rfl, hbb, x0, x1, x2, x3⟩ := px_at (Rd.below Hr.out Hb.out (Nat.le_refl _)) hlt
      have Hhit := hid (fun (h : (l[j].2.2.2 == 0) = true) => show clearAt l = j by
        have e : l.findIdx (fun p => p.2.2.2 == 0) = j := by
          rw [List.findIdx_eq hlt]
          exact ⟨h, fun i hi => Hno.out _ (by rw [List.mem_take_iff_getElem]; exact ⟨i, by omega, rfl⟩)⟩
        unfold clearAt
        rw [e, if_pos hlt])
      have Hnx := hid (fun (h : (l[j].2.2.2 == 0) = false) => show ∀ p ∈ l.take (j + 1), (p.2.2.2 == 0) = false by
        intro p hp
        rw [List.take_succ_eq_append_getElem hlt] at hp
        rcases List.mem_append.1 hp with hp | hp
        · exact Hno.out p hp
        · simp at hp; subst hp; exact h)
      generalize l[j] = p at *
      obtain ⟨p0, p1, p2, p3⟩ := p
      simp only at x0 x1 x2 x3 Hhit Hnx
      go_wp2_with fail
      refine (isclear_any p0 p1 p2 p3 _).mono ?_
      rintro e w2 ⟨rfl, hb2⟩
      have Hb2 := hid (Hb.out.trans (hb2.mono Hb.out.size))
      clear hb2
      cases hq : (p3 == 0)
      · have Hn2 := hid (Hnx.out hq)
        clear hq
        go_wp2
        go_roundw
        case rel => exact ⟨j + 1, by omega, by go_num, Hn2.out, Hb2.out⟩
        case measure => simp [intOf]; omega
      · have Hn2 := hid (Hhit.out hq)
        clear hq
        go_wp2
        go_ret
        exact ⟨ret_int (by rw [Hn2.out]), Hb2.out⟩
    · have e : j = l.length := by omega
      have Hn2 := hid (show clearAt l = -1 by
        unfold clearAt
        rw [if_neg]
        rw [List.findIdx_lt_length]
        rintro ⟨x, hx, h⟩
        have := Hno.out x (by rw [e, List.take_length]; exact hx)
        rw [this] at h; cases h)
      go_wp2
      go_ret
      exact ⟨ret_int (by rw [Hn2.out]), Hb.out⟩

/-- do all pixels have numbers in a form? -/
def fitsB (f : Fm) (l : List Px) : Bool := l.all (fun p => (fnumsOf f p).isSome) && formOk f
theorem fits_take (f : Fm) (l : List Px) (j : Nat) (hj : j < l.length) : (l.take (j + 1)).all (fun p => (fnumsOf f p).isSome) = ((l.take j).all (fun p => (fnumsOf f p).isSome) && (fnumsOf f l[j]).isSome) := by
  rw [List.take_succ_eq_append_getElem hj, List.all_append]; simp
/-- a form, boxed -/
def FbW (w W : World) (f : Fm) (PA KA : Option Addr) (pc kc : Nat) : Prop := Blk w W.heap.size 32 #[.int .i64 f.w, .int .i64 f.h, .int .i64 f.d, .int .i64 f.c, .int .i64 f.l, .slice PA f.pal.length pc, .slice KA f.key.length kc] ∧ Below W.heap.size W w
section
variable {w w' W : World} {f : Fm} {PA KA : Option Addr} {pc kc : Nat}
theorem fbw_start (f : Fm) (PA KA : Option Addr) (pc kc : Nat) (W : World) : FbW (W.alloc (.cells #[.int .i64 f.w, .int .i64 f.h, .int .i64 f.d, .int .i64 f.c, .int .i64 f.l, .slice PA f.pal.length pc, .slice KA f.key.length kc] 32)) W f PA KA pc kc := ⟨Blk.new _ _ _, (Below.refl _ _).alloc (Nat.le_refl _) _⟩
theorem FbW.below (h : FbW w W f PA KA pc kc) (hb : Below w.heap.size w w') : FbW w' W f PA KA pc kc := ⟨h.1.below hb h.1.lt, h.2.trans (hb.mono h.2.size)⟩
theorem FbW.alloc (h : FbW w W f PA KA pc kc) (o : Obj) : FbW (w.alloc o) W f PA KA pc kc := ⟨h.1.alloc o, h.2.alloc h.2.size o⟩
theorem FbW.drewN (h : FbW w W f PA KA pc kc) (k : Nat) : FbW (w.drewN k) W f PA KA pc kc := ⟨h.1, below_drewN h.2 k⟩
theorem FbW.rdp (h : FbW w W f PA KA pc kc) {A : Option Addr} {l : List Px} (hp : RdP W W.heap.size A l) : RdP w w.heap.size A l := Rd.more (Rd.below hp h.2 (Nat.le_refl _)) h.2.size
theorem FbW.rdi (h : FbW w W f PA KA pc kc) {A : Option Addr} {l : List Int} (hk : RdI W W.heap.size A l) : RdI w w.heap.size A l := (hk.below h.2 (Nat.le_refl _)).more h.2.size
end

set_option maxRecDepth 100000 in
set_option maxHeartbeats 4000000 in
theorem fits_any (f : Fm) (PA KA A : Option Addr) (pc kc c : Nat) (l : List Px) (W : World) (hp : RdP W W.heap.size PA f.pal) (hk : RdI W W.heap.size KA f.key) (hpm : f.pal.length ≤ 1000000) (hkm : f.key.length ≤ 1000000) (hl : RdP W W.heap.size A l) (hm : l.length ≤ 1000000) :
    Calls Try.prog 36 #[.agg #[.int .i64 f.w, .int .i64 f.h, .int .i64 f.d, .int .i64 f.c, .int .i64 f.l, .slice PA f.pal.length pc, .slice KA f.key.length kc], .slice A l.length c] W fun e w' => e = .returned (.bool (fitsB f l)) ∧ Below W.heap.size W w' := by
  have Hp := hid hp
  have Hk := hid hk
  have Hl := hid hl
  have Hw := hid (fbw_start f PA KA pc kc W)
  have Hf : Hid (fitsB f l = (l.all (fun p => (fnumsOf f p).isSome) && formOk f)) := rfl
  clear hp hk hl
  go_enter Try.func36, Try.ntmps36
  go_wp2_with fail
  go_loopw [11] (fun i wr => ∃ j : Nat, j ≤ l.length ∧ i = .int .i64 j ∧ (l.take j).all (fun p => (fnumsOf f p).isSome) = true ∧ FbW wr W f PA KA pc kc) (fun i _ => l.length - (intOf i).toNat)
  case atStart => exact ⟨0, by omega, rfl, rfl, Hw.out⟩
  case round =>
    obtain ⟨j, hj, rfl, hall, hw⟩ := hrel
    have Hall := hid hall
    have Hwr := hid hw
    clear hall hw Hw
    have q0 := Hwr.out.1.cell 0
    have q1 := Hwr.out.1.cell 1
    have q2 := Hwr.out.1.cell 2
    have q3 := Hwr.out.1.cell 3
    have q4 := Hwr.out.1.cell 4
    have q5 := Hwr.out.1.cell 5
    have q6 := Hwr.out.1.cell 6
    simp only [List.getElem?_toArray, List.getElem?_cons_zero, List.getElem?_cons_succ] at q0 q1 q2 q3 q4 q5 q6
    have hg := Hwr.out.1.lt
    by_cases hlt : j < l.length
    · obtain ⟨b, off, rfl, hbb, x0, x1, x2, x3⟩ := px_at (Rd.below Hl.out Hwr.out.2 (Nat.le_refl _)) hlt
      have Hst := hid (fits_take f l j hlt)
      have Hno := hid (fun (h : fnumsOf f l[j] = none) => show fitsB f l = false by
        rw [Hf.out]
        have : l.all (fun p => (fnumsOf f p).isSome) = false := by rw [List.all_eq_false]; exact ⟨l[j], List.getElem_mem hlt, by rw [h]; simp⟩
        rw [this]; rfl)
      generalize l[j] = p at *
      obtain ⟨p0, p1, p2, p3⟩ := p
      simp only at x0 x1 x2 x3
      have Hw1 := hid (Hwr.out.alloc (.cells #[.int .i64 p0, .int .i64 p1, .int .i64 p2, .int .i64 p3] 69))
      go_wp2_with fail
      refine (fnums_any f PA KA pc kc p0 p1 p2 p3 _ (Hw1.out.rdp Hp.out) (Hw1.out.rdi Hk.out) hpm hkm).mono ?_
      rintro e w2 ⟨he, hb2⟩
      have Hw2 := hid (Hw1.out.below hb2)
      clear hb2 Hw1 q0 q1 q2 q3 q4 q5 q6
      cases hn : fnumsOf f (p0, p1, p2, p3) with
      | none =>
        rw [hn] at he
        have he : e = .returned (.tuple #[.slice none 0 0, .bool false]) := he
        subst he
        have Hn := hid (Hno.out hn)
        clear hn
        go_wp2
        go_ret
        exact ⟨by rw [Hn.out]; rfl, Hw2.out.2⟩
      | some o =>
        rw [hn] at he
        obtain ⟨A', c', rfl, _⟩ := he
        have Hal := hid (show (l.take (j + 1)).all (fun p => (fnumsOf f p).isSome) = true by rw [Hst.out, Hall.out, hn]; rfl)
        clear hn
        go_wp2
        go_roundw
        case rel => exact ⟨j + 1, by omega, by go_num, Hal.out, Hw2.out⟩
        case measure => simp [intOf]; omega
    · have e : j = l.length := by omega
      have Hal := hid (show fitsB f l = formOk f by rw [Hf.out]; have := Hall.out; rw [e, List.take_length] at this; rw [this]; simp)
      go_wp2_with fail
      refine (fcheck_any f PA KA pc kc _ (Hwr.out.rdp Hp.out) (Hwr.out.rdi Hk.out) hpm hkm).mono ?_
      rintro e w2 ⟨rfl, hb2⟩
      have Hw2 := hid (Hwr.out.below hb2)
      clear hb2
      cases hf : formOk f
      · have Hff := hid hf
        rw [if_neg (by simp), errv_6]
        clear hf
        go_wp2
        go_ret
        exact ⟨by rw [Hal.out, Hff.out]; rfl, Hw2.out.2⟩
      · have Hff := hid hf
        rw [if_pos rfl, errv_0]
        clear hf
        go_wp2
        go_ret
        exact ⟨by rw [Hal.out, Hff.out]; rfl, Hw2.out.2⟩

end Go.Proofs.Ytchkogfgkaaogaa
