/-
  burnishref18.Forms: the least forms, as the document's answer finds them.
-/
import Derived.Test.YtbpdkpphhjmalaaRefB
import Derived.Test.YtbpdkpphhjmalaaShG
import Derived.Deep.RegionHeld3
namespace Go.Proofs.Ytbpdkpphhjmalaa
open Go.RowKit Go.Shelf

theorem rform_info : (Try.prog.info? 27).map (fun i => (i.zero, i.size, i.bytes)) = some (some (.agg #[.int .i64 0, .int .i64 0, .int .i64 0, .int .i64 0, .int .i64 0, .slice none 0 0, .slice none 0 0]), 7, 88) := by kernel_rfl
theorem nums_4 {f : Fm} {p : Px} {l : List Int} (h : numsOf f p = some l) : l.length ≤ 4 := by
  unfold numsOf at h
  split at h
  · split at h
    · injection h with h; subst h; simp
    · cases h
  · split at h
    · split at h
      · injection h with h; subst h; have := (wide_len f.c p).2; simpa using this
      · cases h
    · cases h
theorem rkey_4 (f : Fm) (l : List Px) : (rkey f l).length ≤ 4 := by
  unfold rkey
  split
  · split
    · rename_i p _
      cases hn : numsOf f (p.1, p.2.1, p.2.2.1, 65535) with
      | none => simp
      | some k => exact nums_4 hn
    · simp
  · simp
/-- the depths, one behind the other -/
def dp (k : Nat) : Int := ([1, 2, 4, 8, 16, 32] : List Int).getD k 64
theorem dp_step {k : Nat} (h : k < 5) : 1 ≤ dp k ∧ dp k ≤ 16 ∧ 2 * dp k = dp (k + 1) ∧ rdeps.drop k = dp k :: rdeps.drop (k + 1) := by
  have : k = 0 ∨ k = 1 ∨ k = 2 ∨ k = 3 ∨ k = 4 := by omega
  rcases this with rfl | rfl | rfl | rfl | rfl <;> decide
def rci (i : Nat) : Int := rcolors.getD i 0
theorem rforms_next (x y lc : Int) (l : List Px) (i : Nat) : rforms x y lc l (i + 1) = addM (rtry i x y (rci i) lc l rdeps) (rforms x y lc l i) := rfl
theorem rforms_len (x y lc : Int) (l : List Px) : ∀ i : Nat, (rforms x y lc l i).length ≤ i
  | 0 => by simp [rforms]
  | i + 1 => by
    have h1 := rforms_len x y lc l i
    have h2 := addM_len (rtry i x y (rci i) lc l rdeps) (rforms x y lc l i)
    rw [rforms_next]
    omega
theorem rtry_step (i : Nat) (x y c lc : Int) (l : List Px) (d : Int) (ds : List Int) : rtry i x y c lc l (d :: ds) = match rform i x y d c lc l with | none => rtry i x y c lc l ds | some f => if fitsB f l = true then some f else rtry i x y c lc l ds := rfl
theorem FmOwn.rgrown {w w' : World} {base b : Nat} {f : Fm} {PA KA : Option Addr} {pc kc n : Nat} {v : Value} {xs : List Value} (h : FmOwn w base f PA KA pc kc) (ho : w.ownsRow b 27 7 v n xs) (hg : w.grownBy w' v.ownBlock) : FmOwn w' base f PA KA pc kc :=
  ⟨h.1.kept hg (own_own_ne h.1 ho (by decide)), h.2.kept hg (own_own_ne h.2 ho (by decide))⟩
def colB : Array Value := #[.int .i64 0, .int .i64 2, .int .i64 4, .int .i64 6, .int .i64 0, .int .i64 2, .int .i64 3]
theorem colB_at {i : Nat} (h : i < 7) : colB[i]? = some (.int .i64 (rci i)) := by
  have : i = 0 ∨ i = 1 ∨ i = 2 ∨ i = 3 ∨ i = 4 ∨ i = 5 ∨ i = 6 := by omega
  rcases this with rfl | rfl | rfl | rfl | rfl | rfl | rfl <;> rfl
/-- the world while the reference gathers forms -/
def RSt (w W0 : World) (x y : Int) (PR : Option Addr) (np pr cb : Nat) (A : Option Addr) (cc : Nat) (l : List Px) (zs : List FR) (OA : Option Addr) (oc : Nat) : Prop :=
  Blk w W0.heap.size 83 #[.int .i64 x, .int .i64 y, .slice PR np pr] ∧ Blk w cb 3 colB ∧ w.ownsRow W0.heap.size 27 7 (.slice OA zs.length oc) zs.length (zs.flatMap encF) ∧
  w.ownsRow W0.heap.size 29 4 (.slice A l.length cc) l.length (l.flatMap encP) ∧ (∀ z ∈ zs, FmOwn w W0.heap.size z.f z.PA z.KA z.pc z.kc) ∧ Below W0.heap.size W0 w
section
variable {w w' W0 : World} {x y : Int} {PR A OA : Option Addr} {np pr cb cc oc : Nat} {l : List Px} {zs : List FR}
theorem RSt.below (h : RSt w W0 x y PR np pr cb A cc l zs OA oc) (hb : Below w.heap.size w w') : RSt w' W0 x y PR np pr cb A cc l zs OA oc := by
  obtain ⟨h1, h2, h3, h4, h5, h6⟩ := h
  exact ⟨h1.below hb h1.lt, h2.below hb h2.lt, own_below h3 hb (Nat.le_refl _), own_below h4 hb (Nat.le_refl _), fun z hz => (h5 z hz).below hb (Nat.le_refl _), h6.trans (hb.mono h6.size)⟩
theorem RSt.alloc (h : RSt w W0 x y PR np pr cb A cc l zs OA oc) (o : Obj) : RSt (w.alloc o) W0 x y PR np pr cb A cc l zs OA oc := h.below ((Below.refl _ _).alloc (Nat.le_refl _) o)
theorem RSt.drew (h : RSt w W0 x y PR np pr cb A cc l zs OA oc) : RSt w.drew W0 x y PR np pr cb A cc l zs OA oc := h.below (Below.refl _ _).drew
/-- a store into the form that is made -/
theorem RSt.set_ (h : RSt w W0 x y PR np pr cb A cc l zs OA oc) {g : Nat} {cs : Array Value} (hg : Blk w g 27 cs) (hb : W0.heap.size ≤ g) (hn : (Value.slice OA zs.length oc).ownBlock ≠ some g) (o : Nat) (u : Value) : RSt (w.setCell ⟨g, o, none⟩ u) W0 x y PR np pr cb A cc l zs OA oc := by
  obtain ⟨h1, h2, h3, h4, h5, h6⟩ := h
  refine ⟨h1.far (fun e => ?_) u, h2.far (fun e => ?_) u, ownsRow_setCell_other (a := ⟨g, o, none⟩) h3 hn u, ownsRow_setCell_other (a := ⟨g, o, none⟩) h4 (fun e => own_blk_ne h4 hg (by decide) e.symm) u, fun z hz => (h5 z hz).set_ hg (by decide) (by decide) o u, h6.setCell hb u⟩
  · have e : W0.heap.size = g := e
    subst e
    unfold Blk at h1 hg
    rw [h1] at hg
    injection hg with hg
    injection hg with _ ht
    exact absurd ht (by decide)
  · have e : cb = g := e
    subst e
    unfold Blk at h2 hg
    rw [h2] at hg
    injection hg with hg
    injection hg with _ ht
    exact absurd ht (by decide)
theorem RSt.app {A3 : Option Addr} {c3 : Nat} {w3 : World} {z : FR} {obj : Obj} (h : RSt w W0 x y PR np pr cb A cc l zs OA oc) (hz : FmOwn w W0.heap.size z.f z.PA z.KA z.pc z.kc) (ha : Apped (w.alloc obj) W0.heap.size 27 7 OA zs.length oc (zs.flatMap encF) 1 (encF z) A3 c3 w3) :
    RSt w3 W0 x y PR np pr cb A cc l (zs ++ [z]) A3 c3 := by
  obtain ⟨h1, h2, h3, h4, h5, h6⟩ := h.alloc obj
  have hz := hz.alloc obj
  refine ⟨h1.grown ha.2.1 (own_blk_ne h3 h1 (by decide)), h2.grown ha.2.1 (own_blk_ne h3 h2 (by decide)), ?_, h4.kept ha.2.1 (own_own_ne h4 h3 (by decide)), fun y hy => ?_, h6.trans ha.2.2.1⟩
  · have h7 := ha.1
    rw [List.length_append, List.flatMap_append]
    simpa using h7
  · rcases List.mem_append.1 hy with hy | hy
    · exact (h5 y hy).rgrown h3 ha.2.1
    · rw [List.mem_singleton.1 hy]
      exact hz.rgrown h3 ha.2.1
end
/-- what the reference's forms end in -/
def RfEnd (fs : List Fm) (W : World) (e : Ending) (w' : World) : Prop := ∃ (OA : Option Addr) (oc : Nat) (zs : List FR), e = .returned (.slice OA zs.length oc) ∧ zs.map (·.f) = fs ∧ w'.ownsRow W.heap.size 27 7 (.slice OA zs.length oc) zs.length (zs.flatMap encF) ∧ (∀ z ∈ zs, FmOwn w' W.heap.size z.f z.PA z.KA z.pc z.kc) ∧ Below W.heap.size W w'
/-- what is known of the forms in a round -/
def RRel (i k : Nat) (fnd : Bool) (x y lc : Int) (l : List Px) (zs : List FR) : Prop :=
  (fnd = false → rtry i x y (rci i) lc l rdeps = rtry i x y (rci i) lc l (rdeps.drop k) ∧ zs.map (·.f) = rforms x y lc l i) ∧ (fnd = true → zs.map (·.f) = rforms x y lc l (i + 1))
theorem rrel_done {i k : Nat} {fnd : Bool} {x y lc : Int} {l : List Px} {zs : List FR} (h : RRel i k fnd x y lc l zs) (hd : fnd = true ∨ k = 5) : zs.map (·.f) = rforms x y lc l (i + 1) := by
  cases fnd
  · obtain ⟨h1, h2⟩ := h.1 rfl
    obtain rfl : k = 5 := by simpa using hd
    rw [rforms_next, h1, h2]
    rfl
  · exact h.2 rfl
theorem rrel_skip {i k : Nat} {x y lc : Int} {l : List Px} {zs : List FR} (h : RRel i k false x y lc l zs) (hk : k < 5) (hr : rtry i x y (rci i) lc l (dp k :: rdeps.drop (k + 1)) = rtry i x y (rci i) lc l (rdeps.drop (k + 1))) : RRel i (k + 1) false x y lc l zs := by
  obtain ⟨h1, h2⟩ := h.1 rfl
  refine ⟨fun _ => ⟨?_, h2⟩, fun e => by cases e⟩
  rw [h1, (dp_step hk).2.2.2, hr]
theorem rrel_take {i k : Nat} {x y lc : Int} {l : List Px} {zs : List FR} {z : FR} (h : RRel i k false x y lc l zs) (hk : k < 5) (hr : rtry i x y (rci i) lc l (dp k :: rdeps.drop (k + 1)) = some z.f) (m : Nat) : RRel i m true x y lc l (zs ++ [z]) := by
  obtain ⟨h1, h2⟩ := h.1 rfl
  refine ⟨fun e => absurd e (by decide), fun _ => ?_⟩
  rw [rforms_next, h1, (dp_step hk).2.2.2, hr, List.map_append, h2]
  rfl
set_option maxRecDepth 100000 in
set_option maxHeartbeats 32000000 in
theorem rforms_any (x y lc : Int) (PR : Option Addr) (pr : Nat) (px : List Px) (W : World) (hp : RdP W W.heap.size PR px) (hm : px.length ≤ 1000000) :
    Calls Try.prog 54 #[.agg #[.int .i64 x, .int .i64 y, .slice PR px.length pr], .int .i64 lc] W (RfEnd (rforms x y lc (unl px) 7) W) := by
  have Hp := hid hp
  have Hw := hid (rcw_start x y PR px.length pr W)
  obtain ⟨i0, hi0, hz0, hz1, hz2⟩ := info_parts rform_info
  have Hi0 := hid hi0
  have Hz0 := hid hz0
  have Hz1 := hid hz1
  have Hz2 := hid hz2
  clear hp hi0 hz0 hz1 hz2
  go_enter Try.func54, Try.ntmps54
  go_wp2_with fail
  refine (runlike_any PR pr px _ (Rd.below Hp.out Hw.out.2 (Nat.le_refl _) |>.more Hw.out.2.size) hm).mono ?_
  rintro e w1 ⟨A, cc, rfl, ho, hb⟩
  have Hw1 := hid (Hw.out.below hb)
  have Ho := hid (own_base ho Hw.out.2.size)
  have hlm : (unl px).length ≤ 1000000 := Nat.le_trans (unl_len px) hm
  generalize unl px = l at *
  clear hb ho Hw
  have S1 : Hid (RSt (w1.alloc (.cells colB 3)) W x y PR px.length pr w1.heap.size A cc l [] none 0) := hid ⟨Hw1.out.1.alloc _, Blk.new _ _ _, World.ownsRow_nil _ _ _ _, Ho.out.alloc _, by simp, Hw1.out.2.alloc Hw1.out.2.size _⟩
  clear Ho Hw1
  go_upto_region 5 with (fail)
  rw [show w1.alloc (.cells #[.int .i64 0, .int .i64 2, .int .i64 4, .int .i64 6, .int .i64 0, .int .i64 2, .int .i64 3] 3) = w1.alloc (.cells colB 3) from rfl]
  generalize w1.alloc (.cells colB 3) = w2 at *
  generalize w1.heap.size = cb at *
  go_loopw [6, 8] (fun o iv wr => ∃ (i : Nat) (zs : List FR) (OA : Option Addr) (oc : Nat), i ≤ 7 ∧ iv = .int .i64 i ∧ o = .slice OA zs.length oc ∧ zs.map (·.f) = rforms x y lc l i ∧ RSt wr W x y PR px.length pr cb A cc l zs OA oc) (fun _ iv _ => 7 - (intOf iv).toNat)
  case atStart => exact ⟨0, [], none, 0, by omega, rfl, rfl, rfl, S1.out⟩
  case round =>
    obtain ⟨i, zs, OA, oc, hi, rfl, rfl, hzm, hs⟩ := hrel
    have Hzm := hid hzm
    have S := hid hs
    clear hzm hs S1
    by_cases hlt : i < 7
    · have d7 : decide ((i : Int) < 7) = true := decide_eq_true (by omega)
      have R0 : Hid (RRel i 0 false x y lc l zs) := hid ⟨fun _ => ⟨rfl, Hzm.out⟩, fun e => by cases e⟩
      go_upto_region 9 with (fail)
      go_loopw [6, 9, 10] (fun o fv dv wi => ∃ (k : Nat) (zs : List FR) (OA : Option Addr) (oc : Nat) (fnd : Bool), k ≤ 5 ∧ dv = .int .i64 (dp k) ∧ fv = .bool fnd ∧ o = .slice OA zs.length oc ∧ RRel i k fnd x y lc l zs ∧ RSt wi W x y PR px.length pr cb A cc l zs OA oc) (fun _ _ dv _ => (40 - intOf dv).toNat)
      case atStart => exact ⟨0, zs, OA, oc, false, by omega, rfl, rfl, rfl, R0.out, S.out⟩
      case round =>
        obtain ⟨k, zs, OA, oc, fnd, hk, rfl, rfl, rfl, hr, hs⟩ := hrel
        have HR := hid hr
        have S := hid hs
        clear hr hs R0 Hzm
        by_cases hgo : k < 5 ∧ fnd = false
        · obtain ⟨hk5, rfl⟩ := hgo
          obtain ⟨e1, e2, e3, _⟩ := dp_step hk5
          have Hyes := hid (fun (z : FR) (hr : rtry i x y (rci i) lc l (dp k :: rdeps.drop (k + 1)) = some z.f) => rrel_take HR.out hk5 hr (k + 1))
          have Hno := hid (fun hr => rrel_skip HR.out hk5 hr)
          have Hstep := hid (rtry_step i x y (rci i) lc l (dp k) (rdeps.drop (k + 1)))
          have hzl : zs.length ≤ 7 := by
            have h := congrArg List.length (HR.out.1 rfl).2
            have h2 := rforms_len x y lc l i
            rw [List.length_map] at h
            omega
          have hdd : decide (dp k ≤ 16) = true := decide_eq_true e2
          have E3 := hid e3
          generalize hd : dp k = d at *
          have Hd := hid hd
          have c0 : wr.cell? ⟨cb, i, none⟩ = some (.int .i64 (rci i)) := (S.out.2.1.cell i).trans (colB_at hlt)
          have q0 := S.out.1.cell 0
          have q1 := S.out.1.cell 1
          simp only [List.getElem?_toArray, List.getElem?_cons_zero, List.getElem?_cons_succ] at q0 q1
          have hi0 : (0 : Int) ≤ (i : Int) := by omega
          have hi7 : (i : Int) < 7 := by omega
          have hi7' : i < 7 := hlt
          clear e3 hd HR
          go_upto_region 11 with (fail)
          clear d7 hdd
          first | go_region_held3 (fun w' => w'.cell? ⟨W.heap.size, 0, none⟩ = some (.int .i64 x) ∧ w'.cell? ⟨W.heap.size, 1, none⟩ = some (.int .i64 y) ∧ w'.cell? ⟨cb, i, none⟩ = some (.int .i64 (rci i))) (first | go_keep | exact ⟨q0, q1, c0⟩) (fail) | fail
          have SX := hid ((S.out.alloc (.cells #[.int .i64 x, .int .i64 y, .int .i64 d, .int .i64 (rci i), .int .i64 lc, .slice none 0 0, .slice none 0 0] 27)).drew)
          have HB := hid ((Blk.new wr 27 #[.int .i64 x, .int .i64 y, .int .i64 d, .int .i64 (rci i), .int .i64 lc, .slice none 0 0, .slice none 0 0]).drew)
          have hgn : (Value.slice OA zs.length oc).ownBlock ≠ some wr.heap.size := fun e => by have h9 := S.out.2.2.1.lt _ e; omega
          have Hgn := hid hgn
          have hWg : W.heap.size ≤ wr.heap.size := S.out.2.2.2.2.2.size
          generalize (wr.alloc (.cells #[.int .i64 x, .int .i64 y, .int .i64 d, .int .i64 (rci i), .int .i64 lc, .slice none 0 0, .slice none 0 0] 27)).drew = w3 at *
          generalize wr.heap.size = fb at *
          have c1 : w3.cell? ⟨cb, i, none⟩ = some (.int .i64 (rci i)) := (SX.out.2.1.cell i).trans (colB_at hlt)
          have FO : Hid (FmOwn w3 W.heap.size (bare x y d (rci i) lc) none none 0 0) := hid ⟨World.ownsRow_nil _ _ _ _, World.ownsRow_nil _ _ _ _⟩
          clear q0 q1 c0 hgn S
          by_cases h45 : i = 4 ∨ i = 5
          · have hc3 : (rci i == 3) = false := by rcases h45 with rfl | rfl <;> decide
            have hei : ((i : Int) == 4) = true ∨ (((i : Int) == 4) = false ∧ ((i : Int) == 5) = true) := by
              rcases h45 with rfl | rfl
              · exact .inl rfl
              · exact .inr ⟨rfl, rfl⟩
            have H45 := hid h45
            clear h45
            rcases hei with e4 | ⟨e4, e5⟩
            all_goals
              have q0 := HB.out.cell 0
              have q1 := HB.out.cell 1
              have q2 := HB.out.cell 2
              have q3 := HB.out.cell 3
              have q4 := HB.out.cell 4
              have q5 := HB.out.cell 5
              have q6 := HB.out.cell 6
              simp only [List.getElem?_toArray, List.getElem?_cons_zero, List.getElem?_cons_succ] at q0 q1 q2 q3 q4 q5 q6
              go_wp2_with fail
              refine (rclear_any (bare x y d (rci i) lc) none none A 0 0 cc l _ Rd.nil RdI.nil (by simp [bare]) (by simp [bare]) (own_rdp SX.out.2.2.2.1) hlm).mono ?_
              rintro e w4 ⟨KA, kc, rfl, ho, hb⟩
              have S4 := hid (SX.out.below hb)
              have HB4 := hid (HB.out.below hb HB.out.lt)
              have hk4 := rkey_4 (bare x y d (rci i) lc) l
              have Ho := hid (own_base ho SX.out.2.2.2.2.2.size)
              have Hrf := hid (show rform i x y d (rci i) lc l = (if (rkey (bare x y d (rci i) lc) l).length = 0 then none else some ⟨x, y, d, rci i, lc, [], rkey (bare x y d (rci i) lc) l⟩) from if_pos H45.out)
              clear hb ho
              clear q0 q1 q2 q3 q4 q5 q6
              clear c1
              generalize rkey (bare x y d (rci i) lc) l = ks at *
              by_cases hk0 : ks.length = 0
              · have Hr := hid (Hno.out (by rw [Hstep.out, Hrf.out, if_pos hk0]))
                have Hk0 := hid hk0
                clear hk0
                rw [Hk0.out]
                go_wp2
                go_roundw
                case rel => exact ⟨k + 1, zs, OA, oc, false, by omega, by rw [← E3.out], rfl, rfl, Hr.out, S4.out⟩
                case measure => simp [intOf]; omega
              · have ek : ((ks.length : Int) == 0) = false := beq_eq_false_iff_ne.2 (by omega)
                have S5 := hid (S4.out.set_ HB4.out hWg Hgn.out 6 (.slice KA ks.length kc))
                have HB5 : Hid (Blk (w4.setCell ⟨fb, 6, none⟩ (.slice KA ks.length kc)) fb 27 #[.int .i64 x, .int .i64 y, .int .i64 d, .int .i64 (rci i), .int .i64 lc, .slice none 0 0, .slice KA ks.length kc]) := hid (HB4.out.set_ 6 _)
                have F5 : Hid (FmOwn (w4.setCell ⟨fb, 6, none⟩ (.slice KA ks.length kc)) W.heap.size ⟨x, y, d, rci i, lc, [], ks⟩ none KA 0 kc) := hid ⟨World.ownsRow_nil _ _ _ _, ownsRow_setCell_other (a := ⟨fb, 6, none⟩) Ho.out (fun e => own_blk_ne Ho.out HB4.out (by decide) e.symm) _⟩
                have hfz := fun o => HB4.out.frozen o
                have hfl := HB4.out.lt
                have m6 := HB4.out.cell 6
                simp only [List.getElem?_toArray, List.getElem?_cons_zero, List.getElem?_cons_succ] at m6
                have Hk0 := hid hk0
                clear hk0
                go_upto_region 16 with (fail)
                generalize w4.setCell ⟨fb, 6, none⟩ (.slice KA ks.length kc) = w5 at *
                have c5 : w5.cell? ⟨cb, i, none⟩ = some (.int .i64 (rci i)) := (S5.out.2.1.cell i).trans (colB_at hlt)
                clear hfz hfl m6
                have q0 := HB5.out.cell 0
                have q1 := HB5.out.cell 1
                have q2 := HB5.out.cell 2
                have q3 := HB5.out.cell 3
                have q4 := HB5.out.cell 4
                have q5 := HB5.out.cell 5
                have q6 := HB5.out.cell 6
                simp only [List.getElem?_toArray, List.getElem?_cons_zero, List.getElem?_cons_succ] at q0 q1 q2 q3 q4 q5 q6
                have hpl : ((⟨x, y, d, rci i, lc, [], ks⟩ : Fm)).pal.length ≤ 1000000 := by simp
                have hkl : ((⟨x, y, d, rci i, lc, [], ks⟩ : Fm)).key.length ≤ 1000000 := by show ks.length ≤ 1000000; omega
                have Hform := hid (show rform i x y d (rci i) lc l = some ((⟨x, y, d, rci i, lc, [], ks⟩ : Fm)) from by rw [Hrf.out, if_neg Hk0.out])
                go_wp2_with fail
                refine (rholds_any ((⟨x, y, d, rci i, lc, [], ks⟩ : Fm)) none KA A 0 kc cc l _ F5.out.rdp F5.out.rdi hpl hkl (own_rdp S5.out.2.2.2.1) hlm).mono ?_
                rintro e w8 ⟨rfl, hb⟩
                have S8 := hid (S5.out.below hb)
                have HB8 := hid (HB5.out.below hb HB5.out.lt)
                have F8 := hid (F5.out.below hb (Nat.le_refl _))
                clear hb hpl hkl
                clear q0 q1 q2 q3 q4 q5 q6
                cases hft : fitsB ((⟨x, y, d, rci i, lc, [], ks⟩ : Fm)) l
                · have Hr := hid (Hno.out (by rw [Hstep.out, Hform.out]; show (if fitsB ((⟨x, y, d, rci i, lc, [], ks⟩ : Fm)) l = true then some ((⟨x, y, d, rci i, lc, [], ks⟩ : Fm)) else _) = _; rw [hft]; rfl))
                  clear hft
                  go_wp2
                  go_roundw
                  case rel => exact ⟨k + 1, zs, OA, oc, false, by omega, by rw [← E3.out], rfl, rfl, Hr.out, S8.out⟩
                  case measure => simp [intOf]; omega
                · have Hr := hid (Hyes.out (⟨(⟨x, y, d, rci i, lc, [], ks⟩ : Fm), none, KA, 0, kc⟩ : FR) (by rw [Hstep.out, Hform.out]; show (if fitsB ((⟨x, y, d, rci i, lc, [], ks⟩ : Fm)) l = true then some ((⟨x, y, d, rci i, lc, [], ks⟩ : Fm)) else _) = _; rw [hft]; rfl))
                  have q0 := HB8.out.cell 0
                  have q1 := HB8.out.cell 1
                  have q2 := HB8.out.cell 2
                  have q3 := HB8.out.cell 3
                  have q4 := HB8.out.cell 4
                  have q5 := HB8.out.cell 5
                  have q6 := HB8.out.cell 6
                  simp only [List.getElem?_toArray, List.getElem?_cons_zero, List.getElem?_cons_succ] at q0 q1 q2 q3 q4 q5 q6
                  have hws := S8.out.2.2.2.2.2.size
                  clear hft
                  go_wp2_with (at_builtin; refine wpList_app _ rfl _ _ _ rfl W.heap.size 27 i0 (.agg #[.int .i64 0, .int .i64 0, .int .i64 0, .int .i64 0, .int .i64 0, .slice none 0 0, .slice none 0 0]) 7 88 Try.underlying98 Hi0.out Hz0.out Hz1.out Hz2.out rfl (by omega) OA zs.length oc _ rfl (S8.out.2.2.1.alloc _) _ _ 1 1 (encF (⟨(⟨x, y, d, rci i, lc, [], ks⟩ : Fm), none, KA, 0, kc⟩ : FR)) rfl (rd_one _ _ _ _ (Blk.new _ _ _)) (by simp) (by simp [encF, Value.oneCell']) (by simp only [maxLen]; omega) (by omega) (by simp; omega) ?_; intro A3 c3 w3 ha3; have Ha3 := hid ha3; clear ha3)
                  go_roundw
                  case rel => exact ⟨k + 1, zs ++ [(⟨(⟨x, y, d, rci i, lc, [], ks⟩ : Fm), none, KA, 0, kc⟩ : FR)], A3, c3, true, by omega, by rw [← E3.out], rfl, by rw [List.length_append]; rfl, Hr.out, RSt.app S8.out F8.out Ha3.out⟩
                  case measure => simp [intOf]; omega
          · have e4 : ((i : Int) == 4) = false := beq_eq_false_iff_ne.2 (by omega)
            have e5 : ((i : Int) == 5) = false := beq_eq_false_iff_ne.2 (by omega)
            by_cases h3 : rci i = 3
            · have hc3 : (rci i == 3) = true := beq_iff_eq.2 h3
              have H45 := hid h45
              have H3 := hid h3
              clear h45 h3
              go_wp2_with fail
              refine (rsorted_any A cc l _ (own_rdp SX.out.2.2.2.1) hlm).mono ?_
              rintro e w4 ⟨PA, pc, rfl, ho, hb⟩
              have S4 := hid (SX.out.below hb)
              have HB4 := hid (HB.out.below hb HB.out.lt)
              have Ho := hid (own_base ho SX.out.2.2.2.2.2.size)
              have hpm : (palM l).length ≤ 1000000 := by unfold palM; rw [List.length_append, parts_len]; exact hlm
              have Hrf := hid (show rform i x y d (rci i) lc l = some ⟨x, y, d, rci i, lc, palM l, []⟩ from (if_neg H45.out).trans (if_pos H3.out))
              generalize palM l = ps at *
              have S5 := hid (S4.out.set_ HB4.out hWg Hgn.out 5 (.slice PA ps.length pc))
              have HB5 : Hid (Blk (w4.setCell ⟨fb, 5, none⟩ (.slice PA ps.length pc)) fb 27 #[.int .i64 x, .int .i64 y, .int .i64 d, .int .i64 (rci i), .int .i64 lc, .slice PA ps.length pc, .slice none 0 0]) := hid (HB4.out.set_ 5 _)
              have F5 : Hid (FmOwn (w4.setCell ⟨fb, 5, none⟩ (.slice PA ps.length pc)) W.heap.size ⟨x, y, d, rci i, lc, ps, []⟩ PA none pc 0) := hid ⟨ownsRow_setCell_other (a := ⟨fb, 5, none⟩) Ho.out (fun e => own_blk_ne Ho.out HB4.out (by decide) e.symm) _, World.ownsRow_nil _ _ _ _⟩
              have hfz := fun o => HB4.out.frozen o
              have hfl := HB4.out.lt
              have m5 := HB4.out.cell 5
              simp only [List.getElem?_toArray, List.getElem?_cons_zero, List.getElem?_cons_succ] at m5
              clear hb ho c1
              go_upto_region 18 with (fail)
              generalize w4.setCell ⟨fb, 5, none⟩ (.slice PA ps.length pc) = w5 at *
              clear hfz hfl m5
              have q0 := HB5.out.cell 0
              have q1 := HB5.out.cell 1
              have q2 := HB5.out.cell 2
              have q3 := HB5.out.cell 3
              have q4 := HB5.out.cell 4
              have q5 := HB5.out.cell 5
              have q6 := HB5.out.cell 6
              simp only [List.getElem?_toArray, List.getElem?_cons_zero, List.getElem?_cons_succ] at q0 q1 q2 q3 q4 q5 q6
              have hpl : ((⟨x, y, d, rci i, lc, ps, []⟩ : Fm)).pal.length ≤ 1000000 := hpm
              have hkl : ((⟨x, y, d, rci i, lc, ps, []⟩ : Fm)).key.length ≤ 1000000 := by simp
              have Hform := hid (show rform i x y d (rci i) lc l = some ((⟨x, y, d, rci i, lc, ps, []⟩ : Fm)) from Hrf.out)
              go_wp2_with fail
              refine (rholds_any ((⟨x, y, d, rci i, lc, ps, []⟩ : Fm)) PA none A pc 0 cc l _ F5.out.rdp F5.out.rdi hpl hkl (own_rdp S5.out.2.2.2.1) hlm).mono ?_
              rintro e w8 ⟨rfl, hb⟩
              have S8 := hid (S5.out.below hb)
              have HB8 := hid (HB5.out.below hb HB5.out.lt)
              have F8 := hid (F5.out.below hb (Nat.le_refl _))
              clear hb hpl hkl
              clear q0 q1 q2 q3 q4 q5 q6
              cases hft : fitsB ((⟨x, y, d, rci i, lc, ps, []⟩ : Fm)) l
              · have Hr := hid (Hno.out (by rw [Hstep.out, Hform.out]; show (if fitsB ((⟨x, y, d, rci i, lc, ps, []⟩ : Fm)) l = true then some ((⟨x, y, d, rci i, lc, ps, []⟩ : Fm)) else _) = _; rw [hft]; rfl))
                clear hft
                go_wp2
                go_roundw
                case rel => exact ⟨k + 1, zs, OA, oc, false, by omega, by rw [← E3.out], rfl, rfl, Hr.out, S8.out⟩
                case measure => simp [intOf]; omega
              · have Hr := hid (Hyes.out (⟨(⟨x, y, d, rci i, lc, ps, []⟩ : Fm), PA, none, pc, 0⟩ : FR) (by rw [Hstep.out, Hform.out]; show (if fitsB ((⟨x, y, d, rci i, lc, ps, []⟩ : Fm)) l = true then some ((⟨x, y, d, rci i, lc, ps, []⟩ : Fm)) else _) = _; rw [hft]; rfl))
                have q0 := HB8.out.cell 0
                have q1 := HB8.out.cell 1
                have q2 := HB8.out.cell 2
                have q3 := HB8.out.cell 3
                have q4 := HB8.out.cell 4
                have q5 := HB8.out.cell 5
                have q6 := HB8.out.cell 6
                simp only [List.getElem?_toArray, List.getElem?_cons_zero, List.getElem?_cons_succ] at q0 q1 q2 q3 q4 q5 q6
                have hws := S8.out.2.2.2.2.2.size
                clear hft
                go_wp2_with (at_builtin; refine wpList_app _ rfl _ _ _ rfl W.heap.size 27 i0 (.agg #[.int .i64 0, .int .i64 0, .int .i64 0, .int .i64 0, .int .i64 0, .slice none 0 0, .slice none 0 0]) 7 88 Try.underlying98 Hi0.out Hz0.out Hz1.out Hz2.out rfl (by omega) OA zs.length oc _ rfl (S8.out.2.2.1.alloc _) _ _ 1 1 (encF (⟨(⟨x, y, d, rci i, lc, ps, []⟩ : Fm), PA, none, pc, 0⟩ : FR)) rfl (rd_one _ _ _ _ (Blk.new _ _ _)) (by simp) (by simp [encF, Value.oneCell']) (by simp only [maxLen]; omega) (by omega) (by simp; omega) ?_; intro A3 c3 w3 ha3; have Ha3 := hid ha3; clear ha3)
                go_roundw
                case rel => exact ⟨k + 1, zs ++ [(⟨(⟨x, y, d, rci i, lc, ps, []⟩ : Fm), PA, none, pc, 0⟩ : FR)], A3, c3, true, by omega, by rw [← E3.out], rfl, by rw [List.length_append]; rfl, Hr.out, RSt.app S8.out F8.out Ha3.out⟩
                case measure => simp [intOf]; omega
            · have hc3 : (rci i == 3) = false := beq_eq_false_iff_ne.2 h3
              have H45 := hid h45
              have H3 := hid h3
              clear h45 h3
              have q0 := HB.out.cell 0
              have q1 := HB.out.cell 1
              have q2 := HB.out.cell 2
              have q3 := HB.out.cell 3
              have q4 := HB.out.cell 4
              have q5 := HB.out.cell 5
              have q6 := HB.out.cell 6
              simp only [List.getElem?_toArray, List.getElem?_cons_zero, List.getElem?_cons_succ] at q0 q1 q2 q3 q4 q5 q6
              have hpl : (bare x y d (rci i) lc).pal.length ≤ 1000000 := by simp [bare]
              have hkl : (bare x y d (rci i) lc).key.length ≤ 1000000 := by simp [bare]
              have Hform := hid (show rform i x y d (rci i) lc l = some (bare x y d (rci i) lc) from (if_neg H45.out).trans (if_neg H3.out))
              go_wp2_with fail
              refine (rholds_any (bare x y d (rci i) lc) none none A 0 0 cc l _ FO.out.rdp FO.out.rdi hpl hkl (own_rdp SX.out.2.2.2.1) hlm).mono ?_
              rintro e w8 ⟨rfl, hb⟩
              have S8 := hid (SX.out.below hb)
              have HB8 := hid (HB.out.below hb HB.out.lt)
              have F8 := hid (FO.out.below hb (Nat.le_refl _))
              clear hb hpl hkl
              clear q0 q1 q2 q3 q4 q5 q6
              cases hft : fitsB (bare x y d (rci i) lc) l
              · have Hr := hid (Hno.out (by rw [Hstep.out, Hform.out]; show (if fitsB (bare x y d (rci i) lc) l = true then some (bare x y d (rci i) lc) else _) = _; rw [hft]; rfl))
                clear hft
                go_wp2
                go_roundw
                case rel => exact ⟨k + 1, zs, OA, oc, false, by omega, by rw [← E3.out], rfl, rfl, Hr.out, S8.out⟩
                case measure => simp [intOf]; omega
              · have Hr := hid (Hyes.out (⟨bare x y d (rci i) lc, none, none, 0, 0⟩ : FR) (by rw [Hstep.out, Hform.out]; show (if fitsB (bare x y d (rci i) lc) l = true then some (bare x y d (rci i) lc) else _) = _; rw [hft]; rfl))
                have q0 := HB8.out.cell 0
                have q1 := HB8.out.cell 1
                have q2 := HB8.out.cell 2
                have q3 := HB8.out.cell 3
                have q4 := HB8.out.cell 4
                have q5 := HB8.out.cell 5
                have q6 := HB8.out.cell 6
                simp only [List.getElem?_toArray, List.getElem?_cons_zero, List.getElem?_cons_succ] at q0 q1 q2 q3 q4 q5 q6
                have hws := S8.out.2.2.2.2.2.size
                clear hft
                go_wp2_with (at_builtin; refine wpList_app _ rfl _ _ _ rfl W.heap.size 27 i0 (.agg #[.int .i64 0, .int .i64 0, .int .i64 0, .int .i64 0, .int .i64 0, .slice none 0 0, .slice none 0 0]) 7 88 Try.underlying98 Hi0.out Hz0.out Hz1.out Hz2.out rfl (by omega) OA zs.length oc _ rfl (S8.out.2.2.1.alloc _) _ _ 1 1 (encF (⟨bare x y d (rci i) lc, none, none, 0, 0⟩ : FR)) rfl (rd_one _ _ _ _ (Blk.new _ _ _)) (by simp) (by simp [encF, Value.oneCell']) (by simp only [maxLen]; omega) (by omega) (by simp; omega) ?_; intro A3 c3 w3 ha3; have Ha3 := hid ha3; clear ha3)
                go_roundw
                case rel => exact ⟨k + 1, zs ++ [(⟨bare x y d (rci i) lc, none, none, 0, 0⟩ : FR)], A3, c3, true, by omega, by rw [← E3.out], rfl, by rw [List.length_append]; rfl, Hr.out, RSt.app S8.out F8.out Ha3.out⟩
                case measure => simp [intOf]; omega
        · have Hfin := hid (rrel_done HR.out (by
            cases fnd
            · exact .inr (by simp at hgo; omega)
            · exact .inl rfl))
          by_cases hk5 : k < 5
          · obtain rfl : fnd = true := by
              cases fnd
              · exact absurd ⟨hk5, rfl⟩ hgo
              · rfl
            have hdd : decide (dp k ≤ 16) = true := decide_eq_true (dp_step hk5).2.1
            generalize dp k = d at *
            clear hgo
            go_wp2_with fail
            go_roundw
            case rel => exact ⟨i + 1, zs, OA, oc, by omega, by go_num, rfl, Hfin.out, S.out⟩
            case measure => simp [intOf]; omega
          · have hdd : decide (dp k ≤ 16) = false := by
              obtain rfl : k = 5 := by omega
              decide
            generalize dp k = d at *
            clear hgo
            go_wp2_with fail
            go_roundw
            case rel => exact ⟨i + 1, zs, OA, oc, by omega, by go_num, rfl, Hfin.out, S.out⟩
            case measure => simp [intOf]; omega
    · obtain rfl : i = 7 := by omega
      go_wp2
      go_ret
      exact ⟨OA, oc, zs, rfl, Hzm.out, S.out.2.2.1, S.out.2.2.2.2.1, S.out.2.2.2.2.2⟩

end Go.Proofs.Ytbpdkpphhjmalaa

