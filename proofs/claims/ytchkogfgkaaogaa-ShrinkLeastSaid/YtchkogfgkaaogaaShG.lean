/-
  shrink.Forms: the least forms of a raster.
-/
import Derived.Test.YtchkogfgkaaogaaShF
import Derived.Deep.DeepCutAuto
import Derived.Deep.CutRange
namespace Go.Proofs.Ytchkogfgkaaogaa
open Go.RowKit

def plainM (x y lc : Int) (l : List Px) : List Int → List Fm → List Fm
  | [], fs => fs
  | c :: cs, fs => plainM x y lc l cs (addM (leastM idF x y c lc l) fs)
def keyedM (x y lc : Int) (l : List Px) (fs : List Fm) : List Fm :=
  if 0 ≤ clearAt l then addM (leastM (mkKey (l.getD (clearAt l).toNat (0, 0, 0, 0))) x y 2 lc l) (addM (leastM (mkKey (l.getD (clearAt l).toNat (0, 0, 0, 0))) x y 0 lc l) fs) else fs
def paledM (x y lc : Int) (l : List Px) (fs : List Fm) : List Fm :=
  if l.length ≤ 256 then addM (leastM (mkPal l) x y 3 lc l) fs else fs
/-- the least forms of a raster that is one -/
def formsM (x y lc : Int) (px : List Px) : List Fm := paledM x y lc (unl px) (keyedM x y lc (unl px) (plainM x y lc (unl px) [0, 2, 4, 6] []))
/-- the least forms of a raster, if it is one -/
def fformsM (x y lc : Int) (px : List Px) : Option (List Fm) := if rasOk x y px = true ∧ 0 ≤ lc ∧ lc ≤ 1 then some (formsM x y lc px) else none
theorem addM_len (r : Option Fm) (fs : List Fm) : (addM r fs).length ≤ fs.length + 1 := by unfold addM; split <;> simp
theorem plain_drop (x y lc : Int) (l : List Px) (cs : List Int) (fs : List Fm) (j : Nat) (hj : j < cs.length) : plainM x y lc l (cs.drop j) fs = plainM x y lc l (cs.drop (j + 1)) (addM (leastM idF x y cs[j] lc l) fs) := by
  rw [List.drop_eq_getElem_cons hj]; rfl

/-- what forms end in -/
def SfEnd (r : Option (List Fm)) (W : World) (e : Ending) (w' : World) : Prop :=
  (match r with
  | none => e = .returned (.tuple #[.slice none 0 0, .iface 50 (.int .i64 6)])
  | some fs => ∃ (OA : Option Addr) (oc : Nat) (zs : List FR), e = .returned (.tuple #[.slice OA zs.length oc, .nilIface]) ∧ zs.map (·.f) = fs ∧ w'.ownsRow W.heap.size 32 7 (.slice OA zs.length oc) zs.length (zs.flatMap encF) ∧ ∀ z ∈ zs, FmOwn w' W.heap.size z.f z.PA z.KA z.pc z.kc) ∧ Below W.heap.size W w'
theorem sfEnd_none {r : Option (List Fm)} {W w' : World} (h : r = none) (hb : Below W.heap.size W w') : SfEnd r W (.returned (.tuple #[.slice none 0 0, .iface 50 (.int .i64 6)])) w' := by subst h; exact ⟨rfl, hb⟩
theorem sfEnd_some {r : Option (List Fm)} {fs : List Fm} {W w' : World} {OA : Option Addr} {oc : Nat} {zs : List FR} (h : r = some fs) (hz : zs.map (·.f) = fs) (ho : w'.ownsRow W.heap.size 32 7 (.slice OA zs.length oc) zs.length (zs.flatMap encF)) (hf : ∀ z ∈ zs, FmOwn w' W.heap.size z.f z.PA z.KA z.pc z.kc) (hb : Below W.heap.size W w') : SfEnd r W (.returned (.tuple #[.slice OA zs.length oc, .nilIface])) w' := by subst h; exact ⟨⟨OA, oc, zs, rfl, hz, ho, hf⟩, hb⟩
theorem fst_start {W0 w : World} {x y lc : Int} {PR A : Option Addr} {np pr cc : Nat} {l : List Px} (hw : RcW w W0 x y PR np pr) (hl : Blk w (W0.heap.size + 1) 3 #[.int .i64 lc]) (ho : w.ownsRow W0.heap.size 69 4 (.slice A l.length cc) l.length (l.flatMap encP)) :
    FSt ((w.alloc (.cells #[.slice A l.length cc] 22)).alloc (.cells #[.slice none 0 0] 62)) W0 x y lc PR np pr w.heap.size (w.heap.size + 1) A cc l [] := by
  have h4 := Blk.new (w.alloc (.cells #[.slice A l.length cc] 22)) 62 #[.slice none 0 0]
  simp only [World.size_alloc] at h4
  exact ⟨(hw.1.alloc _).alloc _, (hl.alloc _).alloc _, (Blk.new w _ _).alloc _, ⟨none, 0, h4, World.ownsRow_nil _ _ _ _⟩, (ho.alloc _).alloc _, by simp, (hw.2.alloc hw.2.size _).alloc (by have := hw.2.size; simp; omega) _, hl.lt, Nat.lt_succ_self _⟩

set_option maxRecDepth 100000 in
set_option maxHeartbeats 8000000 in
theorem sforms_no (x y lc : Int) (PR : Option Addr) (pr : Nat) (px : List Px) (W : World) (hp : RdP W W.heap.size PR px) (hm : px.length ≤ 1000000) (hno : fformsM x y lc px = none) :
    Calls Try.prog 32 #[.agg #[.int .i64 x, .int .i64 y, .slice PR px.length pr], .int .i64 lc] W (SfEnd (fformsM x y lc px) W) := by
  have Hno := hid hno
  have Hp := hid hp
  have Hw := hid ((rcw_start x y PR px.length pr W).alloc (.cells #[.int .i64 lc] 3))
  have hl0 := Blk.new (W.alloc (.cells #[.int .i64 x, .int .i64 y, .slice PR px.length pr] 24)) 3 #[.int .i64 lc]
  simp only [World.size_alloc] at hl0
  have Hl0 := hid hl0
  have Hcase := hid (show rasOk x y px = false ∨ (rasOk x y px = true ∧ lc < 0) ∨ (rasOk x y px = true ∧ ¬ lc < 0 ∧ 1 < lc) by
    unfold fformsM at hno
    cases h : rasOk x y px
    · exact .inl rfl
    · rw [h] at hno
      by_cases h1 : lc < 0
      · exact .inr (.inl ⟨rfl, h1⟩)
      · by_cases h2 : 1 < lc
        · exact .inr (.inr ⟨rfl, h1, h2⟩)
        · rw [if_pos ⟨rfl, by omega, by omega⟩] at hno; cases hno)
  clear hno hp hl0
  go_enter Try.func32, Try.ntmps32
  go_wp2_with fail
  refine (scheck_any x y PR pr px _ (Rd.more (Rd.below Hp.out Hw.out.2 (Nat.le_refl _)) Hw.out.2.size) hm).mono ?_
  rintro e w1 ⟨rfl, hb⟩
  have Hw1 := hid (Hw.out.below hb)
  have Hl1 := hid (Hl0.out.below hb (by simp))
  clear hb
  have l0 := Hl1.out.cell 0
  simp only [List.getElem?_toArray, List.getElem?_cons_zero] at l0
  rcases Hcase.out with h | ⟨h, h1⟩ | ⟨h, h1, h2⟩
  · rw [h, if_neg (by simp), errv_6]
    clear h
    go_wp2
    go_ret2
    exact sfEnd_none Hno.out Hw1.out.2
  · rw [h, if_pos rfl, errv_0]
    have d1 : decide (lc < 0) = true := decide_eq_true h1
    clear h
    go_wp2
    go_ret2
    exact sfEnd_none Hno.out Hw1.out.2
  · rw [h, if_pos rfl, errv_0]
    have d1 : decide (lc < 0) = false := decide_eq_false (by omega)
    have d2 : decide (1 < lc) = true := decide_eq_true h2
    clear h
    go_wp2
    go_ret2
    exact sfEnd_none Hno.out Hw1.out.2

set_option maxRecDepth 100000 in
set_option maxHeartbeats 8000000 in
theorem sforms_yes (x y lc : Int) (PR : Option Addr) (pr : Nat) (px : List Px) (W : World) (hp : RdP W W.heap.size PR px) (hm : px.length ≤ 1000000) (hr : rasOk x y px = true) (hl1 : 0 ≤ lc) (hl2 : lc ≤ 1) :
    Calls Try.prog 32 #[.agg #[.int .i64 x, .int .i64 y, .slice PR px.length pr], .int .i64 lc] W (SfEnd (fformsM x y lc px) W) := by
  have Hfm := hid (show fformsM x y lc px = some (formsM x y lc px) from if_pos ⟨hr, hl1, hl2⟩)
  have Hp := hid hp
  have Hr := hid hr
  have Hsd := hid (show px.all soundB = true by unfold rasOk at hr; simp only [Bool.and_eq_true] at hr; exact hr.2)
  have Hw := hid ((rcw_start x y PR px.length pr W).alloc (.cells #[.int .i64 lc] 3))
  have hl0 := Blk.new (W.alloc (.cells #[.int .i64 x, .int .i64 y, .slice PR px.length pr] 24)) 3 #[.int .i64 lc]
  simp only [World.size_alloc] at hl0
  have Hl0 := hid hl0
  have d1 : decide (lc < 0) = false := decide_eq_false (by omega)
  have d2 : decide (1 < lc) = false := decide_eq_false (by omega)
  clear hp hr hl0
  go_enter Try.func32, Try.ntmps32
  go_wp2_with fail
  refine (scheck_any x y PR pr px _ (Rd.more (Rd.below Hp.out Hw.out.2 (Nat.le_refl _)) Hw.out.2.size) hm).mono ?_
  rintro e w1 ⟨rfl, hb⟩
  have Hw1 := hid (Hw.out.below hb)
  have Hl1 := hid (Hl0.out.below hb (by simp))
  clear hb
  have l0 := Hl1.out.cell 0
  have q2 := Hw1.out.1.cell 2
  simp only [List.getElem?_toArray, List.getElem?_cons_zero, List.getElem?_cons_succ] at l0 q2
  rw [Hr.out, if_pos rfl, errv_0]
  go_wp2_with fail
  refine (unlike_any PR pr px _ (Rd.more (Rd.below Hp.out Hw1.out.2 (Nat.le_refl _)) Hw1.out.2.size) hm Hsd.out).mono ?_
  rintro e w2 ⟨A, cc, rfl, ho, hb⟩
  have Hul := hid (unl_len px)
  have Hfd : Hid (formsM x y lc px = paledM x y lc (unl px) (keyedM x y lc (unl px) (plainM x y lc (unl px) [0, 2, 4, 6] []))) := rfl
  have hlm : (unl px).length ≤ 1000000 := Nat.le_trans Hul.out hm
  generalize unl px = l at *
  have S0 := hid (fst_start (Hw1.out.below hb) (Hl1.out.below hb Hl1.out.lt) (own_base ho (by have := Hw1.out.2.size; omega)))
  have hcb0 := Blk.new ((w2.alloc (.cells #[.slice A l.length cc] 22)).alloc (.cells #[.slice none 0 0] 62)) 3 #[.int .i64 0, .int .i64 2, .int .i64 4, .int .i64 6]
  simp only [World.size_alloc] at hcb0
  have Hcb := hid hcb0
  have S1 := hid (S0.out.alloc (.cells #[.int .i64 0, .int .i64 2, .int .i64 4, .int .i64 6] 3))
  clear hb ho l0 q2 Hw1 Hl1 Hw Hl0 hcb0 S0
  go_upto_region 8 with (fail)
  generalize ((w2.alloc (.cells #[.slice A l.length cc] 22)).alloc (.cells #[.slice none 0 0] 62)).alloc (.cells #[.int .i64 0, .int .i64 2, .int .i64 4, .int .i64 6] 3) = wy at *
  generalize hsb : w2.heap.size = sb at *
  clear hsb
  go_loopw [33] (fun i wr => ∃ (j : Nat) (zs : List FR), j ≤ 4 ∧ i = .int .i64 j ∧ plainM x y lc l [0, 2, 4, 6] [] = plainM x y lc l (([0, 2, 4, 6] : List Int).drop j) (zs.map (·.f)) ∧ zs.length ≤ j ∧ Blk wr (sb + 1 + 1) 3 #[.int .i64 0, .int .i64 2, .int .i64 4, .int .i64 6] ∧ FSt wr W x y lc PR px.length pr sb (sb + 1) A cc l zs) (fun i _ => 4 - (intOf i).toNat)
  case atStart => exact ⟨0, [], by omega, rfl, rfl, Nat.le_refl _, Hcb.out, S1.out⟩
  case round =>
    obtain ⟨j, zs, hj, rfl, hpm, hzl, hcb, hs⟩ := hrel
    have Hpm := hid hpm
    have Hcr := hid hcb
    have Sr := hid hs
    clear hpm hcb hs S1 Hcb
    by_cases hlt : j < 4
    · have c0 : wr.cell? ⟨sb + 1 + 1, j, none⟩ = some (.int .i64 (([0, 2, 4, 6] : List Int)[j]'hlt)) := by
        rw [Hcr.out.cell j]
        have : j = 0 ∨ j = 1 ∨ j = 2 ∨ j = 3 := by omega
        rcases this with rfl | rfl | rfl | rfl <;> rfl
      have Hnx := hid (plain_drop x y lc l [0, 2, 4, 6] (zs.map (·.f)) j hlt)
      generalize ([0, 2, 4, 6] : List Int)[j]'hlt = col at *
      go_wp2_with fail
      refine (add_plain W wr x y lc col PR A px.length pr sb (sb + 1) cc l zs Sr.out hlm (by omega)).mono ?_
      rintro e w3 ⟨rfl, zs', hs', hz', hk'⟩
      have Sn := hid hs'
      have Hk := hid (hk' _ _ _ Hcr.out (by decide) (by omega))
      have Hzl := hid (show zs'.length ≤ j + 1 by
        have h := congrArg List.length hz'
        have h2 := addM_len (leastM idF x y col lc l) (zs.map (·.f))
        simp only [List.length_map] at h h2
        omega)
      have Hp2 := hid (show plainM x y lc l [0, 2, 4, 6] [] = plainM x y lc l (([0, 2, 4, 6] : List Int).drop (j + 1)) (zs'.map (·.f)) by rw [Hpm.out, Hnx.out, hz'])
      clear hs' hz' hk' c0
      go_wp2_with fail
      go_roundw
      case rel => exact ⟨j + 1, zs', by omega, by go_num, Hp2.out, Hzl.out, Hk.out, Sn.out⟩
      case measure => simp [intOf]; omega
    · have e : j = 4 := by omega
      subst e
      have Hp4 := hid (show plainM x y lc l [0, 2, 4, 6] [] = zs.map (·.f) from Hpm.out)
      clear Hpm hlt hj Hcr
      obtain ⟨wz, rfl⟩ : ∃ wz : World, wz = wr := ⟨_, rfl⟩
      have s0 := Sr.out.2.2.1.cell 0
      simp only [List.getElem?_toArray, List.getElem?_cons_zero] at s0
      go_wp2_with fail
      refine (indexClear_any A cc l wz (own_rdp Sr.out.2.2.2.2.1) hlm).mono ?_
      rintro e w3 ⟨rfl, hb3⟩
      have S3 := hid (Sr.out.below hb3)
      clear hb3 s0
      have hca : clearAt l = -1 ∨ ∃ k : Nat, clearAt l = k ∧ k < l.length := by
        unfold clearAt
        by_cases h : l.findIdx (fun p => p.2.2.2 == 0) < l.length
        · rw [if_pos h]; exact .inr ⟨_, rfl, h⟩
        · rw [if_neg h]; exact .inl rfl
      have Hca := hid hca
      have Hkd : Hid (keyedM x y lc l (plainM x y lc l [0, 2, 4, 6] []) = if 0 ≤ clearAt l then addM (leastM (mkKey (l.getD (clearAt l).toNat (0, 0, 0, 0))) x y 2 lc l) (addM (leastM (mkKey (l.getD (clearAt l).toNat (0, 0, 0, 0))) x y 0 lc l) (plainM x y lc l [0, 2, 4, 6] [])) else (plainM x y lc l [0, 2, 4, 6] [])) := rfl
      have Hzl := hid hzl
      clear hca hzl
      go_upto_if 44 with (fail)
      go_cut [] from 42 to 58 (fun w => ∃ zs', FSt w W x y lc PR px.length pr sb (sb + 1) A cc l zs' ∧ zs'.map (·.f) = keyedM x y lc l (plainM x y lc l [0, 2, 4, 6] []) ∧ zs'.length ≤ 6)
      case first =>
        rcases Hca.out with h | ⟨k, h, hk⟩
        · have d : decide (0 ≤ clearAt l) = false := decide_eq_false (by omega)
          have Hk2 := hid (show keyedM x y lc l (plainM x y lc l [0, 2, 4, 6] []) = zs.map (·.f) by rw [Hkd.out, if_neg (by omega), Hp4.out])
          rw [d]
          clear h d
          go_wp2
          go_meet
          exact ⟨zs, S3.out, by rw [Hk2.out], by have := Hzl.out; omega⟩
        · have Hk2 := hid (show keyedM x y lc l (plainM x y lc l [0, 2, 4, 6] []) = addM (leastM (mkKey l[k]) x y 2 lc l) (addM (leastM (mkKey l[k]) x y 0 lc l) (zs.map (·.f))) by
            have e1 : l.getD (clearAt l).toNat (0, 0, 0, 0) = l[k] := by rw [h, Int.toNat_natCast]; simp [List.getD, List.getElem?_eq_getElem hk]
            rw [Hkd.out, if_pos (by omega), e1, Hp4.out])
          rw [show decide (0 ≤ clearAt l) = true from decide_eq_true (by omega)]
          generalize clearAt l = ca at *
          subst h
          obtain ⟨b, off, hA, hbb, x0, x1, x2, x3⟩ := px_at (own_rdp S3.out.2.2.2.2.1) hk
          subst hA
          have Hpx := hid (fun (w : World) (S : FSt w W x y lc PR px.length pr sb (sb + 1) (some ⟨b, off, none⟩) cc l zs) => px_at (own_rdp S.2.2.2.2.1) hk)
          generalize hpk : l[k] = p at *
          obtain ⟨p0, p1, p2, p3⟩ := p
          simp only at x0 x1 x2 x3
          have Hpk := hid hpk
          have s0 := S3.out.2.2.1.cell 0
          simp only [List.getElem?_toArray, List.getElem?_cons_zero] at s0
          clear hpk Hkd
          go_wp2_with fail
          refine (keyed_any p0 p1 p2 p3 _).mono ?_
          rintro e w4 ⟨rfl, rfl⟩
          go_wp2_with fail
          refine (add_keyed W w3 x y lc 0 PR (some ⟨b, off, none⟩) px.length pr sb (sb + 1) cc l zs p0 p1 p2 p3 S3.out hlm (by have := Hzl.out; omega)).mono ?_
          rintro e w5 ⟨rfl, zs1, hs1, hz1, _⟩
          have S5 := hid hs1
          have Hz1 := hid hz1
          have Hl1 := hid (show zs1.length ≤ 5 by
            have h := congrArg List.length hz1
            have h2 := addM_len (leastM (mkKey (p0, p1, p2, p3)) x y 0 lc l) (zs.map (·.f))
            have := Hzl.out
            simp only [List.length_map] at h h2
            omega)
          obtain ⟨b', off', hA, hbb', y0, y1, y2, y3⟩ := px_at (own_rdp hs1.2.2.2.2.1) hk
          simp only [Option.some.injEq, Addr.mk.injEq] at hA
          obtain ⟨rfl, rfl, _⟩ := hA
          rw [Hpk.out] at y0 y1 y2 y3
          simp only at y0 y1 y2 y3
          have s1 := hs1.2.2.1.cell 0
          simp only [List.getElem?_toArray, List.getElem?_cons_zero] at s1
          clear hs1 hz1 s0 x0 x1 x2 x3
          go_wp2_with fail
          refine (keyed_any p0 p1 p2 p3 _).mono ?_
          rintro e w6 ⟨rfl, rfl⟩
          go_wp2_with fail
          refine (add_keyed W w5 x y lc 2 PR (some ⟨b, off, none⟩) px.length pr sb (sb + 1) cc l zs1 p0 p1 p2 p3 S5.out hlm (by have := Hl1.out; omega)).mono ?_
          rintro e w7 ⟨rfl, zs2, hs2, hz2, _⟩
          have S7 := hid hs2
          have Hz2 := hid hz2
          have Hl2 := hid (show zs2.length ≤ 6 by
            have h := congrArg List.length hz2
            have h2 := addM_len (leastM (mkKey (p0, p1, p2, p3)) x y 2 lc l) (zs1.map (·.f))
            have := Hl1.out
            simp only [List.length_map] at h h2
            omega)
          clear hs2 hz2 s1 y0 y1 y2 y3
          go_wp2_with fail
          go_meet
          exact ⟨zs2, S7.out, by rw [Hk2.out, Hz2.out, Hz1.out], Hl2.out⟩
      case rest =>
      obtain ⟨zs1, hs1, hz1, hl1⟩ := hcut
      obtain ⟨wq, rfl⟩ : ∃ wq : World, wq = wc := ⟨_, rfl⟩
      have S4 := hid hs1
      have Hz1 := hid hz1
      have Hl1 := hid hl1
      clear hs1 hz1 hl1 S3 Sr Hkd Hca Hp4 Hzl
      have s0 := S4.out.2.2.1.cell 0
      simp only [List.getElem?_toArray, List.getElem?_cons_zero] at s0
      by_cases h256 : l.length ≤ 256
      · have hfin := hid (show formsM x y lc px = addM (leastM (mkPal l) x y 3 lc l) (zs1.map (·.f)) by rw [Hfd.out]; unfold paledM; rw [if_pos h256, Hz1.out])
        have d3 : decide ((l.length : Int) ≤ 256) = true := decide_eq_true (by omega)
        have d3' : decide (l.length ≤ 256) = true := decide_eq_true h256
        clear h256
        go_wp2_with fail
        refine (palette_any A cc l wq (own_rdp S4.out.2.2.2.2.1) hlm).mono ?_
        rintro e w4 ⟨QA, qc, rfl, hq, hb4⟩
        have S5 := hid ((S4.out.below hb4).alloc (.cells #[.slice QA (palM l).length qc] 22))
        have Hq := hid ((own_base (b := 0) hq (Nat.zero_le _)).alloc (.cells #[.slice QA (palM l).length qc] 22))
        have Hg := hid (Blk.new w4 22 #[.slice QA (palM l).length qc])
        have Hpl := hid (show (palM l).length ≤ 1000000 by unfold palM; rw [List.length_append, parts_len]; exact hlm)
        clear hq hb4 s0
        go_wp2_with fail
        refine (add_pal W (w4.alloc (.cells #[.slice QA (palM l).length qc] 22)) x y lc 3 PR A px.length pr sb (sb + 1) cc l zs1 w4.heap.size QA l qc S5.out hlm (by have := Hl1.out; omega) Hg.out Hq.out Hpl.out).mono ?_
        rintro e w5 ⟨rfl, zs2, hs2, hz2, _⟩
        have S6 := hid hs2
        have Hz2 := hid hz2
        obtain ⟨OA, oc, ho0, ho1⟩ := hs2.2.2.2.1
        have Ho1 := hid ho1
        have o0 := ho0.cell 0
        simp only [List.getElem?_toArray, List.getElem?_cons_zero] at o0
        clear hs2 hz2 ho0 ho1
        go_wp2_with fail
        go_ret2
        exact sfEnd_some Hfm.out (by rw [hfin.out, Hz2.out]) Ho1.out S6.out.2.2.2.2.2.1 S6.out.2.2.2.2.2.2.1
      · have hfin := hid (show formsM x y lc px = zs1.map (·.f) by rw [Hfd.out]; unfold paledM; rw [if_neg h256, Hz1.out])
        have d3 : decide ((l.length : Int) ≤ 256) = false := decide_eq_false (by omega)
        have d3' : decide (l.length ≤ 256) = false := decide_eq_false h256
        clear h256
        obtain ⟨OA, oc, ho0, ho1⟩ := S4.out.2.2.2.1
        have Ho1 := hid ho1
        have o0 := ho0.cell 0
        simp only [List.getElem?_toArray, List.getElem?_cons_zero] at o0
        clear ho0 ho1
        go_wp2_with fail
        go_ret2
        exact sfEnd_some Hfm.out (by rw [hfin.out]) Ho1.out S4.out.2.2.2.2.2.1 S4.out.2.2.2.2.2.2.1

theorem sforms_any (x y lc : Int) (PR : Option Addr) (pr : Nat) (px : List Px) (W : World) (hp : RdP W W.heap.size PR px) (hm : px.length ≤ 1000000) :
    Calls Try.prog 32 #[.agg #[.int .i64 x, .int .i64 y, .slice PR px.length pr], .int .i64 lc] W (SfEnd (fformsM x y lc px) W) := by
  by_cases h : rasOk x y px = true ∧ 0 ≤ lc ∧ lc ≤ 1
  · exact sforms_yes x y lc PR pr px W hp hm h.1 h.2.1 h.2.2
  · exact sforms_no x y lc PR pr px W hp hm (if_neg h)

end Go.Proofs.Ytchkogfgkaaogaa
