/-
  ShrinkHolds: for every raster, lace and kind the law returns true. No condition.
-/
import Derived.Test.YtphhoihhmphbdaaL18B
import Derived.Test.YtphhoihhmphbdaaShHo
import Derived.Test.YtphhoihhmphbdaaRs17
namespace Go.Proofs.Ytphhoihhmphbdaa.ShrinkHolds
open Go.ChangeShapes Go.WideShapes Go.ChangeAt Go.RowKit Go.Proofs.Ytphhoihhmphbdaa Go.Shelf

/-- a form in a list, cell by cell -/
theorem form_at {w : World} {B : Nat} {A : Option Addr} {zs : List FR} (h : Rd w B 7 A zs.length (zs.flatMap encF)) {j : Nat} (hj : j < zs.length) :
    ∃ b off, A = some ⟨b, off, none⟩ ∧ b < B ∧ ∀ o u, o < 7 → (encF zs[j])[o]? = some u → w.cell? ⟨b, off + j * 7 + o, none⟩ = some u := by
  obtain ⟨b, off, hA, hb, hc⟩ := Rd.at_ h hj (by omega)
  refine ⟨b, off, hA, hb, fun o u ho hu => ?_⟩
  have h1 := hc (j * 7 + o) u (by
    rw [flat_at encF 7 zs (fun _ _ => rfl) j o _ (List.getElem?_eq_getElem hj) ho]
    exact hu)
  rw [← Nat.add_assoc] at h1
  exact h1
/-- the law's boxes: the raster -/
theorem rcw_rdp {w W : World} {x y : Int} {PR : Option Addr} {pr n : Nat} {px : List Px} (h : RcW w W x y PR n pr) (hp : RdP W W.heap.size PR px) : RdP w w.heap.size PR px := (Rd.below hp h.2 (Nat.le_refl _)).more h.2.size
/-- a kind from any number -/
theorem kind_bd (k : Int) : -1 ≤ wrap64 (wrap64 ((IntKind.u64.wrap k).tmod 6) - 1) ∧ wrap64 (wrap64 ((IntKind.u64.wrap k).tmod 6) - 1) ≤ 4 := by
  have h : 0 ≤ IntKind.u64.wrap k := by
    show 0 ≤ k % 18446744073709551616
    omega
  have h1 := Int.tmod_nonneg 6 h
  have h2 := Int.tmod_lt_of_pos (IntKind.u64.wrap k) (show (0 : Int) < 6 by omega)
  generalize (IntKind.u64.wrap k).tmod 6 = t at *
  unfold wrap64
  omega

set_option maxRecDepth 100000 in
set_option maxHeartbeats 16000000 in
theorem walk (x y lc kind : Int) (PR : Option Addr) (pr : Nat) (px : List Px) (W : World) (hp : RdP W W.heap.size PR px) :
    Calls Try.prog 5 #[.agg #[.int .i64 x, .int .i64 y, .slice PR px.length pr], .int .i64 lc, .int .i64 kind] W fun e w' => e = .returned (.bool true) ∧ Below W.heap.size W w' := by
  have Hp := hid hp
  have Hw := hid (rcw_start x y PR px.length pr W)
  clear hp
  go_enter Try.func5, Try.ntmps5
  go_wp2_with fail
  refine (alive18_any _).mono ?_
  rintro e w1 ⟨rfl, hb⟩
  have Hw1 := hid (Hw.out.below hb)
  have q0 := Hw1.out.1.cell 0
  have q1 := Hw1.out.1.cell 1
  have q2 := Hw1.out.1.cell 2
  simp only [List.getElem?_toArray, List.getElem?_cons_zero, List.getElem?_cons_succ] at q0 q1 q2
  clear hb Hw
  go_wp2_with fail
  refine (large18_any x y PR px.length pr _).mono ?_
  rintro e w2 ⟨rfl, hb⟩
  have Hw2 := hid (Hw1.out.below hb)
  clear q0 q1 q2
  have q0 := Hw2.out.1.cell 0
  have q1 := Hw2.out.1.cell 1
  have q2 := Hw2.out.1.cell 2
  simp only [List.getElem?_toArray, List.getElem?_cons_zero, List.getElem?_cons_succ] at q0 q1 q2
  clear hb Hw1
  cases hl : largeR px.length
  case true =>
    clear hl
    go_wp2
    go_ret
    exact ⟨rfl, Hw2.out.2⟩
  have hm5 : px.length ≤ 500 := by unfold largeR at hl; simpa using hl
  clear hl
  have hm : px.length ≤ 1000000 := by omega
  go_wp2_with fail
  refine (sforms_any x y lc PR pr px _ (rcw_rdp Hw2.out Hp.out) hm).mono ?_
  rintro e w3 hE
  have HE := hid hE
  have Hw3 := hid (Hw2.out.below hE.2)
  clear hE Hw2
  clear q0 q1 q2
  by_cases hok : rasOk x y px = true ∧ 0 ≤ lc ∧ lc ≤ 1
  · obtain ⟨hr, hl0, hl1⟩ := hok
    obtain ⟨⟨OA, oc, zs, rfl, hzm, hzo, hzf⟩, _⟩ := (show SfEnd (some (formsM x y lc px)) w2 e w3 by have h := HE.out; rwa [show fformsM x y lc px = some (formsM x y lc px) from if_pos ⟨hr, hl0, hl1⟩] at h)
    have Hr := hid (ras_parts hr)
    have hz0 : 0 < zs.length := by
      have h1 := congrArg List.length hzm
      rw [List.length_map] at h1
      have h2 := List.length_pos_iff.2 (forms_ne hr hl0 hl1)
      omega
    have hz7 : zs.length ≤ 7 := by
      have h1 := congrArg List.length hzm
      rw [List.length_map] at h1
      have := formsM_len x y lc px
      omega
    have Hel := hid (fun (j : Nat) (hj : j < zs.length) => show fitsB zs[j].f (unl px) = true ∧ zs[j].f.w = x ∧ zs[j].f.h = y by
      have hm : zs[j].f ∈ formsM x y lc px := by
        rw [← hzm]
        exact List.mem_map_of_mem (List.getElem_mem hj)
      exact ⟨forms_fit x y lc px _ hm, forms_sized x y lc px _ hm⟩)
    have Hzo := hid hzo
    have Hzf := hid hzf
    have Hra := hid hr
    clear hr hzm hzo hzf HE hl0 hl1
    go_upto_region 9 with (fail)
    have hkd := kind_bd kind
    generalize wrap64 (wrap64 ((IntKind.u64.wrap kind).tmod 6) - 1) = kd at *
    generalize wrap64 ((IntKind.u64.wrap kind).tmod 6) = kd1
    generalize (IntKind.u64.wrap kind).tmod 6 = kd2
    generalize IntKind.u64.wrap kind = kd3
    have Hkd := hid hkd
    clear hkd
    go_upto_region 10 with (fail)
    go_loopw [36] (fun i wr => ∃ j : Nat, j ≤ zs.length ∧ i = .int .i64 j ∧ Below w3.heap.size w3 wr) (fun i _ => zs.length - (intOf i).toNat)
    case atStart => exact ⟨0, by omega, rfl, Below.refl _ _⟩
    case round =>
      obtain ⟨j, hj, rfl, hb⟩ := hrel
      have Hb := hid hb
      clear hb
      by_cases hlt : j < zs.length
      · obtain ⟨b, off, hA, hbb, hx⟩ := form_at (own_rd (own_below Hzo.out Hb.out (Nat.le_refl _))) hlt
        subst hA
        obtain ⟨hfit, hw, hh⟩ := Hel.out j hlt
        have hfo := fits_ok hfit
        obtain ⟨fl1, fl2⟩ := form_lens hfo
        have HzF := hid ((Hzf.out _ (List.getElem_mem hlt)).below Hb.out (Nat.le_refl _))
        have hltz : (j : Int) < (zs.length : Int) := by omega
        generalize zs[j] = z at *
        obtain ⟨f, PA, KA, pc, kc⟩ := z
        simp only at hfit hw hh hfo fl1 fl2 HzF hx
        subst hw hh
        have x0 := hx 0 _ (by omega) rfl
        have x1 := hx 1 _ (by omega) rfl
        have x2 := hx 2 _ (by omega) rfl
        have x3 := hx 3 _ (by omega) rfl
        have x4 := hx 4 _ (by omega) rfl
        have x5 := hx 5 _ (by omega) rfl
        have x6 := hx 6 _ (by omega) rfl
        simp only [Nat.add_zero] at x0
        have Hwr := hid (Hw3.out.below Hb.out)
        have Hfit := hid hfit
        have Hfo := hid hfo
        have Hz4 : Hid (FmOwn (wr.alloc (.cells #[.int .i64 f.w, .int .i64 f.h, .int .i64 f.d, .int .i64 f.c, .int .i64 f.l, .slice PA f.pal.length pc, .slice KA f.key.length kc] 38)) w2.heap.size f PA KA pc kc) := hid (HzF.out.alloc _)
        have Hw4 : Hid (RcW (wr.alloc (.cells #[.int .i64 f.w, .int .i64 f.h, .int .i64 f.d, .int .i64 f.c, .int .i64 f.l, .slice PA f.pal.length pc, .slice KA f.key.length kc] 38)) W f.w f.h PR px.length pr) := hid (Hwr.out.alloc _)
        have Hf4 : Hid (Blk (wr.alloc (.cells #[.int .i64 f.w, .int .i64 f.h, .int .i64 f.d, .int .i64 f.c, .int .i64 f.l, .slice PA f.pal.length pc, .slice KA f.key.length kc] 38)) wr.heap.size 38 #[.int .i64 f.w, .int .i64 f.h, .int .i64 f.d, .int .i64 f.c, .int .i64 f.l, .slice PA f.pal.length pc, .slice KA f.key.length kc]) := hid (Blk.new _ _ _)
        have Hb4 : Hid (Below w3.heap.size w3 (wr.alloc (.cells #[.int .i64 f.w, .int .i64 f.h, .int .i64 f.d, .int .i64 f.c, .int .i64 f.l, .slice PA f.pal.length pc, .slice KA f.key.length kc] 38))) := hid (Hb.out.alloc Hb.out.size _)
        clear hx hfit hfo
        go_upto_region 12 with (fail)
        generalize wr.alloc (.cells #[.int .i64 f.w, .int .i64 f.h, .int .i64 f.d, .int .i64 f.c, .int .i64 f.l, .slice PA f.pal.length pc, .slice KA f.key.length kc] 38) = w4 at *
        generalize wr.heap.size = g at *
        clear x0 x1 x2 x3 x4 x5 x6 HzF Hwr Hb
        have q0 := Hf4.out.cell 0
        have q1 := Hf4.out.cell 1
        have q2 := Hf4.out.cell 2
        have q3 := Hf4.out.cell 3
        have q4 := Hf4.out.cell 4
        have q5 := Hf4.out.cell 5
        have q6 := Hf4.out.cell 6
        simp only [List.getElem?_toArray, List.getElem?_cons_zero, List.getElem?_cons_succ] at q0 q1 q2 q3 q4 q5 q6
        have r0 := Hw4.out.1.cell 0
        have r1 := Hw4.out.1.cell 1
        have r2 := Hw4.out.1.cell 2
        simp only [List.getElem?_toArray, List.getElem?_cons_zero, List.getElem?_cons_succ] at r0 r1 r2
        go_wp2_with fail
        refine (pack_ph f PA KA PR pc kc pr px kd _ Hfo.out Hz4.out.rdp Hz4.out.rdi (by omega) (by omega) (rcw_rdp Hw4.out Hp.out) Hr.out.1 Hr.out.2 (fun p hp => fits_px Hfit.out hp) hm5 Hkd.out.1 Hkd.out.2).mono ?_
        rintro e w5 hE
        obtain ⟨hb5, bl, A, c, rfl, ho, hu, hd, hbm, hbB⟩ := hE
        have Ho5 := hid ho
        have Hu := hid hu
        have Hd := hid hd
        have HB := hid hbB
        have Hz5 := hid (Hz4.out.below hb5 (Nat.le_refl _))
        have Hw5 := hid (Hw4.out.below hb5)
        have Hf5 := hid (Hf4.out.below hb5 Hf4.out.lt)
        have Hb5 := hid (Hb4.out.trans (hb5.mono Hb4.out.size))
        have Hh := hid (show holdsM f f.w f.h px = true by unfold holdsM; rw [Hfit.out, decide_eq_true rfl, decide_eq_true rfl]; rfl)
        clear Hz4 Hw4 Hf4 Hb4 hb5 ho hu hd hbB
        clear q0 q1 q2 q3 q4 q5 q6
        clear r0 r1 r2
        have q0 := Hf5.out.cell 0
        have q1 := Hf5.out.cell 1
        have q2 := Hf5.out.cell 2
        have q3 := Hf5.out.cell 3
        have q4 := Hf5.out.cell 4
        have q5 := Hf5.out.cell 5
        have q6 := Hf5.out.cell 6
        simp only [List.getElem?_toArray, List.getElem?_cons_zero, List.getElem?_cons_succ] at q0 q1 q2 q3 q4 q5 q6
        have r0 := Hw5.out.1.cell 0
        have r1 := Hw5.out.1.cell 1
        have r2 := Hw5.out.1.cell 2
        simp only [List.getElem?_toArray, List.getElem?_cons_zero, List.getElem?_cons_succ] at r0 r1 r2
        go_wp2_with fail
        refine (holds_any f PA KA pc kc f.w f.h PR pr px _ Hra.out Hz5.out.rdp Hz5.out.rdi (by omega) (by omega) (rcw_rdp Hw5.out Hp.out) hm).mono ?_
        rintro e w6 ⟨rfl, hb⟩
        rw [Hh.out]
        have Ho6 := hid (own_below Ho5.out hb (Nat.le_refl _))
        have Hz6 := hid (Hz5.out.below hb (Nat.le_refl _))
        have Hw6 := hid (Hw5.out.below hb)
        have Hf6 := hid (Hf5.out.below hb Hf5.out.lt)
        have Hb6 := hid (Hb5.out.trans (hb.mono Hb5.out.size))
        clear Hz5 Hw5 Hf5 Hb5 hb Ho5 Hh
        clear q0 q1 q2 q3 q4 q5 q6
        clear r0 r1 r2
        have q0 := Hf6.out.cell 0
        have q1 := Hf6.out.cell 1
        have q2 := Hf6.out.cell 2
        have q3 := Hf6.out.cell 3
        have q4 := Hf6.out.cell 4
        have q5 := Hf6.out.cell 5
        have q6 := Hf6.out.cell 6
        simp only [List.getElem?_toArray, List.getElem?_cons_zero, List.getElem?_cons_succ] at q0 q1 q2 q3 q4 q5 q6
        go_wp2_with fail
        refine (unpack_ph f PA KA A pc kc c _ bl px _ Hfo.out Hz6.out.rdp Hz6.out.rdi (by omega) (by omega) Ho6.out Hu.out Hd.out hbm HB.out).mono ?_
        rintro e w7 ⟨gb, rfl, hx, hb⟩
        have Hw7 := hid ((Hw6.out.below hb).alloc (.cells #[.int .i64 f.w, .int .i64 f.h, .slice (some ⟨gb, 0, none⟩) px.length px.length] 33))
        have Hk7 := hid (Blk.new w7 33 #[.int .i64 f.w, .int .i64 f.h, .slice (some ⟨gb, 0, none⟩) px.length px.length])
        have Hb7 := hid ((Hb6.out.trans (hb.mono Hb6.out.size)).alloc (Nat.le_trans Hb6.out.size hb.size) (.cells #[.int .i64 f.w, .int .i64 f.h, .slice (some ⟨gb, 0, none⟩) px.length px.length] 33))
        have hx7 : RdP (w7.alloc (.cells #[.int .i64 f.w, .int .i64 f.h, .slice (some ⟨gb, 0, none⟩) px.length px.length] 33)) (w7.alloc (.cells #[.int .i64 f.w, .int .i64 f.h, .slice (some ⟨gb, 0, none⟩) px.length px.length] 33)).heap.size (some ⟨gb, 0, none⟩) px :=
          (Rd.below hx ((Below.refl _ w7).alloc (Nat.le_refl _) _) (Nat.le_refl _)).more (by simp)
        have Hx7 := hid hx7
        clear Hz6 Hw6 Hf6 Hb6 hb Ho6 hx hx7
        clear q0 q1 q2 q3 q4 q5 q6
        go_upto_region 16 with (fail)
        generalize w7.alloc (.cells #[.int .i64 f.w, .int .i64 f.h, .slice (some ⟨gb, 0, none⟩) px.length px.length] 33) = w8 at *
        generalize w7.heap.size = g8 at *
        have q0 := Hk7.out.cell 0
        have q1 := Hk7.out.cell 1
        have q2 := Hk7.out.cell 2
        simp only [List.getElem?_toArray, List.getElem?_cons_zero, List.getElem?_cons_succ] at q0 q1 q2
        have r0 := Hw7.out.1.cell 0
        have r1 := Hw7.out.1.cell 1
        have r2 := Hw7.out.1.cell 2
        simp only [List.getElem?_toArray, List.getElem?_cons_zero, List.getElem?_cons_succ] at r0 r1 r2
        go_wp2_with fail
        refine (rsame17_any f.w f.h (some ⟨gb, 0, none⟩) PR px.length pr px _ Hx7.out (rcw_rdp Hw7.out Hp.out) hm).mono ?_
        rintro e w9 ⟨rfl, hb⟩
        have Hb9 := hid (Hb7.out.trans (hb.mono Hb7.out.size))
        clear Hw7 Hk7 Hb7 Hx7 hb
        clear q0 q1 q2
        clear r0 r1 r2
        go_wp2
        go_roundw
        case rel => exact ⟨j + 1, by omega, by go_num, Hb9.out⟩
        case measure => simp [intOf]; omega
      · obtain rfl : j = zs.length := by omega
        have d0 : decide ((0 : Int) < (zs.length : Int)) = true := decide_eq_true (by omega)
        go_wp2_with fail
        go_ret
        exact ⟨rfl, Hw3.out.2.trans (Hb.out.mono Hw3.out.2.size)⟩
  · have hE2 : SfEnd none w2 e w3 := by have h := HE.out; rwa [show fformsM x y lc px = none from if_neg hok] at h
    obtain ⟨he, _⟩ := hE2
    have he : e = .returned (.tuple #[.slice none 0 0, .iface 42 (.int .i64 6)]) := he
    subst he
    clear HE hok
    go_wp2_with fail
    go_ret
    exact ⟨rfl, Hw3.out.2⟩

set_option maxRecDepth 100000
set_option maxRecDepth 100000 in
theorem lifted (os : Os) (started : os.Started) (H : Type) (enc : TypeId × Value → H) :
    ReturnsInHanded {} Try.checked os 5 .any (Rows.shrinkHoldsSpec.pre6 enc Try.prog Try.f5 Rows.shrinkHoldsRow.domain false) (Rows.shrinkHoldsSpec.post enc Try.prog Try.f5 false true false false) :=
  law_lifted own laidOut started (by kernel_rfl) Try.func5 rfl rfl Try.underlying4
    (by rw [Try.params5]; intro t ht; simp at ht; rcases ht with rfl | rfl | rfl <;> exact ⟨by kernel_rfl, of_decide_eq_true (by kernel_rfl)⟩)
    (by
      intro ds h
      match ds, h with
      | [_, _, _], _ => exact ⟨rfl, rfl, rfl⟩)
    (ChangeSpec.witness6 (enc := enc) (C := Try.checked) false ⟨#[], #[.agg #[.int .i64 0, .int .i64 0, .slice none 0 0], .int .i64 0, .int .i64 0], []⟩ 8 (by kernel_rfl) (by kernel_rfl) (by kernel_rfl) (by kernel_rfl))
    (by
      intro W base args ds ps hval0 hA0
      have hval : ∀ (j : Nat) t v, Try.f5.params[j]? = some t → args[j]? = some v → Value.okWide Try.prog W .any base t v := hval0
      have hA : DataW.TrodAll enc Try.prog W 0 (fun _ => true) true Try.f5.params.toList args.toList ds ps := hA0
      clear hval0 hA0
      rw [Try.params5] at hA hval
      obtain ⟨v0, vs0, d0, ds0, p0, q0, hargs, rfl, rfl, h0, r0⟩ := trodAll_cons hA
      obtain ⟨v1, vs1, d1, ds1, p1, q1, rfl, rfl, rfl, h1, r1⟩ := trodAll_cons r0
      obtain ⟨v2, vs2, d2, ds2, p2, q2, rfl, rfl, rfl, h2, r2⟩ := trodAll_cons r1
      obtain ⟨rfl, rfl, rfl⟩ := trodAll_nil r2
      obtain rfl : args = #[v0, v1, v2] := by cases args; simp_all
      obtain ⟨x0, y0, PR0, pr0, px0, rfl, hp0⟩ := open_ras (hval 0 33 v0 rfl rfl) h0
      obtain ⟨a1, rfl, rfl, rfl, w1⟩ := open_int Try.underlying3 (hval 1 3 v1 rfl rfl) h1
      obtain ⟨a2, rfl, rfl, rfl, w2⟩ := open_int Try.underlying3 (hval 2 3 v2 rfl rfl) h2
      exact walk x0 y0 a1 a2 PR0 pr0 px0 W hp0)

theorem over : Rows.shrinkHoldsRow.holds Try.pinned (OpenSpec.ofChange Rows.shrinkHoldsSpec) :=
  OpenClaim.holds_of_wide 5 Try.f5 rfl rfl rfl rfl rfl rfl rfl ⟨rfl, rfl, rfl, rfl, rfl⟩ rfl rfl rfl rfl rfl (by kernel_rfl) Try.func5 (by kernel_rfl)
    (of_decide_eq_true (by kernel_rfl)) (by unfold Func.isWrapper; first | (rw [if_pos (by decide +kernel)]; kernel_rfl) | (rw [if_neg (by decide +kernel)]; exact ⟨rfl, rfl⟩))
    (fun os started H enc _ => lifted os started H enc)

theorem proved : Rows.ShrinkHoldsSaid := over
#print axioms proved
end Go.Proofs.Ytphhoihhmphbdaa.ShrinkHolds
