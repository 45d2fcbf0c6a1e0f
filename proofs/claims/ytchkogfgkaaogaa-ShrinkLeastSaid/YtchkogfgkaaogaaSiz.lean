/-
  shrink.Size: a form's size.
-/
import Derived.Test.YtchkogfgkaaogaaChkB
namespace Go.Proofs.Ytchkogfgkaaogaa
open Go.RowKit Go.Shelf

def psum (w h d c l : Int) (xs : List (Nat × Int × Int)) : Int := xs.foldl (fun s x => s + x.2.2 * (1 + rowM w h d c l x.2.1)) 0
theorem psum_snoc (w h d c l : Int) (pre : List (Nat × Int × Int)) (x : Nat × Int × Int) : psum w h d c l (pre ++ [x]) = psum w h d c l pre + x.2.2 * (1 + rowM w h d c l x.2.1) := by simp [psum]
theorem dsum_eq (w h d c l : Int) : ∀ (n : Nat) (xs : List (Nat × Int × Int)), xs.length = n → n ≤ 7 → (∀ x ∈ xs, 0 ≤ x.2.2 ∧ x.2.2 ≤ 65535) → dsum w h d c l xs = psum w h d c l xs ∧ 0 ≤ psum w h d c l xs ∧ psum w h d c l xs ≤ n * 39321065535
  | 0, xs, h0, _, _ => by rw [List.eq_nil_of_length_eq_zero h0]; simp [dsum, psum]
  | n + 1, xs, h0, hn, hx => by
    rcases List.eq_nil_or_concat xs with rfl | ⟨pre, x, rfl⟩
    · simp at h0
    · rw [List.concat_eq_append] at *
      have hl : pre.length = n := by simpa using h0
      obtain ⟨e1, e2, e3⟩ := dsum_eq w h d c l n pre hl (by omega) (fun y hy => hx y (List.mem_append_left _ hy))
      obtain ⟨x1, x2⟩ := hx x (by simp)
      obtain ⟨r1, r2⟩ := rowM_bd w h d c l x.2.1
      rw [dsum_snoc, psum_snoc, e1]
      have m1 : 0 ≤ x.2.2 * (1 + rowM w h d c l x.2.1) := Int.mul_nonneg x1 (by omega)
      have m2 : x.2.2 * (1 + rowM w h d c l x.2.1) ≤ 65535 * 600001 := Int.mul_le_mul x2 (by omega) (by omega) (by omega)
      have w1 : wrap64 (x.2.2 * (1 + rowM w h d c l x.2.1)) = x.2.2 * (1 + rowM w h d c l x.2.1) := IntWalk.wrap64_in _ ⟨by omega, by omega⟩
      rw [w1, IntWalk.wrap64_in _ ⟨by omega, by omega⟩]
      refine ⟨rfl, by omega, by push_cast; omega⟩
def csum (xs : List (ByteArray × List Int)) : Int := xs.foldl (fun s x => s + (12 + (x.2.length : Int))) 0
theorem csum_snoc (pre : List (ByteArray × List Int)) (x : ByteArray × List Int) : csum (pre ++ [x]) = csum pre + (12 + (x.2.length : Int)) := by simp [csum]
theorem csum_bd : ∀ (n : Nat) (xs : List (ByteArray × List Int)), xs.length = n → (∀ x ∈ xs, x.2.length ≤ 3000000) → 0 ≤ csum xs ∧ csum xs ≤ n * 3000012
  | 0, xs, h0, _ => by rw [List.eq_nil_of_length_eq_zero h0]; simp [csum]
  | n + 1, xs, h0, hx => by
    rcases List.eq_nil_or_concat xs with rfl | ⟨pre, x, rfl⟩
    · simp at h0
    · rw [List.concat_eq_append] at *
      have hl : pre.length = n := by simpa using h0
      obtain ⟨e2, e3⟩ := csum_bd n pre hl (fun y hy => hx y (List.mem_append_left _ hy))
      have x1 := hx x (by simp)
      rw [csum_snoc]
      exact ⟨by omega, by push_cast; omega⟩
theorem passes_in (w h l : Int) (w1 : 1 ≤ w) (w2 : w ≤ 65535) (h1 : 1 ≤ h) (h2 : h ≤ 65535) : ∀ x ∈ passesM w h l, 0 ≤ x.2.2 ∧ x.2.2 ≤ 65535 := by
  intro x hx
  unfold passesM at hx
  split at hx
  · rw [List.mem_singleton.1 hx]
    show 0 ≤ h ∧ h ≤ 65535
    omega
  · obtain ⟨p, _, hp⟩ := List.mem_flatMap.1 hx
    unfold passAt at hp
    split at hp
    · rw [List.mem_singleton.1 hp]
      exact ⟨(pass_bd w h p w1 w2 h1 h2).2.2.1, (pass_bd w h p w1 w2 h1 h2).2.2.2⟩
    · cases hp
theorem passes_len (w h l : Int) : (passesM w h l).length ≤ 7 := by
  unfold passesM
  split
  · simp
  · exact pass_len w h 7
theorem dataM_eq {w h d c l : Int} (hh : headErr w h d c l = 0) : dataM w h d c l = psum w h d c l (passesM w h l) ∧ 0 ≤ dataM w h d c l ∧ dataM w h d c l ≤ 7 * 39321065535 := by
  obtain ⟨b1, b2, b3, b4, _⟩ := headErr_bnd hh
  have hl := passes_len w h l
  obtain ⟨e1, e2, e3⟩ := dsum_eq w h d c l _ _ rfl hl (passes_in w h l b1 b2 b3 b4)
  unfold dataM
  rw [if_pos hh, e1]
  refine ⟨rfl, e2, ?_⟩
  have : (((passesM w h l).length : Nat) : Int) ≤ 7 := by omega
  omega
/-- a form's size -/
def sizeM (f : Fm) : Int := if formOk f = true then dataM f.w f.h f.d f.c f.l + csum (chunksM f).tail else 0
theorem chunks_len (f : Fm) : (chunksM f).length ≤ 3 := by
  unfold chunksM
  simp only [List.length_append, List.length_cons]
  split <;> split <;> simp
theorem chunks_bd {f : Fm} (hpm : f.pal.length ≤ 1000000) (hkm : f.key.length ≤ 1000000) : ∀ x ∈ (chunksM f).tail, x.2.length ≤ 3000000 := by
  intro x hx
  unfold chunksM at hx
  have hx : x ∈ (if f.pal.length = 0 then [] else [(plte, colsM f.pal)]) ++ (if (clrM f).length = 0 then [] else [(trns, clrM f)]) := hx
  have h1 := colsM_length f.pal
  have h2 := clrM_length f
  have h3 := lastM_le f.pal
  rcases List.mem_append.1 hx with hx | hx
  · split at hx
    · cases hx
    · rw [List.mem_singleton.1 hx]
      show (colsM f.pal).length ≤ 3000000
      omega
  · split at hx
    · cases hx
    · rw [List.mem_singleton.1 hx]
      show (clrM f).length ≤ 3000000
      omega
set_option maxRecDepth 100000 in
set_option maxHeartbeats 4000000 in
theorem chunks_no (f : Fm) (PA KA : Option Addr) (pc kc : Nat) (W : World) (hf : formOk f = false) (hp : RdP W W.heap.size PA f.pal) (hk : RdI W W.heap.size KA f.key) (hpm : f.pal.length ≤ 1000000) (hkm : f.key.length ≤ 1000000) :
    Calls Try.prog 38 #[.agg #[.int .i64 f.w, .int .i64 f.h, .int .i64 f.d, .int .i64 f.c, .int .i64 f.l, .slice PA f.pal.length pc, .slice KA f.key.length kc]] W fun e w' => e = .returned (.tuple #[.slice none 0 0, .iface 50 (.int .i64 6)]) ∧ Below W.heap.size W w' := by
  have Hf := hid hf
  have Hp := hid hp
  have Hk := hid hk
  have Hw := hid (fbw_start f PA KA pc kc W)
  clear hf hp hk
  go_enter Try.func38, Try.ntmps38
  go_wp2_with fail
  refine (fcheck_any f PA KA pc kc _ (Hw.out.rdp Hp.out) (Hw.out.rdi Hk.out) hpm hkm).mono ?_
  rintro e w1 ⟨he, hb⟩
  rw [Hf.out, if_neg (by simp)] at he
  subst he
  have Hw1 := hid (Hw.out.below hb)
  clear hb Hw
  simp only [show errv 6 = Value.iface 50 (.int .i64 6) from rfl]
  go_wp2
  go_ret2
  exact ⟨rfl, Hw1.out.2⟩
set_option maxRecDepth 100000 in
set_option maxHeartbeats 8000000 in
theorem size_no (f : Fm) (PA KA : Option Addr) (pc kc : Nat) (W : World) (hf : formOk f = false) (hp : RdP W W.heap.size PA f.pal) (hk : RdI W W.heap.size KA f.key) (hpm : f.pal.length ≤ 1000000) (hkm : f.key.length ≤ 1000000) :
    Calls Try.prog 13 #[.agg #[.int .i64 f.w, .int .i64 f.h, .int .i64 f.d, .int .i64 f.c, .int .i64 f.l, .slice PA f.pal.length pc, .slice KA f.key.length kc]] W fun e w' => e = .returned (.int .i64 0) ∧ Below W.heap.size W w' := by
  have Hp := hid hp
  have Hk := hid hk
  have Hw := hid (fbw_start f PA KA pc kc W)
  clear hp hk
  go_enter Try.func13, Try.ntmps13
  go_wp2_with fail
  refine (chunks_no f PA KA pc kc _ hf (Hw.out.rdp Hp.out) (Hw.out.rdi Hk.out) hpm hkm).mono ?_
  rintro e w1 ⟨rfl, hb⟩
  have Hw1 := hid (Hw.out.below hb)
  clear hb Hw
  go_wp2
  go_ret
  exact ⟨rfl, Hw1.out.2⟩
set_option maxRecDepth 100000 in
set_option maxHeartbeats 8000000 in
theorem size_yes (f : Fm) (PA KA : Option Addr) (pc kc : Nat) (W : World) (hf : formOk f = true) (hp : RdP W W.heap.size PA f.pal) (hk : RdI W W.heap.size KA f.key) (hpm : f.pal.length ≤ 1000000) (hkm : f.key.length ≤ 1000000) :
    Calls Try.prog 13 #[.agg #[.int .i64 f.w, .int .i64 f.h, .int .i64 f.d, .int .i64 f.c, .int .i64 f.l, .slice PA f.pal.length pc, .slice KA f.key.length kc]] W fun e w' => e = .returned (.int .i64 (dataM f.w f.h f.d f.c f.l + csum (chunksM f).tail)) ∧ Below W.heap.size W w' := by
  have Hp := hid hp
  have Hk := hid hk
  have Hw := hid (fbw_start f PA KA pc kc W)
  obtain ⟨m1, m2⟩ := (dataM_eq (form_parts hf).1).2
  clear hp hk
  go_enter Try.func13, Try.ntmps13
  go_wp2_with fail
  refine (chunks_any f PA KA pc kc _ hf (Hw.out.rdp Hp.out) (Hw.out.rdi Hk.out) hpm hkm).mono ?_
  rintro e w1 ⟨A, c, zs, rfl, hst, hmap⟩
  have hb := hst.2.2
  have Hw1 := hid (Hw.out.below hb)
  have Hst := hid hst
  have Hmap := hid hmap
  have q0 := Hw1.out.1.cell 0
  have q1 := Hw1.out.1.cell 1
  have q2 := Hw1.out.1.cell 2
  have q3 := Hw1.out.1.cell 3
  have q4 := Hw1.out.1.cell 4
  simp only [List.getElem?_toArray, List.getElem?_cons_zero, List.getElem?_cons_succ] at q0 q1 q2 q3 q4
  clear hb Hw hst hmap
  go_wp2_with fail
  refine (data_any f.w f.h f.d f.c f.l _).mono ?_
  rintro e w2 ⟨rfl, hb⟩
  have hlz : zs.length = (chunksM f).length := by rw [← Hmap.out, List.length_map]
  have hlz3 := chunks_len f
  have hlz1 : 1 ≤ zs.length := by rw [hlz]; unfold chunksM; simp
  obtain ⟨A', c', hAc, hcap⟩ := own_form Hst.out.1
  injection hAc with hA1 _ hc1
  subst hA1 hc1
  obtain ⟨g, rfl, hg1, hg2⟩ := own_block Hst.out.1 (by omega)
  have Hrd := hid (own_rd (own_below Hst.out.1 hb (Nat.le_refl _)))
  have Hw2 := hid (Hw1.out.below hb)
  have Hcb := hid (chunks_bd (f := f) hpm hkm)
  have hw12 := hb.size
  have hzl : zs.length ≤ 3 := by omega
  clear hb Hst q0 q1 q2 q3 q4 Hw1 hlz hlz3
  obtain ⟨z0, zt, rfl⟩ : ∃ z0 zt, zs = z0 :: zt := by
    cases zs with
    | nil => simp at hlz1
    | cons z0 zt => exact ⟨z0, zt, rfl⟩
  have Htl := hid (show (chunksM f).tail = zt.map (fun z => (z.nm, z.l)) by rw [← Hmap.out]; rfl)
  have hzt : zt.length ≤ 2 := by simpa using hzl
  have hat : ∀ k, k < zt.length → ∀ o u, o < 2 → (encC (zt.getD k z0))[o]? = some u → w2.cell? ⟨g, 2 + k * 2 + o, none⟩ = some u := by
    intro k hk o u ho hu
    obtain ⟨b, off, hA, hb, hc⟩ := Hrd.out.at_ (k := 0) (by simp) (by omega)
    simp only [Option.some.injEq, Addr.mk.injEq] at hA
    obtain ⟨rfl, rfl, _⟩ := hA
    have h1 := hc ((k + 1) * 2 + o) u (by
      rw [flat_at encC 2 (z0 :: zt) (fun _ _ => rfl) (k + 1) o (zt.getD k z0) (by rw [List.getElem?_cons_succ, List.getD_eq_getElem?_getD, List.getElem?_eq_getElem hk]; rfl) ho]
      exact hu)
    rw [show 0 + ((k + 1) * 2 + o) = 2 + k * 2 + o by omega] at h1
    exact h1
  have Hat := hid hat
  simp only [List.length_cons] at hlz1 hzl hcap
  clear hat Hrd hlz1 hzl Hmap
  simp only [List.length_cons]
  go_upto_region 5 with (fail)
  go_cut [19, 20, 21] from 18 to 21 (fun sl ln i wc => ∃ off cc : Nat, sl = .slice (some ⟨g, off, none⟩) zt.length cc ∧ (0 < zt.length → off = 2) ∧ ln = .int .i64 (zt.length : Nat) ∧ i = .int .i64 0 ∧ w2 = wc)
  case first =>
    by_cases h1 : c = 1
    · subst h1
      have Hz := hid (show zt.length = 0 by omega)
      go_wp2
      go_meet
      exact ⟨0, 0, by simp [Hz.out], fun h => absurd h (by rw [Hz.out]; omega), by simp [Hz.out], rfl, rfl⟩
    · go_wp2
      go_meet
      exact ⟨2, c - 1, by simp, fun _ => rfl, rfl, rfl, rfl⟩
  case rest =>
  obtain ⟨off, cc, rfl, hoff, rfl, rfl, rfl⟩ := hcut
  go_upto_region 6 with (fail)
  go_loopw [5, 21] (fun sv i wr => ∃ k : Nat, k ≤ zt.length ∧ i = .int .i64 k ∧ sv = .int .i64 (dataM f.w f.h f.d f.c f.l + csum ((zt.take k).map (fun z => (z.nm, z.l)))) ∧ Below w2.heap.size w2 wr) (fun _ i _ => zt.length - (intOf i).toNat)
  case atStart => exact ⟨0, by omega, rfl, by simp [csum], Below.refl _ _⟩
  case round =>
    obtain ⟨k, hk, rfl, rfl, hbr⟩ := hrel
    have Hbr := hid hbr
    have hsr := hbr.size
    clear hbr
    have hcb := csum_bd k ((zt.take k).map (fun z => (z.nm, z.l))) (by rw [List.length_map, List.length_take, Nat.min_eq_left hk]) (fun x hx => Hcb.out x (by
      rw [Htl.out]
      exact (List.map_subset _ (List.take_subset _ _)) hx))
    have hkb : (k : Int) * 3000012 ≤ 2 * 3000012 := by omega
    by_cases hlt : k < zt.length
    · have hg : zt.getD k z0 = zt[k] := by rw [List.getD_eq_getElem?_getD, List.getElem?_eq_getElem hlt]; rfl
      obtain rfl := hoff (by omega)
      have x0 := (Hbr.out.cell (p := ⟨g, 2 + k * 2 + 0, none⟩) (by show g < w2.heap.size; have := Hw2.out.1.lt; omega)).trans (Hat.out k hlt 0 (.string zt[k].nm) (by omega) (by rw [hg]; rfl))
      have x1 := (Hbr.out.cell (p := ⟨g, 2 + k * 2 + 1, none⟩) (by show g < w2.heap.size; have := Hw2.out.1.lt; omega)).trans (Hat.out k hlt 1 (.slice zt[k].A zt[k].l.length zt[k].c) (by omega) (by rw [hg]; rfl))
      have hzb : zt[k].l.length ≤ 3000000 := Hcb.out (zt[k].nm, zt[k].l) (by rw [Htl.out]; exact List.mem_map_of_mem (List.getElem_mem hlt))
      have Hsn := hid (show csum ((zt.take (k + 1)).map (fun z => (z.nm, z.l))) = csum ((zt.take k).map (fun z => (z.nm, z.l))) + (12 + (zt[k].l.length : Int)) by
        rw [List.take_succ_eq_append_getElem hlt, List.map_append, List.map_singleton, csum_snoc])
      simp only [Nat.add_zero] at x0
      clear hg
      generalize zt[k] = z at *
      generalize csum ((zt.take k).map (fun z => (z.nm, z.l))) = cs at *
      obtain ⟨hcb1, hcb2⟩ := hcb
      go_wp2
      go_roundw
      case rel => exact ⟨k + 1, by omega, by go_num, by rw [Hsn.out]; congr 1; omega, Hbr.out.alloc hsr _⟩
      case measure => simp [intOf]; omega
    · obtain rfl : k = zt.length := by omega
      have Hfin := hid (show csum ((zt.take zt.length).map (fun z => (z.nm, z.l))) = csum (chunksM f).tail by rw [List.take_length, Htl.out])
      rw [Hfin.out] at hcb ⊢
      obtain ⟨hcb1, hcb2⟩ := hcb
      go_wp2
      go_ret
      exact ⟨rfl, Hw2.out.2.trans (Hbr.out.mono Hw2.out.2.size)⟩
theorem size_f (f : Fm) (PA KA : Option Addr) (pc kc : Nat) (W : World) (hp : RdP W W.heap.size PA f.pal) (hk : RdI W W.heap.size KA f.key) (hpm : f.pal.length ≤ 1000000) (hkm : f.key.length ≤ 1000000) :
    Calls Try.prog 13 #[.agg #[.int .i64 f.w, .int .i64 f.h, .int .i64 f.d, .int .i64 f.c, .int .i64 f.l, .slice PA f.pal.length pc, .slice KA f.key.length kc]] W fun e w' => e = .returned (.int .i64 (sizeM f)) ∧ Below W.heap.size W w' := by
  unfold sizeM
  cases hf : formOk f
  · rw [if_neg (by simp)]
    exact size_no f PA KA pc kc W hf hp hk hpm hkm
  · rw [if_pos rfl]
    exact size_yes f PA KA pc kc W hf hp hk hpm hkm

end Go.Proofs.Ytchkogfgkaaogaa
