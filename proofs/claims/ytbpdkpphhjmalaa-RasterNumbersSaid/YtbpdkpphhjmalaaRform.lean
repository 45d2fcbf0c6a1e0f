/-
  burnishlaw17.form and same.
-/
import Derived.Test.YtbpdkpphhjmalaaRlaw
import Derived.Test.YtbpdkpphhjmalaaRoom
import Derived.Deep.RegionHeld3
import Derived.Deep.RegionLaw
import Derived.BigRegion
namespace Go.Proofs.Ytbpdkpphhjmalaa
open Go.RowKit

theorem copyInts_g (A : Option Addr) (c : Nat) (l : List Int) (W : World) (hr : RdI W W.heap.size A l) (hnil : A = none → l.length = 0) (hm : l.length ≤ 1000000) :
    Calls Try.prog 29 #[.slice A l.length c] W fun e w' => ∃ g, e = .returned (.slice (some ⟨g, 0, none⟩) l.length (l.length + 1)) ∧ Blk w' g 3 (intsV l ++ [Value.int .i64 (-77)]).toArray ∧ W.heap.size ≤ g ∧ Below W.heap.size W w' :=
  (copyInts_any A c l W hr hnil hm).mono fun _ _ h => ⟨_, h.1, h.2.1, Nat.le_refl _, h.2.2⟩
theorem px_info : (Try.prog.info? 29).map (fun i => (i.zero, i.size, i.bytes)) = some (some (.agg #[.int .i64 0, .int .i64 0, .int .i64 0, .int .i64 0]), 4, 32) := by kernel_rfl
theorem empty_rowP (w : World) (t : TypeId) (size : Nat) : (w.alloc (.cells #[] t)).ownsRow w.heap.size t size (.slice (some ⟨w.heap.size, 0, none⟩) 0 0) 0 [] :=
  ⟨by simp, .inr ⟨w.heap.size, 0, #[], rfl, Nat.le_refl _, Blk.new w t #[], Nat.le_refl _, by simp⟩⟩
theorem enc_cells (l : List Px) : ∀ u ∈ l.flatMap encP, u.oneCell' = true := by
  intro u hu
  obtain ⟨x, _, hx⟩ := List.mem_flatMap.1 hu
  simp only [encP, List.mem_cons, List.not_mem_nil, or_false] at hx
  rcases hx with rfl | rfl | rfl | rfl <;> rfl

/-- the world while the form is made -/
def FmW (w W : World) (f : Fm) (PA KA : Option Addr) (pc kc : Nat) : Prop :=
  Below W.heap.size W w ∧ Blk w W.heap.size 27 #[.int .i64 f.w, .int .i64 f.h, .int .i64 f.d, .int .i64 f.c, .int .i64 f.l, .slice PA f.pal.length pc, .slice KA f.key.length kc] ∧ Blk w (W.heap.size + 1) 32 #[.int .i64 0, .int .i64 0, .int .i64 0, .int .i64 0, .int .i64 0, .slice none 0 0, .slice none 0 0]
section
variable {w w' W : World} {f : Fm} {PA KA : Option Addr} {pc kc : Nat}
theorem FmW.drew (h : FmW w W f PA KA pc kc) : FmW w.drew W f PA KA pc kc := ⟨h.1.drew, h.2.1, h.2.2⟩
theorem FmW.alloc (h : FmW w W f PA KA pc kc) (o : Obj) : FmW (w.alloc o) W f PA KA pc kc := ⟨h.1.alloc h.1.size o, h.2.1.alloc o, h.2.2.alloc o⟩
theorem FmW.below (h : FmW w W f PA KA pc kc) (hb : Below w.heap.size w w') : FmW w' W f PA KA pc kc := ⟨h.1.trans (hb.mono h.1.size), h.2.1.below hb h.2.1.lt, h.2.2.below hb h.2.2.lt⟩
theorem FmW.rdi (h : FmW w W f PA KA pc kc) (hk : RdI W W.heap.size KA f.key) : RdI w w.heap.size KA f.key := (hk.below h.1 (Nat.le_refl _)).more h.1.size
end
theorem step_formed {w W : World} {f : Fm} {PA KA : Option Addr} {pc kc : Nat} {ops : Array Oper} {o : Oper} {a : Act} {K : Act → World → Prop} {Q : Exit → Act → World → Prop} {E : Prop} (hF : FmW w W f PA KA pc kc)
    (hp : Rd W W.heap.size 4 PA f.pal.length (f.pal.flatMap encP)) (hpn : PA = none → f.pal.length = 0) (hpm : f.pal.length ≤ 1000000) (hgd : o.guard = none) (s x : Operand)
    (ho : o.op = .call { callee := .builtin .append, args := #[s, x], argTypes := #[24, 24] }) (A : Option Addr) (hs : a.eval s = .slice A 0 0)
    (hown : w.ownsRow W.heap.size 29 4 (.slice A 0 0) 0 []) (hx : a.eval x = .slice PA f.pal.length pc)
    (h : ∀ A' c' w', w'.ownsRow W.heap.size 29 4 (.slice A' f.pal.length c') f.pal.length (f.pal.flatMap encP) → FmW w' W f PA KA pc kc → (∀ g t cs, Blk w g t cs → 29 ≠ t → Blk w' g t cs) → K (a.put o.dst (.slice A' f.pal.length c')) w') :
    if Region.wanted o (yielded ops a.tmps) = true then Oper.wp Try.prog o a w K Q else E := by
  obtain ⟨i0, hi0, hz0, hz1, hz2⟩ := info_parts px_info
  refine step_app w hgd s x _ ho W.heap.size 29 i0 _ 4 32 Try.underlying24 hi0 hz0 hz1 hz2 rfl (by omega) A 0 0 [] hs hown W.heap.size PA f.pal.length pc (f.pal.flatMap encP) hx (Rd.below hp hF.1 (Nat.le_refl _)) hpn (enc_cells f.pal) (by simp only [maxLen]; omega) (by omega) hF.1.size ?_
  rintro A' c' w' ⟨h1, h2, h3, _⟩
  rw [Nat.zero_add] at h1 ⊢
  exact h A' c' w' h1 ⟨hF.1.trans h3, hF.2.1.grown h2 (own_blk_ne hown hF.2.1 (by decide)), hF.2.2.grown h2 (own_blk_ne hown hF.2.2 (by decide))⟩ (fun g t cs hb ht => hb.grown h2 (own_blk_ne hown hb ht))

/-- what is made, while the result is stored -/
def FQ (w W : World) (f : Fm) (A : Option Addr) (c g : Nat) : Prop :=
  w.ownsRow W.heap.size 29 4 (.slice A f.pal.length c) f.pal.length (f.pal.flatMap encP) ∧ Blk w g 3 (intsV f.key ++ [Value.int .i64 (-77)]).toArray ∧ Below W.heap.size W w ∧ some (W.heap.size + 1) ≠ (Value.slice A f.pal.length c).ownBlock ∧ g ≠ W.heap.size + 1
theorem own_set {w : World} {base : Nat} {e : TypeId} {size n : Nat} {v : Value} {xs : List Value} (h : w.ownsRow base e size v n xs) {p : Addr} (hp : some p.block ≠ v.ownBlock) (u : Value) : (w.setCell p u).ownsRow base e size v n xs := by
  refine ⟨h.1, ?_⟩
  rcases h.2 with hn | ⟨g, cap, cur, rfl, hg, hgg, rest⟩
  · exact .inl hn
  · refine .inr ⟨g, cap, cur, rfl, hg, ?_, rest⟩
    rw [Below.heap_setCell w p u g (fun e => hp (by rw [← e]; rfl))]
    exact hgg
theorem FQ.set {w W : World} {f : Fm} {A : Option Addr} {c g : Nat} (h : FQ w W f A c g) (i : Nat) (u : Value) : FQ (w.setCell ⟨W.heap.size + 1, i, none⟩ u) W f A c g :=
  ⟨own_set h.1 h.2.2.2.1 u, h.2.1.far h.2.2.2.2 u, h.2.2.1.setCell (by show W.heap.size ≤ W.heap.size + 1; omega) u, h.2.2.2⟩
theorem FQ.fin {w W : World} {f : Fm} {A : Option Addr} {c g : Nat} (h : FQ w W f A c g) : RdP w w.heap.size A f.pal ∧ RdI w w.heap.size (some ⟨g, 0, none⟩) f.key ∧ Below W.heap.size W w :=
  ⟨own_rd h.1, RdI.of_cells h.2.1.lt (fun j hj => by rw [h.2.1.cell j]; simp [intsV, hj, List.getElem?_append_left]), h.2.2.1⟩
theorem FQ.mk' {w W : World} {f : Fm} {PA KA A : Option Addr} {pc kc c g : Nat} (hF : FmW w W f PA KA pc kc) (h1 : w.ownsRow W.heap.size 29 4 (.slice A f.pal.length c) f.pal.length (f.pal.flatMap encP)) (h2 : Blk w g 3 (intsV f.key ++ [Value.int .i64 (-77)]).toArray) : FQ w W f A c g := by
  refine ⟨h1, h2, hF.1, own_blk_ne h1 hF.2.2 (by decide), fun e => ?_⟩
  subst e
  have := h2.symm.trans hF.2.2
  injection this with this
  injection this with _ this
  exact absurd this (by decide)

/-- what the program's form is -/
def FormEnd (f : Fm) (W : World) (e : Ending) (w' : World) : Prop :=
  ∃ A a g, e = .returned (.agg #[.int .i64 f.w, .int .i64 f.h, .int .i64 f.d, .int .i64 f.c, .int .i64 f.l, .slice A f.pal.length a, .slice (some ⟨g, 0, none⟩) f.key.length (f.key.length + 1)]) ∧
    RdP w' w'.heap.size A f.pal ∧ RdI w' w'.heap.size (some ⟨g, 0, none⟩) f.key ∧ Below W.heap.size W w'

set_option maxRecDepth 100000 in
set_option maxHeartbeats 8000000 in
theorem form_any (f : Fm) (PA KA : Option Addr) (pc kc : Nat) (W : World) (hp : RdP W W.heap.size PA f.pal) (hk : RdI W W.heap.size KA f.key) (hpn : PA = none → f.pal.length = 0) (hkn : KA = none → f.key.length = 0) (hpm : f.pal.length ≤ 1000000) (hkm : f.key.length ≤ 1000000) :
    Calls Try.prog 17 #[.agg #[.int .i64 f.w, .int .i64 f.h, .int .i64 f.d, .int .i64 f.c, .int .i64 f.l, .slice PA f.pal.length pc, .slice KA f.key.length kc]] W (FormEnd f W) := by
  have b0 := (Blk.new W 27 #[.int .i64 f.w, .int .i64 f.h, .int .i64 f.d, .int .i64 f.c, .int .i64 f.l, .slice PA f.pal.length pc, .slice KA f.key.length kc]).alloc (.cells #[.int .i64 0, .int .i64 0, .int .i64 0, .int .i64 0, .int .i64 0, .slice none 0 0, .slice none 0 0] 32)
  have b1 := Blk.new (W.alloc (.cells #[.int .i64 f.w, .int .i64 f.h, .int .i64 f.d, .int .i64 f.c, .int .i64 f.l, .slice PA f.pal.length pc, .slice KA f.key.length kc] 27)) 32 #[.int .i64 0, .int .i64 0, .int .i64 0, .int .i64 0, .int .i64 0, .slice none 0 0, .slice none 0 0]
  simp only [World.size_alloc] at b1
  have Hb0 := hid (show Below W.heap.size W ((W.alloc (.cells #[.int .i64 f.w, .int .i64 f.h, .int .i64 f.d, .int .i64 f.c, .int .i64 f.l, .slice PA f.pal.length pc, .slice KA f.key.length kc] 27)).alloc (.cells #[.int .i64 0, .int .i64 0, .int .i64 0, .int .i64 0, .int .i64 0, .slice none 0 0, .slice none 0 0] 32)) from ((Below.refl _ _).alloc (Nat.le_refl _) _).alloc (by simp) _)
  have HX0 := hid b0
  have HX1 := hid b1
  have HF0 : Hid (FmW ((W.alloc (.cells #[.int .i64 f.w, .int .i64 f.h, .int .i64 f.d, .int .i64 f.c, .int .i64 f.l, .slice PA f.pal.length pc, .slice KA f.key.length kc] 27)).alloc (.cells #[.int .i64 0, .int .i64 0, .int .i64 0, .int .i64 0, .int .i64 0, .slice none 0 0, .slice none 0 0] 32)) W f PA KA pc kc) := ⟨Hb0.out, b0, b1⟩
  have HE0 : Hid ((((W.alloc (.cells #[.int .i64 f.w, .int .i64 f.h, .int .i64 f.d, .int .i64 f.c, .int .i64 f.l, .slice PA f.pal.length pc, .slice KA f.key.length kc] 27)).alloc (.cells #[.int .i64 0, .int .i64 0, .int .i64 0, .int .i64 0, .int .i64 0, .slice none 0 0, .slice none 0 0] 32)).drew.alloc (.cells #[] 29)).ownsRow W.heap.size 29 4 (.slice (some ⟨W.heap.size + 1 + 1, 0, none⟩) 0 0) 0 []) := by
    have h := own_base (b := W.heap.size) (empty_rowP ((W.alloc (.cells #[.int .i64 f.w, .int .i64 f.h, .int .i64 f.d, .int .i64 f.c, .int .i64 f.l, .slice PA f.pal.length pc, .slice KA f.key.length kc] 27)).alloc (.cells #[.int .i64 0, .int .i64 0, .int .i64 0, .int .i64 0, .int .i64 0, .slice none 0 0, .slice none 0 0] 32)).drew 29 4) Hb0.out.size
    refine hid ?_
    simpa using h
  have Hp := hid (show Rd W W.heap.size 4 PA f.pal.length (f.pal.flatMap encP) from hp)
  have Hk := hid hk
  have Hpn := hid hpn
  have Hkn := hid hkn
  obtain ⟨i0, hi0, hz0, hz1, hz2⟩ := info_parts px_info
  have Hi0 := hid hi0
  have Hz0 := hid hz0
  have Hz1 := hid hz1
  have Hz2 := hid hz2
  clear b0 b1 hp hk hpn hkn hi0 hz0 hz1 hz2
  go_enter Try.func17, Try.ntmps17
  go_upto_region 1 with (fail)
  have q0 := HX0.out.cell 0
  have q1 := HX0.out.cell 1
  have q2 := HX0.out.cell 2
  have q3 := HX0.out.cell 3
  have q4 := HX0.out.cell 4
  have q5 := HX0.out.cell 5
  have q6 := HX0.out.cell 6
  simp only [List.getElem?_toArray, List.getElem?_cons_zero, List.getElem?_cons_succ] at q0 q1 q2 q3 q4 q5 q6
  have r0 := HX1.out.cell 0
  have r1 := HX1.out.cell 1
  have r2 := HX1.out.cell 2
  have r3 := HX1.out.cell 3
  have r4 := HX1.out.cell 4
  have r5 := HX1.out.cell 5
  have r6 := HX1.out.cell 6
  simp only [List.getElem?_toArray, List.getElem?_cons_zero, List.getElem?_cons_succ] at r0 r1 r2 r3 r4 r5 r6
  go_region_held3 (fun w' => w'.cell? ⟨W.heap.size, 0, none⟩ = some (.int .i64 f.w) ∧ w'.cell? ⟨W.heap.size, 1, none⟩ = some (.int .i64 f.h) ∧ w'.cell? ⟨W.heap.size, 2, none⟩ = some (.int .i64 f.d) ∧ w'.cell? ⟨W.heap.size, 3, none⟩ = some (.int .i64 f.c) ∧ w'.cell? ⟨W.heap.size, 4, none⟩ = some (.int .i64 f.l) ∧ w'.cell? ⟨W.heap.size, 5, none⟩ = some (.slice PA f.pal.length pc) ∧ w'.cell? ⟨W.heap.size, 6, none⟩ = some (.slice KA f.key.length kc)) (first | go_keep | exact ⟨q0, q1, q2, q3, q4, q5, q6⟩ | exact K3.out | exact K4.out) (first
    | (refine step_formed (f := f) (PA := PA) (KA := KA) (pc := pc) (kc := kc) ?_ Hp.out Hpn.out hpm (by rfl) (.tmp 5) (.tmp 7) (by rfl) _ (by rfl) ?_ (by rfl) ?_; (first | exact HF4.out.alloc _ | exact HF4.out | exact HF0.out.drew.alloc _); (first | exact HE0.out | exact HE4.out | exact own_base (empty_rowP _ _ 4) HF4.out.1.size); intro A3 c3 w3 hown3 hf3 hk3; have r0 := hf3.2.2.cell 0; have r1 := hf3.2.2.cell 1; have r2 := hf3.2.2.cell 2; have r3 := hf3.2.2.cell 3; have r4 := hf3.2.2.cell 4; have r5 := hf3.2.2.cell 5; have r6 := hf3.2.2.cell 6; have fr := fun i => hf3.2.2.frozen i; simp only [List.getElem?_toArray, List.getElem?_cons_zero, List.getElem?_cons_succ] at r0 r1 r2 r3 r4 r5 r6; have K3 : Hid (w3.cell? ⟨W.heap.size, 0, none⟩ = some (.int .i64 f.w) ∧ w3.cell? ⟨W.heap.size, 1, none⟩ = some (.int .i64 f.h) ∧ w3.cell? ⟨W.heap.size, 2, none⟩ = some (.int .i64 f.d) ∧ w3.cell? ⟨W.heap.size, 3, none⟩ = some (.int .i64 f.c) ∧ w3.cell? ⟨W.heap.size, 4, none⟩ = some (.int .i64 f.l) ∧ w3.cell? ⟨W.heap.size, 5, none⟩ = some (.slice PA f.pal.length pc) ∧ w3.cell? ⟨W.heap.size, 6, none⟩ = some (.slice KA f.key.length kc)) := ⟨hf3.2.1.cell 0, hf3.2.1.cell 1, hf3.2.1.cell 2, hf3.2.1.cell 3, hf3.2.1.cell 4, hf3.2.1.cell 5, hf3.2.1.cell 6⟩; have HF3 := hid hf3; have HO3 := hid hown3; have HK3 := hid hk3; clear hf3 hown3 hk3)
    | (go_at_call 29; refine (copyInts_g KA kc f.key _ (FmW.rdi (f := f) (PA := PA) (pc := pc) (kc := kc) (by first | exact HF3.out | exact HF0.out.drew | exact HF0.out.drew.alloc _) Hk.out) Hkn.out hkm).mono ?_; rintro e2 w4 ⟨g4, rfl, hc4, hg4, hb4⟩; have hf4 := FmW.below (f := f) (PA := PA) (KA := KA) (pc := pc) (kc := kc) (by first | exact HF3.out | exact HF0.out.drew | exact HF0.out.drew.alloc _) hb4; (try have HE4 := hid (own_below HE0.out hb4 (Nat.le_refl _))); (try have HO4 := hid (own_below HO3.out hb4 (Nat.le_refl _))); have r0 := hf4.2.2.cell 0; have r1 := hf4.2.2.cell 1; have r2 := hf4.2.2.cell 2; have r3 := hf4.2.2.cell 3; have r4 := hf4.2.2.cell 4; have r5 := hf4.2.2.cell 5; have r6 := hf4.2.2.cell 6; have fr := fun i => hf4.2.2.frozen i; simp only [List.getElem?_toArray, List.getElem?_cons_zero, List.getElem?_cons_succ] at r0 r1 r2 r3 r4 r5 r6; have K4 : Hid (w4.cell? ⟨W.heap.size, 0, none⟩ = some (.int .i64 f.w) ∧ w4.cell? ⟨W.heap.size, 1, none⟩ = some (.int .i64 f.h) ∧ w4.cell? ⟨W.heap.size, 2, none⟩ = some (.int .i64 f.d) ∧ w4.cell? ⟨W.heap.size, 3, none⟩ = some (.int .i64 f.c) ∧ w4.cell? ⟨W.heap.size, 4, none⟩ = some (.int .i64 f.l) ∧ w4.cell? ⟨W.heap.size, 5, none⟩ = some (.slice PA f.pal.length pc) ∧ w4.cell? ⟨W.heap.size, 6, none⟩ = some (.slice KA f.key.length kc)) := ⟨hf4.2.1.cell 0, hf4.2.1.cell 1, hf4.2.1.cell 2, hf4.2.1.cell 3, hf4.2.1.cell 4, hf4.2.1.cell 5, hf4.2.1.cell 6⟩; have HF4 := hid hf4; have HC4 := hid hc4; clear hf4 hc4 hg4 hb4))
  all_goals
    go_wp2_with fail
    refine bodyPost_ret (v := .agg #[.int .i64 f.w, .int .i64 f.h, .int .i64 f.d, .int .i64 f.c, .int .i64 f.l, .slice A3 f.pal.length c3, .slice (some ⟨g4, 0, none⟩) f.key.length (f.key.length + 1)]) (by simp [results, Try.results17, go_sem, r0, r1, r2, r3, r4, r5, r6]) rfl ⟨A3, c3, g4, rfl, ?_⟩
    first
      | exact (((((((FQ.mk' HF4.out HO4.out HC4.out).set 0 _).set 1 _).set 2 _).set 3 _).set 4 _).set 5 _).set 6 _ |>.fin
      | exact (((((((FQ.mk' HF3.out HO3.out (HK3.out _ _ _ HC4.out (by decide))).set 0 _).set 1 _).set 2 _).set 3 _).set 4 _).set 5 _).set 6 _ |>.fin
      | exact (((((((FQ.mk' HF3.out HO3.out (HK3.out _ _ _ (HC4.out.alloc _) (by decide))).set 0 _).set 1 _).set 2 _).set 3 _).set 4 _).set 5 _).set 6 _ |>.fin

end Go.Proofs.Ytbpdkpphhjmalaa
