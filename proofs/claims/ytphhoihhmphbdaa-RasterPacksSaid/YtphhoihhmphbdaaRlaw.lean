/-
  burnishref17.Form.Pixel in any good form; burnishlaw17's large and alive.
  burnishlaw17.form and same.
  Words of the laws over forms: opening a form that came in; a form of the call's own.
-/
import Derived.Test.YtphhoihhmphbdaaRpix
import Derived.Test.YtphhoihhmphbdaaCpI
import Derived.Test.YtphhoihhmphbdaaBase
import Derived.Deep.RegionHeld3
import Derived.Deep.RegionLaw
import Derived.BigRegion
namespace Go.Proofs.Ytphhoihhmphbdaa
open Go.RowKit

theorem formOk_keyl {f : Fm} (h : formOk f = true) : f.key.length = 0 ∨ (f.key.length : Int) = chan f.c := by
  have h1 := (formOk_parts h).2.2.2
  unfold keysB at h1
  simp only [Bool.or_eq_true, Bool.and_eq_true, decide_eq_true_eq] at h1
  rcases h1 with h1 | h1
  · exact .inl h1
  · exact .inr h1.1.2
theorem rpixel_any (f : Fm) (PA KA NA : Option Addr) (pc kc nc : Nat) (n : List Int) (W : World) (hf : formOk f = true) (hp : RdP W W.heap.size PA f.pal) (hk : RdI W W.heap.size KA f.key) (hn : RdI W W.heap.size NA n) :
    Calls Try.prog 52 #[.agg #[.int .i64 f.w, .int .i64 f.h, .int .i64 f.d, .int .i64 f.c, .int .i64 f.l, .slice PA f.pal.length pc, .slice KA f.key.length kc], .slice NA n.length nc] W (PixEnd (pixOf f n) W) := by
  obtain ⟨hh, _, _, _⟩ := formOk_parts hf
  obtain ⟨hd, _, hch⟩ := headErr_deep hh
  by_cases hl : (n.length : Int) = chan f.c
  · have hkl : f.key.length = 0 ∨ f.key.length = n.length := by
      rcases formOk_keyl hf with h | h
      · exact .inl h
      · exact .inr (by omega)
    rcases chan_cols hch with h | h | h | h | h
    · exact rpix_c0 f PA KA NA pc kc nc n W h hl hd hn hk hkl
    · exact rpix_c2 f PA KA NA pc kc nc n W h hl hd hn hk hkl
    · exact rpix_pal f PA KA NA pc kc nc n W hl h hp hn
    · exact rpix_c4 f PA KA NA pc kc nc n W h hl hd hn hk hkl
    · exact rpix_c6 f PA KA NA pc kc nc n W h hl hd hn hk hkl
  · exact rpix_len f PA KA NA pc kc nc n W hl

def largeB (f : Fm) : Bool := decide (400 < f.pal.length ∨ 50 < f.key.length)
set_option maxRecDepth 100000 in
set_option maxHeartbeats 4000000 in
theorem large_any (f : Fm) (PA KA : Option Addr) (pc kc : Nat) (W : World) :
    Calls Try.prog 7 #[.agg #[.int .i64 f.w, .int .i64 f.h, .int .i64 f.d, .int .i64 f.c, .int .i64 f.l, .slice PA f.pal.length pc, .slice KA f.key.length kc]] W fun e w' => e = .returned (.bool (largeB f)) ∧ Below W.heap.size W w' := by
  have Hb := hid ((Below.refl W.heap.size W).alloc (Nat.le_refl _) (.cells #[.int .i64 f.w, .int .i64 f.h, .int .i64 f.d, .int .i64 f.c, .int .i64 f.l, .slice PA f.pal.length pc, .slice KA f.key.length kc] 27))
  by_cases h1 : 400 < f.pal.length
  · have Hl := hid (show largeB f = true from decide_eq_true (.inl h1))
    have d1 : decide ((400 : Int) < (f.pal.length : Int)) = true := decide_eq_true (by omega)
    go_enter Try.func7, Try.ntmps7
    go_wp2_with fail
    go_ret
    exact ⟨by rw [Hl.out]; rfl, Hb.out⟩
  · have d1 : decide ((400 : Int) < (f.pal.length : Int)) = false := decide_eq_false (by omega)
    by_cases h2 : 50 < f.key.length
    · have Hl := hid (show largeB f = true from decide_eq_true (.inr h2))
      have d2 : decide ((50 : Int) < (f.key.length : Int)) = true := decide_eq_true (by omega)
      go_enter Try.func7, Try.ntmps7
      go_wp2_with fail
      go_ret
      exact ⟨by rw [Hl.out]; rfl, Hb.out⟩
    · have Hl := hid (show largeB f = false from decide_eq_false (by omega))
      have d2 : decide ((50 : Int) < (f.key.length : Int)) = false := decide_eq_false (by omega)
      go_enter Try.func7, Try.ntmps7
      go_wp2_with fail
      go_ret
      exact ⟨by rw [Hl.out]; rfl, Hb.out⟩

def bit0 : Fm := ⟨1, 1, 1, 0, 0, [], [0]⟩
theorem bit0_0 : fpixOf bit0 [0] = some (0, 0, 0, 0) := by decide
theorem bit0_1 : fpixOf bit0 [1] = some (65535, 65535, 65535, 65535) := by decide
theorem pixEnd_some' {r : Option Px} {W w' : World} {e : Ending} {a b c d : Int} (h : PixEnd r W e w') (hr : r = some (a, b, c, d)) : e = .returned (.tuple #[.agg #[.int .i64 a, .int .i64 b, .int .i64 c, .int .i64 d], .bool true]) ∧ Below W.heap.size W w' := by
  subst hr; exact h
theorem pixEnd_none' {r : Option Px} {W w' : World} {e : Ending} (h : PixEnd r W e w') (hr : r = none) : e = .returned (.tuple #[.agg #[.int .i64 0, .int .i64 0, .int .i64 0, .int .i64 0], .bool false]) ∧ Below W.heap.size W w' := by
  subst hr; exact h
theorem rdi_one {w : World} {g : Nat} {t : TypeId} {x : Int} (h : Blk w g t #[.int .i64 x]) : RdI w w.heap.size (some ⟨g, 0, none⟩) [x] :=
  RdI.of_cells h.lt (fun j hj => by
    have : j = 0 := by simp at hj; omega
    subst this
    exact h.cell 0)

set_option maxRecDepth 100000 in
set_option maxHeartbeats 8000000 in
theorem alive_any (W : World) :
    Calls Try.prog 6 #[] W fun e w' => e = .returned (.bool true) ∧ Below W.heap.size W w' := by
  go_enter Try.func6, Try.ntmps6
  go_wp2_with fail
  have k0 := ((Blk.new W 3 #[.int .i64 0]).alloc (.cells #[.int .i64 1, .int .i64 1, .int .i64 1, .int .i64 0, .int .i64 0, .slice none 0 0, .slice (some ⟨W.heap.size, 0, none⟩) 1 1] 38)).alloc (.cells #[.int .i64 0] 3)
  have f0 := (Blk.new (W.alloc (.cells #[.int .i64 0] 3)) 38 #[.int .i64 1, .int .i64 1, .int .i64 1, .int .i64 0, .int .i64 0, .slice none 0 0, .slice (some ⟨W.heap.size, 0, none⟩) 1 1]).alloc (.cells #[.int .i64 0] 3)
  have n0 := Blk.new ((W.alloc (.cells #[.int .i64 0] 3)).alloc (.cells #[.int .i64 1, .int .i64 1, .int .i64 1, .int .i64 0, .int .i64 0, .slice none 0 0, .slice (some ⟨W.heap.size, 0, none⟩) 1 1] 38)) 3 #[.int .i64 0]
  simp only [World.size_alloc] at f0 n0
  have Hb0 := hid (show Below W.heap.size W (((W.alloc (.cells #[.int .i64 0] 3)).alloc (.cells #[.int .i64 1, .int .i64 1, .int .i64 1, .int .i64 0, .int .i64 0, .slice none 0 0, .slice (some ⟨W.heap.size, 0, none⟩) 1 1] 38)).alloc (.cells #[.int .i64 0] 3)) from (((Below.refl _ _).alloc (Nat.le_refl _) _).alloc (by simp) _).alloc (by simp <;> omega) _)
  refine (fpixel_any bit0 none (some ⟨W.heap.size, 0, none⟩) (some ⟨W.heap.size + 1 + 1, 0, none⟩) 0 1 1 [0] _ Rd.nil (rdi_one k0) (by decide) (by decide) (rdi_one n0)).mono ?_
  rintro e w1 h
  obtain ⟨rfl, hb⟩ := pixEnd_some' h bit0_0
  have hsz := hb.size
  simp only [World.size_alloc] at hsz
  have f1 := f0.below hb (by simp <;> omega)
  have k1 := ((k0.below hb (by simp <;> omega)).alloc (.cells #[.int .i64 0, .int .i64 0, .int .i64 0, .int .i64 0] 62)).alloc (.cells #[.int .i64 1] 3)
  have n1 := Blk.new (w1.alloc (.cells #[.int .i64 0, .int .i64 0, .int .i64 0, .int .i64 0] 62)) 3 #[.int .i64 1]
  have p1 := (Blk.new w1 62 #[.int .i64 0, .int .i64 0, .int .i64 0, .int .i64 0]).alloc (.cells #[.int .i64 1] 3)
  simp only [World.size_alloc] at n1
  have q0 := f1.cell 0
  have q1 := f1.cell 1
  have q2 := f1.cell 2
  have q3 := f1.cell 3
  have q4 := f1.cell 4
  have q5 := f1.cell 5
  have q6 := f1.cell 6
  simp only [List.getElem?_toArray, List.getElem?_cons_zero, List.getElem?_cons_succ] at q0 q1 q2 q3 q4 q5 q6
  have Hb1 := hid (Hb0.out.trans (hb.mono (by simp <;> omega)))
  have K1 := hid k1
  have N1 := hid n1
  have P1 := hid p1
  have g0 : W.heap.size < w1.heap.size := by omega
  have g1 : W.heap.size + 1 < w1.heap.size := by omega
  have hgw : W.heap.size ≤ w1.heap.size := by omega
  clear h hb k0 f0 n0 k1 n1 p1 f1
  go_wp2_with fail
  refine (fpixel_any bit0 none (some ⟨W.heap.size, 0, none⟩) (some ⟨w1.heap.size + 1, 0, none⟩) 0 1 1 [1] _ Rd.nil (rdi_one K1.out) (by decide) (by decide) (rdi_one N1.out)).mono ?_
  rintro e w2 h
  obtain ⟨rfl, hb⟩ := pixEnd_some' h bit0_1
  have hsz2 := hb.size
  simp only [World.size_alloc] at hsz2
  have p2 := P1.out.below hb (by simp <;> omega)
  have s0 := p2.cell 0
  have s1 := p2.cell 1
  have s2 := p2.cell 2
  have s3 := p2.cell 3
  simp only [List.getElem?_toArray, List.getElem?_cons_zero, List.getElem?_cons_succ] at s0 s1 s2 s3
  have Hb2 := hid (((Hb1.out.alloc hgw _).alloc (by simp <;> omega) _).trans (hb.mono (by simp <;> omega)))
  have g2 : w1.heap.size < w2.heap.size := by omega
  have hgw2 : W.heap.size ≤ w2.heap.size := by omega
  clear h hb p2 q0 q1 q2 q3 q4 q5 q6
  go_wp2_with fail
  go_ret
  exact ⟨rfl, Hb2.out.alloc hgw2 _⟩

end Go.Proofs.Ytphhoihhmphbdaa

namespace Go.Proofs.Ytphhoihhmphbdaa
open Go.RowKit

theorem copyInts_g (A : Option Addr) (c : Nat) (l : List Int) (W : World) (hr : RdI W W.heap.size A l) (hnil : A = none → l.length = 0) (hm : l.length ≤ 1000000) :
    Calls Try.prog 40 #[.slice A l.length c] W fun e w' => ∃ g, e = .returned (.slice (some ⟨g, 0, none⟩) l.length (l.length + 1)) ∧ Blk w' g 3 (intsV l ++ [Value.int .i64 (-77)]).toArray ∧ W.heap.size ≤ g ∧ Below W.heap.size W w' :=
  (copyInts_any A c l W hr hnil (by omega)).mono fun _ _ h => ⟨_, h.1, h.2.1, Nat.le_refl _, h.2.2⟩
theorem px_info : (Try.prog.info? 62).map (fun i => (i.zero, i.size, i.bytes)) = some (some (.agg #[.int .i64 0, .int .i64 0, .int .i64 0, .int .i64 0]), 4, 32) := by kernel_rfl
theorem empty_rowP (w : World) (t : TypeId) (size : Nat) : (w.alloc (.cells #[] t)).ownsRow w.heap.size t size (.slice (some ⟨w.heap.size, 0, none⟩) 0 0) 0 [] :=
  ⟨by simp, .inr ⟨w.heap.size, 0, #[], rfl, Nat.le_refl _, Blk.new w t #[], Nat.le_refl _, by simp⟩⟩
theorem enc_cells (l : List Px) : ∀ u ∈ l.flatMap encP, u.oneCell' = true := by
  intro u hu
  obtain ⟨x, _, hx⟩ := List.mem_flatMap.1 hu
  simp only [encP, List.mem_cons, List.not_mem_nil, or_false] at hx
  rcases hx with rfl | rfl | rfl | rfl <;> rfl

/-- the world while the form is made -/
def FmW (w W : World) (f : Fm) (PA KA : Option Addr) (pc kc : Nat) : Prop :=
  Below W.heap.size W w ∧ Blk w W.heap.size 27 #[.int .i64 f.w, .int .i64 f.h, .int .i64 f.d, .int .i64 f.c, .int .i64 f.l, .slice PA f.pal.length pc, .slice KA f.key.length kc] ∧ Blk w (W.heap.size + 1) 38 #[.int .i64 0, .int .i64 0, .int .i64 0, .int .i64 0, .int .i64 0, .slice none 0 0, .slice none 0 0]
section
variable {w w' W : World} {f : Fm} {PA KA : Option Addr} {pc kc : Nat}
theorem FmW.drew (h : FmW w W f PA KA pc kc) : FmW w.drew W f PA KA pc kc := ⟨h.1.drew, h.2.1, h.2.2⟩
theorem FmW.alloc (h : FmW w W f PA KA pc kc) (o : Obj) : FmW (w.alloc o) W f PA KA pc kc := ⟨h.1.alloc h.1.size o, h.2.1.alloc o, h.2.2.alloc o⟩
theorem FmW.below (h : FmW w W f PA KA pc kc) (hb : Below w.heap.size w w') : FmW w' W f PA KA pc kc := ⟨h.1.trans (hb.mono h.1.size), h.2.1.below hb h.2.1.lt, h.2.2.below hb h.2.2.lt⟩
theorem FmW.rdi (h : FmW w W f PA KA pc kc) (hk : RdI W W.heap.size KA f.key) : RdI w w.heap.size KA f.key := (hk.below h.1 (Nat.le_refl _)).more h.1.size
end
theorem step_formed {w W : World} {f : Fm} {PA KA : Option Addr} {pc kc : Nat} {ops : Array Oper} {o : Oper} {a : Act} {K : Act → World → Prop} {Q : Exit → Act → World → Prop} {E : Prop} (hF : FmW w W f PA KA pc kc)
    (hp : Rd W W.heap.size 4 PA f.pal.length (f.pal.flatMap encP)) (hpn : PA = none → f.pal.length = 0) (hpm : f.pal.length ≤ 1000000) (hgd : o.guard = none) (s x : Operand)
    (ho : o.op = .call { callee := .builtin .append, args := #[s, x], argTypes := #[24, 24] }) (A : Option Addr) (hs : a.eval s = .slice A 0 0)
    (hown : w.ownsRow W.heap.size 62 4 (.slice A 0 0) 0 []) (hx : a.eval x = .slice PA f.pal.length pc)
    (h : ∀ A' c' w', w'.ownsRow W.heap.size 62 4 (.slice A' f.pal.length c') f.pal.length (f.pal.flatMap encP) → FmW w' W f PA KA pc kc → (∀ g t cs, Blk w g t cs → 62 ≠ t → Blk w' g t cs) → K (a.put o.dst (.slice A' f.pal.length c')) w') :
    if Region.wanted o (yielded ops a.tmps) = true then Oper.wp Try.prog o a w K Q else E := by
  obtain ⟨i0, hi0, hz0, hz1, hz2⟩ := info_parts px_info
  refine step_app w hgd s x _ ho W.heap.size 62 i0 _ 4 32 Try.underlying24 hi0 hz0 hz1 hz2 rfl (by omega) A 0 0 [] hs hown W.heap.size PA f.pal.length pc (f.pal.flatMap encP) hx (Rd.below hp hF.1 (Nat.le_refl _)) hpn (enc_cells f.pal) (by simp only [maxLen]; omega) (by omega) hF.1.size ?_
  rintro A' c' w' ⟨h1, h2, h3, _⟩
  rw [Nat.zero_add] at h1 ⊢
  exact h A' c' w' h1 ⟨hF.1.trans h3, hF.2.1.grown h2 (own_blk_ne hown hF.2.1 (by decide)), hF.2.2.grown h2 (own_blk_ne hown hF.2.2 (by decide))⟩ (fun g t cs hb ht => hb.grown h2 (own_blk_ne hown hb ht))

/-- what is made, while the result is stored -/
def FQ (w W : World) (f : Fm) (A : Option Addr) (c g : Nat) : Prop :=
  w.ownsRow W.heap.size 62 4 (.slice A f.pal.length c) f.pal.length (f.pal.flatMap encP) ∧ Blk w g 3 (intsV f.key ++ [Value.int .i64 (-77)]).toArray ∧ Below W.heap.size W w ∧ some (W.heap.size + 1) ≠ (Value.slice A f.pal.length c).ownBlock ∧ g ≠ W.heap.size + 1
theorem own_set {w : World} {base : Nat} {e : TypeId} {size n : Nat} {v : Value} {xs : List Value} (h : w.ownsRow base e size v n xs) {p : Addr} (hp : some p.block ≠ v.ownBlock) (u : Value) : (w.setCell p u).ownsRow base e size v n xs := by
  refine ⟨h.1, ?_⟩
  rcases h.2 with hn | ⟨g, cap, cur, rfl, hg, hgg, rest⟩
  · exact .inl hn
  · refine .inr ⟨g, cap, cur, rfl, hg, ?_, rest⟩
    rw [Below.heap_setCell w p u g (fun e => hp (by rw [← e]; rfl))]
    exact hgg
theorem FQ.set {w W : World} {f : Fm} {A : Option Addr} {c g : Nat} (h : FQ w W f A c g) (i : Nat) (u : Value) : FQ (w.setCell ⟨W.heap.size + 1, i, none⟩ u) W f A c g :=
  ⟨own_set h.1 h.2.2.2.1 u, h.2.1.far h.2.2.2.2 u, h.2.2.1.setCell (by show W.heap.size ≤ W.heap.size + 1; omega) u, h.2.2.2⟩
theorem FQ.fin {w W : World} {f : Fm} {A : Option Addr} {c g : Nat} (h : FQ w W f A c g) : RdP w w.heap.size A f.pal ∧ RdI w w.heap.size (some ⟨g, 0, none⟩) f.key ∧ Below W.heap.size W w :=
  ⟨own_rd h.1, RdI.of_cells h.2.1.lt (fun j hj => by rw [h.2.1.cell j]; simp [intsV, hj, List.getElem?_append_left]), h.2.2.1⟩
theorem FQ.mk' {w W : World} {f : Fm} {PA KA A : Option Addr} {pc kc c g : Nat} (hF : FmW w W f PA KA pc kc) (h1 : w.ownsRow W.heap.size 62 4 (.slice A f.pal.length c) f.pal.length (f.pal.flatMap encP)) (h2 : Blk w g 3 (intsV f.key ++ [Value.int .i64 (-77)]).toArray) : FQ w W f A c g := by
  refine ⟨h1, h2, hF.1, own_blk_ne h1 hF.2.2 (by decide), fun e => ?_⟩
  subst e
  have := h2.symm.trans hF.2.2
  injection this with this
  injection this with _ this
  exact absurd this (by decide)

/-- what the program's form is -/
def FormEnd (f : Fm) (W : World) (e : Ending) (w' : World) : Prop :=
  ∃ A a g, e = .returned (.agg #[.int .i64 f.w, .int .i64 f.h, .int .i64 f.d, .int .i64 f.c, .int .i64 f.l, .slice A f.pal.length a, .slice (some ⟨g, 0, none⟩) f.key.length (f.key.length + 1)]) ∧
    RdP w' w'.heap.size A f.pal ∧ RdI w' w'.heap.size (some ⟨g, 0, none⟩) f.key ∧ Below W.heap.size W w'

set_option maxRecDepth 100000 in
set_option maxHeartbeats 8000000 in
theorem form_any (f : Fm) (PA KA : Option Addr) (pc kc : Nat) (W : World) (hp : RdP W W.heap.size PA f.pal) (hk : RdI W W.heap.size KA f.key) (hpn : PA = none → f.pal.length = 0) (hkn : KA = none → f.key.length = 0) (hpm : f.pal.length ≤ 1000000) (hkm : f.key.length ≤ 1000000) :
    Calls Try.prog 10 #[.agg #[.int .i64 f.w, .int .i64 f.h, .int .i64 f.d, .int .i64 f.c, .int .i64 f.l, .slice PA f.pal.length pc, .slice KA f.key.length kc]] W (FormEnd f W) := by
  have b0 := (Blk.new W 27 #[.int .i64 f.w, .int .i64 f.h, .int .i64 f.d, .int .i64 f.c, .int .i64 f.l, .slice PA f.pal.length pc, .slice KA f.key.length kc]).alloc (.cells #[.int .i64 0, .int .i64 0, .int .i64 0, .int .i64 0, .int .i64 0, .slice none 0 0, .slice none 0 0] 38)
  have b1 := Blk.new (W.alloc (.cells #[.int .i64 f.w, .int .i64 f.h, .int .i64 f.d, .int .i64 f.c, .int .i64 f.l, .slice PA f.pal.length pc, .slice KA f.key.length kc] 27)) 38 #[.int .i64 0, .int .i64 0, .int .i64 0, .int .i64 0, .int .i64 0, .slice none 0 0, .slice none 0 0]
  simp only [World.size_alloc] at b1
  have Hb0 := hid (show Below W.heap.size W ((W.alloc (.cells #[.int .i64 f.w, .int .i64 f.h, .int .i64 f.d, .int .i64 f.c, .int .i64 f.l, .slice PA f.pal.length pc, .slice KA f.key.length kc] 27)).alloc (.cells #[.int .i64 0, .int .i64 0, .int .i64 0, .int .i64 0, .int .i64 0, .slice none 0 0, .slice none 0 0] 38)) from ((Below.refl _ _).alloc (Nat.le_refl _) _).alloc (by simp) _)
  have HX0 := hid b0
  have HX1 := hid b1
  have HF0 : Hid (FmW ((W.alloc (.cells #[.int .i64 f.w, .int .i64 f.h, .int .i64 f.d, .int .i64 f.c, .int .i64 f.l, .slice PA f.pal.length pc, .slice KA f.key.length kc] 27)).alloc (.cells #[.int .i64 0, .int .i64 0, .int .i64 0, .int .i64 0, .int .i64 0, .slice none 0 0, .slice none 0 0] 38)) W f PA KA pc kc) := ⟨Hb0.out, b0, b1⟩
  have HE0 : Hid ((((W.alloc (.cells #[.int .i64 f.w, .int .i64 f.h, .int .i64 f.d, .int .i64 f.c, .int .i64 f.l, .slice PA f.pal.length pc, .slice KA f.key.length kc] 27)).alloc (.cells #[.int .i64 0, .int .i64 0, .int .i64 0, .int .i64 0, .int .i64 0, .slice none 0 0, .slice none 0 0] 38)).drew.alloc (.cells #[] 62)).ownsRow W.heap.size 62 4 (.slice (some ⟨W.heap.size + 1 + 1, 0, none⟩) 0 0) 0 []) := by
    have h := own_base (b := W.heap.size) (empty_rowP ((W.alloc (.cells #[.int .i64 f.w, .int .i64 f.h, .int .i64 f.d, .int .i64 f.c, .int .i64 f.l, .slice PA f.pal.length pc, .slice KA f.key.length kc] 27)).alloc (.cells #[.int .i64 0, .int .i64 0, .int .i64 0, .int .i64 0, .int .i64 0, .slice none 0 0, .slice none 0 0] 38)).drew 62 4) Hb0.out.size
    refine hid ?_
    simpa using h
  have Hp := hid (show Rd W W.heap.size 4 PA f.pal.length (f.pal.flatMap encP) from hp)
  have Hk := hid hk
  have Hpn := hid hpn
  have Hkn := hid hkn
  obtain ⟨i0, hi0, hz0, hz1, hz2⟩ := info_parts px_info
  have Hi0 := hid hi0
  have Hz0 := hid hz0
  have Hz1 := hid hz1
  have Hz2 := hid hz2
  clear b0 b1 hp hk hpn hkn hi0 hz0 hz1 hz2
  go_enter Try.func10, Try.ntmps10
  go_upto_region 1 with (fail)
  have q0 := HX0.out.cell 0
  have q1 := HX0.out.cell 1
  have q2 := HX0.out.cell 2
  have q3 := HX0.out.cell 3
  have q4 := HX0.out.cell 4
  have q5 := HX0.out.cell 5
  have q6 := HX0.out.cell 6
  simp only [List.getElem?_toArray, List.getElem?_cons_zero, List.getElem?_cons_succ] at q0 q1 q2 q3 q4 q5 q6
  have r0 := HX1.out.cell 0
  have r1 := HX1.out.cell 1
  have r2 := HX1.out.cell 2
  have r3 := HX1.out.cell 3
  have r4 := HX1.out.cell 4
  have r5 := HX1.out.cell 5
  have r6 := HX1.out.cell 6
  simp only [List.getElem?_toArray, List.getElem?_cons_zero, List.getElem?_cons_succ] at r0 r1 r2 r3 r4 r5 r6
  go_region_held3 (fun w' => w'.cell? ⟨W.heap.size, 0, none⟩ = some (.int .i64 f.w) ∧ w'.cell? ⟨W.heap.size, 1, none⟩ = some (.int .i64 f.h) ∧ w'.cell? ⟨W.heap.size, 2, none⟩ = some (.int .i64 f.d) ∧ w'.cell? ⟨W.heap.size, 3, none⟩ = some (.int .i64 f.c) ∧ w'.cell? ⟨W.heap.size, 4, none⟩ = some (.int .i64 f.l) ∧ w'.cell? ⟨W.heap.size, 5, none⟩ = some (.slice PA f.pal.length pc) ∧ w'.cell? ⟨W.heap.size, 6, none⟩ = some (.slice KA f.key.length kc)) (first | go_keep | exact ⟨q0, q1, q2, q3, q4, q5, q6⟩ | exact K3.out | exact K4.out) (first
    | (refine step_formed (f := f) (PA := PA) (KA := KA) (pc := pc) (kc := kc) ?_ Hp.out Hpn.out hpm (by rfl) (.tmp 5) (.tmp 7) (by rfl) _ (by rfl) ?_ (by rfl) ?_; (first | exact HF4.out.alloc _ | exact HF4.out | exact HF0.out.drew.alloc _); (first | exact HE0.out | exact HE4.out | exact own_base (empty_rowP _ _ 4) HF4.out.1.size); intro A3 c3 w3 hown3 hf3 hk3; have r0 := hf3.2.2.cell 0; have r1 := hf3.2.2.cell 1; have r2 := hf3.2.2.cell 2; have r3 := hf3.2.2.cell 3; have r4 := hf3.2.2.cell 4; have r5 := hf3.2.2.cell 5; have r6 := hf3.2.2.cell 6; have fr := fun i => hf3.2.2.frozen i; simp only [List.getElem?_toArray, List.getElem?_cons_zero, List.getElem?_cons_succ] at r0 r1 r2 r3 r4 r5 r6; have K3 : Hid (w3.cell? ⟨W.heap.size, 0, none⟩ = some (.int .i64 f.w) ∧ w3.cell? ⟨W.heap.size, 1, none⟩ = some (.int .i64 f.h) ∧ w3.cell? ⟨W.heap.size, 2, none⟩ = some (.int .i64 f.d) ∧ w3.cell? ⟨W.heap.size, 3, none⟩ = some (.int .i64 f.c) ∧ w3.cell? ⟨W.heap.size, 4, none⟩ = some (.int .i64 f.l) ∧ w3.cell? ⟨W.heap.size, 5, none⟩ = some (.slice PA f.pal.length pc) ∧ w3.cell? ⟨W.heap.size, 6, none⟩ = some (.slice KA f.key.length kc)) := ⟨hf3.2.1.cell 0, hf3.2.1.cell 1, hf3.2.1.cell 2, hf3.2.1.cell 3, hf3.2.1.cell 4, hf3.2.1.cell 5, hf3.2.1.cell 6⟩; have HF3 := hid hf3; have HO3 := hid hown3; have HK3 := hid hk3; clear hf3 hown3 hk3)
    | (go_at_call 40; refine (copyInts_g KA kc f.key _ (FmW.rdi (f := f) (PA := PA) (pc := pc) (kc := kc) (by first | exact HF3.out | exact HF0.out.drew | exact HF0.out.drew.alloc _) Hk.out) Hkn.out hkm).mono ?_; rintro e2 w4 ⟨g4, rfl, hc4, hg4, hb4⟩; have hf4 := FmW.below (f := f) (PA := PA) (KA := KA) (pc := pc) (kc := kc) (by first | exact HF3.out | exact HF0.out.drew | exact HF0.out.drew.alloc _) hb4; (try have HE4 := hid (own_below HE0.out hb4 (Nat.le_refl _))); (try have HO4 := hid (own_below HO3.out hb4 (Nat.le_refl _))); have r0 := hf4.2.2.cell 0; have r1 := hf4.2.2.cell 1; have r2 := hf4.2.2.cell 2; have r3 := hf4.2.2.cell 3; have r4 := hf4.2.2.cell 4; have r5 := hf4.2.2.cell 5; have r6 := hf4.2.2.cell 6; have fr := fun i => hf4.2.2.frozen i; simp only [List.getElem?_toArray, List.getElem?_cons_zero, List.getElem?_cons_succ] at r0 r1 r2 r3 r4 r5 r6; have K4 : Hid (w4.cell? ⟨W.heap.size, 0, none⟩ = some (.int .i64 f.w) ∧ w4.cell? ⟨W.heap.size, 1, none⟩ = some (.int .i64 f.h) ∧ w4.cell? ⟨W.heap.size, 2, none⟩ = some (.int .i64 f.d) ∧ w4.cell? ⟨W.heap.size, 3, none⟩ = some (.int .i64 f.c) ∧ w4.cell? ⟨W.heap.size, 4, none⟩ = some (.int .i64 f.l) ∧ w4.cell? ⟨W.heap.size, 5, none⟩ = some (.slice PA f.pal.length pc) ∧ w4.cell? ⟨W.heap.size, 6, none⟩ = some (.slice KA f.key.length kc)) := ⟨hf4.2.1.cell 0, hf4.2.1.cell 1, hf4.2.1.cell 2, hf4.2.1.cell 3, hf4.2.1.cell 4, hf4.2.1.cell 5, hf4.2.1.cell 6⟩; have HF4 := hid hf4; have HC4 := hid hc4; clear hf4 hc4 hg4 hb4))
  all_goals
    go_wp2_with fail
    refine bodyPost_ret (v := .agg #[.int .i64 f.w, .int .i64 f.h, .int .i64 f.d, .int .i64 f.c, .int .i64 f.l, .slice A3 f.pal.length c3, .slice (some ⟨g4, 0, none⟩) f.key.length (f.key.length + 1)]) (by simp [results, Try.results10, go_sem, r0, r1, r2, r3, r4, r5, r6]) rfl ⟨A3, c3, g4, rfl, ?_⟩
    first
      | exact (((((((FQ.mk' HF4.out HO4.out HC4.out).set 0 _).set 1 _).set 2 _).set 3 _).set 4 _).set 5 _).set 6 _ |>.fin
      | exact (((((((FQ.mk' HF3.out HO3.out (HK3.out _ _ _ HC4.out (by decide))).set 0 _).set 1 _).set 2 _).set 3 _).set 4 _).set 5 _).set 6 _ |>.fin
      | exact (((((((FQ.mk' HF3.out HO3.out (HK3.out _ _ _ (HC4.out.alloc _) (by decide))).set 0 _).set 1 _).set 2 _).set 3 _).set 4 _).set 5 _).set 6 _ |>.fin

end Go.Proofs.Ytphhoihhmphbdaa

namespace Go.Proofs.Ytphhoihhmphbdaa
open Go.ChangeShapes Go.WideShapes Go.ChangeAt Go.RowKit Go.Deep

theorem large_not {f : Fm} (h : largeB f = false) : f.pal.length ≤ 1000000 ∧ f.key.length ≤ 1000000 := by
  unfold largeB at h
  simp at h
  omega

theorem list4 {α : Type} {l : List α} (h : l.length = 4) : ∃ a b c d, l = [a, b, c, d] := by
  match l, h with
  | [a, b, c, d], _ => exact ⟨a, b, c, d, rfl⟩
theorem list7 {α : Type} {l : List α} (h : l.length = 7) : ∃ a b c d e f g, l = [a, b, c, d, e, f, g] := by
  match l, h with
  | [a, b, c, d, e, f, g], _ => exact ⟨a, b, c, d, e, f, g, rfl⟩
theorem px_of {H : Type} {enc : TypeId × Value → H} {w : World} {base : Nat} {spare : Nat → Bool} {held : Bool} (n : Nat) (cs : List Value) (y : DataW H × List MemPlace) (hl : cs.length = 4)
    (h : DataW.trod enc Try.prog w base spare held n 62 cs = some y) : ∃ t : Px, cs = encP t ∧ True := by
  have L := leaf_at 1 62 n cs y (by kernel_rfl) (by rw [hl]; kernel_rfl) h
  obtain ⟨_, _, u0, e0, t0⟩ := L 0 3 (by kernel_rfl)
  obtain ⟨_, _, u1, e1, t1⟩ := L 1 3 (by kernel_rfl)
  obtain ⟨_, _, u2, e2, t2⟩ := L 2 3 (by kernel_rfl)
  obtain ⟨_, _, u3, e3, t3⟩ := L 3 3 (by kernel_rfl)
  obtain ⟨x0, rfl, _⟩ := leaf_int Try.underlying3 t0
  obtain ⟨x1, rfl, _⟩ := leaf_int Try.underlying3 t1
  obtain ⟨x2, rfl, _⟩ := leaf_int Try.underlying3 t2
  obtain ⟨x3, rfl, _⟩ := leaf_int Try.underlying3 t3
  obtain ⟨c0, c1, c2, c3, rfl⟩ := list4 hl
  simp at e0 e1 e2 e3
  subst e0 e1 e2 e3
  exact ⟨(x0, x1, x2, x3), rfl, trivial⟩


set_option maxRecDepth 100000 in
/-- a form that came in -/
theorem open_form {H : Type} {enc : TypeId × Value → H} {w : World} {v : Value} {x : DataW H} {ps : List MemPlace} {r : Reach} {b0 : Nat}
    (hv : Value.okWide Try.prog w r b0 27 v) (h : DataW.Trod enc Try.prog w 0 (fun _ => true) true 27 v x ps) :
    ∃ (f : Fm) (PA KA : Option Addr) (pc kc : Nat), v = .agg #[.int .i64 f.w, .int .i64 f.h, .int .i64 f.d, .int .i64 f.c, .int .i64 f.l, .slice PA f.pal.length pc, .slice KA f.key.length kc] ∧ RdP w w.heap.size PA f.pal ∧ RdI w w.heap.size KA f.key := by
  obtain ⟨cs, e, hl, L⟩ := open_agg 1 Try.underlying27 (by kernel_rfl) hv h
  obtain ⟨_, _, u0, e0, t0⟩ := L 0 3 (by kernel_rfl)
  obtain ⟨x0, rfl, _⟩ := leaf_int Try.underlying3 t0
  obtain ⟨_, _, u1, e1, t1⟩ := L 1 3 (by kernel_rfl)
  obtain ⟨x1, rfl, _⟩ := leaf_int Try.underlying3 t1
  obtain ⟨_, _, u2, e2, t2⟩ := L 2 3 (by kernel_rfl)
  obtain ⟨x2, rfl, _⟩ := leaf_int Try.underlying3 t2
  obtain ⟨_, _, u3, e3, t3⟩ := L 3 3 (by kernel_rfl)
  obtain ⟨x3, rfl, _⟩ := leaf_int Try.underlying3 t3
  obtain ⟨_, _, u4, e4, t4⟩ := L 4 3 (by kernel_rfl)
  obtain ⟨x4, rfl, _⟩ := leaf_int Try.underlying3 t4
  obtain ⟨_, _, u5, e5, t5⟩ := L 5 24 (by kernel_rfl)
  obtain ⟨PA, pc, pal, f5, _, _, _, hp⟩ := open_slice_of encP (fun _ => True) 4 (by omega) Try.underlying24 (by kernel_rfl) px_of (fun _ => rfl) t5
  obtain ⟨_, _, u6, e6, t6⟩ := L 6 25 (by kernel_rfl)
  obtain ⟨KA, kc, key, f6, _, _, _, hk⟩ := open_slice_of encI okI 1 (by omega) Try.underlying25 (by kernel_rfl) int_of (fun _ => rfl) t6
  rw [show (leaves Try.prog (1 + 1) 27).length = 7 by kernel_rfl] at hl
  obtain ⟨c0, c1, c2, c3, c4, c5, c6, rfl⟩ := list7 hl
  simp at e0 e1 e2 e3 e4 e5 e6
  subst e0 e1 e2 e3 e4 e5 e6 f5 f6
  exact ⟨⟨x0, x1, x2, x3, x4, pal, key⟩, PA, KA, pc, kc, e, hp, hk⟩
set_option maxRecDepth 100000 in
/-- a pixel that came in -/
theorem open_px {H : Type} {enc : TypeId × Value → H} {w : World} {v : Value} {x : DataW H} {ps : List MemPlace} {r : Reach} {b0 : Nat}
    (hv : Value.okWide Try.prog w r b0 62 v) (h : DataW.Trod enc Try.prog w 0 (fun _ => true) true 62 v x ps) :
    ∃ a0 a1 a2 a3 : Int, v = .agg #[.int .i64 a0, .int .i64 a1, .int .i64 a2, .int .i64 a3] := by
  obtain ⟨cs, e, hl, L⟩ := open_agg 1 Try.underlying62 (by kernel_rfl) hv h
  obtain ⟨_, _, u0, e0, t0⟩ := L 0 3 (by kernel_rfl)
  obtain ⟨x0, rfl, _⟩ := leaf_int Try.underlying3 t0
  obtain ⟨_, _, u1, e1, t1⟩ := L 1 3 (by kernel_rfl)
  obtain ⟨x1, rfl, _⟩ := leaf_int Try.underlying3 t1
  obtain ⟨_, _, u2, e2, t2⟩ := L 2 3 (by kernel_rfl)
  obtain ⟨x2, rfl, _⟩ := leaf_int Try.underlying3 t2
  obtain ⟨_, _, u3, e3, t3⟩ := L 3 3 (by kernel_rfl)
  obtain ⟨x3, rfl, _⟩ := leaf_int Try.underlying3 t3
  rw [show (leaves Try.prog (1 + 1) 62).length = 4 by kernel_rfl] at hl
  obtain ⟨c0, c1, c2, c3, rfl⟩ := list4 hl
  simp at e0 e1 e2 e3
  subst e0 e1 e2 e3
  exact ⟨x0, x1, x2, x3, e⟩

end Go.Proofs.Ytphhoihhmphbdaa
