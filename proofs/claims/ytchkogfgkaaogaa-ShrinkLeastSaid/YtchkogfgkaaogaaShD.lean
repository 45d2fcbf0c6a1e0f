/-
  shrink.keyed, its closure and the palette's closure: what makes a form of a head.
-/
import Derived.Test.YtchkogfgkaaogaaShC
namespace Go.Proofs.Ytchkogfgkaaogaa
open Go.RowKit

/-- a bare form -/
def bare (w h d c l : Int) : Fm := ⟨w, h, d, c, l, [], []⟩
/-- the key of a pixel -/
def keyOf' (f : Fm) (p : Px) : List Int := (fnumsOf f (p.1, p.2.1, p.2.2.1, 65535)).getD []
def mkKey (p : Px) (f : Fm) : Fm := ⟨f.w, f.h, f.d, f.c, f.l, f.pal, keyOf' f p⟩
def mkPal (l : List Px) (f : Fm) : Fm := ⟨f.w, f.h, f.d, f.c, f.l, palM l, f.key⟩
theorem key_len (f : Fm) (p : Px) : (keyOf' f p).length ≤ 4 := by
  unfold keyOf' fnumsOf
  split
  · cases h : numsOf f (p.1, p.2.1, p.2.2.1, 65535) with
    | none => simp
    | some l =>
      simp only [Option.getD_some]
      unfold numsOf at h
      split at h
      · split at h
        · injection h with h; subst h; simp
        · cases h
      · split at h
        · split at h
          · injection h with h; subst h; have := (wide_len f.c (p.1, p.2.1, p.2.2.1, 65535)).2; simpa using this
          · cases h
        · cases h
  · simp

theorem keyed_any (a0 a1 a2 a3 : Int) (W : World) :
    Calls Try.prog 77 #[.agg #[.int .i64 a0, .int .i64 a1, .int .i64 a2, .int .i64 a3]] W fun e w' => e = .returned (.func (.func 117) #[] #[.pointer (some ⟨W.heap.size, 0, none⟩)]) ∧ W.alloc (.cells #[.int .i64 a0, .int .i64 a1, .int .i64 a2, .int .i64 a3] 69) = w' := by
  go_enter Try.func77, Try.ntmps77
  go_wp2
  go_ret
  exact ⟨rfl, rfl⟩

/-- a form's rows, the call's own -/
def FmOwn (w : World) (base : Nat) (f : Fm) (PA KA : Option Addr) (pc kc : Nat) : Prop :=
  w.ownsRow base 69 4 (.slice PA f.pal.length pc) f.pal.length (f.pal.flatMap encP) ∧ w.ownsRow base 3 1 (.slice KA f.key.length kc) f.key.length (intsV f.key)
section
variable {w w' : World} {base base' : Nat} {f : Fm} {PA KA : Option Addr} {pc kc : Nat}
theorem FmOwn.below (h : FmOwn w base f PA KA pc kc) {C : Nat} (hb : Below C w w') (hC : w.heap.size ≤ C) : FmOwn w' base f PA KA pc kc := ⟨own_below h.1 hb hC, own_below h.2 hb hC⟩
theorem FmOwn.lower (h : FmOwn w base' f PA KA pc kc) (hb : base ≤ base') : FmOwn w base f PA KA pc kc := ⟨own_base h.1 hb, own_base h.2 hb⟩
theorem FmOwn.alloc (h : FmOwn w base f PA KA pc kc) (o : Obj) : FmOwn (w.alloc o) base f PA KA pc kc := ⟨h.1.alloc o, h.2.alloc o⟩
theorem FmOwn.drewN (h : FmOwn w base f PA KA pc kc) (n : Nat) : FmOwn (w.drewN n) base f PA KA pc kc := h
theorem FmOwn.set_ (h : FmOwn w base f PA KA pc kc) {g : Nat} {t : TypeId} {cs : Array Value} (hg : Blk w g t cs) (h1 : 69 ≠ t) (h2 : 3 ≠ t) (o : Nat) (u : Value) : FmOwn (w.setCell ⟨g, o, none⟩ u) base f PA KA pc kc :=
  ⟨ownsRow_setCell_other (a := ⟨g, o, none⟩) h.1 (fun e => own_blk_ne h.1 hg h1 e.symm) u, ownsRow_setCell_other (a := ⟨g, o, none⟩) h.2 (fun e => own_blk_ne h.2 hg h2 e.symm) u⟩
theorem FmOwn.rdp (h : FmOwn w base f PA KA pc kc) : RdP w w.heap.size PA f.pal := own_rdp h.1
theorem FmOwn.rdi (h : FmOwn w base f PA KA pc kc) : RdI w w.heap.size KA f.key := own_rdi h.2
end
/-- what making a form ends in -/
def MkEnd (f : Fm) (W : World) (e : Ending) (w' : World) : Prop := ∃ PA KA pc kc, e = .returned (.agg #[.int .i64 f.w, .int .i64 f.h, .int .i64 f.d, .int .i64 f.c, .int .i64 f.l, .slice PA f.pal.length pc, .slice KA f.key.length kc]) ∧ FmOwn w' W.heap.size f PA KA pc kc
theorem below8 {B g : Nat} {W w : World} {a0 a1 a2 a3 a4 a5 a6 : Value} (h : Below B W w) (hg : B ≤ g) : Below B W (((((((w.setCell ⟨g, 0, none⟩ a0).setCell ⟨g, 1, none⟩ a1).setCell ⟨g, 2, none⟩ a2).setCell ⟨g, 3, none⟩ a3).setCell ⟨g, 4, none⟩ a4).setCell ⟨g, 5, none⟩ a5).setCell ⟨g, 6, none⟩ a6) :=
  ((((((h.setCell hg _).setCell hg _).setCell hg _).setCell hg _).setCell hg _).setCell hg _).setCell hg _

theorem set7_own {w : World} {base : Nat} {e : TypeId} {size n : Nat} {v : Value} {xs : List Value} {g : Nat} (h : w.ownsRow base e size v n xs) (hn : v.ownBlock ≠ some g) (a0 a1 a2 a3 a4 a5 a6 : Value) :
    (((((((w.setCell ⟨g, 0, none⟩ a0).setCell ⟨g, 1, none⟩ a1).setCell ⟨g, 2, none⟩ a2).setCell ⟨g, 3, none⟩ a3).setCell ⟨g, 4, none⟩ a4).setCell ⟨g, 5, none⟩ a5).setCell ⟨g, 6, none⟩ a6).ownsRow base e size v n xs :=
  ownsRow_setCell_other (ownsRow_setCell_other (ownsRow_setCell_other (ownsRow_setCell_other (ownsRow_setCell_other (ownsRow_setCell_other (ownsRow_setCell_other h hn a0) hn a1) hn a2) hn a3) hn a4) hn a5) hn a6
theorem set7_blk {w : World} {b g : Nat} {t : TypeId} {cs : Array Value} (h : Blk w b t cs) (hn : b ≠ g) (a0 a1 a2 a3 a4 a5 a6 : Value) :
    Blk (((((((w.setCell ⟨g, 0, none⟩ a0).setCell ⟨g, 1, none⟩ a1).setCell ⟨g, 2, none⟩ a2).setCell ⟨g, 3, none⟩ a3).setCell ⟨g, 4, none⟩ a4).setCell ⟨g, 5, none⟩ a5).setCell ⟨g, 6, none⟩ a6) b t cs :=
  ((((((h.far hn a0).far hn a1).far hn a2).far hn a3).far hn a4).far hn a5).far hn a6
theorem FmOwn.set7 {w : World} {base : Nat} {f : Fm} {PA KA : Option Addr} {pc kc : Nat} (h : FmOwn w base f PA KA pc kc) {g : Nat} {t : TypeId} {cs : Array Value} (hg : Blk w g t cs) (h1 : 69 ≠ t) (h2 : 3 ≠ t) (a0 a1 a2 a3 a4 a5 a6 : Value) :
    FmOwn (((((((w.setCell ⟨g, 0, none⟩ a0).setCell ⟨g, 1, none⟩ a1).setCell ⟨g, 2, none⟩ a2).setCell ⟨g, 3, none⟩ a3).setCell ⟨g, 4, none⟩ a4).setCell ⟨g, 5, none⟩ a5).setCell ⟨g, 6, none⟩ a6) base f PA KA pc kc :=
  ⟨set7_own h.1 (fun e => own_blk_ne h.1 hg h1 e.symm) _ _ _ _ _ _ _, set7_own h.2 (fun e => own_blk_ne h.2 hg h2 e.symm) _ _ _ _ _ _ _⟩
theorem grown_new {W w : World} {r : Option Nat} (h : W.grownBy w r) {k : Nat} (hk : W.heap.size ≤ k) (o : Nat) (u : Value) : W.grownBy (w.setCell ⟨k, o, none⟩ u) r :=
  ⟨h.os, h.tape, h.output, by simpa using h.size, fun j hj hr => (Below.heap_setCell w ⟨k, o, none⟩ u j (fun e => by have : j = k := e; omega)).trans (h.block j hj hr)⟩
theorem below_grown {B g : Nat} {w w' : World} (h : Below B w w') (hB : w.heap.size ≤ B) : w.grownBy w' (some g) := ⟨h.os, h.tape, h.output, h.size, fun k hk _ => h.block k (by omega)⟩
theorem grown_set {w : World} (g o : Nat) (u : Value) : w.grownBy (w.setCell ⟨g, o, none⟩ u) (some g) := ⟨by first | rfl | simp, by first | rfl | simp, by first | rfl | simp, by simp, fun k _ hk => Below.heap_setCell w ⟨g, o, none⟩ u k (fun e => hk (by rw [e]))⟩
theorem grown_trans {a b c : World} {r : Option Nat} (h1 : a.grownBy b r) (h2 : b.grownBy c r) : a.grownBy c r := ⟨h2.os.trans h1.os, h2.tape.trans h1.tape, h2.output.trans h1.output, Nat.le_trans h1.size h2.size, fun k hk hr => (h2.block k (by have := h1.size; omega) hr).trans (h1.block k hk hr)⟩
set_option maxRecDepth 100000 in
set_option maxHeartbeats 4000000 in
theorem keyf_any (w h d c l a0 a1 a2 a3 : Int) (g : Nat) (W : World) (hg : Blk W g 69 #[.int .i64 a0, .int .i64 a1, .int .i64 a2, .int .i64 a3]) :
    Calls Try.prog 117 #[.agg #[.int .i64 w, .int .i64 h, .int .i64 d, .int .i64 c, .int .i64 l, .slice none 0 0, .slice none 0 0], .pointer (some ⟨g, 0, none⟩)] W fun e w' => MkEnd (mkKey (a0, a1, a2, a3) (bare w h d c l)) W e w' ∧ Blk w' g 69 #[.int .i64 a0, .int .i64 a1, .int .i64 a2, .int .i64 65535] ∧ W.grownBy w' (some g) := by
  have hlt := hg.lt
  have s3 : W.cell? ⟨g, 3, none⟩ = some (.int .i64 a3) := hg.cell 3
  have sf : W.frozen? ⟨g, 3, none⟩ = false := hg.frozen 3
  have hsz1 : (W.setCell ⟨g, 3, none⟩ (.int .i64 65535)).heap.size = W.heap.size := by simp
  have Hb0 := hid (show Blk (((W.setCell ⟨g, 3, none⟩ (.int .i64 65535)).alloc (.cells #[.int .i64 w, .int .i64 h, .int .i64 d, .int .i64 c, .int .i64 l, .slice none 0 0, .slice none 0 0] 32)).alloc (.cells #[.int .i64 0, .int .i64 0, .int .i64 0, .int .i64 0, .int .i64 0, .slice none 0 0, .slice none 0 0] 32)) g 69 #[.int .i64 a0, .int .i64 a1, .int .i64 a2, .int .i64 65535] from ((hg.set_ 3 (.int .i64 65535)).alloc _).alloc _)
  have hf0 := (Blk.new (W.setCell ⟨g, 3, none⟩ (.int .i64 65535)) 32 #[.int .i64 w, .int .i64 h, .int .i64 d, .int .i64 c, .int .i64 l, .slice none 0 0, .slice none 0 0]).alloc (.cells #[.int .i64 0, .int .i64 0, .int .i64 0, .int .i64 0, .int .i64 0, .slice none 0 0, .slice none 0 0] 32)
  have hr0 := Blk.new ((W.setCell ⟨g, 3, none⟩ (.int .i64 65535)).alloc (.cells #[.int .i64 w, .int .i64 h, .int .i64 d, .int .i64 c, .int .i64 l, .slice none 0 0, .slice none 0 0] 32)) 32 #[.int .i64 0, .int .i64 0, .int .i64 0, .int .i64 0, .int .i64 0, .slice none 0 0, .slice none 0 0]
  simp only [World.size_alloc, hsz1] at hf0 hr0
  have Hf0 := hid hf0
  have Hr0 := hid hr0
  have Hgr0 := hid (show W.grownBy (((W.setCell ⟨g, 3, none⟩ (.int .i64 65535)).alloc (.cells #[.int .i64 w, .int .i64 h, .int .i64 d, .int .i64 c, .int .i64 l, .slice none 0 0, .slice none 0 0] 32)).alloc (.cells #[.int .i64 0, .int .i64 0, .int .i64 0, .int .i64 0, .int .i64 0, .slice none 0 0, .slice none 0 0] 32)) (some g) from grown_trans (grown_set g 3 (.int .i64 65535)) (below_grown (((Below.refl (W.setCell ⟨g, 3, none⟩ (.int .i64 65535)).heap.size _).alloc (Nat.le_refl _) _).alloc (by simp) _) (Nat.le_refl _)))
  have hsz2 : W.heap.size + 1 < (((W.setCell ⟨g, 3, none⟩ (.int .i64 65535)).alloc (.cells #[.int .i64 w, .int .i64 h, .int .i64 d, .int .i64 c, .int .i64 l, .slice none 0 0, .slice none 0 0] 32)).alloc (.cells #[.int .i64 0, .int .i64 0, .int .i64 0, .int .i64 0, .int .i64 0, .slice none 0 0, .slice none 0 0] 32)).heap.size := by simp
  clear hg hf0 hr0 hsz1
  go_enter Try.func117, Try.ntmps117
  go_upto_region 2 with (fail)
  generalize (((W.setCell ⟨g, 3, none⟩ (.int .i64 65535)).alloc (.cells #[.int .i64 w, .int .i64 h, .int .i64 d, .int .i64 c, .int .i64 l, .slice none 0 0, .slice none 0 0] 32)).alloc (.cells #[.int .i64 0, .int .i64 0, .int .i64 0, .int .i64 0, .int .i64 0, .slice none 0 0, .slice none 0 0] 32)) = wz at *
  have p0 := Hb0.out.cell 0
  have p1 := Hb0.out.cell 1
  have p2 := Hb0.out.cell 2
  have p3 := Hb0.out.cell 3
  have q0 := Hf0.out.cell 0
  have q1 := Hf0.out.cell 1
  have q2 := Hf0.out.cell 2
  have q3 := Hf0.out.cell 3
  have q4 := Hf0.out.cell 4
  have q5 := Hf0.out.cell 5
  have q6 := Hf0.out.cell 6
  simp only [List.getElem?_toArray, List.getElem?_cons_zero, List.getElem?_cons_succ] at p0 p1 p2 p3 q0 q1 q2 q3 q4 q5 q6
  clear s3 sf
  go_wp2_with fail
  refine (fnums_any (bare w h d c l) none none 0 0 a0 a1 a2 65535 wz Rd.nil RdI.nil (by simp [bare]) (by simp [bare])).mono ?_
  rintro e w2 ⟨he, hb2⟩
  have Hb2 := hid (Hb0.out.below hb2 (by omega))
  have Hf2 := hid (Hf0.out.below hb2 (by omega))
  have Hr2 := hid (Hr0.out.below hb2 (by omega))
  have Hgr2 := hid (grown_trans Hgr0.out (below_grown hb2 (Nat.le_refl _)))
  have hsz3 : W.heap.size + 1 < w2.heap.size := Nat.lt_of_lt_of_le hsz2 hb2.size
  have Hk := hid (key_len (bare w h d c l) (a0, a1, a2, a3))
  have Hkd : Hid (keyOf' (bare w h d c l) (a0, a1, a2, a3) = (fnumsOf (bare w h d c l) (a0, a1, a2, 65535)).getD []) := rfl
  clear hb2 p0 p1 p2 p3 q0 q1 q2 q3 q4 q5 q6
  have Hend := hid (show ∃ KA kc n, e = .returned (.tuple #[.slice KA (keyOf' (bare w h d c l) (a0, a1, a2, a3)).length kc, .bool n]) ∧ w2.ownsRow wz.heap.size 3 1 (.slice KA (keyOf' (bare w h d c l) (a0, a1, a2, a3)).length kc) (keyOf' (bare w h d c l) (a0, a1, a2, a3)).length (intsV (keyOf' (bare w h d c l) (a0, a1, a2, a3))) by
    rw [Hkd.out]
    cases hn : fnumsOf (bare w h d c l) (a0, a1, a2, 65535) with
    | none =>
      rw [hn] at he
      exact ⟨none, 0, false, he, World.ownsRow_nil _ _ _ _⟩
    | some o =>
      rw [hn] at he
      obtain ⟨A, cc, rfl, hr⟩ := he
      exact ⟨A, cc, true, rfl, hr⟩)
  clear he
  obtain ⟨KA, kc, n, rfl, hr⟩ := Hend.out
  have Hr := hid hr
  clear hr
  have Hmk : Hid (mkKey (a0, a1, a2, a3) (bare w h d c l) = ⟨w, h, d, c, l, [], keyOf' (bare w h d c l) (a0, a1, a2, a3)⟩) := rfl
  generalize keyOf' (bare w h d c l) (a0, a1, a2, a3) = key at *
  have q0 := Hf2.out.cell 0
  have q1 := Hf2.out.cell 1
  have q2 := Hf2.out.cell 2
  have q3 := Hf2.out.cell 3
  have q4 := Hf2.out.cell 4
  have q5 := Hf2.out.cell 5
  have q6 := Hf2.out.cell 6
  have r0 := Hr2.out.cell 0
  have r1 := Hr2.out.cell 1
  have r2 := Hr2.out.cell 2
  have r3 := Hr2.out.cell 3
  have r4 := Hr2.out.cell 4
  have r5 := Hr2.out.cell 5
  have r6 := Hr2.out.cell 6
  have fq := fun i => Hf2.out.frozen i
  have fr := fun i => Hr2.out.frozen i
  simp only [List.getElem?_toArray, List.getElem?_cons_zero, List.getElem?_cons_succ] at q0 q1 q2 q3 q4 q5 q6 r0 r1 r2 r3 r4 r5 r6
  have Hfo := hid (show FmOwn w2 W.heap.size ⟨w, h, d, c, l, [], key⟩ none KA 0 kc from ⟨World.ownsRow_nil _ _ _ _, own_base Hr.out (by omega)⟩)
  have Hf3 := hid ((Hfo.out.set_ Hf2.out (by decide) (by decide) 6 (.slice KA key.length kc)))
  have Hr3 := hid (Hr2.out.far (p := ⟨W.heap.size, 6, none⟩) (by show W.heap.size + 1 ≠ W.heap.size; omega) (.slice KA key.length kc))
  have Hp3 := hid (Hb2.out.far (p := ⟨W.heap.size, 6, none⟩) (by show g ≠ W.heap.size; omega) (.slice KA key.length kc))
  have hgl : g < W.heap.size := by omega
  go_wp2_with fail
  refine bodyPost_ret (v := .agg #[.int .i64 w, .int .i64 h, .int .i64 d, .int .i64 c, .int .i64 l, .slice none 0 0, .slice KA key.length kc]) (by simp [results, Try.results117, go_sem, r0, r1, r2, r3, r4, r5, r6]) rfl ⟨?_, ?_, ?_⟩
  · rw [Hmk.out]
    exact ⟨none, KA, 0, kc, rfl, Hf3.out.set7 Hr3.out (by decide) (by decide) _ _ _ _ _ _ _⟩
  · exact set7_blk Hp3.out (by omega) _ _ _ _ _ _ _
  · exact grown_new (grown_new (grown_new (grown_new (grown_new (grown_new (grown_new (grown_new Hgr2.out (by omega) _ _) (by omega) _ _) (by omega) _ _) (by omega) _ _) (by omega) _ _) (by omega) _ _) (by omega) _ _) (by omega) _ _

/-- the palette's closure -/
theorem palf_any (w h d c l : Int) (g : Nat) (PA : Option Addr) (pl : List Px) (pc : Nat) (W : World) (hg : Blk W g 22 #[.slice PA (palM pl).length pc]) (hp : RdP W W.heap.size PA (palM pl)) (hn : PA = none → (palM pl).length = 0) (hm : (palM pl).length ≤ 1000000) :
    Calls Try.prog 79 #[.agg #[.int .i64 w, .int .i64 h, .int .i64 d, .int .i64 c, .int .i64 l, .slice none 0 0, .slice none 0 0], .pointer (some ⟨g, 0, none⟩)] W fun e w' => MkEnd (mkPal pl (bare w h d c l)) W e w' ∧ Below W.heap.size W w' := by
  have hlt := hg.lt
  have hwz0 := (((Below.refl W.heap.size W).alloc (Nat.le_refl _) (.cells #[.int .i64 w, .int .i64 h, .int .i64 d, .int .i64 c, .int .i64 l, .slice none 0 0, .slice none 0 0] 32)).alloc (by simp) (.cells #[.int .i64 0, .int .i64 0, .int .i64 0, .int .i64 0, .int .i64 0, .slice none 0 0, .slice none 0 0] 32))
  have hf0 := (Blk.new W 32 #[.int .i64 w, .int .i64 h, .int .i64 d, .int .i64 c, .int .i64 l, .slice none 0 0, .slice none 0 0]).alloc (.cells #[.int .i64 0, .int .i64 0, .int .i64 0, .int .i64 0, .int .i64 0, .slice none 0 0, .slice none 0 0] 32)
  have hr0 := Blk.new (W.alloc (.cells #[.int .i64 w, .int .i64 h, .int .i64 d, .int .i64 c, .int .i64 l, .slice none 0 0, .slice none 0 0] 32)) 32 #[.int .i64 0, .int .i64 0, .int .i64 0, .int .i64 0, .int .i64 0, .slice none 0 0, .slice none 0 0]
  simp only [World.size_alloc] at hr0
  have Hf0 := hid hf0
  have Hr0 := hid hr0
  have Hg0 := hid (hg.below hwz0 hlt)
  have Hp := hid (Rd.more (Rd.below hp hwz0 (Nat.le_refl _)) hwz0.size)
  have Hb0 := hid hwz0
  have hsz2 : W.heap.size + 1 < ((W.alloc (.cells #[.int .i64 w, .int .i64 h, .int .i64 d, .int .i64 c, .int .i64 l, .slice none 0 0, .slice none 0 0] 32)).alloc (.cells #[.int .i64 0, .int .i64 0, .int .i64 0, .int .i64 0, .int .i64 0, .slice none 0 0, .slice none 0 0] 32)).heap.size := by simp
  have Hn := hid hn
  have Hmk : Hid (mkPal pl (bare w h d c l) = ⟨w, h, d, c, l, palM pl, []⟩) := rfl
  clear hg hp hn hwz0 hf0 hr0
  generalize palM pl = pal at *
  go_enter Try.func79, Try.ntmps79
  go_upto_region 1 with (fail)
  generalize (W.alloc (.cells #[.int .i64 w, .int .i64 h, .int .i64 d, .int .i64 c, .int .i64 l, .slice none 0 0, .slice none 0 0] 32)).alloc (.cells #[.int .i64 0, .int .i64 0, .int .i64 0, .int .i64 0, .int .i64 0, .slice none 0 0, .slice none 0 0] 32) = wz at *
  have g0 := Hg0.out.cell 0
  simp only [List.getElem?_toArray, List.getElem?_cons_zero] at g0
  go_wp2_with fail
  refine (cloneP_any PA pc pal wz Hp.out Hn.out hm).mono ?_
  rintro e w2 ⟨PB, pb, rfl, ho, hb2⟩
  have Hf2 := hid (Hf0.out.below hb2 (by omega))
  have Hr2 := hid (Hr0.out.below hb2 (by omega))
  have Hb2 := hid (Hb0.out.trans (hb2.mono (by omega)))
  have hsz3 : W.heap.size + 1 < w2.heap.size := Nat.lt_of_lt_of_le hsz2 hb2.size
  have Hfo := hid (show FmOwn w2 W.heap.size ⟨w, h, d, c, l, pal, []⟩ PB none pb 0 from ⟨own_base ho (by omega), World.ownsRow_nil _ _ _ _⟩)
  have Hf3 := hid ((Hfo.out.set_ Hf2.out (by decide) (by decide) 5 (.slice PB pal.length pb)))
  have Hr3 := hid (Hr2.out.far (p := ⟨W.heap.size, 5, none⟩) (by show W.heap.size + 1 ≠ W.heap.size; omega) (.slice PB pal.length pb))
  clear hb2 ho g0
  have q0 := Hf2.out.cell 0
  have q1 := Hf2.out.cell 1
  have q2 := Hf2.out.cell 2
  have q3 := Hf2.out.cell 3
  have q4 := Hf2.out.cell 4
  have q5 := Hf2.out.cell 5
  have q6 := Hf2.out.cell 6
  have r0 := Hr2.out.cell 0
  have r1 := Hr2.out.cell 1
  have r2 := Hr2.out.cell 2
  have r3 := Hr2.out.cell 3
  have r4 := Hr2.out.cell 4
  have r5 := Hr2.out.cell 5
  have r6 := Hr2.out.cell 6
  have fq := fun i => Hf2.out.frozen i
  have fr := fun i => Hr2.out.frozen i
  simp only [List.getElem?_toArray, List.getElem?_cons_zero, List.getElem?_cons_succ] at q0 q1 q2 q3 q4 q5 q6 r0 r1 r2 r3 r4 r5 r6
  go_wp2_with fail
  refine bodyPost_ret (v := .agg #[.int .i64 w, .int .i64 h, .int .i64 d, .int .i64 c, .int .i64 l, .slice PB pal.length pb, .slice none 0 0]) (by simp [results, Try.results79, go_sem, r0, r1, r2, r3, r4, r5, r6]) rfl ⟨?_, ?_⟩
  · rw [Hmk.out]
    exact ⟨PB, none, pb, 0, rfl, Hf3.out.set7 Hr3.out (by decide) (by decide) _ _ _ _ _ _ _⟩
  · exact below8 (Hb2.out.setCell (by exact Nat.le_refl _) _) (by omega)

end Go.Proofs.Ytchkogfgkaaogaa
