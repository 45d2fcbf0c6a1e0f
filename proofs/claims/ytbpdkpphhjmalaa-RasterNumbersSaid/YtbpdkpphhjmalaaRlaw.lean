/-
  burnishref17.Form.Pixel in any good form; burnishlaw17's large and alive.
-/
import Derived.Test.YtbpdkpphhjmalaaRpix0
import Derived.Test.YtbpdkpphhjmalaaRpix2
import Derived.Test.YtbpdkpphhjmalaaRpix4
import Derived.Test.YtbpdkpphhjmalaaRpix6
namespace Go.Proofs.Ytbpdkpphhjmalaa
open Go.RowKit

theorem formOk_keyl {f : Fm} (h : formOk f = true) : f.key.length = 0 ∨ (f.key.length : Int) = chan f.c := by
  have h1 := (formOk_parts h).2.2.2
  unfold keysB at h1
  simp only [Bool.or_eq_true, Bool.and_eq_true, decide_eq_true_eq] at h1
  rcases h1 with h1 | h1
  · exact .inl h1
  · exact .inr h1.1.2
theorem rpixel_any (f : Fm) (PA KA NA : Option Addr) (pc kc nc : Nat) (n : List Int) (W : World) (hf : formOk f = true) (hp : RdP W W.heap.size PA f.pal) (hk : RdI W W.heap.size KA f.key) (hn : RdI W W.heap.size NA n) :
    Calls Try.prog 64 #[.agg #[.int .i64 f.w, .int .i64 f.h, .int .i64 f.d, .int .i64 f.c, .int .i64 f.l, .slice PA f.pal.length pc, .slice KA f.key.length kc], .slice NA n.length nc] W (PixEnd (pixOf f n) W) := by
  obtain ⟨hh, _, _, _⟩ := formOk_parts hf
  obtain ⟨hd, _, hch⟩ := headErr_deep hh
  by_cases hl : (n.length : Int) = chan f.c
  · have hkl : f.key.length = 0 ∨ f.key.length = n.length := by
      rcases formOk_keyl hf with h | h
      · exact .inl h
      · exact .inr (by omega)
    rcases chan_cols hch with h | h | h | h | h
    · exact rpix_c0 f PA KA NA pc kc nc n W h hl hd hn hk hkl
    · exact rpix_c2 f PA KA NA pc kc nc n W h hl hd hn hk hkl
    · exact rpix_pal f PA KA NA pc kc nc n W hl h hp hn
    · exact rpix_c4 f PA KA NA pc kc nc n W h hl hd hn hk hkl
    · exact rpix_c6 f PA KA NA pc kc nc n W h hl hd hn hk hkl
  · exact rpix_len f PA KA NA pc kc nc n W hl

def largeB (f : Fm) : Bool := decide (400 < f.pal.length ∨ 50 < f.key.length)
set_option maxRecDepth 100000 in
set_option maxHeartbeats 4000000 in
theorem large_any (f : Fm) (PA KA : Option Addr) (pc kc : Nat) (W : World) :
    Calls Try.prog 16 #[.agg #[.int .i64 f.w, .int .i64 f.h, .int .i64 f.d, .int .i64 f.c, .int .i64 f.l, .slice PA f.pal.length pc, .slice KA f.key.length kc]] W fun e w' => e = .returned (.bool (largeB f)) ∧ Below W.heap.size W w' := by
  have Hb := hid ((Below.refl W.heap.size W).alloc (Nat.le_refl _) (.cells #[.int .i64 f.w, .int .i64 f.h, .int .i64 f.d, .int .i64 f.c, .int .i64 f.l, .slice PA f.pal.length pc, .slice KA f.key.length kc] 27))
  by_cases h1 : 400 < f.pal.length
  · have Hl := hid (show largeB f = true from decide_eq_true (.inl h1))
    have d1 : decide ((400 : Int) < (f.pal.length : Int)) = true := decide_eq_true (by omega)
    go_enter Try.func16, Try.ntmps16
    go_wp2_with fail
    go_ret
    exact ⟨by rw [Hl.out]; rfl, Hb.out⟩
  · have d1 : decide ((400 : Int) < (f.pal.length : Int)) = false := decide_eq_false (by omega)
    by_cases h2 : 50 < f.key.length
    · have Hl := hid (show largeB f = true from decide_eq_true (.inr h2))
      have d2 : decide ((50 : Int) < (f.key.length : Int)) = true := decide_eq_true (by omega)
      go_enter Try.func16, Try.ntmps16
      go_wp2_with fail
      go_ret
      exact ⟨by rw [Hl.out]; rfl, Hb.out⟩
    · have Hl := hid (show largeB f = false from decide_eq_false (by omega))
      have d2 : decide ((50 : Int) < (f.key.length : Int)) = false := decide_eq_false (by omega)
      go_enter Try.func16, Try.ntmps16
      go_wp2_with fail
      go_ret
      exact ⟨by rw [Hl.out]; rfl, Hb.out⟩

def bit0 : Fm := ⟨1, 1, 1, 0, 0, [], [0]⟩
theorem bit0_0 : fpixOf bit0 [0] = some (0, 0, 0, 0) := by decide
theorem bit0_1 : fpixOf bit0 [1] = some (65535, 65535, 65535, 65535) := by decide
theorem pixEnd_some' {r : Option Px} {W w' : World} {e : Ending} {a b c d : Int} (h : PixEnd r W e w') (hr : r = some (a, b, c, d)) : e = .returned (.tuple #[.agg #[.int .i64 a, .int .i64 b, .int .i64 c, .int .i64 d], .bool true]) ∧ Below W.heap.size W w' := by
  subst hr; exact h
theorem pixEnd_none' {r : Option Px} {W w' : World} {e : Ending} (h : PixEnd r W e w') (hr : r = none) : e = .returned (.tuple #[.agg #[.int .i64 0, .int .i64 0, .int .i64 0, .int .i64 0], .bool false]) ∧ Below W.heap.size W w' := by
  subst hr; exact h
theorem rdi_one {w : World} {g : Nat} {t : TypeId} {x : Int} (h : Blk w g t #[.int .i64 x]) : RdI w w.heap.size (some ⟨g, 0, none⟩) [x] :=
  RdI.of_cells h.lt (fun j hj => by
    have : j = 0 := by simp at hj; omega
    subst this
    exact h.cell 0)

set_option maxRecDepth 100000 in
set_option maxHeartbeats 8000000 in
theorem alive_any (W : World) :
    Calls Try.prog 15 #[] W fun e w' => e = .returned (.bool true) ∧ Below W.heap.size W w' := by
  go_enter Try.func15, Try.ntmps15
  go_wp2_with fail
  have k0 := ((Blk.new W 3 #[.int .i64 0]).alloc (.cells #[.int .i64 1, .int .i64 1, .int .i64 1, .int .i64 0, .int .i64 0, .slice none 0 0, .slice (some ⟨W.heap.size, 0, none⟩) 1 1] 32)).alloc (.cells #[.int .i64 0] 3)
  have f0 := (Blk.new (W.alloc (.cells #[.int .i64 0] 3)) 32 #[.int .i64 1, .int .i64 1, .int .i64 1, .int .i64 0, .int .i64 0, .slice none 0 0, .slice (some ⟨W.heap.size, 0, none⟩) 1 1]).alloc (.cells #[.int .i64 0] 3)
  have n0 := Blk.new ((W.alloc (.cells #[.int .i64 0] 3)).alloc (.cells #[.int .i64 1, .int .i64 1, .int .i64 1, .int .i64 0, .int .i64 0, .slice none 0 0, .slice (some ⟨W.heap.size, 0, none⟩) 1 1] 32)) 3 #[.int .i64 0]
  simp only [World.size_alloc] at f0 n0
  have Hb0 := hid (show Below W.heap.size W (((W.alloc (.cells #[.int .i64 0] 3)).alloc (.cells #[.int .i64 1, .int .i64 1, .int .i64 1, .int .i64 0, .int .i64 0, .slice none 0 0, .slice (some ⟨W.heap.size, 0, none⟩) 1 1] 32)).alloc (.cells #[.int .i64 0] 3)) from (((Below.refl _ _).alloc (Nat.le_refl _) _).alloc (by simp) _).alloc (by simp <;> omega) _)
  refine (fpixel_any bit0 none (some ⟨W.heap.size, 0, none⟩) (some ⟨W.heap.size + 1 + 1, 0, none⟩) 0 1 1 [0] _ Rd.nil (rdi_one k0) (by decide) (by decide) (rdi_one n0)).mono ?_
  rintro e w1 h
  obtain ⟨rfl, hb⟩ := pixEnd_some' h bit0_0
  have hsz := hb.size
  simp only [World.size_alloc] at hsz
  have f1 := f0.below hb (by simp <;> omega)
  have k1 := ((k0.below hb (by simp <;> omega)).alloc (.cells #[.int .i64 0, .int .i64 0, .int .i64 0, .int .i64 0] 29)).alloc (.cells #[.int .i64 1] 3)
  have n1 := Blk.new (w1.alloc (.cells #[.int .i64 0, .int .i64 0, .int .i64 0, .int .i64 0] 29)) 3 #[.int .i64 1]
  have p1 := (Blk.new w1 29 #[.int .i64 0, .int .i64 0, .int .i64 0, .int .i64 0]).alloc (.cells #[.int .i64 1] 3)
  simp only [World.size_alloc] at n1
  have q0 := f1.cell 0
  have q1 := f1.cell 1
  have q2 := f1.cell 2
  have q3 := f1.cell 3
  have q4 := f1.cell 4
  have q5 := f1.cell 5
  have q6 := f1.cell 6
  simp only [List.getElem?_toArray, List.getElem?_cons_zero, List.getElem?_cons_succ] at q0 q1 q2 q3 q4 q5 q6
  have Hb1 := hid (Hb0.out.trans (hb.mono (by simp <;> omega)))
  have K1 := hid k1
  have N1 := hid n1
  have P1 := hid p1
  have g0 : W.heap.size < w1.heap.size := by omega
  have g1 : W.heap.size + 1 < w1.heap.size := by omega
  have hgw : W.heap.size ≤ w1.heap.size := by omega
  clear h hb k0 f0 n0 k1 n1 p1 f1
  go_wp2_with fail
  refine (fpixel_any bit0 none (some ⟨W.heap.size, 0, none⟩) (some ⟨w1.heap.size + 1, 0, none⟩) 0 1 1 [1] _ Rd.nil (rdi_one K1.out) (by decide) (by decide) (rdi_one N1.out)).mono ?_
  rintro e w2 h
  obtain ⟨rfl, hb⟩ := pixEnd_some' h bit0_1
  have hsz2 := hb.size
  simp only [World.size_alloc] at hsz2
  have p2 := P1.out.below hb (by simp <;> omega)
  have s0 := p2.cell 0
  have s1 := p2.cell 1
  have s2 := p2.cell 2
  have s3 := p2.cell 3
  simp only [List.getElem?_toArray, List.getElem?_cons_zero, List.getElem?_cons_succ] at s0 s1 s2 s3
  have Hb2 := hid (((Hb1.out.alloc hgw _).alloc (by simp <;> omega) _).trans (hb.mono (by simp <;> omega)))
  have g2 : w1.heap.size < w2.heap.size := by omega
  have hgw2 : W.heap.size ≤ w2.heap.size := by omega
  clear h hb p2 q0 q1 q2 q3 q4 q5 q6
  go_wp2_with fail
  go_ret
  exact ⟨rfl, Hb2.out.alloc hgw2 _⟩

end Go.Proofs.Ytbpdkpphhjmalaa
