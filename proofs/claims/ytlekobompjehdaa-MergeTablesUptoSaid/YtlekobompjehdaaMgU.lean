/-
  merge.Table.
-/
import Derived.Test.YtlekobompjehdaaMgV
import Derived.Test.YtlekobompjehdaaMgJ
namespace Go.Proofs.Ytlekobompjehdaa
open Go.RowKit Mg

def zeroC : Array Value := #[.int .i64 (((fun _ => 0) 0 : Nat) : Int), .int .i64 (((fun _ => 0) 1 : Nat) : Int), .int .i64 (((fun _ => 0) 2 : Nat) : Int), .int .i64 (((fun _ => 0) 3 : Nat) : Int), .int .i64 (((fun _ => 0) 4 : Nat) : Int), .int .i64 (((fun _ => 0) 5 : Nat) : Int), .int .i64 (((fun _ => 0) 6 : Nat) : Int), .int .i64 (((fun _ => 0) 7 : Nat) : Int), .int .i64 (((fun _ => 0) 8 : Nat) : Int), .int .i64 (((fun _ => 0) 9 : Nat) : Int), .int .i64 (((fun _ => 0) 10 : Nat) : Int), .int .i64 (((fun _ => 0) 11 : Nat) : Int), .int .i64 (((fun _ => 0) 12 : Nat) : Int), .int .i64 (((fun _ => 0) 13 : Nat) : Int), .int .i64 (((fun _ => 0) 14 : Nat) : Int), .int .i64 (((fun _ => 0) 15 : Nat) : Int), .slice none 0 0]
theorem zeroC_eq (f : Nat → Nat) (h : ∀ k, k < 16 → f k = 0) : zeroC = codesC f none 0 0 := by
  unfold zeroC codesC
  simp only [h 0 (by omega), h 1 (by omega), h 2 (by omega), h 3 (by omega), h 4 (by omega), h 5 (by omega), h 6 (by omega), h 7 (by omega), h 8 (by omega), h 9 (by omega), h 10 (by omega), h 11 (by omega), h 12 (by omega), h 13 (by omega), h 14 (by omega), h 15 (by omega)]
theorem codes_inc (f : Nat → Nat) (A : Option Addr) (m c : Nat) {k : Nat} (hk : k < 16) (f' : Nat → Nat) (h1 : f' k = f k + 1) (h2 : ∀ j, j ≠ k → f' j = f j) : (codesC f A m c).setIfInBounds k (.int .i64 ((f k : Int) + 1)) = codesC f' A m c := by
  have e : ((f k : Int) + 1) = (f' k : Int) := by omega
  rw [e]
  have : k = 0 ∨ k = 1 ∨ k = 2 ∨ k = 3 ∨ k = 4 ∨ k = 5 ∨ k = 6 ∨ k = 7 ∨ k = 8 ∨ k = 9 ∨ k = 10 ∨ k = 11 ∨ k = 12 ∨ k = 13 ∨ k = 14 ∨ k = 15 := by omega
  have q : ∀ j, j ≠ k → ((f' j : Nat) : Int) = (f j : Int) := fun j hj => by rw [h2 j hj]
  unfold codesC
  rcases this with rfl | rfl | rfl | rfl | rfl | rfl | rfl | rfl | rfl | rfl | rfl | rfl | rfl | rfl | rfl | rfl <;> simp [q]
theorem codes_sl (f : Nat → Nat) (A A' : Option Addr) (m c m' c' : Nat) : (codesC f A m c).setIfInBounds 16 (.slice A' m' c') = codesC f A' m' c' := rfl
/-- a box filled anew -/
def putC (w : World) (g : Nat) (f : Nat → Nat) (A : Option Addr) (m c : Nat) : World := ((((((((((((((((w.setCell ⟨g, 0, none⟩ (.int .i64 (f 0 : Int))).setCell ⟨g, 1, none⟩ (.int .i64 (f 1 : Int))).setCell ⟨g, 2, none⟩ (.int .i64 (f 2 : Int))).setCell ⟨g, 3, none⟩ (.int .i64 (f 3 : Int))).setCell ⟨g, 4, none⟩ (.int .i64 (f 4 : Int))).setCell ⟨g, 5, none⟩ (.int .i64 (f 5 : Int))).setCell ⟨g, 6, none⟩ (.int .i64 (f 6 : Int))).setCell ⟨g, 7, none⟩ (.int .i64 (f 7 : Int))).setCell ⟨g, 8, none⟩ (.int .i64 (f 8 : Int))).setCell ⟨g, 9, none⟩ (.int .i64 (f 9 : Int))).setCell ⟨g, 10, none⟩ (.int .i64 (f 10 : Int))).setCell ⟨g, 11, none⟩ (.int .i64 (f 11 : Int))).setCell ⟨g, 12, none⟩ (.int .i64 (f 12 : Int))).setCell ⟨g, 13, none⟩ (.int .i64 (f 13 : Int))).setCell ⟨g, 14, none⟩ (.int .i64 (f 14 : Int))).setCell ⟨g, 15, none⟩ (.int .i64 (f 15 : Int))).setCell ⟨g, 16, none⟩ (.slice A m c)
def putL (w : World) (g : Nat) : Nat → List Value → World
  | _, [] => w
  | i, v :: vs => putL (w.setCell ⟨g, i, none⟩ v) g (i + 1) vs
theorem putL_blk {g : Nat} {t : TypeId} : ∀ (vs old pre : List Value) (w : World), old.length = vs.length → Blk w g t (pre ++ old).toArray → Blk (putL w g pre.length vs) g t (pre ++ vs).toArray
  | [], old, pre, w, h, hb => by
    obtain rfl : old = [] := List.eq_nil_of_length_eq_zero h
    exact hb
  | v :: vs, [], pre, w, h, hb => by simp at h
  | v :: vs, o :: os, pre, w, h, hb => by
    have h1 := hb.set_ pre.length v
    rw [List.setIfInBounds_toArray, List.set_append_right _ _ (Nat.le_refl _), Nat.sub_self, List.set_cons_zero, show pre ++ v :: os = (pre ++ [v]) ++ os by simp] at h1
    have h2 := putL_blk vs os (pre ++ [v]) _ (by simpa using h) h1
    rw [List.length_append, List.length_singleton, List.append_assoc] at h2
    exact h2
def codesL (f : Nat → Nat) (A : Option Addr) (m c : Nat) : List Value := [.int .i64 (f 0 : Int), .int .i64 (f 1 : Int), .int .i64 (f 2 : Int), .int .i64 (f 3 : Int), .int .i64 (f 4 : Int), .int .i64 (f 5 : Int), .int .i64 (f 6 : Int), .int .i64 (f 7 : Int), .int .i64 (f 8 : Int), .int .i64 (f 9 : Int), .int .i64 (f 10 : Int), .int .i64 (f 11 : Int), .int .i64 (f 12 : Int), .int .i64 (f 13 : Int), .int .i64 (f 14 : Int), .int .i64 (f 15 : Int), .slice A m c]
theorem putC_blk {w : World} {g : Nat} (h : Blk w g 43 zeroC) (f : Nat → Nat) (A : Option Addr) (m c : Nat) : Blk (putC w g f A m c) g 43 (codesC f A m c) :=
  putL_blk (codesL f A m c) (codesL (fun _ => 0) none 0 0) [] w rfl h
theorem putC_grown (w : World) (g : Nat) (f : Nat → Nat) (A : Option Addr) (m c : Nat) : w.grownBy (putC w g f A m c) (some g) := by
  unfold putC
  exact grown_set1 (grown_set1 (grown_set1 (grown_set1 (grown_set1 (grown_set1 (grown_set1 (grown_set1 (grown_set1 (grown_set1 (grown_set1 (grown_set1 (grown_set1 (grown_set1 (grown_set1 (grown_set1 (grown_set1 (World.grownBy.refl w _) _ _) _ _) _ _) _ _) _ _) _ _) _ _) _ _) _ _) _ _) _ _) _ _) _ _) _ _) _ _) _ _) _ _
set_option maxRecDepth 100000 in
set_option maxHeartbeats 2000000 in
theorem mtable_form (A : Option Addr) (c : Nat) (l : List Int) (W : World) (h : RdI W W.heap.size A l) (hm : l.length ≤ maxLen) (hg : goodc l 256 = false) :
    Calls Try.prog 25 #[.slice A l.length c] W fun e w' => e = .returned (.tuple #[.agg zeroC, .iface 34 (.int .i64 6)]) ∧ Below W.heap.size W w' := by
  have H := hid h
  have Hgd := hid hg
  clear h hg
  go_enter Try.func25, Try.ntmps25
  go_upto_region 1 with (fail)
  have C0 := hid (Blk.new W 43 zeroC)
  have B0 := hid (show Below W.heap.size W (W.alloc (.cells zeroC 43)) from (Below.refl _ _).alloc (Nat.le_refl _) _)
  obtain ⟨g, hg⟩ : ∃ g, g = W.heap.size := ⟨_, rfl⟩
  have Hg := hid hg
  unfold zeroC at C0 B0
  rw [← hg] at C0 B0 ⊢
  generalize W.alloc _ = w1 at *
  have H1 := hid (H.out.below (by rw [← hg]; exact B0.out) (Nat.le_refl _))
  clear hg
  go_wp2_with fail
  refine (sound_any A c l 256 _ W.heap.size H1.out hm false Hgd.out).mono ?_
  rintro e w2 ⟨rfl, rfl⟩
  go_upto_region 2 with (fail)
  have fz := fun o => C0.out.frozen o
  have hgw := C0.out.lt
  have q0 := C0.out.cell 0
  have q1 := C0.out.cell 1
  have q2 := C0.out.cell 2
  have q3 := C0.out.cell 3
  have q4 := C0.out.cell 4
  have q5 := C0.out.cell 5
  have q6 := C0.out.cell 6
  have q7 := C0.out.cell 7
  have q8 := C0.out.cell 8
  have q9 := C0.out.cell 9
  have q10 := C0.out.cell 10
  have q11 := C0.out.cell 11
  have q12 := C0.out.cell 12
  have q13 := C0.out.cell 13
  have q14 := C0.out.cell 14
  have q15 := C0.out.cell 15
  have q16 := C0.out.cell 16
  simp only [List.getElem?_toArray, List.getElem?_cons_zero, List.getElem?_cons_succ] at q0 q1 q2 q3 q4 q5 q6 q7 q8 q9 q10 q11 q12 q13 q14 q15 q16
  have PB := hid (putC_blk (w := w1) (g := g) C0.out (fun _ => 0) none 0 0)
  have PG := hid (B0.out.grown (putC_grown w1 g (fun _ => 0) none 0 0) (by omega) (fun k hk => by injection hk with hk; omega))
  clear C0
  go_wp2
  clear q0 q1 q2 q3 q4 q5 q6 q7 q8 q9 q10 q11 q12 q13 q14 q15 q16
  change bodyPost _ _ _ _ _ (putC w1 g (fun _ => 0) none 0 0)
  generalize putC w1 g (fun _ => 0) none 0 0 = w9 at *
  have r0 : w9.cell? ⟨g, 0, none⟩ = some (.int .i64 0) := (PB.out.cell 0).trans rfl
  have r1 : w9.cell? ⟨g, 1, none⟩ = some (.int .i64 0) := (PB.out.cell 1).trans rfl
  have r2 : w9.cell? ⟨g, 2, none⟩ = some (.int .i64 0) := (PB.out.cell 2).trans rfl
  have r3 : w9.cell? ⟨g, 3, none⟩ = some (.int .i64 0) := (PB.out.cell 3).trans rfl
  have r4 : w9.cell? ⟨g, 4, none⟩ = some (.int .i64 0) := (PB.out.cell 4).trans rfl
  have r5 : w9.cell? ⟨g, 5, none⟩ = some (.int .i64 0) := (PB.out.cell 5).trans rfl
  have r6 : w9.cell? ⟨g, 6, none⟩ = some (.int .i64 0) := (PB.out.cell 6).trans rfl
  have r7 : w9.cell? ⟨g, 7, none⟩ = some (.int .i64 0) := (PB.out.cell 7).trans rfl
  have r8 : w9.cell? ⟨g, 8, none⟩ = some (.int .i64 0) := (PB.out.cell 8).trans rfl
  have r9 : w9.cell? ⟨g, 9, none⟩ = some (.int .i64 0) := (PB.out.cell 9).trans rfl
  have r10 : w9.cell? ⟨g, 10, none⟩ = some (.int .i64 0) := (PB.out.cell 10).trans rfl
  have r11 : w9.cell? ⟨g, 11, none⟩ = some (.int .i64 0) := (PB.out.cell 11).trans rfl
  have r12 : w9.cell? ⟨g, 12, none⟩ = some (.int .i64 0) := (PB.out.cell 12).trans rfl
  have r13 : w9.cell? ⟨g, 13, none⟩ = some (.int .i64 0) := (PB.out.cell 13).trans rfl
  have r14 : w9.cell? ⟨g, 14, none⟩ = some (.int .i64 0) := (PB.out.cell 14).trans rfl
  have r15 : w9.cell? ⟨g, 15, none⟩ = some (.int .i64 0) := (PB.out.cell 15).trans rfl
  have r16 : w9.cell? ⟨g, 16, none⟩ = some (.slice none 0 0) := (PB.out.cell 16).trans rfl
  refine bodyPost_ret (v := .tuple #[.agg zeroC, .iface 34 (.int .i64 6)]) (by simp [results, Try.results25, go_sem, zeroC, r0, r1, r2, r3, r4, r5, r6, r7, r8, r9, r10, r11, r12, r13, r14, r15, r16]) rfl ?_
  exact ⟨rfl, by rw [← Hg.out]; exact PG.out⟩
end Go.Proofs.Ytlekobompjehdaa
