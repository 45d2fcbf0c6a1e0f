/-
  burnishlaw02.alive: the chapter's examples, by Parse's contract.
-/
import Derived.Test.YtegmbjkpjglgpaaGreatWpJ
import Derived.BigRegion
import Derived.Deep.RegionLaw


namespace Go.Proofs.YtegmbjkpjglgpaaGreat
open Go.RowKit

set_option maxRecDepth 100000 in
theorem is_word (x nm : ByteArray) (W : World) : Calls Tryz.prog 22 #[.iface 9 (.string x), .agg #[.string nm, .int .i64 2, .int .i64 0, .string x, .bool false]] W fun e w' => e = .returned (.bool true) ∧ Below W.heap.size W w' := by
  have a1 : ∀ w : World, (Instr.typeAssert (.iface 9 (.string x)) 39 3 true).run Tryz.prog w = .ok (.tuple #[.int .i64 0, .bool false]) w := fun _ => by kernel_rfl
  have a2 : ∀ w : World, (Instr.typeAssert (.iface 9 (.string x)) 39 9 true).run Tryz.prog w = .ok (.tuple #[.string x, .bool true]) w := fun _ => by kernel_rfl
  have a3 : ∀ w : World, (Instr.typeAssert (.iface 9 (.string x)) 39 4 true).run Tryz.prog w = .ok (.tuple #[.bool false, .bool false]) w := fun _ => by kernel_rfl
  go_enter Tryz.func22, Tryz.ntmps22
  go_wp2
  go_ret
  exact ⟨ret_bool (by first | rfl | simp), (Below.refl _ _).alloc (Nat.le_refl _) _⟩
set_option maxRecDepth 100000 in
theorem is_truth (nm : ByteArray) (b : Bool) (W : World) : Calls Tryz.prog 22 #[.iface 4 (.bool b), .agg #[.string nm, .int .i64 3, .int .i64 0, .string ⟨#[]⟩, .bool b]] W fun e w' => e = .returned (.bool true) ∧ Below W.heap.size W w' := by
  have a1 : ∀ w : World, (Instr.typeAssert (.iface 4 (.bool b)) 39 3 true).run Tryz.prog w = .ok (.tuple #[.int .i64 0, .bool false]) w := fun _ => by kernel_rfl
  have a2 : ∀ w : World, (Instr.typeAssert (.iface 4 (.bool b)) 39 9 true).run Tryz.prog w = .ok (.tuple #[.string ByteArray.empty, .bool false]) w := fun _ => by kernel_rfl
  have a3 : ∀ w : World, (Instr.typeAssert (.iface 4 (.bool b)) 39 4 true).run Tryz.prog w = .ok (.tuple #[.bool b, .bool true]) w := fun _ => by kernel_rfl
  go_enter Tryz.func22, Tryz.ntmps22
  go_wp2
  go_ret
  exact ⟨ret_bool (by first | rfl | simp), (Below.refl _ _).alloc (Nat.le_refl _) _⟩
def ex1 : ByteArray := ⟨#[116, 117, 114, 110, 61, 102, 108, 105, 112, 44, 98, 97, 114, 101, 44, 120, 61, 49, 54]⟩
def ex2 : ByteArray := ⟨#[120, 61, 48, 49]⟩
theorem ex1_list : (parseP ex1).1 = [(⟨#[116, 117, 114, 110]⟩, .s ⟨#[102, 108, 105, 112]⟩), (⟨#[98, 97, 114, 101]⟩, .t true), (⟨#[120]⟩, .n 16)] := by kernel_rfl
theorem ex1_bad : (parseP ex1).2.bad = false := by kernel_rfl
theorem ex2_bad : (parseP ex2).2.bad = true := by kernel_rfl
theorem ex2_k : (parseP ex2).2.k = 3 := by kernel_rfl
theorem ex1_len : (rnL ex1).length ≤ 1000000 := Nat.le_trans (rnL_len ex1) (by decide)
theorem ex2_len : (rnL ex2).length ≤ 1000000 := Nat.le_trans (rnL_len ex2) (by decide)
/-- Parse at the first example -/
def Ex1End (W : World) (e : Ending) (w' : World) : Prop := ∃ g c, e = .returned (.tuple #[.slice (some ⟨g, 0, none⟩) 3 c, .int .i64 (-1), .nilIface]) ∧ g < w'.heap.size ∧ w'.cell? ⟨g, 1, none⟩ = some (.iface 9 (.string ⟨#[102, 108, 105, 112]⟩)) ∧ w'.cell? ⟨g, 3, none⟩ = some (.iface 4 (.bool true)) ∧ Below W.heap.size W w'
theorem parse_ex1 (W : World) : Calls Tryz.prog 13 #[.string ⟨#[116, 117, 114, 110, 61, 102, 108, 105, 112, 44, 98, 97, 114, 101, 44, 120, 61, 49, 54]⟩] W (Ex1End W) := by
  refine (parse_any ex1 _ rfl ex1_len W).mono ?_
  rintro e w' (⟨h, _⟩ | ⟨_, A, c, he, ho, hb⟩)
  · rw [ex1_bad] at h; cases h
  · rw [ex1_list] at he ho
    obtain ⟨g, rfl, _, hg⟩ := own_block ho (by decide)
    have hrd := own_rd ho
    obtain ⟨b, off, e1, _, hc⟩ := hrd.2 (by decide)
    injection e1 with e1
    injection e1 with e1 e2
    subst e1 e2
    have c1 := hc 1 _ rfl
    have c3 := hc 3 _ rfl
    exact ⟨g, c, he, hg, by rw [Nat.zero_add] at c1; exact c1, by rw [Nat.zero_add] at c3; exact c3, hb⟩
def Ex2End (W : World) (e : Ending) (w' : World) : Prop := e = .returned (.tuple #[.slice none 0 0, .int .i64 3, .iface 34 (.int .i64 1)]) ∧ Below W.heap.size W w'
theorem parse_ex2 (W : World) : Calls Tryz.prog 13 #[.string ⟨#[120, 61, 48, 49]⟩] W (Ex2End W) := by
  refine (parse_any ex2 _ rfl ex2_len W).mono ?_
  rintro e w' (⟨_, he, hb⟩ | ⟨h, _⟩)
  · rw [ex2_k] at he
    exact ⟨he, hb⟩
  · rw [ex2_bad] at h; cases h
set_option maxRecDepth 100000 in
set_option maxHeartbeats 2000000 in
theorem alive_any (W : World) : Calls Tryz.prog 6 #[] W fun e w' => e = .returned (.bool true) ∧ Below W.heap.size W w' := by
  go_enter Tryz.func6, Tryz.ntmps6
  go_wp2_with fail
  refine (parse_ex1 _).mono ?_
  rintro e w1 ⟨g, c, rfl, hg, c1, c3, hb1⟩
  have B1 := hid hb1
  clear hb1
  go_wp2_with fail
  refine (parse_ex2 _).mono ?_
  rintro e w2 ⟨rfl, hb2⟩
  have d1 := (hb2.cell (p := ⟨g, 1, none⟩) hg).trans c1
  have d3 := (hb2.cell (p := ⟨g, 3, none⟩) hg).trans c3
  have hg2 : g < w2.heap.size := by have := hb2.size; omega
  have B2 := hid (B1.out.trans (hb2.mono B1.out.size))
  clear hb2 c1 c3 hg B1
  go_wp2_with fail
  refine (is_word _ _ _).mono ?_
  rintro e w3 ⟨rfl, hb3⟩
  have d3 := (hb3.cell (p := ⟨g, 3, none⟩) hg2).trans d3
  have hg3 : g < w3.heap.size := by have := hb3.size; omega
  have B3 := hid (B2.out.trans (hb3.mono B2.out.size))
  clear hb3 d1 hg2 B2
  go_wp2_with fail
  refine (is_truth _ _ _).mono ?_
  rintro e w4 ⟨rfl, hb4⟩
  have B4 := hid (B3.out.trans (hb4.mono B3.out.size))
  clear hb4 B3
  go_wp2_with fail
  refine (is_no 1 1 (by omega) _).mono ?_
  rintro e w5 ⟨rfl, rfl⟩
  go_wp2
  go_ret
  exact ⟨rfl, B4.out⟩
end Go.Proofs.YtegmbjkpjglgpaaGreat
