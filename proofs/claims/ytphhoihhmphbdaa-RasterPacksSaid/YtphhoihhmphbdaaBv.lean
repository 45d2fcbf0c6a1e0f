/-
  Slices of bytes as strings; burnishnum.Same, Copy and Kept.
-/
import Derived.Test.YtphhoihhmphbdaaPut
import Derived.Test.YtphhoihhmphbdaaCnv
namespace Go.Proofs.Ytphhoihhmphbdaa
open Go.RowKit

theorem same_any (A B : Option Addr) (c d : Nat) (l m : List Int) (W : World) (K : Nat) (h1 : Rd W K 1 A l.length (bytesV l)) (h2 : Rd W K 1 B m.length (bytesV m)) :
    Calls Try.prog 21 #[.slice A l.length c, .slice B m.length d] W fun e w' => e = .returned (.bool ((strOfNums l).toList == (strOfNums m).toList)) ∧ W = w' := by
  have k1 := conv_bytes (c := c) h1
  have k2 := conv_bytes (c := d) h2
  clear h1 h2
  generalize strOfNums l = x at *
  generalize strOfNums m = y at *
  go_enter Try.func21, Try.ntmps21
  go_wp2
  go_ret
  exact ⟨rfl, rfl⟩
theorem same_refl (A B : Option Addr) (c d : Nat) (l : List Int) (W : World) (K : Nat) (h1 : Rd W K 1 A l.length (bytesV l)) (h2 : Rd W K 1 B l.length (bytesV l)) :
    Calls Try.prog 21 #[.slice A l.length c, .slice B l.length d] W fun e w' => e = .returned (.bool true) ∧ W = w' :=
  (same_any A B c d l l W K h1 h2).mono fun e w' ⟨he, hw⟩ => ⟨by rw [he]; simp, hw⟩

/-- a copy of bytes, with its marks in its spare room -/
def CopiedB (l : List Int) (W : World) (e : Ending) (w' : World) : Prop :=
  e = .returned (.slice (some ⟨W.heap.size, 0, none⟩) l.length (l.length + 2)) ∧ Blk w' W.heap.size 5 (bytesV l ++ [Value.int .u8 165, Value.int .u8 90]).toArray ∧ Below W.heap.size W w'

set_option maxRecDepth 100000 in
set_option maxHeartbeats 1000000 in
theorem copy_any (A : Option Addr) (c : Nat) (l : List Int) (W : World) (hr : Rd W W.heap.size 1 A l.length (bytesV l)) (hm : l.length ≤ 10000000) :
    Calls Try.prog 8 #[.slice A l.length c] W (CopiedB l W) := by
  obtain ⟨i0, hi0, hz0, hz1, hz2⟩ := info_parts u8_info
  have Hmk := hid (show ∀ w : World, (Instr.makeSlice 28 (.int .i64 0) (.int .i64 ((l.length : Int) + 2))).run Try.prog w = .ok (.slice (some ⟨w.heap.size, 0, none⟩) 0 (l.length + 2)) (w.alloc (.cells (List.replicate (l.length + 2) (Value.int .u8 0)).toArray 5)) from by
    intro w
    have h := run_make (P := Try.prog) w 28 5 i0 (.int .u8 0) Try.underlying28 hi0 hz0 .i64 .i64 0 ((l.length : Int) + 2) (Int.le_refl _) (by omega) (by rw [hz2]; omega) (by omega)
    rw [hz1, made_list _ _ rfl] at h
    exact h)
  have Hr := hid hr
  have Hnil := hid (fun h => rd_nil hr (by omega) h)
  have Hi0 := hid hi0
  have Hz1 := hid hz1
  clear hi0 hz0 hz1 hz2 hr
  go_enter Try.func8, Try.ntmps8
  have hmk := Hmk.out
  have H0 := hid (Blk.new W 5 (List.replicate (l.length + 2) (Value.int .u8 0)).toArray)
  go_wp2_with (first
    | (at_builtin; refine wpList_room _ rfl (.tmp 6) (.tmp 7) _ rfl 5 i0 Try.underlying28 Hi0.out Hz1.out W.heap.size 0 (l.length + 2) _ rfl H0.out (by simp) W.heap.size A l.length c (bytesV l) rfl (Hr.out.alloc (Nat.le_refl _) _) Hnil.out bytesV_cells (by omega) ?_; intro w1 h1; have H1 := hid h1; clear h1)
    | (at_builtin; refine wpList_room _ rfl (.tmp 8) (.tmp 9) _ rfl 5 i0 Try.underlying28 Hi0.out Hz1.out W.heap.size l.length (l.length + 2) _ rfl (Blk.alloc H1.out.1 _) (by simp [bytesV]) (w1.heap.size + 1) _ 2 2 [.int .u8 165, .int .u8 90] rfl (rd_two _ _ _ _) (by simp) (by simp [Value.oneCell']) (by omega) ?_; intro w2 h2; have H2 := hid h2; clear h2))
  go_ret
  obtain ⟨g1, g2⟩ := copied_blk (n := l.length) (k := 2) (bytesV_length l) rfl H1.out rfl H2.out
  exact ⟨rfl, g1, g2⟩

theorem copyB_rd {w : World} {g : Nat} {t : TypeId} {l : List Int} {r : List Value} (h : Blk w g t (bytesV l ++ r).toArray) : Rd w w.heap.size 1 (some ⟨g, 0, none⟩) l.length (bytesV l) :=
  ⟨by simp [bytesV], fun _ => ⟨g, 0, rfl, h.lt, fun j u hu => by
    rw [h.cell (0 + j), Nat.zero_add, List.getElem?_toArray, List.getElem?_append_left (by have := (List.getElem?_eq_some_iff.1 hu).1; exact this), hu]⟩⟩

set_option maxRecDepth 100000 in
set_option maxHeartbeats 1000000 in
theorem kept_any (A : Option Addr) (c g : Nat) (l : List Int) (W : World) (K : Nat) (hg : Blk W g 5 (bytesV l ++ [Value.int .u8 165, Value.int .u8 90]).toArray) (hr : Rd W K 1 A l.length (bytesV l)) (hm : l.length ≤ 10000000) :
    Calls Try.prog 11 #[.slice (some ⟨g, 0, none⟩) l.length (l.length + 2), .slice A l.length c] W fun e w' => e = .returned (.bool true) ∧ W = w' := by
  have c1 : W.cell? ⟨g, l.length, none⟩ = some (.int .u8 165) := by
    rw [hg.cell l.length]
    have : l.length = (bytesV l).length := by simp [bytesV]
    simp [this]
  have c2 : W.cell? ⟨g, l.length + 1, none⟩ = some (.int .u8 90) := by
    rw [hg.cell (l.length + 1)]
    have : l.length = (bytesV l).length := by simp [bytesV]
    simp [this]
  have k1 := conv_bytes (c := l.length + 2) (copyB_rd hg)
  have k2 := conv_bytes (c := c) hr
  clear hg hr
  generalize strOfNums l = x at *
  go_enter Try.func11, Try.ntmps11
  go_wp2
  go_ret
  exact ⟨rfl, rfl⟩

end Go.Proofs.Ytphhoihhmphbdaa
