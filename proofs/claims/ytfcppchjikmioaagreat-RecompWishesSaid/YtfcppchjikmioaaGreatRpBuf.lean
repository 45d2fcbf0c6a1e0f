/-
  A buffer of bytes that is filled from its front.
-/
import Derived.Test.YtfcppchjikmioaaGreatRpG
import Derived.Laws.CopyOwn
import Derived.Laws.MakeOwn
import Derived.Laws.IdiomStrings
namespace Go.Proofs.YtfcppchjikmioaaGreat
open Go.RowKit

def u8V (l : List UInt8) : List Value := l.map fun c => Value.int .u8 (c.toNat : Int)
def bufL (n : Nat) (l : List UInt8) : List Value := u8V l ++ List.replicate (n - l.length) (.int .u8 0)
def bufV (n : Nat) (l : List UInt8) : Array Value := (bufL n l).toArray
theorem u8V_len (l : List UInt8) : (u8V l).length = l.length := by simp [u8V]
theorem u8V_app (a b : List UInt8) : u8V (a ++ b) = u8V a ++ u8V b := by simp [u8V]
theorem byte_info : (Tryz.prog.info? 5).map (fun i => (i.zero, i.size, i.bytes)) = some (some (.int .u8 0), 1, 1) := by kernel_rfl
theorem make_bytes (n : Nat) (hn : n ≤ 100000000) : ∀ w : World, (Instr.makeSlice 75 (.int .i64 (n : Int)) (.int .i64 (n : Int))).run Tryz.prog w = .ok (.slice (some ⟨w.heap.size, 0, none⟩) n n) (w.alloc (.cells (bufV n []) 5)) := by
  intro w
  obtain ⟨i0, hi0, hz0, hz1, hz2⟩ := info_parts byte_info
  have h := run_make (P := Tryz.prog) w 75 5 i0 (.int .u8 0) Tryz.underlying75 hi0 hz0 .i64 .i64 (n : Int) (n : Int) (by omega) (by omega) (by rw [hz2]; omega) (by omega)
  rw [hz1, made_list _ _ rfl] at h
  exact h
set_option maxRecDepth 100000 in
theorem slice_l8 (b N k : Nat) (h : k < N) (w : World) : (Instr.slice 75 (.slice (some ⟨b, 0, none⟩) N N) (some (.int .i64 (k : Int))) none none).run Tryz.prog w = .ok (.slice (some ⟨b, k, none⟩) (N - k) (N - k)) w := by
  have base : (Instr.slice 75 (.slice (some ⟨b, 0, none⟩) N N) (some (.int .i64 (k : Int))) none none).run Tryz.prog w = .ok (sliced (some ⟨b, 0, none⟩) k N N 1) w := by
    rw [run_slice_l (P := Tryz.prog) (w := w) 75 (some ⟨b, 0, none⟩) N N Tryz.underlying75 .i64 (k : Int) (by omega) (by omega)]
    rfl
  rw [base]
  unfold sliced
  rw [if_neg (by omega)]
  simp [Addr.add]
  exact fun h => h.symm
theorem bufL_set {N : Nat} {l : List UInt8} (h : l.length < N) (c : UInt8) : (bufL N l).set l.length (.int .u8 (c.toNat : Int)) = bufL N (l ++ [c]) := by
  unfold bufL
  rw [List.set_append_right _ _ (by rw [u8V_len]; exact Nat.le_refl _), u8V_len, Nat.sub_self, u8V_app, List.append_assoc]
  congr 1
  obtain ⟨m, hm⟩ : ∃ m, N - l.length = m + 1 := ⟨N - l.length - 1, by omega⟩
  rw [hm, List.length_append, show N - (l.length + [c].length) = m from by simp; omega, List.replicate_succ]
  rfl
theorem buf_set {w : World} {g N k : Nat} {l : List UInt8} (h : Blk w g 5 (bufV N l)) (hk : l.length = k) (hN : k < N) (c : UInt8) : Blk (w.setCell ⟨g, k, none⟩ (.int .u8 (c.toNat : Int))) g 5 (bufV N (l ++ [c])) := by
  subst hk
  have h2 := h.set_ l.length (.int .u8 (c.toNat : Int))
  unfold bufV at h2 ⊢
  rw [List.setIfInBounds_toArray, bufL_set hN] at h2
  exact h2
theorem bufL_splice {N : Nat} {l : List UInt8} (x y : UInt8) : splice (bufL N l) l.length (u8V [x, y]) = bufL N (l ++ [x, y]) := by
  unfold splice bufL
  rw [List.take_left' (u8V_len l), u8V_app, List.append_assoc, List.drop_append, List.drop_eq_nil_of_le (by rw [u8V_len]; omega), List.nil_append, u8V_len, u8V_len, List.drop_replicate, List.length_append]
  congr 3
  simp
  omega
set_option maxRecDepth 100000 in
theorem buf_copy {w W0 : World} {g gx N cx k B : Nat} {l : List UInt8} (x y : UInt8) (h : Blk w g 5 (bufV N l)) (hk : l.length = k) (h2 : k + 2 ≤ N) (h0 : w.cell? ⟨gx, 0, none⟩ = some (.int .u8 (x.toNat : Int))) (h1 : w.cell? ⟨gx, 1, none⟩ = some (.int .u8 (y.toNat : Int)))
    (hb : Below B W0 w) (hB : B ≤ g) : ∃ w', (Builtin.copy_ #[75, 75] 3 #[.slice (some ⟨g, k, none⟩) (N - k) (N - k), .slice (some ⟨gx, 0, none⟩) 2 cx]).run Tryz.prog w = .ok (.int .i64 2) w' ∧ Blk w' g 5 (bufV N (l ++ [x, y])) ∧ Below B W0 w' := by
  subst hk
  have hs : (Tryz.prog.info? 5).map (·.size) = some 1 := by
    obtain ⟨i0, hi0, hz0, hz1, hz2⟩ := info_parts byte_info
    rw [hi0]; simp [hz1]
  have hrun := run_copy_row (P := Tryz.prog) w 75 75 3 5 g l.length (N - l.length) (N - l.length) ⟨gx, 0, none⟩ 2 cx _ 5 (u8V [x, y]) Tryz.underlying75 hs h (by show 2 = min 2 (N - l.length); omega) (fun j v hj => by
    match j, hj with
    | 0, hj => injection hj with hj; subst hj; exact h0
    | 1, hj => injection hj with hj; subst hj; exact h1) (by simp [u8V, bufV, bufL]; omega) (by intro u hu; simp [u8V] at hu; rcases hu with rfl | rfl <;> rfl)
  refine ⟨_, hrun, ?_, below_setRow hb hB _⟩
  refine (setRow_heap _ g _ _ 5 (0, 0) h).trans ?_
  have e := bufL_splice (N := N) (l := l) x y
  unfold splice at e
  exact congrArg (fun l => some (Obj.cells (List.toArray l) 5 (0, 0))) ((List.append_assoc _ _ _).trans e)
theorem buf_string {w : World} {g N : Nat} {l : List UInt8} (h : Blk w g 5 (bufV N l)) (hl : l.length = N) : (Go.convert 75 9 (.slice (some ⟨g, 0, none⟩) N N)).run Tryz.prog w = .ok (.string ⟨l.toArray⟩) w := by
  subst hl
  refine run_convert_bytes_back _ 75 9 5 ⟨g, 0, none⟩ l.length l Tryz.underlying75 Tryz.underlying5 Tryz.underlying9 (fun j hj => ?_)
  rw [show (⟨g, 0, none⟩ : Addr).add j = ⟨g, 0 + j, none⟩ from by unfold Addr.add; split <;> simp_all, Nat.zero_add, h.cell j]
  unfold bufV bufL
  rw [List.getElem?_toArray, List.getElem?_append_left (by rw [u8V_len]; exact hj)]
  unfold u8V
  rw [List.getElem?_map, List.getElem?_eq_getElem hj]
  rfl
end Go.Proofs.YtfcppchjikmioaaGreat
