/-
  wish.MustNumber and burnishlaw02.must: the int, or the panic, which must's deferred closure recovers.
-/
import Derived.Test.YtnlhneoiofijeaaWish
import Derived.Defers
import Derived.Recover
import Derived.WalkLawsBesides
namespace Go.Proofs.Ytnlhneoiofijeaa
open Go.RowKit

theorem catch_panicking (p q : Addr) (hpq : p.block ≠ q.block) (x : Int) (y : Bool) (u : TypeId) (pv : Value) (older : List PanicEntry) (w : World) (hc : w.cell? p = some (.int .i64 x)) (hz : w.frozen? p = false) (hc2 : w.cell? q = some (.bool y)) (hz2 : w.frozen? q = false) :
    CallsD Try.prog 60 #[.pointer (some p), .pointer (some q)] (.panicking ({ v := .iface u pv, recovered := false } :: older)) w fun e u' w' =>
      e = .returned (.tuple #[]) ∧ u' = .panicking ({ v := .iface u pv, recovered := true } :: older) ∧ w' = (w.setCell p (.int .i64 0)).setCell q (.bool true) := by
  have hc3 : (w.setCell p (.int .i64 0)).cell? q = some (.bool y) := by rw [World.cell?_setCell_other]; exact hc2; exact fun h => hpq (by rw [h])
  refine callsD_of_wpS Try.func60 rfl fun c₀ cs hu => ?_
  apply wpS_seq
  apply wpS_region
  simp [wpOpsS, go_sem, recoverD, hu, Try.ntmps60, Exit.thenS]
  refine wpS_cond (t := true) (by simp [Act.eval, Array.replicate]) ?_
  simp only [if_true]
  apply wpS_region
  simp [wpOpsS, go_sem, hc, hz, hc3, hz2, bodyPostS, results, Try.results60]

theorem catch_idle (p q : Addr) (w : World) :
    CallsD Try.prog 60 #[.pointer (some p), .pointer (some q)] .returning w fun e u' w' => e = .returned (.tuple #[]) ∧ u' = .returning ∧ w' = w := by
  refine callsD_of_wpS Try.func60 rfl fun c₀ cs hu => ?_
  apply wpS_seq
  apply wpS_region
  simp [wpOpsS, go_sem, recoverD, hu, Try.ntmps60, Exit.thenS]
  refine wpS_cond (t := false) (by simp [Act.eval, Array.replicate]) ?_
  simp only [Bool.false_eq_true, if_false]
  refine wpS_of_wp (wp_skip ?_)
  cases c₀
  simp_all [bodyPostS, results, Try.results60]

theorem mustNumber_int (n : Int) (W : World) : Calls Try.prog 61 #[.iface 3 (.int .i64 n)] W fun e w' => e = .returned (.int .i64 n) ∧ w' = W := by
  have a1 : ∀ w : World, (Instr.typeAssert (.iface 3 (.int .i64 n)) 23 3 false).run Try.prog w = .ok (.int .i64 n) w := fun _ => by kernel_rfl
  go_enter Try.func61, Try.ntmps61
  go_wp2
  go_ret
  exact ⟨rfl, rfl⟩

noncomputable def failCells (T : TypeId) : Array Value := #[typeHandle Try.prog 23, typeHandle Try.prog T, typeHandle Try.prog 3, .string ByteArray.empty]
def Fails (T : TypeId) (u : Value) : Prop := ∃ (k : TypeId) (t : TypeId) (cs : Array Value), ∀ w : World, (Instr.typeAssert (.iface T u) 23 3 false).run Try.prog w = .halt (.panic (.iface k (.pointer (some ⟨w.heap.size, 0, none⟩)))) (w.alloc (.cells cs t))
theorem fails_string (s : ByteArray) : Fails 9 (.string s) := ⟨Try.prog.rt.typeAssertionError, 153, failCells 9, fun w => by kernel_rfl⟩
theorem fails_bool (b : Bool) : Fails 4 (.bool b) := ⟨Try.prog.rt.typeAssertionError, 153, failCells 4, fun w => by kernel_rfl⟩
theorem fails_int32 (n : Int) : Fails 21 (.int .i32 n) := ⟨Try.prog.rt.typeAssertionError, 153, failCells 21, fun w => by kernel_rfl⟩

theorem mustNumber_fails (T : TypeId) (u : Value) (h : Fails T u) (W : World) : Calls Try.prog 61 #[.iface T u] W fun e w' => ∃ (k : TypeId) (v : Value) (t : TypeId) (cs : Array Value), e = .panicked [{ v := .iface k v, recovered := false }] ∧ w' = W.alloc (.cells cs t) := by
  obtain ⟨k, t, cs, a1⟩ := h
  go_enter Try.func61, Try.ntmps61
  go_wp2
  exact ⟨rfl, k, _, t, cs, rfl, rfl⟩


theorem must_int (n : Int) (W : World) : Calls Try.prog 25 #[.iface 3 (.int .i64 n)] W fun e w' => e = .returned (.tuple #[.int .i64 n, .bool false]) ∧ Below W.heap.size W w' := by
  have hmf : ∀ (fn : Fn) (first cap : Array Value) (w : World), (Instr.makeFunc fn first cap).run Try.prog w = .ok (.func fn first cap) w := fun _ _ _ _ => rfl
  go_enter_defers Try.func25, Try.ntmps25
  go_wp2_with (go_at_call 61; refine (mustNumber_int _ _).mono ?_; rintro e w' ⟨rfl, rfl⟩)
  refine leaves_cons (f := 60) (args := #[.pointer (some ⟨W.heap.size, 0, none⟩), .pointer (some ⟨W.heap.size + 1, 0, none⟩)]) (by simp) (by simp [go_sem]) ?_
  refine (catch_idle ⟨W.heap.size, 0, none⟩ ⟨W.heap.size + 1, 0, none⟩ _).mono ?_
  rintro e u' w'' ⟨rfl, rfl, rfl⟩
  simp [Leaves, settle, results, Try.results25, go_sem]
  exact ((Below.refl _ _).alloc (Nat.le_refl _) _).alloc (by simp) _

theorem must_fell (T : TypeId) (u : Value) (h : Fails T u) (W : World) : Calls Try.prog 25 #[.iface T u] W fun e w' => e = .returned (.tuple #[.int .i64 0, .bool true]) ∧ Below W.heap.size W w' := by
  have hmf : ∀ (fn : Fn) (first cap : Array Value) (w : World), (Instr.makeFunc fn first cap).run Try.prog w = .ok (.func fn first cap) w := fun _ _ _ _ => rfl
  go_enter_defers Try.func25, Try.ntmps25
  go_wp2_with (go_at_call 61; refine (mustNumber_fails _ _ h _).mono ?_; rintro e w' ⟨k, v, t, cs, rfl, rfl⟩)
  refine leaves_cons (f := 60) (args := #[.pointer (some ⟨W.heap.size, 0, none⟩), .pointer (some ⟨W.heap.size + 1, 0, none⟩)]) (by simp) (by simp [go_sem]) ?_
  refine (catch_panicking ⟨W.heap.size, 0, none⟩ ⟨W.heap.size + 1, 0, none⟩ (by simp) 0 false k v [] _ ?_ ?_ ?_ ?_).mono ?_
  · simp [go_sem]
  · simp [go_sem]
  · simp [go_sem]
  · simp [go_sem]
  rintro e u' w'' ⟨rfl, rfl, rfl⟩
  simp [Leaves, settle, results, Try.results25, go_sem]
  exact (((Below.refl _ _).alloc (Nat.le_refl _) _).alloc (by simp) _).alloc (by simp; omega) _

end Go.Proofs.Ytnlhneoiofijeaa
