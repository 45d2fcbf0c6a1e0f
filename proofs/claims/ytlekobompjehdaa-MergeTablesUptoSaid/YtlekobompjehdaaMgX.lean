/-
  merge.Table's results, loaded at once.
-/
import Derived.Test.YtlekobompjehdaaMgU
import Derived.Deep.MidRow
namespace Go.Proofs.Ytlekobompjehdaa
open Go.RowKit Mg

theorem codesL_arr (f : Nat → Nat) (A : Option Addr) (m c : Nat) : (codesL f A m c).toArray = codesC f A m c := rfl
theorem codes_size : (Try.prog.info? 43).map (·.size) = some 17 := by kernel_rfl
theorem codes_load {w : World} {g : Nat} {f : Nat → Nat} {A : Option Addr} {m c : Nat} (h : Blk w g 43 (codesC f A m c)) : (loadVar 43 ⟨g, 0, none⟩).run Try.prog w = .ok (.agg (codesC f A m c)) w := by
  rw [← codesL_arr]
  refine run_loadVar_mid w g 0 43 (codesL f A m c) _ (fun j v hv => ?_) Try.underlying43 rfl codes_size
  rw [Nat.zero_add, h.cell j, ← codesL_arr]
  simpa using hv
theorem table_out (ac : Act) (w : World) {g : Nat} {f : Nat → Nat} {A : Option Addr} {m c : Nat} (h : Blk w g 43 (codesC f A m c)) (h2 : ac.tmps[2]? = some (.pointer (some ⟨g, 0, none⟩))) (h3 : ac.tmps[3]? = some .nilIface) :
    (results Try.f25 ac.tmps).run Try.prog w = .ok (.tuple #[.agg (codesC f A m c), .nilIface]) w := by
  have hl := codes_load h
  simp [results, Try.results25, h2, h3, hl, asAddr]
end Go.Proofs.Ytlekobompjehdaa
