/-
  block.reach and block.Unruns.
-/
import Derived.Test.YthhllollhjpheaaRuns
import Derived.Test.YthhllollhjpheaaWindow
import Derived.Test.YthhllollhjpheaaBase
namespace Go.Proofs.Ythhllollhjpheaa
open Go.RowKit

def rl (s : Int) : Int := if s = 16 ∨ s = 17 then 3 else if s = 18 then 11 else 1
def rb (s : Int) : Int := if s = 16 then 2 else if s = 17 then 3 else if s = 18 then 7 else 0
theorem reach_any (s : Int) (W : World) : Calls Try.prog 58 #[.int .i64 s] W fun e w' => e = .returned (.tuple #[.int .i64 (rl s), .int .i64 (rb s)]) ∧ w' = W := by
  by_cases h1 : s = 16
  · subst h1
    go_enter Try.func58, Try.ntmps58
    go_wp2
    go_ret2
    exact ⟨rfl, rfl⟩
  · by_cases h2 : s = 17
    · subst h2
      clear h1
      go_enter Try.func58, Try.ntmps58
      go_wp2
      go_ret2
      exact ⟨rfl, rfl⟩
    · by_cases h3 : s = 18
      · subst h3
        clear h1 h2
        go_enter Try.func58, Try.ntmps58
        go_wp2
        go_ret2
        exact ⟨rfl, rfl⟩
      · have e1 : (s == 16) = false := beq_eq_false_iff_ne.2 h1
        have e2 : (s == 17) = false := beq_eq_false_iff_ne.2 h2
        have e3 : (s == 18) = false := beq_eq_false_iff_ne.2 h3
        have hl : rl s = 1 := by unfold rl; rw [if_neg (by omega), if_neg h3]
        have hb : rb s = 0 := by unfold rb; rw [if_neg h1, if_neg h2, if_neg h3]
        rw [hl, hb]
        clear hl hb h1 h2 h3
        go_enter Try.func58, Try.ntmps58
        go_wp2
        go_ret2
        exact ⟨rfl, rfl⟩

theorem rd_block {w : World} {g n size : Nat} {t : TypeId} {xs : List Value} (h : Blk w g t xs.toArray) (hl : xs.length = n * size) : Rd w w.heap.size size (some ⟨g, 0, none⟩) n xs :=
  ⟨hl, fun _ => ⟨g, 0, rfl, h.lt, fun j u hu => by rw [h.cell (0 + j)]; simpa using hu⟩⟩
theorem rdi_one (w : World) (v : Int) : RdI (w.alloc (.cells #[.int .i64 v] 3)) (w.heap.size + 1) (some ⟨w.heap.size, 0, none⟩) [v] := RdI.new (by simp)

end Go.Proofs.Ythhllollhjpheaa
