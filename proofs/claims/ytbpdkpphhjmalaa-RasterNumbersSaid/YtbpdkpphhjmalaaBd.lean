/-
  Slices of bytes: what a walk reads of them; errors as values.
-/
import Derived.Test.YtbpdkpphhjmalaaRoom
import Derived.Test.YtbpdkpphhjmalaaErr
namespace Go.Proofs.Ytbpdkpphhjmalaa
open Go.RowKit

def isB (n : Int) : Prop := 0 ≤ n ∧ n ≤ 255
/-- the bytes, as cells -/
def bytesV (l : List Int) : List Value := l.map (Value.int .u8)
theorem bytesV_append (l m : List Int) : bytesV l ++ bytesV m = bytesV (l ++ m) := by simp [bytesV]
theorem bytesV_length (l : List Int) : (bytesV l).length = l.length := by simp [bytesV]

/-- what a byte of a slice of bytes reads as -/
theorem byte_at {w : World} {B : Nat} {A : Option Addr} {l : List Int} (h : Rd w B 1 A l.length (bytesV l)) {j : Nat} (hj : j < l.length) :
    ∃ b off, A = some ⟨b, off, none⟩ ∧ b < B ∧ w.cell? ⟨b, off + j, none⟩ = some (.int .u8 (l.getD j 0)) := by
  obtain ⟨b, off, hA, hb, hc⟩ := Rd.at_ h hj (by omega)
  exact ⟨b, off, hA, hb, hc j _ (by simp [bytesV, List.getD, List.getElem?_eq_getElem hj])⟩

/-- an error by its number -/
def errv (k : Int) : Value := if k = 0 then .nilIface else .iface 56 (.int .i64 k)
theorem num_errv (k : Int) (hk : 0 ≤ k) (w : World) : Calls Try.prog 73 #[errv k] w fun e w' => e = .returned (.int .i64 k) ∧ w = w' := by
  unfold errv
  split
  · rename_i h; subst h; exact num_nil w
  · exact num_no k (by omega) w

theorem rd_nil {w : World} {B size n : Nat} {A : Option Addr} {xs : List Value} (h : Rd w B size A n xs) (hs : 0 < size) (hA : A = none) : n = 0 := by
  rcases Nat.eq_zero_or_pos n with h0 | h0
  · exact h0
  · obtain ⟨b, off, hA', _⟩ := h.at_ (k := 0) h0 hs
    rw [hA] at hA'; cases hA'
theorem own_nil {w : World} {base : Nat} {e : TypeId} {size n c : Nat} {xs : List Value} (h : w.ownsRow base e size (.slice none n c) n xs) : c = 0 := by
  rcases h.2 with ⟨h1, _⟩ | ⟨g, cap, cur, h1, _⟩
  · injection h1
  · injection h1 with h1; cases h1
theorem bytesV_cells {l : List Int} : ∀ u ∈ bytesV l, u.oneCell' = true := by intro u hu; obtain ⟨x, _, rfl⟩ := List.mem_map.1 hu; rfl

end Go.Proofs.Ytbpdkpphhjmalaa
