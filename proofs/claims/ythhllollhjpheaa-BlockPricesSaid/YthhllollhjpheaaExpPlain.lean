/-
  Slices of bytes as strings.
  Slices of bytes as strings; burnishnum.Same, Copy and Kept.
  What tokens come to, in plain Lean: the errors in their order, the bytes.
-/
import Derived.Test.YthhllollhjpheaaBase
import Derived.Test.YthhllollhjpheaaPut
import Derived.Laws.BytesArg
namespace Go.Proofs.Ythhllollhjpheaa
open Go.RowKit

theorem conv_bytes {w : World} {B : Nat} {A : Option Addr} {l : List Int} {c : Nat} (h : Rd w B 1 A l.length (bytesV l)) :
    (Go.convert 22 9 (.slice A l.length c)).run Try.prog w = .ok (.string (strOfNums l)) w := by
  by_cases hl : l = []
  · subst hl
    cases A with
    | none => exact run_convert_bytes_nil w _ _ Try.underlying22 Try.underlying5 0 c _ Try.underlying9
    | some a =>
      rw [run_convert_bytes_string w _ _ _ _ _ _ Try.underlying22 Try.underlying5 Try.underlying9]
      rfl
  · have hpos : 0 < l.length := List.length_pos_iff.2 hl
    obtain ⟨b, off, rfl, _, hc⟩ := Rd.at_ h hpos (by omega)
    exact run_convert_bytes_arg w _ _ Try.underlying22 Try.underlying5 b off _ c l rfl (fun i hi => hc i _ (by simp [bytesV, List.getD, List.getElem?_eq_getElem hi])) _ Try.underlying9
end Go.Proofs.Ythhllollhjpheaa

namespace Go.Proofs.Ythhllollhjpheaa
open Go.RowKit

theorem same_any (A B : Option Addr) (c d : Nat) (l m : List Int) (W : World) (K : Nat) (h1 : Rd W K 1 A l.length (bytesV l)) (h2 : Rd W K 1 B m.length (bytesV m)) :
    Calls Try.prog 16 #[.slice A l.length c, .slice B m.length d] W fun e w' => e = .returned (.bool ((strOfNums l).toList == (strOfNums m).toList)) ∧ W = w' := by
  have k1 := conv_bytes (c := c) h1
  have k2 := conv_bytes (c := d) h2
  clear h1 h2
  generalize strOfNums l = x at *
  generalize strOfNums m = y at *
  go_enter Try.func16, Try.ntmps16
  go_wp2
  go_ret
  exact ⟨rfl, rfl⟩
theorem same_refl (A B : Option Addr) (c d : Nat) (l : List Int) (W : World) (K : Nat) (h1 : Rd W K 1 A l.length (bytesV l)) (h2 : Rd W K 1 B l.length (bytesV l)) :
    Calls Try.prog 16 #[.slice A l.length c, .slice B l.length d] W fun e w' => e = .returned (.bool true) ∧ W = w' :=
  (same_any A B c d l l W K h1 h2).mono fun e w' ⟨he, hw⟩ => ⟨by rw [he]; simp, hw⟩

/-- a copy of bytes, with its marks in its spare room -/
def CopiedB (l : List Int) (W : World) (e : Ending) (w' : World) : Prop :=
  e = .returned (.slice (some ⟨W.heap.size, 0, none⟩) l.length (l.length + 2)) ∧ Blk w' W.heap.size 5 (bytesV l ++ [Value.int .u8 165, Value.int .u8 90]).toArray ∧ Below W.heap.size W w'

theorem copyB_rd {w : World} {g : Nat} {t : TypeId} {l : List Int} {r : List Value} (h : Blk w g t (bytesV l ++ r).toArray) : Rd w w.heap.size 1 (some ⟨g, 0, none⟩) l.length (bytesV l) :=
  ⟨by simp [bytesV], fun _ => ⟨g, 0, rfl, h.lt, fun j u hu => by
    rw [h.cell (0 + j), Nat.zero_add, List.getElem?_toArray, List.getElem?_append_left (by have := (List.getElem?_eq_some_iff.1 hu).1; exact this), hu]⟩⟩

end Go.Proofs.Ythhllollhjpheaa

namespace Go.Proofs.Ythhllollhjpheaa
open Go.RowKit

/-- is a token in form? -/
def tgood (t : Int × Int) : Bool := decide ((t.1 = 0 ∧ 0 ≤ t.2 ∧ t.2 ≤ 255) ∨ (3 ≤ t.1 ∧ t.1 ≤ 258 ∧ 1 ≤ t.2 ∧ t.2 ≤ 32768))
theorem tgood_true {t : Int × Int} : tgood t = true ↔ (t.1 = 0 ∧ 0 ≤ t.2 ∧ t.2 ≤ 255) ∨ (3 ≤ t.1 ∧ t.1 ≤ 258 ∧ 1 ≤ t.2 ∧ t.2 ≤ 32768) := by unfold tgood; simp
/-- how many bytes it stands for -/
def tn (t : Int × Int) : Int := if 0 < t.1 then t.1 else 1
/-- what goes wrong at a token, behind so many bytes -/
def terr (most s : Int) (t : Int × Int) : Int := if tgood t = false then 6 else if 0 < t.1 ∧ s < t.2 then 2 else if most < s + tn t then 4 else 0
/-- what goes wrong first -/
def scan (most : Int) : List (Int × Int) → Int → Int
  | [], _ => 0
  | t :: r, s => if terr most s t = 0 then scan most r (s + tn t) else terr most s t
/-- one byte more of a token -/
def stepB (t : Int × Int) (out : List Int) : List Int := out ++ [if 0 < t.1 then out.getD (out.length - t.2.toNat) 0 else t.2]
def iterB (t : Int × Int) : Nat → List Int → List Int
  | 0, out => out
  | k + 1, out => stepB t (iterB t k out)
def layTok (out : List Int) (t : Int × Int) : List Int := iterB t (tn t).toNat out
def expRes (most : Int) (l : List (Int × Int)) : Int := if most < 0 ∨ 4194304 < most then 7 else scan most l 0
def expOut (most : Int) (l : List (Int × Int)) : List Int := if expRes most l = 0 then l.foldl layTok [] else []

theorem iterB_length (t : Int × Int) (out : List Int) : ∀ k, (iterB t k out).length = out.length + k
  | 0 => rfl
  | k + 1 => by simp [iterB, stepB, iterB_length t out k]; omega
theorem getD_isB {out : List Int} (h : ∀ x ∈ out, isB x) (i : Nat) : isB (out.getD i 0) := by
  rw [List.getD_eq_getElem?_getD]
  cases hi : out[i]? with
  | none => simp [isB]
  | some x => simp; exact h x (List.mem_of_getElem? hi)
theorem stepB_isB {t : Int × Int} (ht : tgood t = true) {out : List Int} (h : ∀ x ∈ out, isB x) : ∀ x ∈ stepB t out, isB x := by
  intro x hx
  simp only [stepB, List.mem_append, List.mem_singleton] at hx
  rcases hx with hx | rfl
  · exact h x hx
  · split
    · exact getD_isB h _
    · have := tgood_true.1 ht; unfold isB; omega
theorem iterB_isB {t : Int × Int} (ht : tgood t = true) {out : List Int} (h : ∀ x ∈ out, isB x) : ∀ k, ∀ x ∈ iterB t k out, isB x
  | 0 => h
  | k + 1 => stepB_isB ht (iterB_isB ht h k)
theorem drop_cons {α : Type} (l : List α) (j : Nat) (hj : j < l.length) : l.drop j = l[j] :: l.drop (j + 1) := List.drop_eq_getElem_cons hj
theorem tn_pos {t : Int × Int} : 1 ≤ tn t := by unfold tn; split <;> omega

/-- what the two expanders end in: the bytes and what went wrong, as a value -/
def ExpEnd (ev : Int → Value) (most : Int) (l : List (Int × Int)) (et : TypeId) (W : World) (e : Ending) (w' : World) : Prop :=
  ∃ A c, e = .returned (.tuple #[.slice A (expOut most l).length c, ev (expRes most l)]) ∧ w'.ownsRow W.heap.size et 1 (.slice A (expOut most l).length c) (expOut most l).length (bytesV (expOut most l)) ∧ Below W.heap.size W w'

theorem expEnd_err {ev : Int → Value} {most : Int} {l : List (Int × Int)} {et : TypeId} {W w' : World} {k : Int} (hk : expRes most l = k) (hne : k ≠ 0) (hb : Below W.heap.size W w') : ExpEnd ev most l et W (.returned (.tuple #[.slice none 0 0, ev k])) w' := by
  have h0 : expOut most l = [] := by unfold expOut; rw [if_neg (by rw [hk]; exact hne)]
  refine ⟨none, 0, ?_, ?_, hb⟩
  · rw [h0, hk]; rfl
  · rw [h0]; exact World.ownsRow_nil _ _ _ _

end Go.Proofs.Ythhllollhjpheaa
