/-
  A pixel's numbers, in plain words.
-/
import Derived.Test.YtbpdkpphhjmalaaPixel
namespace Go.Proofs.Ytbpdkpphhjmalaa
open Go.RowKit

/-- the parts of a pixel that a color names -/
def wideOf (c : Int) (p : Px) : List Int :=
  if c = 0 then [p.1] else if c = 2 then [p.1, p.2.1, p.2.2.1] else if c = 4 then [p.1, p.2.2.2] else [p.1, p.2.1, p.2.2.1, p.2.2.2]
/-- a pixel's numbers in a good form -/
def numsOf (f : Fm) (p : Px) : Option (List Int) :=
  if f.c = 3 then (if f.pal.findIdx (· == p) < f.pal.length then some [((f.pal.findIdx (· == p) : Nat) : Int)] else none)
  else if (wideOf f.c p).all (fun x => narrowOk x f.d) = true then
    (if pixOf f ((wideOf f.c p).map (· / stp f.d)) = some p then some ((wideOf f.c p).map (· / stp f.d)) else none)
  else none
theorem nums_back {f : Fm} {p : Px} {l : List Int} (hn : numsOf f p = some l) : pixOf f l = some p := by
  unfold numsOf at hn
  split at hn
  · rename_i h3
    split at hn
    · rename_i hlt
      injection hn with hn
      subst hn
      unfold pixOf
      rw [if_neg (by rw [h3]; exact fun h => h rfl), if_pos h3, if_pos (by simp)]
      have hp : (f.pal[f.pal.findIdx (· == p)] == p) = true := List.findIdx_getElem (p := (· == p)) (w := hlt)
      simp only [List.getD_cons_zero, Int.toNat_natCast]
      rw [List.getElem?_eq_getElem hlt]
      exact congrArg some (eq_of_beq hp)
    · cases hn
  · split at hn
    · split at hn
      · rename_i hp
        injection hn with hn
        subst hn
        exact hp
      · cases hn
    · cases hn

end Go.Proofs.Ytbpdkpphhjmalaa
