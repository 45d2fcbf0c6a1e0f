/-
  Unpacking, in plain Lean: what bits say, from a place, onto tokens.
-/
import Derived.Test.YthhllollhjpheaaCanF
import Derived.Test.YthhllollhjpheaaExpPlain
import Derived.Test.YthhllollhjpheaaInfSym
namespace Go.Proofs.Ythhllollhjpheaa

/-- a place in the bits, how many bytes so far, the tokens -/
structure Sk where
  k : Nat
  size : Int
  toks : List (Int × Int)
def tkM (L : List Int) (k n : Nat) : Option Int := if L.length < k + n then none else some (numL L k n)
def symM (l L : List Int) (k : Nat) : Except Int (Nat × Nat) :=
  if ordL l = [] then .error 2 else
  match Cd.rdC (slOf l) (btF L k) (L.length - k) 16 1 0 with
  | .sym s n => .ok (s, k + n)
  | .short => .error 8
  | .bad => .error 2
def putM (most : Int) (t : Int × Int) (s : Sk) : Except Int Sk :=
  if 0 < t.1 ∧ s.size < t.2 then .error 2 else if most < s.size + tn t then .error 4 else .ok ⟨s.k, s.size + tn t, s.toks ++ [t]⟩
def bytesM (L : List Int) : Nat → Sk → Except Int Sk
  | 0, s => .ok s
  | n + 1, s => match tkM L s.k 8 with
    | none => .error 8
    | some v => bytesM L n ⟨s.k + 8, s.size + 1, s.toks ++ [(0, v)]⟩
def storedM (L : List Int) (most : Int) (s : Sk) : Except Int Sk :=
  match tkM L ((s.k + 7) / 8 * 8) 16 with
  | none => .error 8
  | some a => match tkM L ((s.k + 7) / 8 * 8 + 16) 16 with
    | none => .error 8
    | some b => if a + b ≠ 65535 then .error 2 else if most < s.size + a then .error 4 else bytesM L a.toNat ⟨(s.k + 7) / 8 * 8 + 32, s.size, s.toks⟩
def matchM (d L : List Int) (most : Int) (y : Nat) (s : Sk) : Except Int Sk :=
  if 285 < y then .error 2 else
  match tkM L s.k (lextra y).toNat with
  | none => .error 8
  | some n => match symM d L (s.k + (lextra y).toNat) with
    | .error e => .error e
    | .ok (t, k2) => if 29 < t then .error 2 else
      match tkM L k2 (dextra t).toNat with
      | none => .error 8
      | some m => putM most (lbase y + n, dbase t + m) ⟨k2 + (dextra t).toNat, s.size, s.toks⟩
def symsM (l d L : List Int) (most : Int) : Nat → Sk → Except Int Sk
  | 0, _ => .error 8
  | f + 1, s => match symM l L s.k with
    | .error e => .error e
    | .ok (y, k1) => if y = 256 then .ok ⟨k1, s.size, s.toks⟩ else
      match (if y < 256 then putM most (0, (y : Int)) ⟨k1, s.size, s.toks⟩ else matchM d L most y ⟨k1, s.size, s.toks⟩) with
      | .error e => .error e
      | .ok s2 => symsM l d L most f s2
def symsAll (l d L : List Int) (most : Int) (s : Sk) : Except Int Sk := symsM l d L most (L.length + 1 - s.k) s
def ordT : List Nat := [16, 17, 18, 0, 8, 7, 9, 6, 10, 5, 11, 4, 12, 3, 13, 2, 14, 1, 15]
def smallM (L : List Int) : List Nat → Nat → List Int → Except Int (Nat × List Int)
  | [], k, sm => .ok (k, sm)
  | o :: os, k, sm => match tkM L k 3 with
    | none => .error 8
    | some v => smallM L os (k + 3) (sm.set o v)
def fullB (l : List Int) : Bool := lensB l && decide (kraft l = 65536)
def rowM (sm L : List Int) (size : Nat) : Nat → Nat → List Int → Except Int (Nat × List Int)
  | 0, k, out => .ok (k, out)
  | f + 1, k, out => if size ≤ out.length then .ok (k, out) else
    match symM sm L k with
    | .error e => .error e
    | .ok (y, k1) => if y = 16 ∧ out = [] then .error 2 else
      match tkM L k1 (if y = 16 then 2 else if y = 17 then 3 else if y = 18 then 7 else 0) with
      | none => .error 8
      | some v => if (size : Int) - out.length < v + (if y = 16 then 3 else if y = 17 then 3 else if y = 18 then 11 else 1) then .error 2 else
        rowM sm L size f (k1 + (if y = 16 then 2 else if y = 17 then 3 else if y = 18 then 7 else 0)) (out ++ List.replicate (v + (if y = 16 then 3 else if y = 17 then 3 else if y = 18 then 11 else 1)).toNat (if y = 16 then out.getD (out.length - 1) 0 else if y = 17 then 0 else if y = 18 then 0 else (y : Int)))
/-- the two books' lengths -/
def dynM (L : List Int) (k : Nat) : Except Int (Nat × List Int × List Int) :=
  match tkM L k 5 with
  | none => .error 8
  | some a => if 286 < 257 + a then .error 2 else
    match tkM L (k + 5) 5 with
    | none => .error 8
    | some b => if 30 < 1 + b then .error 2 else
      match tkM L (k + 10) 4 with
      | none => .error 8
      | some c => match smallM L (ordT.take (c.toNat + 4)) (k + 14) (List.replicate 19 0) with
        | .error e => .error e
        | .ok (k2, sm) => if fullB sm = false then .error 2 else
          match rowM sm L (258 + a.toNat + b.toNat) (258 + a.toNat + b.toNat) k2 [] with
          | .error e => .error e
          | .ok (k3, row) => if fullB (row.take (257 + a.toNat)) = false ∨ row.getD 256 0 = 0 ∨ (fullB (row.drop (257 + a.toNat)) = false ∧ 1 < (row.drop (257 + a.toNat)).sum) then .error 2
            else .ok (k3, row.take (257 + a.toNat), row.drop (257 + a.toNat))
def fixL : List Int := List.replicate 144 8 ++ (List.replicate 112 9 ++ (List.replicate 24 7 ++ List.replicate 8 8))
def fixD : List Int := List.replicate 32 5
/-- a block; was it the last one? -/
def blockM (L : List Int) (most : Int) (s : Sk) : Except Int (Bool × Sk) :=
  match tkM L s.k 1 with
  | none => .error 8
  | some last => match tkM L (s.k + 1) 2 with
    | none => .error 8
    | some kind =>
      match (if kind = 0 then storedM L most ⟨s.k + 3, s.size, s.toks⟩
        else if kind = 1 then symsAll fixL fixD L most ⟨s.k + 3, s.size, s.toks⟩
        else if kind = 2 then (match dynM L (s.k + 3) with
          | .error e => .error e
          | .ok (k2, l, d) => symsAll l d L most ⟨k2, s.size, s.toks⟩)
        else .error 2) with
      | .error e => .error e
      | .ok s2 => .ok (decide (last = 1), s2)
def runM (L : List Int) (most : Int) : Nat → Sk → Except Int Sk
  | 0, _ => .error 8
  | f + 1, s => match blockM L most s with
    | .error e => .error e
    | .ok (true, s2) => .ok s2
    | .ok (false, s2) => runM L most f s2
def infM (L : List Int) (most : Int) : Except Int Sk := if most < 0 ∨ 4194304 < most then .error 7 else runM L most (L.length + 1) ⟨0, 0, []⟩

theorem tkM_some {L : List Int} {k n : Nat} (h : k + n ≤ L.length) : tkM L k n = some (numL L k n) := if_neg (by omega)
theorem tkM_none {L : List Int} {k n : Nat} (h : L.length < k + n) : tkM L k n = none := if_pos h
end Go.Proofs.Ythhllollhjpheaa
