/-
  Blocks, plainly: which tokens fit a text, how often symbols stand, the plan of kind 2, how many bits a block has.
-/
import Derived.Test.YthhllollhjpheaaInfM
import Derived.Test.YthhllollhjpheaaInfSym
import Derived.Test.YthhllollhjpheaaRunsB
import Derived.Test.YthhllollhjpheaaMgH
namespace Go.Proofs.Ythhllollhjpheaa

/-- how many bytes a token comes to -/
def tln (t : Int × Int) : Nat := (tn t).toNat
theorem tln_pos (t : Int × Int) : 1 ≤ tln t := by have := tn_pos (t := t); unfold tln; omega
theorem tln_eq (t : Int × Int) : ((tln t : Nat) : Int) = tn t := by have := tn_pos (t := t); unfold tln; omega
/-- a match says nothing of a byte at i, or what stands so far ahead -/
def farB (text : List Int) (d : Int) (i : Nat) : Bool := decide ((i : Int) < d) || text.getD i 0 == text.getD (i - d.toNat) 0
def fitT (text : List Int) (k : Nat) (t : Int × Int) : Bool :=
  tgood t && (decide (k + tln t ≤ text.length) && (if t.1 = 0 then text.getD k 0 == t.2 else (List.range (tln t)).all fun i => farB text t.2 (k + i)))
def fitM (text : List Int) : Nat → List (Int × Int) → Bool
  | k, [] => k == text.length
  | k, t :: l => fitT text k t && fitM text (k + tln t) l
/-- the symbols of a length, of a distance -/
def lsN (n : Int) : Nat := 257 + ((List.range 28).filter fun j => decide (lbase (257 + ((j + 1 : Nat) : Int)) ≤ n)).length
def dsN (n : Int) : Nat := ((List.range 29).filter fun j => decide (dbase ((j + 1 : Nat) : Int) ≤ n)).length
theorem filter_pre (p : Nat → Bool) (j : Nat) : ∀ n, j ≤ n → (∀ i, i < n → (p i = true ↔ i < j)) → ((List.range n).filter p).length = j
  | 0, h, _ => by simp; omega
  | n + 1, h, hp => by
    rw [List.range_succ, List.filter_append]
    by_cases hj : j = n + 1
    · have : p n = true := (hp n (by omega)).2 (by omega)
      have e := filter_pre p n n (Nat.le_refl _) fun i hi => by rw [hp i (by omega)]; omega
      rw [List.length_append, e, List.filter_cons_of_pos this]
      simp
      omega
    · have : ¬ p n = true := fun h => by have := (hp n (by omega)).1 h; omega
      have e := filter_pre p j n (by omega) fun i hi => hp i (by omega)
      rw [List.length_append, e, List.filter_cons_of_neg this]
      rfl
theorem lbase_mono : ∀ a : Fin 29, ∀ b : Fin 29, a.val ≤ b.val → lbase (257 + (a.val : Int)) ≤ lbase (257 + (b.val : Int)) := by decide +kernel
theorem dbase_mono : ∀ a : Fin 30, ∀ b : Fin 30, a.val ≤ b.val → dbase (a.val : Int) ≤ dbase (b.val : Int) := by decide +kernel
theorem lsN_of {n s : Int} (h : LSym n s) : ((lsN n : Nat) : Int) = s := by
  obtain ⟨h1, h2, h3, h4⟩ := h
  obtain ⟨j, rfl⟩ : ∃ j : Nat, s = 257 + (j : Int) := ⟨(s - 257).toNat, by omega⟩
  unfold lsN
  rw [filter_pre _ j 28 (by omega) fun i hi => ?_]
  · omega
  · rw [decide_eq_true_iff]
    constructor
    · intro h
      rcases Nat.lt_or_ge i j with h5 | h5
      · exact h5
      · exfalso
        rcases h4 with h4 | h4
        · omega
        · have := lbase_mono ⟨j + 1, by omega⟩ ⟨i + 1, by omega⟩ (by simp; omega)
          simp only at this
          rw [show (257 : Int) + (j : Int) + 1 = 257 + ((j + 1 : Nat) : Int) by omega] at h4
          omega
    · intro h
      have := lbase_mono ⟨i + 1, by omega⟩ ⟨j, by omega⟩ (by simp; omega)
      simp only at this
      omega
theorem dsN_of {n s : Int} (h : DSym n s) : ((dsN n : Nat) : Int) = s := by
  obtain ⟨h1, h2, h3, h4⟩ := h
  obtain ⟨j, rfl⟩ : ∃ j : Nat, s = (j : Int) := ⟨s.toNat, by omega⟩
  unfold dsN
  rw [filter_pre _ j 29 (by omega) fun i hi => ?_]
  rw [decide_eq_true_iff]
  constructor
  · intro h
    rcases Nat.lt_or_ge i j with h5 | h5
    · exact h5
    · exfalso
      rcases h4 with h4 | h4
      · omega
      · have := dbase_mono ⟨j + 1, by omega⟩ ⟨i + 1, by omega⟩ (by simp; omega)
        simp only at this
        rw [show (j : Int) + 1 = ((j + 1 : Nat) : Int) by omega] at h4
        omega
  · intro h
    have := dbase_mono ⟨i + 1, by omega⟩ ⟨j, by omega⟩ (by simp; omega)
    simp only at this
    omega
theorem lsN_bd (n : Int) : 257 ≤ lsN n ∧ lsN n ≤ 285 := by
  unfold lsN
  have := List.length_filter_le (fun j => decide (lbase (257 + ((j + 1 : Nat) : Int)) ≤ n)) (List.range 28)
  rw [List.length_range] at this
  omega
theorem dsN_bd (n : Int) : dsN n ≤ 29 := by
  unfold dsN
  have := List.length_filter_le (fun j => decide (dbase ((j + 1 : Nat) : Int) ≤ n)) (List.range 29)
  rw [List.length_range] at this
  omega
/-- how often symbols stand -/
def incL (c : List Int) (s : Nat) : List Int := c.set s (c.getD s 0 + 1)
theorem incL_len (c : List Int) (s : Nat) : (incL c s).length = c.length := by simp [incL]
def cntStep (c : List Int × List Int) (t : Int × Int) : List Int × List Int :=
  if t.1 = 0 then (incL c.1 t.2.toNat, c.2) else (incL c.1 (lsN t.1), incL c.2 (dsN t.2))
def cnt0 : List Int × List Int := ((List.replicate 286 0).set 256 1, List.replicate 30 0)
def cntM (l : List (Int × Int)) : List Int × List Int := l.foldl cntStep cnt0
theorem cnt_len (l : List (Int × Int)) : (cntM l).1.length = 286 ∧ (cntM l).2.length = 30 := by
  unfold cntM
  suffices h : ∀ (l : List (Int × Int)) (c : List Int × List Int), c.1.length = 286 → c.2.length = 30 → (l.foldl cntStep c).1.length = 286 ∧ (l.foldl cntStep c).2.length = 30 from h l cnt0 (by unfold cnt0; rw [List.length_set, List.length_replicate]) (by unfold cnt0; rw [List.length_replicate])
  intro l
  induction l with
  | nil => exact fun c h1 h2 => ⟨h1, h2⟩
  | cons t l ih =>
    intro c h1 h2
    refine ih _ ?_ ?_ <;> (unfold cntStep; split) <;> simp [incL_len, h1, h2]
/-- two symbols at least -/
def twoN (k : Nat) : List Int → List Int
  | [] => []
  | x :: l => if k = 0 then x :: l else if x = 0 then 1 :: twoN (k - 1) l else x :: twoN k l
def usedN (l : List Int) : Nat := (l.filter fun x => decide (0 < x)).length
def twoM (l : List Int) : List Int := twoN (2 - usedN l) l
theorem twoN_len : ∀ (l : List Int) (k : Nat), (twoN k l).length = l.length
  | [], _ => rfl
  | x :: l, k => by
    unfold twoN
    split
    · rfl
    · split
      · rw [List.length_cons, List.length_cons, twoN_len l (k - 1)]
      · rw [List.length_cons, List.length_cons, twoN_len l k]
theorem twoN_zero : ∀ (l : List Int), twoN 0 l = l
  | [] => rfl
  | x :: l => by unfold twoN; rw [if_pos rfl]
theorem twoM_len (l : List Int) : (twoM l).length = l.length := twoN_len _ _
/-- without the noughts at the end, so many at least -/
def trimN (least : Nat) (l : List Int) : Nat → Nat
  | 0 => 0
  | n + 1 => if least < n + 1 ∧ l.getD n 0 = 0 then trimN least l n else n + 1
def trimM (least : Nat) (l : List Int) : List Int := l.take (trimN least l l.length)
theorem trimN_le (least : Nat) (l : List Int) : ∀ n, trimN least l n ≤ n
  | 0 => Nat.le_refl _
  | n + 1 => by
    unfold trimN
    split
    · have := trimN_le least l n; omega
    · exact Nat.le_refl _
theorem trimN_ge (least : Nat) (l : List Int) : ∀ n, least ≤ n → least ≤ trimN least l n
  | 0, h => h
  | n + 1, h => by
    unfold trimN
    split
    next h1 => exact trimN_ge least l n (by omega)
    next => exact h
theorem trimN_zero (least : Nat) (l : List Int) : ∀ n i, trimN least l n ≤ i → i < n → l.getD i 0 = 0
  | 0, i, _, h => absurd h (Nat.not_lt_zero _)
  | n + 1, i, h1, h2 => by
    unfold trimN at h1
    split at h1
    next h3 =>
      rcases Nat.lt_or_ge i n with h4 | h4
      · exact trimN_zero least l n i h1 h4
      · rw [show i = n by omega]; exact h3.2
    next => omega
/-- the plan of kind 2 -/
structure PlanM where
  L : List Int
  D : List Int
  R : List (Int × Int)
  O : List Int
def litM (l : List (Int × Int)) : List Int := trimM 257 (bestLs (itemsOf (twoM (cntM l).1)) 14 286)
def dstM (l : List (Int × Int)) : List Int := trimM 1 (bestLs (itemsOf (cntM l).2) 14 30)
def runM2 (x : List Int) : List (Int × Int) := BlockRuns.runsOf x.length none x
def oneC (R : List (Int × Int)) : List Int := R.foldl (fun c r => incL c r.1.toNat) (List.replicate 19 0)
def oneM (R : List (Int × Int)) : List Int := bestLs (itemsOf (twoM (oneC R))) 6 19
def ownM (l : List (Int × Int)) : PlanM := ⟨litM l, dstM l, runM2 (litM l ++ dstM l), oneM (runM2 (litM l ++ dstM l))⟩
/-- how many lengths of lengths are written -/
def wrN (O : List Int) : Nat → Nat
  | 0 => 0
  | n + 1 => if 4 < n + 1 ∧ O.getD (ordT.getD n 0) 0 = 0 then wrN O n else n + 1
def runBits (O : List Int) (r : Int × Int) : Int := O.getD r.1.toNat 0 + rb r.1
def headM (p : PlanM) : Int := 14 + 3 * (wrN p.O 19 : Nat) + (p.R.map (runBits p.O)).sum
def tokBits (L D : List Int) (t : Int × Int) : Int :=
  if t.1 = 0 then L.getD t.2.toNat 0 else L.getD (lsN t.1) 0 + lextra (lsN t.1) + (D.getD (dsN t.2) 0 + dextra (dsN t.2))
def bodyM (L D : List Int) (l : List (Int × Int)) : Int := L.getD 256 0 + (l.map (tokBits L D)).sum
def usuD : List Int := List.replicate 30 5
/-- how many bits a block in form has -/
def bitsM (kind : Int) (l : List (Int × Int)) (text : List Int) : Int :=
  if kind = 0 then 42 + 8 * text.length else if kind = 1 then 3 + bodyM fixL usuD l else 3 + headM (ownM l) + bodyM (ownM l).L (ownM l).D l
def blkGood (kind : Int) (l : List (Int × Int)) (text : List Int) : Bool := decide (0 ≤ kind ∧ kind ≤ 2) && (fitM text 0 l && decide (kind = 0 → text.length ≤ 65535))
theorem fit_good {text : List Int} : ∀ {l : List (Int × Int)} {k : Nat}, fitM text k l = true → ∀ t ∈ l, tgood t = true
  | [], _, _ => fun t h => by cases h
  | t :: l, k, h => by
    unfold fitM at h
    rw [Bool.and_eq_true] at h
    intro x hx
    rcases List.mem_cons.1 hx with rfl | hx
    · unfold fitT at h
      rw [Bool.and_eq_true] at h
      exact h.1.1
    · exact fit_good h.2 x hx
theorem fit_le {text : List Int} : ∀ {l : List (Int × Int)} {k : Nat}, fitM text k l = true → k + l.length ≤ text.length
  | [], k, h => by
    unfold fitM at h
    have : k = text.length := by simpa using h
    simp [this]
  | t :: l, k, h => by
    unfold fitM at h
    rw [Bool.and_eq_true] at h
    have := fit_le h.2
    have := tln_pos t
    rw [List.length_cons]
    omega
end Go.Proofs.Ythhllollhjpheaa
