/-
  Unpacking, in plain Lean: blocks of kind 0.
-/
import Derived.Test.YtegmbjkpjglgpaaInfSc
namespace Go.Proofs.Ytegmbjkpjglgpaa

theorem num_add (L : List Int) (k a : Nat) : ∀ b, numL L k (a + b) = numL L k a + 2 ^ a * numL L (k + a) b
  | 0 => by show numL L k a = _ + 2 ^ a * 0; omega
  | b + 1 => by
    show numL L k (a + b) + L.getD (k + (a + b)) 0 * 2 ^ (a + b) = _ + 2 ^ a * (numL L (k + a) b + L.getD (k + a + b) 0 * 2 ^ b)
    rw [num_add L k a b, Int.mul_add, Int.pow_add, Nat.add_assoc k a b, Int.add_assoc]
    congr 2
    ac_rfl
theorem bit_in (bl : List Int) (p i : Nat) (hp : p < bl.length) (hi : i < 8) : (bitsL bl).getD (8 * p + i) 0 = bl.getD p 0 / 2 ^ i % 2 := by
  rw [bitsL_at _ _ (by omega)]
  unfold bitA
  rw [show (8 * p + i) / 8 = p by omega, show (8 * p + i) % 8 = i by omega]
theorem num_byte (bl : List Int) (p : Nat) (hp : p < bl.length) (hx : isB (bl.getD p 0)) : numL (bitsL bl) (8 * p) 8 = bl.getD p 0 := by
  simp only [numL]
  rw [bit_in bl p 0 hp (by decide), bit_in bl p 1 hp (by decide), bit_in bl p 2 hp (by decide), bit_in bl p 3 hp (by decide), bit_in bl p 4 hp (by decide), bit_in bl p 5 hp (by decide), bit_in bl p 6 hp (by decide), bit_in bl p 7 hp (by decide)]
  generalize bl.getD p 0 = x at *
  simp only [Int.reducePow]
  unfold isB at hx
  omega
theorem getD_mid (pre : List Int) (x : Int) (suf : List Int) : (pre ++ x :: suf).getD pre.length 0 = x := by
  rw [List.getD_eq_getElem?_getD, List.getElem?_append_right (Nat.le_refl _), Nat.sub_self]
  rfl
theorem tk_byte (pre : List Int) (x : Int) (suf : List Int) (hx : isB x) : tkM (bitsL (pre ++ x :: suf)) (8 * pre.length) 8 = some x := by
  rw [tkM_some (by rw [bitsL_length, List.length_append, List.length_cons]; omega), num_byte _ _ (by rw [List.length_append, List.length_cons]; omega) (by rw [getD_mid]; exact hx), getD_mid]
theorem tk_two (pre : List Int) (x y : Int) (suf : List Int) (hx : isB x) (hy : isB y) : tkM (bitsL (pre ++ x :: y :: suf)) (8 * pre.length) 16 = some (x + 256 * y) := by
  have h1 := tk_byte pre x (y :: suf) hx
  have h2 := tk_byte (pre ++ [x]) y suf hy
  rw [List.append_assoc, List.singleton_append, List.length_append, List.length_singleton] at h2
  have hl : 8 * pre.length + 16 ≤ (bitsL (pre ++ x :: y :: suf)).length := by rw [bitsL_length, List.length_append, List.length_cons, List.length_cons]; omega
  rw [tkM_some (by omega)] at h1
  rw [tkM_some (by omega)] at h2
  injection h1 with h1
  injection h2 with h2
  rw [tkM_some hl, show (16 : Nat) = 8 + 8 from rfl, num_add, h1, show 8 * pre.length + 8 = 8 * (pre.length + 1) by omega, h2]
  rfl
/-- tokens of bytes -/
def litT (l : List Int) : List (Int × Int) := l.map (fun x => (0, x))
theorem bytesM_all : ∀ (piece pre suf : List Int) (size : Int) (toks : List (Int × Int)), (∀ x ∈ piece, isB x) → bytesM (bitsL (pre ++ piece ++ suf)) piece.length ⟨8 * pre.length, size, toks⟩ = .ok ⟨8 * (pre.length + piece.length), size + piece.length, toks ++ litT piece⟩
  | [], pre, suf, size, toks, _ => by simp [bytesM, litT]
  | x :: piece, pre, suf, size, toks, h => by
    have h1 := tk_byte pre x (piece ++ suf) (h x (by simp))
    have e : pre ++ (x :: piece) ++ suf = pre ++ x :: (piece ++ suf) := by simp
    rw [List.length_cons, bytesM]
    dsimp only
    rw [e, h1]
    dsimp only
    have ih := bytesM_all piece (pre ++ [x]) suf (size + 1) (toks ++ [(0, x)]) (fun y hy => h y (by simp [hy]))
    have e2 : pre ++ [x] ++ piece ++ suf = pre ++ x :: (piece ++ suf) := by simp
    rw [e2, List.length_append, List.length_singleton] at ih
    rw [show 8 * pre.length + 8 = 8 * (pre.length + 1) by omega, ih]
    congr 1
    unfold litT
    simp
    omega
def blkB (last : Int) (piece : List Int) : List Int := [last, (piece.length : Int) % 256, (piece.length : Int) / 256, 255 - (piece.length : Int) % 256, 255 - (piece.length : Int) / 256] ++ piece
theorem stored_step (pre piece suf : List Int) (last : Int) (hl : last = 0 ∨ last = 1) (hp : ∀ x ∈ piece, isB x) (hn : piece.length < 65536) (most size : Int) (toks : List (Int × Int)) :
    blockM (bitsL (pre ++ blkB last piece ++ suf)) most ⟨8 * pre.length, size, toks⟩ = if most < size + piece.length then .error 4 else .ok (decide (last = 1), ⟨8 * (pre.length + 5 + piece.length), size + piece.length, toks ++ litT piece⟩) := by
  obtain ⟨n, hnn⟩ : ∃ n : Int, n = (piece.length : Int) := ⟨_, rfl⟩
  have hB : blkB last piece = last :: n % 256 :: n / 256 :: (255 - n % 256) :: (255 - n / 256) :: piece := by unfold blkB; rw [hnn]; rfl
  have hLen : (pre ++ blkB last piece ++ suf).length = pre.length + 5 + piece.length + suf.length := by simp [blkB]; omega
  have hlast : (pre ++ blkB last piece ++ suf).getD pre.length 0 = last := by rw [hB, List.append_assoc]; exact getD_mid pre last _
  have t1 : tkM (bitsL (pre ++ blkB last piece ++ suf)) (8 * pre.length) 1 = some last := by
    rw [tkM_some (by rw [bitsL_length, hLen]; omega), numL_one, show 8 * pre.length = 8 * pre.length + 0 from rfl, bit_in _ _ 0 (by rw [hLen]; omega) (by decide), hlast]
    rcases hl with e | e <;> rw [e] <;> rfl
  have t2 : tkM (bitsL (pre ++ blkB last piece ++ suf)) (8 * pre.length + 1) 2 = some 0 := by
    rw [tkM_some (by rw [bitsL_length, hLen]; omega)]
    simp only [numL]
    rw [show 8 * pre.length + 1 + 0 = 8 * pre.length + 1 from rfl, bit_in _ _ 1 (by rw [hLen]; omega) (by decide), bit_in _ _ 2 (by rw [hLen]; omega) (by decide), hlast]
    rcases hl with e | e <;> rw [e] <;> rfl
  have t3 : tkM (bitsL (pre ++ blkB last piece ++ suf)) (8 * (pre.length + 1)) 16 = some n := by
    have := tk_two (pre ++ [last]) (n % 256) (n / 256) ((255 - n % 256) :: (255 - n / 256) :: (piece ++ suf)) (by unfold isB; omega) (by unfold isB; omega)
    have e : pre ++ [last] ++ n % 256 :: n / 256 :: (255 - n % 256) :: (255 - n / 256) :: (piece ++ suf) = pre ++ blkB last piece ++ suf := by rw [hB]; simp
    rw [e, List.length_append, List.length_singleton] at this
    rw [this]
    congr 1
    omega
  have t4 : tkM (bitsL (pre ++ blkB last piece ++ suf)) (8 * (pre.length + 1) + 16) 16 = some (65535 - n) := by
    have := tk_two (pre ++ [last, n % 256, n / 256]) (255 - n % 256) (255 - n / 256) (piece ++ suf) (by unfold isB; omega) (by unfold isB; omega)
    have e : pre ++ [last, n % 256, n / 256] ++ (255 - n % 256) :: (255 - n / 256) :: (piece ++ suf) = pre ++ blkB last piece ++ suf := by rw [hB]; simp
    rw [e, List.length_append] at this
    rw [show 8 * (pre.length + 1) + 16 = 8 * (pre.length + 3) by omega]
    refine this.trans ?_
    congr 1
    omega
  have ek : (8 * pre.length + 3 + 7) / 8 * 8 = 8 * (pre.length + 1) := by omega
  have hst : storedM (bitsL (pre ++ blkB last piece ++ suf)) most ⟨8 * pre.length + 3, size, toks⟩ = if most < size + piece.length then .error 4 else .ok ⟨8 * (pre.length + 5 + piece.length), size + piece.length, toks ++ litT piece⟩ := by
    unfold storedM
    dsimp only
    rw [ek, t3]
    dsimp only
    rw [t4]
    dsimp only
    rw [if_neg (by omega), ← hnn]
    by_cases hm : most < size + n
    · rw [if_pos hm, if_pos hm]
    · rw [if_neg hm, if_neg hm]
      have := bytesM_all piece (pre ++ [last, n % 256, n / 256, 255 - n % 256, 255 - n / 256]) suf size toks hp
      have e : pre ++ [last, n % 256, n / 256, 255 - n % 256, 255 - n / 256] ++ piece ++ suf = pre ++ blkB last piece ++ suf := by rw [hB]; simp
      rw [e, List.length_append] at this
      have e2 : n.toNat = piece.length := by omega
      rw [e2, show 8 * (pre.length + 1) + 32 = 8 * (pre.length + 5) by omega, hnn]
      exact this
  unfold blockM
  dsimp only
  rw [t1]
  dsimp only
  rw [t2]
  dsimp only
  rw [if_pos rfl, hst]
  by_cases hm : most < size + piece.length
  · rw [if_pos hm, if_pos hm]
  · rw [if_neg hm, if_neg hm]
/-- bytes in blocks of kind 0 -/
def packB : List (List Int) → List Int
  | [] => []
  | [p] => blkB 1 p
  | p :: q :: r => blkB 0 p ++ packB (q :: r)
theorem blkB_len (last : Int) (p : List Int) : (blkB last p).length = 5 + p.length := by simp [blkB]; omega
theorem litT_app (l m : List Int) : litT (l ++ m) = litT l ++ litT m := by simp [litT]
theorem run_pack (most : Int) (suf : List Int) : ∀ (ps : List (List Int)) (f : Nat) (pre : List Int) (size : Int) (toks : List (Int × Int)), ps ≠ [] → (∀ p ∈ ps, (∀ x ∈ p, isB x) ∧ p.length < 65536) → ps.length ≤ f →
    runM (bitsL (pre ++ packB ps ++ suf)) most f ⟨8 * pre.length, size, toks⟩ = if most < size + ps.flatten.length then .error 4 else .ok ⟨8 * (pre.length + (packB ps).length), size + ps.flatten.length, toks ++ litT ps.flatten⟩
  | [], _, _, _, _, h, _, _ => absurd rfl h
  | [p], f, pre, size, toks, _, h, hf => by
    obtain ⟨f1, rfl⟩ : ∃ f1, f = f1 + 1 := ⟨f - 1, by simp at hf; omega⟩
    have hp := h p (by simp)
    rw [runM, show packB [p] = blkB 1 p from rfl, stored_step pre p suf 1 (.inr rfl) hp.1 hp.2, show [p].flatten = p by simp]
    by_cases hm : most < size + p.length
    · rw [if_pos hm, if_pos hm]
    · rw [if_neg hm, if_neg hm, blkB_len]
      simp only [decide_true]
      rw [Nat.add_assoc]
  | p :: q :: r, f, pre, size, toks, _, h, hf => by
    obtain ⟨f1, rfl⟩ : ∃ f1, f = f1 + 1 := ⟨f - 1, by simp at hf; omega⟩
    have hp := h p (by simp)
    have ih := run_pack most suf (q :: r) f1 (pre ++ blkB 0 p) (size + p.length) (toks ++ litT p) (by simp) (fun x hx => h x (by simp at hx ⊢; right; exact hx)) (by simp at hf ⊢; omega)
    have e : pre ++ packB (p :: q :: r) ++ suf = pre ++ blkB 0 p ++ (packB (q :: r) ++ suf) := by rw [show packB (p :: q :: r) = blkB 0 p ++ packB (q :: r) from rfl]; simp
    have e2 : pre ++ blkB 0 p ++ packB (q :: r) ++ suf = pre ++ blkB 0 p ++ (packB (q :: r) ++ suf) := by simp
    rw [e2, List.length_append, blkB_len] at ih
    have hfl : (p :: q :: r).flatten = p ++ (q :: r).flatten := by simp
    rw [runM, e, stored_step pre p _ 0 (.inl rfl) hp.1 hp.2, hfl, List.length_append, litT_app, show packB (p :: q :: r) = blkB 0 p ++ packB (q :: r) from rfl, List.length_append, blkB_len]
    by_cases hm : most < size + p.length
    · rw [if_pos hm, if_pos (by push_cast; omega)]
    · rw [if_neg hm]
      rw [show decide ((0 : Int) = 1) = false from rfl]
      dsimp only
      rw [show pre.length + 5 + p.length = pre.length + (5 + p.length) by omega, ih]
      by_cases hm2 : most < size + p.length + ((q :: r).flatten.length : Int)
      · rw [if_pos hm2, if_pos (by push_cast; omega)]
      · rw [if_neg hm2, if_neg (by push_cast; omega)]
        congr 1
        rw [List.append_assoc, Nat.add_assoc]
        congr 1
        push_cast
        omega
theorem lay_lit : ∀ (l out : List Int), (litT l).foldl layTok out = out ++ l
  | [], out => by simp [litT]
  | x :: l, out => by
    show (litT l).foldl layTok (layTok out (0, x)) = out ++ x :: l
    rw [lay_lit l]
    show iterB (0, x) 1 out ++ l = out ++ x :: l
    show stepB (0, x) out ++ l = _
    unfold stepB
    rw [if_neg (by simp)]
    simp
/-- bytes in blocks of kind 0 are unpacked to themselves -/
theorem infM_pack (most : Int) (h0 : 0 ≤ most) (h1 : most ≤ 4194304) (ps : List (List Int)) (hne : ps ≠ []) (hp : ∀ p ∈ ps, (∀ x ∈ p, isB x) ∧ p.length < 65536) : infM (bitsL (packB ps)) most = if most < ps.flatten.length then .error 4 else .ok ⟨8 * (packB ps).length, (ps.flatten.length : Int), litT ps.flatten⟩ := by
  have hl : ∀ ps : List (List Int), ps.length ≤ (packB ps).length := by
    intro ps
    induction ps with
    | nil => simp
    | cons p ps ih =>
      cases ps with
      | nil => show 1 ≤ (blkB 1 p).length; rw [blkB_len]; omega
      | cons q r =>
        rw [show packB (p :: q :: r) = blkB 0 p ++ packB (q :: r) from rfl, List.length_append, blkB_len, List.length_cons]
        omega
  have h := run_pack most [] ps ((bitsL (packB ps)).length + 1) [] 0 [] hne hp (by rw [bitsL_length]; have := hl ps; omega)
  rw [List.nil_append, List.append_nil] at h
  unfold infM
  rw [if_neg (by omega)]
  have h : runM (bitsL (packB ps)) most ((bitsL (packB ps)).length + 1) ⟨0, 0, []⟩ = _ := h
  rw [h]
  simp
end Go.Proofs.Ytegmbjkpjglgpaa
