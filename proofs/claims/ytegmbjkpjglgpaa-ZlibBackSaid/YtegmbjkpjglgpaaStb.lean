/-
  Unpacking depends on the bits read alone: plain Lean.
  Unpacking depends on the bits read alone: the blocks.
  Unpacking, plainly: bytes behind don't matter, a byte less is too few, the size alone suffices.
-/
import Derived.Test.YtegmbjkpjglgpaaInfSyms
import Derived.Test.YtegmbjkpjglgpaaInfSc
namespace Go.Proofs.Ytegmbjkpjglgpaa

/-- the first k bits are the same ones -/
def Agr (L L' : List Int) (k : Nat) : Prop := k ≤ L.length ∧ k ≤ L'.length ∧ ∀ i, i < k → L.getD i 0 = L'.getD i 0
theorem Agr.less {L L' : List Int} {k j : Nat} (h : Agr L L' k) (hj : j ≤ k) : Agr L L' j := ⟨by have := h.1; omega, by have := h.2.1; omega, fun i hi => h.2.2 i (by omega)⟩
/-- L' is a beginning of L -/
def Beg (L L' : List Int) : Prop := L'.length ≤ L.length ∧ ∀ i, i < L'.length → L.getD i 0 = L'.getD i 0
theorem Beg.agr {L L' : List Int} (h : Beg L L') {k : Nat} (hk : k ≤ L'.length) : Agr L L' k := ⟨by have := h.1; omega, hk, fun i hi => h.2 i (by omega)⟩
theorem num_same {L L' : List Int} {k : Nat} : ∀ n, (∀ i, i < k + n → L.getD i 0 = L'.getD i 0) → numL L k n = numL L' k n
  | 0, _ => rfl
  | n + 1, h => by
    show numL L k n + L.getD (k + n) 0 * 2 ^ n = numL L' k n + L'.getD (k + n) 0 * 2 ^ n
    rw [num_same n (fun i hi => h i (by omega)), h (k + n) (by omega)]
theorem tk_same {L L' : List Int} {k n : Nat} {x : Int} (h : tkM L k n = some x) (ha : Agr L L' (k + n)) : tkM L' k n = some x := by
  rw [tkM_some ha.1] at h
  rw [tkM_some ha.2.1, ← num_same n ha.2.2]
  exact h
theorem tk_len {L : List Int} {k n : Nat} {x : Int} (h : tkM L k n = some x) : k + n ≤ L.length := by
  unfold tkM at h
  by_cases hh : L.length < k + n
  · rw [if_pos hh] at h; cases h
  · omega
theorem rdC_same (l : Cd.SL) (bt bt' : Nat → Nat) (N N' : Nat) : ∀ (f n c s m : Nat), 1 ≤ n → Cd.rdC l bt N f n c = .sym s m → (∀ i, i < m → bt i = bt' i) → m ≤ N' → Cd.rdC l bt' N' f n c = .sym s m
  | 0, n, c, s, m, _, h, _, _ => by cases h
  | f + 1, n, c, s, m, hn, h, hb, hN => by
    have hl := rdC_len l bt N (f + 1) n c s m h
    have e : bt' (n - 1) = bt (n - 1) := (hb _ (by omega)).symm
    rw [Cd.rdC] at h ⊢
    by_cases h1 : N < n
    · rw [if_pos h1] at h; cases h
    · rw [if_neg h1] at h
      rw [if_neg (by omega), e]
      by_cases h2 : (2 * c + bt (n - 1)) * Cd.pw n < Cd.low l (n + 1)
      · rw [if_pos h2] at h ⊢
        exact h
      · rw [if_neg h2] at h ⊢
        by_cases h3 : (2 * c + bt (n - 1)) * Cd.pw n < Cd.tot l
        · rw [if_pos h3] at h ⊢
          exact rdC_same l bt bt' N N' f (n + 1) _ s m (by omega) h hb hN
        · rw [if_neg h3] at h
          cases h
theorem rdC_cut (l : Cd.SL) (bt bt' : Nat → Nat) (N N' : Nat) : ∀ (f n c s m : Nat), 1 ≤ n → Cd.rdC l bt N f n c = .sym s m → (∀ i, i < N' → bt i = bt' i) → N' < m → Cd.rdC l bt' N' f n c = .short
  | 0, n, c, s, m, _, h, _, _ => by cases h
  | f + 1, n, c, s, m, hn, h, hb, hN => by
    rw [Cd.rdC] at h ⊢
    by_cases hN' : N' < n
    · rw [if_pos hN']
    · rw [if_neg hN']
      have e : bt' (n - 1) = bt (n - 1) := (hb _ (by omega)).symm
      by_cases h1 : N < n
      · rw [if_pos h1] at h; cases h
      · rw [if_neg h1] at h
        rw [e]
        by_cases h2 : (2 * c + bt (n - 1)) * Cd.pw n < Cd.low l (n + 1)
        · rw [if_pos h2] at h
          injection h with _ h
          omega
        · rw [if_neg h2] at h ⊢
          by_cases h3 : (2 * c + bt (n - 1)) * Cd.pw n < Cd.tot l
          · rw [if_pos h3] at h ⊢
            exact rdC_cut l bt bt' N N' f (n + 1) _ s m (by omega) h hb hN
          · rw [if_neg h3] at h
            cases h
/-- a reading from a place on: it goes on, looks at what it reads alone, and ends with error 8 where that is cut -/
def Stable {ρ : Type} (pi : ρ → Nat) (f : List Int → Except Int ρ) (k0 : Nat) : Prop :=
  ∀ L r, k0 ≤ L.length → f L = .ok r → k0 ≤ pi r ∧ pi r ≤ L.length ∧ (∀ L', Agr L L' (pi r) → f L' = .ok r) ∧ (∀ L', Beg L L' → k0 ≤ L'.length → L'.length < pi r → f L' = .error 8)
theorem stb_pure {ρ : Type} {pi : ρ → Nat} (r : ρ) {k0 : Nat} (h : pi r = k0) : Stable pi (fun _ => .ok r) k0 := by
  intro L r' hL hr
  injection hr with hr
  subst hr
  exact ⟨by omega, by omega, fun _ _ => rfl, fun L' _ h1 h2 => by omega⟩
theorem stb_err {ρ : Type} {pi : ρ → Nat} (e : Int) (k0 : Nat) : Stable pi (fun _ => (.error e : Except Int ρ)) k0 := fun _ _ _ h => by cases h
theorem stb_if {ρ : Type} {pi : ρ → Nat} {c : Prop} [Decidable c] {f g : List Int → Except Int ρ} {k0 : Nat} (h1 : c → Stable pi f k0) (h2 : ¬ c → Stable pi g k0) : Stable pi (fun L => if c then f L else g L) k0 := by
  by_cases h : c
  · intro L r hL hr
    simp only [if_pos h] at hr ⊢
    exact h1 h L r hL hr
  · intro L r hL hr
    simp only [if_neg h] at hr ⊢
    exact h2 h L r hL hr
theorem stb_tk {ρ : Type} {pi : ρ → Nat} {g : Int → List Int → Except Int ρ} {k n k0 : Nat} (hk : k0 ≤ k) (h : ∀ x, Stable pi (g x) (k + n)) : Stable pi (fun L => match tkM L k n with | none => .error 8 | some x => g x L) k0 := by
  intro L r hL hr
  dsimp only at hr ⊢
  cases ht : tkM L k n with
  | none => rw [ht] at hr; cases hr
  | some x =>
    rw [ht] at hr
    have hl := tk_len ht
    obtain ⟨h1, h2, h3, h4⟩ := h x L r hl hr
    refine ⟨by omega, h2, fun L' ha => ?_, fun L' hb h0 hc => ?_⟩
    · rw [tk_same ht (ha.less h1)]
      exact h3 L' ha
    · by_cases hh : k + n ≤ L'.length
      · rw [tk_same ht (hb.agr hh)]
        exact h4 L' hb hh hc
      · rw [tkM_none (by omega)]
theorem stb_bind {ρ σ : Type} {pi : ρ → Nat} {pj : σ → Nat} {f : List Int → Except Int ρ} {g : ρ → List Int → Except Int σ} {k0 : Nat} (hf : Stable pi f k0) (hg : ∀ r, Stable pj (g r) (pi r)) : Stable pj (fun L => match f L with | .error e => .error e | .ok r => g r L) k0 := by
  intro L r hL hr
  dsimp only at hr ⊢
  cases ht : f L with
  | error e => rw [ht] at hr; cases hr
  | ok r1 =>
    rw [ht] at hr
    obtain ⟨a1, a2, a3, a4⟩ := hf L r1 hL ht
    obtain ⟨h1, h2, h3, h4⟩ := hg r1 L r a2 hr
    refine ⟨by omega, h2, fun L' ha => ?_, fun L' hb h0 hc => ?_⟩
    · rw [a3 L' (ha.less h1)]
      exact h3 L' ha
    · by_cases hh : pi r1 ≤ L'.length
      · rw [a3 L' (hb.agr hh)]
        exact h4 L' hb hh hc
      · rw [a4 L' hb h0 (by omega)]
theorem stb_congr {ρ : Type} {pi : ρ → Nat} {f g : List Int → Except Int ρ} {k0 : Nat} (h : Stable pi f k0) (e : ∀ L, g L = f L) : Stable pi g k0 := by
  have : g = f := funext e
  rw [this]; exact h
theorem sym_stb (l : List Int) (k : Nat) : Stable (fun r : Nat × Nat => r.2) (fun L => symM l L k) k := by
  intro L r hL hr
  obtain ⟨y, k2⟩ := r
  have hgt := symM_gt hr
  refine ⟨by show k ≤ k2; omega, hgt.2, fun L' ha => ?_, fun L' hb h0 hc => ?_⟩
  · have ha : Agr L L' k2 := ha
    show symM l L' k = .ok (y, k2)
    have hr : symM l L k = .ok (y, k2) := hr
    unfold symM at hr ⊢
    by_cases h0 : ordL l = []
    · rw [if_pos h0] at hr; cases hr
    · rw [if_neg h0] at hr ⊢
      cases hd : Cd.rdC (slOf l) (btF L k) (L.length - k) 16 1 0 with
      | sym s n =>
        rw [hd] at hr
        injection hr with hr
        injection hr with e1 e2
        subst e1 e2
        have ha : Agr L L' (k + n) := ha
        rw [rdC_same (slOf l) (btF L k) (btF L' k) (L.length - k) (L'.length - k) 16 1 0 _ n (by omega) hd (fun i hi => by unfold btF; rw [ha.2.2 (k + i) (by omega)]) (by have := ha.2.1; omega)]
      | short => rw [hd] at hr; cases hr
      | bad => rw [hd] at hr; cases hr
  · have hc : L'.length < k2 := hc
    show symM l L' k = .error 8
    have hr : symM l L k = .ok (y, k2) := hr
    unfold symM at hr ⊢
    by_cases h0 : ordL l = []
    · rw [if_pos h0] at hr; cases hr
    · rw [if_neg h0] at hr ⊢
      cases hd : Cd.rdC (slOf l) (btF L k) (L.length - k) 16 1 0 with
      | sym s n =>
        rw [hd] at hr
        injection hr with hr
        injection hr with e1 e2
        subst e1 e2
        have hc : L'.length < k + n := hc
        rw [rdC_cut (slOf l) (btF L k) (btF L' k) (L.length - k) (L'.length - k) 16 1 0 _ n (by omega) hd (fun i hi => by unfold btF; rw [hb.2 (k + i) (by omega)]) (by omega)]
      | short => rw [hd] at hr; cases hr
      | bad => rw [hd] at hr; cases hr
def skK (s : Sk) : Nat := s.k
theorem put_stb (most : Int) (t : Int × Int) (s : Sk) : Stable skK (fun _ => putM most t s) s.k := by
  unfold putM
  exact stb_if (fun _ => stb_err _ _) (fun _ => stb_if (fun _ => stb_err _ _) (fun _ => stb_pure _ rfl))
theorem bytes_stb : ∀ (n : Nat) (s : Sk), Stable skK (fun L => bytesM L n s) s.k
  | 0, s => stb_pure s rfl
  | n + 1, s => stb_congr (stb_tk (Nat.le_refl _) (fun v => bytes_stb n ⟨s.k + 8, s.size + 1, s.toks ++ [(0, v)]⟩)) (fun _ => rfl)
theorem stored_stb (most : Int) (s : Sk) : Stable skK (fun L => storedM L most s) s.k :=
  stb_congr (stb_tk (k := (s.k + 7) / 8 * 8) (n := 16) (by omega) (fun a => stb_tk (n := 16) (Nat.le_refl _) (fun b => stb_if (c := a + b ≠ 65535) (fun _ => stb_err 2 _) (fun _ => stb_if (c := most < s.size + a) (fun _ => stb_err 4 _) (fun _ => bytes_stb a.toNat ⟨(s.k + 7) / 8 * 8 + 32, s.size, s.toks⟩))))) (fun _ => rfl)
theorem match_stb (d : List Int) (most : Int) (y : Nat) (s : Sk) : Stable skK (fun L => matchM d L most y s) s.k := by
  refine stb_congr (stb_if (c := 285 < y) (fun _ => stb_err 2 s.k) (fun _ => stb_tk (k := s.k) (n := (lextra y).toNat) (Nat.le_refl _) (fun n => stb_bind (sym_stb d (s.k + (lextra y).toNat)) (fun r => stb_if (c := 29 < r.1) (fun _ => stb_err 2 _) (fun _ => stb_tk (k := r.2) (n := (dextra r.1).toNat) (Nat.le_refl _) (fun m => put_stb most (lbase y + n, dbase r.1 + m) ⟨r.2 + (dextra r.1).toNat, s.size, s.toks⟩)))))) (fun L => ?_)
  unfold matchM
  split
  · rfl
  · cases tkM L s.k (lextra y).toNat with
    | none => rfl
    | some n =>
      dsimp only
      cases symM d L (s.k + (lextra y).toNat) with
      | error e => rfl
      | ok p => rfl
theorem syms_stb (l d : List Int) (most : Int) : ∀ (f : Nat) (s : Sk), Stable skK (fun L => symsM l d L most f s) s.k
  | 0, s => stb_err 8 _
  | f + 1, s => by
    refine stb_congr (stb_bind (sym_stb l s.k) (fun r => stb_if (c := r.1 = 256) (fun _ => stb_pure (pi := skK) ⟨r.2, s.size, s.toks⟩ rfl) (fun _ => stb_bind (pi := skK) (f := fun L => if r.1 < 256 then putM most (0, (r.1 : Int)) ⟨r.2, s.size, s.toks⟩ else matchM d L most r.1 ⟨r.2, s.size, s.toks⟩) (stb_if (fun _ => put_stb most _ ⟨r.2, s.size, s.toks⟩) (fun _ => match_stb d most r.1 ⟨r.2, s.size, s.toks⟩)) (fun s2 => syms_stb l d most f s2)))) (fun L => ?_)
    rw [symsM]
    cases symM l L s.k with
    | error e => rfl
    | ok p =>
      obtain ⟨y, k1⟩ := p
      dsimp only
      split
      · rfl
      · cases (if y < 256 then putM most (0, (y : Int)) ⟨k1, s.size, s.toks⟩ else matchM d L most y ⟨k1, s.size, s.toks⟩) <;> rfl
end Go.Proofs.Ytegmbjkpjglgpaa

namespace Go.Proofs.Ytegmbjkpjglgpaa

theorem small_stb : ∀ (os : List Nat) (k : Nat) (sm : List Int), Stable (fun r : Nat × List Int => r.1) (fun L => smallM L os k sm) k
  | [], k, sm => stb_pure (pi := fun r : Nat × List Int => r.1) (k, sm) rfl
  | o :: os, k, sm => stb_congr (stb_tk (Nat.le_refl _) (fun v => small_stb os (k + 3) (sm.set o v))) (fun _ => rfl)
theorem row_stb (sm : List Int) (size : Nat) : ∀ (f k : Nat) (out : List Int), Stable (fun r : Nat × List Int => r.1) (fun L => rowM sm L size f k out) k
  | 0, k, out => stb_pure (pi := fun r : Nat × List Int => r.1) (k, out) rfl
  | f + 1, k, out => by
    have h1 : ∀ (y k1 : Nat) (v : Int), Stable (fun r : Nat × List Int => r.1) (fun L => if (size : Int) - out.length < v + (if y = 16 then 3 else if y = 17 then 3 else if y = 18 then 11 else 1) then .error 2 else
        rowM sm L size f (k1 + (if y = 16 then 2 else if y = 17 then 3 else if y = 18 then 7 else 0)) (out ++ List.replicate (v + (if y = 16 then 3 else if y = 17 then 3 else if y = 18 then 11 else 1)).toNat (if y = 16 then out.getD (out.length - 1) 0 else if y = 17 then 0 else if y = 18 then 0 else (y : Int)))) (k1 + (if y = 16 then 2 else if y = 17 then 3 else if y = 18 then 7 else 0)) := fun y k1 v => stb_if (fun _ => stb_err _ _) (fun _ => row_stb sm size f _ _)
    have h2 : ∀ r : Nat × Nat, Stable (fun r : Nat × List Int => r.1) (fun L => if r.1 = 16 ∧ out = [] then .error 2 else
      match tkM L r.2 (if r.1 = 16 then 2 else if r.1 = 17 then 3 else if r.1 = 18 then 7 else 0) with
      | none => .error 8
      | some v => if (size : Int) - out.length < v + (if r.1 = 16 then 3 else if r.1 = 17 then 3 else if r.1 = 18 then 11 else 1) then .error 2 else
        rowM sm L size f (r.2 + (if r.1 = 16 then 2 else if r.1 = 17 then 3 else if r.1 = 18 then 7 else 0)) (out ++ List.replicate (v + (if r.1 = 16 then 3 else if r.1 = 17 then 3 else if r.1 = 18 then 11 else 1)).toNat (if r.1 = 16 then out.getD (out.length - 1) 0 else if r.1 = 17 then 0 else if r.1 = 18 then 0 else (r.1 : Int)))) r.2 := fun r => stb_if (fun _ => stb_err _ _) (fun _ => stb_tk (Nat.le_refl _) (fun v => h1 r.1 r.2 v))
    have h3 := stb_if (c := size ≤ out.length) (fun _ => stb_pure (pi := fun r : Nat × List Int => r.1) (k, out) (k0 := k) rfl) (fun _ => stb_bind (sym_stb sm k) h2)
    refine stb_congr h3 (fun L => ?_)
    rw [rowM]
    split
    · rfl
    · cases symM sm L k with
      | error e => rfl
      | ok p =>
        obtain ⟨y, k1⟩ := p
        dsimp only
        split
        · rfl
        · cases tkM L k1 (if y = 16 then 2 else if y = 17 then 3 else if y = 18 then 7 else 0) <;> rfl
def pi3 (r : Nat × List Int × List Int) : Nat := r.1
theorem dyn_stb (k : Nat) : Stable pi3 (fun L => dynM L k) k := by
  refine stb_congr (stb_tk (k := k) (n := 5) (Nat.le_refl _) (fun a => stb_if (c := 286 < 257 + a) (fun _ => stb_err 2 _) (fun _ => stb_tk (k := k + 5) (n := 5) (Nat.le_refl _) (fun b => stb_if (c := 30 < 1 + b) (fun _ => stb_err 2 _) (fun _ => stb_tk (k := k + 10) (n := 4) (Nat.le_refl _) (fun c => stb_bind (small_stb (ordT.take (c.toNat + 4)) (k + 14) (List.replicate 19 0)) (fun r => stb_if (c := fullB r.2 = false) (fun _ => stb_err 2 _) (fun _ => stb_bind (row_stb r.2 (258 + a.toNat + b.toNat) (258 + a.toNat + b.toNat) r.1 []) (fun q => stb_if (c := fullB (q.2.take (257 + a.toNat)) = false ∨ q.2.getD 256 0 = 0 ∨ (fullB (q.2.drop (257 + a.toNat)) = false ∧ 1 < (q.2.drop (257 + a.toNat)).sum)) (fun _ => stb_err 2 _) (fun _ => stb_pure (pi := pi3) (q.1, q.2.take (257 + a.toNat), q.2.drop (257 + a.toNat)) rfl)))))))))) (fun L => ?_)
  unfold dynM
  cases tkM L k 5 with
  | none => rfl
  | some a =>
    dsimp only
    split
    · rfl
    · cases tkM L (k + 5) 5 with
      | none => rfl
      | some b =>
        dsimp only
        split
        · rfl
        · cases tkM L (k + 10) 4 with
          | none => rfl
          | some c =>
            dsimp only
            cases smallM L (ordT.take (c.toNat + 4)) (k + 14) (List.replicate 19 0) with
            | error e => rfl
            | ok p =>
              obtain ⟨k2, sm⟩ := p
              dsimp only
              split
              · rfl
              · cases rowM sm L (258 + a.toNat + b.toNat) (258 + a.toNat + b.toNat) k2 [] with
                | error e => rfl
                | ok q => rfl
theorem syms_fuel {l d L : List Int} {most : Int} : ∀ (f f' : Nat) (s : Sk), s.k ≤ L.length → L.length + 1 ≤ f + s.k → L.length + 1 ≤ f' + s.k → symsM l d L most f s = symsM l d L most f' s
  | 0, _, s, h, h1, _ => by omega
  | f + 1, 0, s, h, _, h1 => by omega
  | f + 1, f' + 1, s, h, h1, h2 => by
    rw [symsM, symsM]
    cases hs : symM l L s.k with
    | error e => rfl
    | ok p =>
      obtain ⟨y, k1⟩ := p
      have hgt := symM_gt hs
      dsimp only
      split
      · rfl
      · cases hp : (if y < 256 then putM most (0, (y : Int)) ⟨k1, s.size, s.toks⟩ else matchM d L most y ⟨k1, s.size, s.toks⟩) with
        | error e => rfl
        | ok s2 =>
          dsimp only
          have hk : k1 ≤ s2.k ∧ s2.k ≤ L.length := by
            split at hp
            · have := putM_k hp
              have e : s2.k = k1 := this
              omega
            · have := match_stb d most y ⟨k1, s.size, s.toks⟩ L s2 hgt.2 hp
              exact ⟨this.1, this.2.1⟩
          exact syms_fuel f f' s2 hk.2 (by omega) (by omega)
theorem all_stb (l d : List Int) (most : Int) (s : Sk) : Stable skK (fun L => symsAll l d L most s) s.k := by
  intro L r hL hr
  have hr : symsM l d L most (L.length + 1 - s.k) s = .ok r := hr
  have key : ∀ L' : List Int, s.k ≤ L'.length → symsAll l d L' most s = symsM l d L' most (L.length + L'.length + 2) s := fun L' h => syms_fuel _ _ s h (by omega) (by omega)
  have base : ∀ G, L.length + 1 ≤ G + s.k → symsM l d L most G s = .ok r := fun G hG => (syms_fuel _ _ s hL hG (by omega)).trans hr
  have h0 := syms_stb l d most (L.length + 1) s L r hL (base _ (by omega))
  refine ⟨h0.1, h0.2.1, fun L' ha => ?_, fun L' hb hk hc => ?_⟩
  · have h1 := syms_stb l d most (L.length + L'.length + 2) s L r hL (base _ (by omega))
    show symsAll l d L' most s = .ok r
    rw [key L' (by have := ha.2.1; have := h0.1; have e : skK r = r.k := rfl; omega)]
    exact h1.2.2.1 L' ha
  · have h1 := syms_stb l d most (L.length + L'.length + 2) s L r hL (base _ (by omega))
    show symsAll l d L' most s = .error 8
    rw [key L' hk]
    exact h1.2.2.2 L' hb hk hc
def pib (r : Bool × Sk) : Nat := r.2.k
theorem dynall_stb (most : Int) (s : Sk) : Stable skK (fun L => match dynM L (s.k + 3) with
      | .error e => .error e
      | .ok (k2, l, d) => symsAll l d L most ⟨k2, s.size, s.toks⟩) (s.k + 3) :=
  stb_congr (stb_bind (dyn_stb (s.k + 3)) (fun r => all_stb r.2.1 r.2.2 most ⟨r.1, s.size, s.toks⟩)) (fun L => by
    cases dynM L (s.k + 3) with
    | error e => rfl
    | ok p => rfl)
def kM (L : List Int) (most kind : Int) (s : Sk) : Except Int Sk := if kind = 0 then storedM L most ⟨s.k + 3, s.size, s.toks⟩
        else if kind = 1 then symsAll fixL fixD L most ⟨s.k + 3, s.size, s.toks⟩
        else if kind = 2 then (match dynM L (s.k + 3) with
          | .error e => .error e
          | .ok (k2, l, d) => symsAll l d L most ⟨k2, s.size, s.toks⟩)
        else .error 2
theorem body_stb (most kind : Int) (s : Sk) : Stable skK (fun L => kM L most kind s) (s.k + 3) := by
  unfold kM
  exact stb_if (fun _ => stored_stb most ⟨s.k + 3, s.size, s.toks⟩) (fun _ => stb_if (fun _ => all_stb fixL fixD most ⟨s.k + 3, s.size, s.toks⟩) (fun _ => stb_if (fun _ => dynall_stb most s) (fun _ => stb_err 2 _)))
theorem block_stb (most : Int) (s : Sk) : Stable pib (fun L => blockM L most s) s.k := by
  have h1 : ∀ last kind : Int, Stable pib _ (s.k + 3) := fun last kind => stb_bind (body_stb most kind s) (fun s2 => stb_pure (pi := pib) (decide (last = 1), s2) (k0 := s2.k) rfl)
  refine stb_congr (stb_tk (k := s.k) (n := 1) (Nat.le_refl _) (fun last => stb_tk (k := s.k + 1) (n := 2) (Nat.le_refl _) (fun kind => h1 last kind))) (fun L => ?_)
  unfold blockM
  cases tkM L s.k 1 with
  | none => rfl
  | some last =>
    dsimp only
    cases tkM L (s.k + 1) 2 with
    | none => rfl
    | some kind =>
      dsimp only
      unfold kM
      by_cases h0 : kind = 0
      · rw [if_pos h0, if_pos h0]
        cases storedM L most ⟨s.k + 3, s.size, s.toks⟩ <;> rfl
      · rw [if_neg h0, if_neg h0]
        by_cases h1 : kind = 1
        · rw [if_pos h1, if_pos h1]
          cases symsAll fixL fixD L most ⟨s.k + 3, s.size, s.toks⟩ <;> rfl
        · rw [if_neg h1, if_neg h1]
          by_cases h2 : kind = 2
          · rw [if_pos h2, if_pos h2]
            cases dynM L (s.k + 3) with
            | error e => rfl
            | ok p =>
              obtain ⟨k2, l, d⟩ := p
              dsimp only
              cases symsAll l d L most ⟨k2, s.size, s.toks⟩ <;> rfl
          · rw [if_neg h2, if_neg h2]
theorem run_fuel {L : List Int} {most : Int} : ∀ (f f' : Nat) (s : Sk), s.k ≤ L.length → L.length + 1 ≤ f + s.k → L.length + 1 ≤ f' + s.k → runM L most f s = runM L most f' s
  | 0, _, s, h, h1, _ => by omega
  | f + 1, 0, s, h, _, h1 => by omega
  | f + 1, f' + 1, s, h, h1, h2 => by
    rw [runM, runM]
    cases hb : blockM L most s with
    | error e => rfl
    | ok p =>
      obtain ⟨b, s2⟩ := p
      cases b with
      | true => rfl
      | false =>
        have hk := blockM_k hb
        have hl := (block_stb most s L (false, s2) h hb).2.1
        have hl : s2.k ≤ L.length := hl
        exact run_fuel f f' s2 hl (by omega) (by omega)
theorem runf_stb (most : Int) : ∀ (f : Nat) (s : Sk), Stable skK (fun L => runM L most f s) s.k
  | 0, s => stb_err 8 _
  | f + 1, s => by
    have h1 : ∀ r : Bool × Sk, Stable skK (fun L => if r.1 = true then (.ok r.2 : Except Int Sk) else runM L most f r.2) (pib r) := fun r => stb_if (fun _ => stb_pure (pi := skK) r.2 rfl) (fun _ => runf_stb most f r.2)
    refine stb_congr (stb_bind (block_stb most s) h1) (fun L => ?_)
    rw [runM]
    cases blockM L most s with
    | error e => rfl
    | ok p =>
      obtain ⟨b, s2⟩ := p
      cases b <;> rfl
/-- unpacking depends on the bits read alone; with fewer ones it ends with error 8 -/
theorem inf_stb (most : Int) : Stable skK (fun L => infM L most) 0 := by
  unfold infM
  refine stb_if (fun _ => stb_err 7 _) (fun _ => ?_)
  intro L r hL hr
  dsimp only at hr ⊢
  have key : ∀ L' : List Int, runM L' most (L'.length + 1) ⟨0, 0, []⟩ = runM L' most (L.length + L'.length + 2) ⟨0, 0, []⟩ := fun L' => run_fuel _ _ ⟨0, 0, []⟩ (Nat.zero_le _) (by show L'.length + 1 ≤ L'.length + 1 + 0; omega) (by show L'.length + 1 ≤ L.length + L'.length + 2 + 0; omega)
  have base : ∀ G, L.length + 1 ≤ G → runM L most G ⟨0, 0, []⟩ = .ok r := fun G hG => (run_fuel _ _ ⟨0, 0, []⟩ (Nat.zero_le _) (by show L.length + 1 ≤ G + 0; omega) (by show L.length + 1 ≤ L.length + 1 + 0; omega)).trans hr
  have h0 := runf_stb most (L.length + 1) ⟨0, 0, []⟩ L r (Nat.zero_le _) hr
  refine ⟨h0.1, h0.2.1, fun L' ha => ?_, fun L' hb hk hc => ?_⟩
  · rw [key L']
    exact (runf_stb most (L.length + L'.length + 2) ⟨0, 0, []⟩ L r (Nat.zero_le _) (base _ (by omega))).2.2.1 L' ha
  · rw [key L']
    exact (runf_stb most (L.length + L'.length + 2) ⟨0, 0, []⟩ L r (Nat.zero_le _) (base _ (by omega))).2.2.2 L' hb hk hc
end Go.Proofs.Ytegmbjkpjglgpaa

namespace Go.Proofs.Ytegmbjkpjglgpaa

theorem bit_of {b c : List Int} {n i : Nat} (hi : i < 8 * n) (h1 : n ≤ b.length) (h2 : n ≤ c.length) (h : ∀ j, j < n → b.getD j 0 = c.getD j 0) : (bitsL b).getD i 0 = (bitsL c).getD i 0 := by
  rw [bitsL_at _ _ (by omega), bitsL_at _ _ (by omega)]
  unfold bitA
  rw [h (i / 8) (by omega)]
theorem agr_take (b behind : List Int) (n : Nat) (hn : n ≤ b.length) : Agr (bitsL b) (bitsL (b.take n ++ behind)) (8 * n) := by
  have hl : (b.take n).length = n := by rw [List.length_take]; omega
  refine ⟨by rw [bitsL_length]; omega, by rw [bitsL_length, List.length_append]; omega, fun i hi => bit_of (n := n) hi hn (by rw [List.length_append]; omega) (fun j hj => ?_)⟩
  rw [List.getD_eq_getElem?_getD, List.getD_eq_getElem?_getD, List.getElem?_append_left (by omega), List.getElem?_take, if_pos hj]
theorem beg_take (b : List Int) (m : Nat) (hm : m ≤ b.length) : Beg (bitsL b) (bitsL (b.take m)) := by
  have hl : (b.take m).length = m := by rw [List.length_take]; omega
  refine ⟨by rw [bitsL_length, bitsL_length]; omega, fun i hi => bit_of (n := m) (by rw [bitsL_length, hl] at hi; exact hi) hm (by omega) (fun j hj => ?_)⟩
  rw [List.getD_eq_getElem?_getD, List.getD_eq_getElem?_getD, List.getElem?_take, if_pos hj]
theorem run_pos {L : List Int} {most : Int} : ∀ (f : Nat) (s s2 : Sk), runM L most f s = .ok s2 → s.k < s2.k
  | 0, _, _, h => by cases h
  | f + 1, s, s2, h => by
    rw [runM] at h
    cases hb : blockM L most s with
    | error e => rw [hb] at h; cases h
    | ok p =>
      obtain ⟨b, s3⟩ := p
      rw [hb] at h
      have hk := blockM_k hb
      cases b with
      | true => injection h with h; rw [← h]; exact hk
      | false =>
        have := run_pos f s3 s2 h
        omega
theorem inf_pos {L : List Int} {most : Int} {s2 : Sk} (h : infM L most = .ok s2) : 0 < s2.k := by
  unfold infM at h
  split at h
  · cases h
  · exact run_pos _ ⟨0, 0, []⟩ _ h
/-- bytes behind don't matter; a byte less is too few -/
theorem inf_behind {b : List Int} {most : Int} {s2 : Sk} (h : infM (bitsL b) most = .ok s2) :
    1 ≤ (s2.k + 7) / 8 ∧ (s2.k + 7) / 8 ≤ b.length ∧ (∀ behind, infM (bitsL (b.take ((s2.k + 7) / 8) ++ behind)) most = .ok s2) ∧ infM (bitsL (b.take ((s2.k + 7) / 8 - 1))) most = .error 8 := by
  have hp := inf_pos h
  obtain ⟨_, h2, h3, h4⟩ := inf_stb most (bitsL b) s2 (Nat.zero_le _) h
  have h2 : s2.k ≤ (bitsL b).length := h2
  rw [bitsL_length] at h2
  have hn : (s2.k + 7) / 8 ≤ b.length := by omega
  refine ⟨by omega, hn, fun behind => h3 _ ((agr_take b behind _ hn).less (by show s2.k ≤ _; omega)), h4 _ (beg_take b _ (by omega)) (Nat.zero_le _) ?_⟩
  show (bitsL _).length < s2.k
  rw [bitsL_length, List.length_take]
  omega
/-- a reading that puts tokens: it grows, and goes the same way with any bound that its size keeps -/
def Grows {ρ : Type} (sz : ρ → Int) (f : Int → Except Int ρ) (s0 : Int) : Prop := ∀ most r, f most = .ok r → s0 ≤ sz r ∧ ∀ m2, sz r ≤ m2 → f m2 = .ok r
theorem gro_const {ρ : Type} {sz : ρ → Int} (x : Except Int ρ) (s0 : Int) (h : ∀ r, x = .ok r → s0 ≤ sz r) : Grows sz (fun _ => x) s0 := fun _ r hr => ⟨h r hr, fun _ _ => hr⟩
theorem gro_if {ρ : Type} {sz : ρ → Int} {c : Prop} [Decidable c] {f g : Int → Except Int ρ} {s0 : Int} (h1 : c → Grows sz f s0) (h2 : ¬ c → Grows sz g s0) : Grows sz (fun m => if c then f m else g m) s0 := by
  by_cases h : c
  · intro most r hr
    simp only [if_pos h] at hr ⊢
    exact h1 h most r hr
  · intro most r hr
    simp only [if_neg h] at hr ⊢
    exact h2 h most r hr
theorem gro_bind {ρ σ : Type} {sz : ρ → Int} {sj : σ → Int} {f : Int → Except Int ρ} {g : ρ → Int → Except Int σ} {s0 : Int} (hf : Grows sz f s0) (hg : ∀ r, Grows sj (g r) (sz r)) : Grows sj (fun m => match f m with | .error e => .error e | .ok r => g r m) s0 := by
  intro most r hr
  dsimp only at hr ⊢
  cases ht : f most with
  | error e => rw [ht] at hr; cases hr
  | ok r1 =>
    rw [ht] at hr
    obtain ⟨a1, a2⟩ := hf most r1 ht
    obtain ⟨b1, b2⟩ := hg r1 most r hr
    exact ⟨by omega, fun m2 hm => by rw [a2 m2 (by omega)]; exact b2 m2 hm⟩
theorem gro_congr {ρ : Type} {sz : ρ → Int} {f g : Int → Except Int ρ} {s0 : Int} (h : Grows sz f s0) (e : ∀ m, g m = f m) : Grows sz g s0 := by
  have : g = f := funext e
  rw [this]; exact h
def skS (s : Sk) : Int := s.size
theorem put_gro (t : Int × Int) (s : Sk) : Grows skS (fun m => putM m t s) s.size := by
  intro most r hr
  have hp := tn_pos (t := t)
  dsimp only at hr ⊢
  unfold putM at hr ⊢
  split at hr
  · cases hr
  · rename_i h1
    split at hr
    · cases hr
    · injection hr with hr
      subst hr
      refine ⟨by show s.size ≤ s.size + tn t; omega, fun m2 hm => ?_⟩
      have hm : s.size + tn t ≤ m2 := hm
      rw [if_neg h1, if_neg (by omega)]
theorem bytes_size {L : List Int} : ∀ (n : Nat) (s r : Sk), bytesM L n s = .ok r → r.size = s.size + n
  | 0, s, r, h => by injection h with h; rw [← h]; omega
  | n + 1, s, r, h => by
    rw [bytesM] at h
    split at h
    · cases h
    · have := bytes_size n _ r h
      rw [this]
      show s.size + 1 + (n : Int) = _
      omega
theorem stored_gro {L : List Int} (hL : ∀ x ∈ L, isBit x) (s : Sk) : Grows skS (fun m => storedM L m s) s.size := by
  intro most r hr
  dsimp only at hr ⊢
  unfold storedM at hr ⊢
  split at hr
  · cases hr
  · rename_i a ha
    have hab := tkM_bd hL ha
    split at hr
    · cases hr
    · split at hr
      · cases hr
      · rename_i h1
        split at hr
        · cases hr
        · rename_i h2
          have hs := bytes_size _ _ _ hr
          have hs : r.size = s.size + (a.toNat : Int) := hs
          refine ⟨by show s.size ≤ r.size; omega, fun m2 hm => ?_⟩
          have hm : r.size ≤ m2 := hm
          rw [if_neg h1, if_neg (by omega)]
          exact hr
theorem match_gro (L d : List Int) (y : Nat) (s : Sk) : Grows skS (fun m => matchM d L m y s) s.size := by
  intro most r hr
  have hr : matchM d L most y s = .ok r := hr
  unfold matchM at hr
  by_cases h1 : 285 < y
  · rw [if_pos h1] at hr; cases hr
  rw [if_neg h1] at hr
  cases e1 : tkM L s.k (lextra y).toNat with
  | none => rw [e1] at hr; cases hr
  | some n =>
    rw [e1] at hr
    dsimp only at hr
    cases e2 : symM d L (s.k + (lextra y).toNat) with
    | error e => rw [e2] at hr; cases hr
    | ok p =>
      obtain ⟨t, k2⟩ := p
      rw [e2] at hr
      dsimp only at hr
      by_cases h2 : 29 < t
      · rw [if_pos h2] at hr; cases hr
      rw [if_neg h2] at hr
      cases e3 : tkM L k2 (dextra t).toNat with
      | none => rw [e3] at hr; cases hr
      | some m =>
        rw [e3] at hr
        dsimp only at hr
        have hp := put_gro (lbase y + n, dbase t + m) ⟨k2 + (dextra t).toNat, s.size, s.toks⟩ most r hr
        refine ⟨hp.1, fun m2 hm => ?_⟩
        show matchM d L m2 y s = .ok r
        unfold matchM
        rw [if_neg h1, e1]
        dsimp only
        rw [e2]
        dsimp only
        rw [if_neg h2, e3]
        exact hp.2 m2 hm
theorem syms_gro (L l d : List Int) : ∀ (f : Nat) (s : Sk), Grows skS (fun m => symsM l d L m f s) s.size
  | 0, s => gro_const _ _ (fun r h => by cases h)
  | f + 1, s => by
    cases hs : symM l L s.k with
    | error e =>
      refine gro_congr (f := fun _ => (.error e : Except Int Sk)) (gro_const _ _ (fun r h => by cases h)) (fun m => ?_)
      rw [symsM, hs]
    | ok p =>
      obtain ⟨y, k1⟩ := p
      have h1 : Grows skS (fun m => if y < 256 then putM m (0, (y : Int)) ⟨k1, s.size, s.toks⟩ else matchM d L m y ⟨k1, s.size, s.toks⟩) s.size := gro_if (fun _ => put_gro _ ⟨k1, s.size, s.toks⟩) (fun _ => match_gro L d y ⟨k1, s.size, s.toks⟩)
      have h2 := gro_bind (sj := skS) h1 (fun s2 => syms_gro L l d f s2)
      refine gro_congr (gro_if (c := y = 256) (fun _ => gro_const (sz := skS) (.ok ⟨k1, s.size, s.toks⟩) s.size (fun r h => by injection h with h; rw [← h]; exact Int.le_refl _)) (fun _ => h2)) (fun m => ?_)
      rw [symsM, hs]
      dsimp only
      split
      · rfl
      · cases (if y < 256 then putM m (0, (y : Int)) ⟨k1, s.size, s.toks⟩ else matchM d L m y ⟨k1, s.size, s.toks⟩) <;> rfl
def sib (r : Bool × Sk) : Int := r.2.size
theorem kM_gro {L : List Int} (hL : ∀ x ∈ L, isBit x) (kind : Int) (s : Sk) : Grows skS (fun m => kM L m kind s) s.size := by
  unfold kM
  refine gro_if (fun _ => stored_gro hL ⟨s.k + 3, s.size, s.toks⟩) (fun _ => gro_if (fun _ => syms_gro L fixL fixD _ ⟨s.k + 3, s.size, s.toks⟩) (fun _ => gro_if (fun _ => ?_) (fun _ => gro_const _ _ (fun r h => by cases h))))
  cases dynM L (s.k + 3) with
  | error e => exact gro_const _ _ (fun r h => by cases h)
  | ok p =>
    obtain ⟨k2, l, d⟩ := p
    exact syms_gro L l d _ ⟨k2, s.size, s.toks⟩
theorem blockM_kM {L : List Int} {most : Int} {s : Sk} {last kind : Int} (h1 : tkM L s.k 1 = some last) (h2 : tkM L (s.k + 1) 2 = some kind) : blockM L most s = match kM L most kind s with
    | .error e => .error e
    | .ok s2 => .ok (decide (last = 1), s2) := by
  unfold blockM
  rw [h1]
  dsimp only
  rw [h2]
  dsimp only
  unfold kM
  by_cases h0 : kind = 0
  · rw [if_pos h0, if_pos h0]
    cases storedM L most ⟨s.k + 3, s.size, s.toks⟩ <;> rfl
  · rw [if_neg h0, if_neg h0]
    by_cases h1 : kind = 1
    · rw [if_pos h1, if_pos h1]
      cases symsAll fixL fixD L most ⟨s.k + 3, s.size, s.toks⟩ <;> rfl
    · rw [if_neg h1, if_neg h1]
      by_cases h2 : kind = 2
      · rw [if_pos h2, if_pos h2]
        cases dynM L (s.k + 3) with
        | error e => rfl
        | ok p =>
          obtain ⟨k2, l, d⟩ := p
          dsimp only
          cases symsAll l d L most ⟨k2, s.size, s.toks⟩ <;> rfl
      · rw [if_neg h2, if_neg h2]
theorem block_gro {L : List Int} (hL : ∀ x ∈ L, isBit x) (s : Sk) : Grows sib (fun m => blockM L m s) s.size := by
  cases h1 : tkM L s.k 1 with
  | none =>
    refine gro_congr (f := fun _ => (.error 8 : Except Int (Bool × Sk))) (gro_const _ _ (fun r h => by cases h)) (fun m => ?_)
    unfold blockM
    rw [h1]
  | some last =>
    cases h2 : tkM L (s.k + 1) 2 with
    | none =>
      refine gro_congr (f := fun _ => (.error 8 : Except Int (Bool × Sk))) (gro_const _ _ (fun r h => by cases h)) (fun m => ?_)
      unfold blockM
      rw [h1]
      dsimp only
      rw [h2]
    | some kind =>
      refine gro_congr (gro_bind (sj := sib) (kM_gro hL kind s) (fun s2 => gro_const (.ok (decide (last = 1), s2)) s2.size (fun r h => by injection h with h; rw [← h]; exact Int.le_refl _))) (fun m => ?_)
      rw [blockM_kM h1 h2]
      cases kM L m kind s <;> rfl
theorem run_gro {L : List Int} (hL : ∀ x ∈ L, isBit x) : ∀ (f : Nat) (s : Sk), Grows skS (fun m => runM L m f s) s.size
  | 0, s => gro_const _ _ (fun r h => by cases h)
  | f + 1, s => by
    have h1 : ∀ r : Bool × Sk, Grows skS (fun m => if r.1 = true then (.ok r.2 : Except Int Sk) else runM L m f r.2) (sib r) := fun r => gro_if (fun _ => gro_const _ _ (fun q h => by injection h with h; rw [← h]; exact Int.le_refl _)) (fun _ => run_gro hL f r.2)
    refine gro_congr (gro_bind (block_gro hL s) h1) (fun m => ?_)
    rw [runM]
    cases blockM L m s with
    | error e => rfl
    | ok p =>
      obtain ⟨b, s2⟩ := p
      cases b <;> rfl
/-- the size alone suffices as a bound -/
theorem inf_most {L : List Int} (hL : ∀ x ∈ L, isBit x) {most : Int} {s2 : Sk} (h : infM L most = .ok s2) : 0 ≤ s2.size ∧ infM L s2.size = .ok s2 ∨ 4194304 < s2.size := by
  unfold infM at h
  split at h
  · cases h
  · obtain ⟨h1, h2⟩ := run_gro hL _ ⟨0, 0, []⟩ most s2 h
    have h1 : (0 : Int) ≤ s2.size := h1
    by_cases hb : 4194304 < s2.size
    · exact .inr hb
    · refine .inl ⟨h1, ?_⟩
      unfold infM
      rw [if_neg (by omega)]
      exact h2 s2.size (Int.le_refl _)
end Go.Proofs.Ytegmbjkpjglgpaa
