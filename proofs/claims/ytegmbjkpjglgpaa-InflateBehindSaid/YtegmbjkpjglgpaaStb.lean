/-
  Unpacking depends on the bits read alone: plain Lean.
-/
import Derived.Test.YtegmbjkpjglgpaaInfSyms
namespace Go.Proofs.Ytegmbjkpjglgpaa

/-- the first k bits are the same ones -/
def Agr (L L' : List Int) (k : Nat) : Prop := k ≤ L.length ∧ k ≤ L'.length ∧ ∀ i, i < k → L.getD i 0 = L'.getD i 0
theorem Agr.less {L L' : List Int} {k j : Nat} (h : Agr L L' k) (hj : j ≤ k) : Agr L L' j := ⟨by have := h.1; omega, by have := h.2.1; omega, fun i hi => h.2.2 i (by omega)⟩
/-- L' is a beginning of L -/
def Beg (L L' : List Int) : Prop := L'.length ≤ L.length ∧ ∀ i, i < L'.length → L.getD i 0 = L'.getD i 0
theorem Beg.agr {L L' : List Int} (h : Beg L L') {k : Nat} (hk : k ≤ L'.length) : Agr L L' k := ⟨by have := h.1; omega, hk, fun i hi => h.2 i (by omega)⟩
theorem num_same {L L' : List Int} {k : Nat} : ∀ n, (∀ i, i < k + n → L.getD i 0 = L'.getD i 0) → numL L k n = numL L' k n
  | 0, _ => rfl
  | n + 1, h => by
    show numL L k n + L.getD (k + n) 0 * 2 ^ n = numL L' k n + L'.getD (k + n) 0 * 2 ^ n
    rw [num_same n (fun i hi => h i (by omega)), h (k + n) (by omega)]
theorem tk_same {L L' : List Int} {k n : Nat} {x : Int} (h : tkM L k n = some x) (ha : Agr L L' (k + n)) : tkM L' k n = some x := by
  rw [tkM_some ha.1] at h
  rw [tkM_some ha.2.1, ← num_same n ha.2.2]
  exact h
theorem tk_len {L : List Int} {k n : Nat} {x : Int} (h : tkM L k n = some x) : k + n ≤ L.length := by
  unfold tkM at h
  by_cases hh : L.length < k + n
  · rw [if_pos hh] at h; cases h
  · omega
theorem rdC_same (l : Cd.SL) (bt bt' : Nat → Nat) (N N' : Nat) : ∀ (f n c s m : Nat), 1 ≤ n → Cd.rdC l bt N f n c = .sym s m → (∀ i, i < m → bt i = bt' i) → m ≤ N' → Cd.rdC l bt' N' f n c = .sym s m
  | 0, n, c, s, m, _, h, _, _ => by cases h
  | f + 1, n, c, s, m, hn, h, hb, hN => by
    have hl := rdC_len l bt N (f + 1) n c s m h
    have e : bt' (n - 1) = bt (n - 1) := (hb _ (by omega)).symm
    rw [Cd.rdC] at h ⊢
    by_cases h1 : N < n
    · rw [if_pos h1] at h; cases h
    · rw [if_neg h1] at h
      rw [if_neg (by omega), e]
      by_cases h2 : (2 * c + bt (n - 1)) * Cd.pw n < Cd.low l (n + 1)
      · rw [if_pos h2] at h ⊢
        exact h
      · rw [if_neg h2] at h ⊢
        by_cases h3 : (2 * c + bt (n - 1)) * Cd.pw n < Cd.tot l
        · rw [if_pos h3] at h ⊢
          exact rdC_same l bt bt' N N' f (n + 1) _ s m (by omega) h hb hN
        · rw [if_neg h3] at h
          cases h
theorem rdC_cut (l : Cd.SL) (bt bt' : Nat → Nat) (N N' : Nat) : ∀ (f n c s m : Nat), 1 ≤ n → Cd.rdC l bt N f n c = .sym s m → (∀ i, i < N' → bt i = bt' i) → N' < m → Cd.rdC l bt' N' f n c = .short
  | 0, n, c, s, m, _, h, _, _ => by cases h
  | f + 1, n, c, s, m, hn, h, hb, hN => by
    rw [Cd.rdC] at h ⊢
    by_cases hN' : N' < n
    · rw [if_pos hN']
    · rw [if_neg hN']
      have e : bt' (n - 1) = bt (n - 1) := (hb _ (by omega)).symm
      by_cases h1 : N < n
      · rw [if_pos h1] at h; cases h
      · rw [if_neg h1] at h
        rw [e]
        by_cases h2 : (2 * c + bt (n - 1)) * Cd.pw n < Cd.low l (n + 1)
        · rw [if_pos h2] at h
          injection h with _ h
          omega
        · rw [if_neg h2] at h ⊢
          by_cases h3 : (2 * c + bt (n - 1)) * Cd.pw n < Cd.tot l
          · rw [if_pos h3] at h ⊢
            exact rdC_cut l bt bt' N N' f (n + 1) _ s m (by omega) h hb hN
          · rw [if_neg h3] at h
            cases h
/-- a reading from a place on: it goes on, looks at what it reads alone, and ends with error 8 where that is cut -/
def Stable {ρ : Type} (pi : ρ → Nat) (f : List Int → Except Int ρ) (k0 : Nat) : Prop :=
  ∀ L r, k0 ≤ L.length → f L = .ok r → k0 ≤ pi r ∧ pi r ≤ L.length ∧ (∀ L', Agr L L' (pi r) → f L' = .ok r) ∧ (∀ L', Beg L L' → k0 ≤ L'.length → L'.length < pi r → f L' = .error 8)
theorem stb_pure {ρ : Type} {pi : ρ → Nat} (r : ρ) {k0 : Nat} (h : pi r = k0) : Stable pi (fun _ => .ok r) k0 := by
  intro L r' hL hr
  injection hr with hr
  subst hr
  exact ⟨by omega, by omega, fun _ _ => rfl, fun L' _ h1 h2 => by omega⟩
theorem stb_err {ρ : Type} {pi : ρ → Nat} (e : Int) (k0 : Nat) : Stable pi (fun _ => (.error e : Except Int ρ)) k0 := fun _ _ _ h => by cases h
theorem stb_if {ρ : Type} {pi : ρ → Nat} {c : Prop} [Decidable c] {f g : List Int → Except Int ρ} {k0 : Nat} (h1 : c → Stable pi f k0) (h2 : ¬ c → Stable pi g k0) : Stable pi (fun L => if c then f L else g L) k0 := by
  by_cases h : c
  · intro L r hL hr
    simp only [if_pos h] at hr ⊢
    exact h1 h L r hL hr
  · intro L r hL hr
    simp only [if_neg h] at hr ⊢
    exact h2 h L r hL hr
theorem stb_tk {ρ : Type} {pi : ρ → Nat} {g : Int → List Int → Except Int ρ} {k n k0 : Nat} (hk : k0 ≤ k) (h : ∀ x, Stable pi (g x) (k + n)) : Stable pi (fun L => match tkM L k n with | none => .error 8 | some x => g x L) k0 := by
  intro L r hL hr
  dsimp only at hr ⊢
  cases ht : tkM L k n with
  | none => rw [ht] at hr; cases hr
  | some x =>
    rw [ht] at hr
    have hl := tk_len ht
    obtain ⟨h1, h2, h3, h4⟩ := h x L r hl hr
    refine ⟨by omega, h2, fun L' ha => ?_, fun L' hb h0 hc => ?_⟩
    · rw [tk_same ht (ha.less h1)]
      exact h3 L' ha
    · by_cases hh : k + n ≤ L'.length
      · rw [tk_same ht (hb.agr hh)]
        exact h4 L' hb hh hc
      · rw [tkM_none (by omega)]
theorem stb_bind {ρ σ : Type} {pi : ρ → Nat} {pj : σ → Nat} {f : List Int → Except Int ρ} {g : ρ → List Int → Except Int σ} {k0 : Nat} (hf : Stable pi f k0) (hg : ∀ r, Stable pj (g r) (pi r)) : Stable pj (fun L => match f L with | .error e => .error e | .ok r => g r L) k0 := by
  intro L r hL hr
  dsimp only at hr ⊢
  cases ht : f L with
  | error e => rw [ht] at hr; cases hr
  | ok r1 =>
    rw [ht] at hr
    obtain ⟨a1, a2, a3, a4⟩ := hf L r1 hL ht
    obtain ⟨h1, h2, h3, h4⟩ := hg r1 L r a2 hr
    refine ⟨by omega, h2, fun L' ha => ?_, fun L' hb h0 hc => ?_⟩
    · rw [a3 L' (ha.less h1)]
      exact h3 L' ha
    · by_cases hh : pi r1 ≤ L'.length
      · rw [a3 L' (hb.agr hh)]
        exact h4 L' hb hh hc
      · rw [a4 L' hb h0 (by omega)]
theorem stb_congr {ρ : Type} {pi : ρ → Nat} {f g : List Int → Except Int ρ} {k0 : Nat} (h : Stable pi f k0) (e : ∀ L, g L = f L) : Stable pi g k0 := by
  have : g = f := funext e
  rw [this]; exact h
theorem sym_stb (l : List Int) (k : Nat) : Stable (fun r : Nat × Nat => r.2) (fun L => symM l L k) k := by
  intro L r hL hr
  obtain ⟨y, k2⟩ := r
  have hgt := symM_gt hr
  refine ⟨by show k ≤ k2; omega, hgt.2, fun L' ha => ?_, fun L' hb h0 hc => ?_⟩
  · have ha : Agr L L' k2 := ha
    show symM l L' k = .ok (y, k2)
    have hr : symM l L k = .ok (y, k2) := hr
    unfold symM at hr ⊢
    by_cases h0 : ordL l = []
    · rw [if_pos h0] at hr; cases hr
    · rw [if_neg h0] at hr ⊢
      cases hd : Cd.rdC (slOf l) (btF L k) (L.length - k) 16 1 0 with
      | sym s n =>
        rw [hd] at hr
        injection hr with hr
        injection hr with e1 e2
        subst e1 e2
        have ha : Agr L L' (k + n) := ha
        rw [rdC_same (slOf l) (btF L k) (btF L' k) (L.length - k) (L'.length - k) 16 1 0 _ n (by omega) hd (fun i hi => by unfold btF; rw [ha.2.2 (k + i) (by omega)]) (by have := ha.2.1; omega)]
      | short => rw [hd] at hr; cases hr
      | bad => rw [hd] at hr; cases hr
  · have hc : L'.length < k2 := hc
    show symM l L' k = .error 8
    have hr : symM l L k = .ok (y, k2) := hr
    unfold symM at hr ⊢
    by_cases h0 : ordL l = []
    · rw [if_pos h0] at hr; cases hr
    · rw [if_neg h0] at hr ⊢
      cases hd : Cd.rdC (slOf l) (btF L k) (L.length - k) 16 1 0 with
      | sym s n =>
        rw [hd] at hr
        injection hr with hr
        injection hr with e1 e2
        subst e1 e2
        have hc : L'.length < k + n := hc
        rw [rdC_cut (slOf l) (btF L k) (btF L' k) (L.length - k) (L'.length - k) 16 1 0 _ n (by omega) hd (fun i hi => by unfold btF; rw [hb.2 (k + i) (by omega)]) (by omega)]
      | short => rw [hd] at hr; cases hr
      | bad => rw [hd] at hr; cases hr
def skK (s : Sk) : Nat := s.k
theorem put_stb (most : Int) (t : Int × Int) (s : Sk) : Stable skK (fun _ => putM most t s) s.k := by
  unfold putM
  exact stb_if (fun _ => stb_err _ _) (fun _ => stb_if (fun _ => stb_err _ _) (fun _ => stb_pure _ rfl))
theorem bytes_stb : ∀ (n : Nat) (s : Sk), Stable skK (fun L => bytesM L n s) s.k
  | 0, s => stb_pure s rfl
  | n + 1, s => stb_congr (stb_tk (Nat.le_refl _) (fun v => bytes_stb n ⟨s.k + 8, s.size + 1, s.toks ++ [(0, v)]⟩)) (fun _ => rfl)
theorem stored_stb (most : Int) (s : Sk) : Stable skK (fun L => storedM L most s) s.k :=
  stb_congr (stb_tk (k := (s.k + 7) / 8 * 8) (n := 16) (by omega) (fun a => stb_tk (n := 16) (Nat.le_refl _) (fun b => stb_if (c := a + b ≠ 65535) (fun _ => stb_err 2 _) (fun _ => stb_if (c := most < s.size + a) (fun _ => stb_err 4 _) (fun _ => bytes_stb a.toNat ⟨(s.k + 7) / 8 * 8 + 32, s.size, s.toks⟩))))) (fun _ => rfl)
theorem match_stb (d : List Int) (most : Int) (y : Nat) (s : Sk) : Stable skK (fun L => matchM d L most y s) s.k := by
  refine stb_congr (stb_if (c := 285 < y) (fun _ => stb_err 2 s.k) (fun _ => stb_tk (k := s.k) (n := (lextra y).toNat) (Nat.le_refl _) (fun n => stb_bind (sym_stb d (s.k + (lextra y).toNat)) (fun r => stb_if (c := 29 < r.1) (fun _ => stb_err 2 _) (fun _ => stb_tk (k := r.2) (n := (dextra r.1).toNat) (Nat.le_refl _) (fun m => put_stb most (lbase y + n, dbase r.1 + m) ⟨r.2 + (dextra r.1).toNat, s.size, s.toks⟩)))))) (fun L => ?_)
  unfold matchM
  split
  · rfl
  · cases tkM L s.k (lextra y).toNat with
    | none => rfl
    | some n =>
      dsimp only
      cases symM d L (s.k + (lextra y).toNat) with
      | error e => rfl
      | ok p => rfl
theorem syms_stb (l d : List Int) (most : Int) : ∀ (f : Nat) (s : Sk), Stable skK (fun L => symsM l d L most f s) s.k
  | 0, s => stb_err 8 _
  | f + 1, s => by
    refine stb_congr (stb_bind (sym_stb l s.k) (fun r => stb_if (c := r.1 = 256) (fun _ => stb_pure (pi := skK) ⟨r.2, s.size, s.toks⟩ rfl) (fun _ => stb_bind (pi := skK) (f := fun L => if r.1 < 256 then putM most (0, (r.1 : Int)) ⟨r.2, s.size, s.toks⟩ else matchM d L most r.1 ⟨r.2, s.size, s.toks⟩) (stb_if (fun _ => put_stb most _ ⟨r.2, s.size, s.toks⟩) (fun _ => match_stb d most r.1 ⟨r.2, s.size, s.toks⟩)) (fun s2 => syms_stb l d most f s2)))) (fun L => ?_)
    rw [symsM]
    cases symM l L s.k with
    | error e => rfl
    | ok p =>
      obtain ⟨y, k1⟩ := p
      dsimp only
      split
      · rfl
      · cases (if y < 256 then putM most (0, (y : Int)) ⟨k1, s.size, s.toks⟩ else matchM d L most y ⟨k1, s.size, s.toks⟩) <;> rfl
end Go.Proofs.Ytegmbjkpjglgpaa
