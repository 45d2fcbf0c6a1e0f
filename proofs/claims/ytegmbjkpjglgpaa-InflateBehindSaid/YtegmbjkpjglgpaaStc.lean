/-
  Unpacking depends on the bits read alone: the blocks.
-/
import Derived.Test.YtegmbjkpjglgpaaStb
import Derived.Test.YtegmbjkpjglgpaaInfSc
namespace Go.Proofs.Ytegmbjkpjglgpaa

theorem small_stb : ∀ (os : List Nat) (k : Nat) (sm : List Int), Stable (fun r : Nat × List Int => r.1) (fun L => smallM L os k sm) k
  | [], k, sm => stb_pure (pi := fun r : Nat × List Int => r.1) (k, sm) rfl
  | o :: os, k, sm => stb_congr (stb_tk (Nat.le_refl _) (fun v => small_stb os (k + 3) (sm.set o v))) (fun _ => rfl)
theorem row_stb (sm : List Int) (size : Nat) : ∀ (f k : Nat) (out : List Int), Stable (fun r : Nat × List Int => r.1) (fun L => rowM sm L size f k out) k
  | 0, k, out => stb_pure (pi := fun r : Nat × List Int => r.1) (k, out) rfl
  | f + 1, k, out => by
    have h1 : ∀ (y k1 : Nat) (v : Int), Stable (fun r : Nat × List Int => r.1) (fun L => if (size : Int) - out.length < v + (if y = 16 then 3 else if y = 17 then 3 else if y = 18 then 11 else 1) then .error 2 else
        rowM sm L size f (k1 + (if y = 16 then 2 else if y = 17 then 3 else if y = 18 then 7 else 0)) (out ++ List.replicate (v + (if y = 16 then 3 else if y = 17 then 3 else if y = 18 then 11 else 1)).toNat (if y = 16 then out.getD (out.length - 1) 0 else if y = 17 then 0 else if y = 18 then 0 else (y : Int)))) (k1 + (if y = 16 then 2 else if y = 17 then 3 else if y = 18 then 7 else 0)) := fun y k1 v => stb_if (fun _ => stb_err _ _) (fun _ => row_stb sm size f _ _)
    have h2 : ∀ r : Nat × Nat, Stable (fun r : Nat × List Int => r.1) (fun L => if r.1 = 16 ∧ out = [] then .error 2 else
      match tkM L r.2 (if r.1 = 16 then 2 else if r.1 = 17 then 3 else if r.1 = 18 then 7 else 0) with
      | none => .error 8
      | some v => if (size : Int) - out.length < v + (if r.1 = 16 then 3 else if r.1 = 17 then 3 else if r.1 = 18 then 11 else 1) then .error 2 else
        rowM sm L size f (r.2 + (if r.1 = 16 then 2 else if r.1 = 17 then 3 else if r.1 = 18 then 7 else 0)) (out ++ List.replicate (v + (if r.1 = 16 then 3 else if r.1 = 17 then 3 else if r.1 = 18 then 11 else 1)).toNat (if r.1 = 16 then out.getD (out.length - 1) 0 else if r.1 = 17 then 0 else if r.1 = 18 then 0 else (r.1 : Int)))) r.2 := fun r => stb_if (fun _ => stb_err _ _) (fun _ => stb_tk (Nat.le_refl _) (fun v => h1 r.1 r.2 v))
    have h3 := stb_if (c := size ≤ out.length) (fun _ => stb_pure (pi := fun r : Nat × List Int => r.1) (k, out) (k0 := k) rfl) (fun _ => stb_bind (sym_stb sm k) h2)
    refine stb_congr h3 (fun L => ?_)
    rw [rowM]
    split
    · rfl
    · cases symM sm L k with
      | error e => rfl
      | ok p =>
        obtain ⟨y, k1⟩ := p
        dsimp only
        split
        · rfl
        · cases tkM L k1 (if y = 16 then 2 else if y = 17 then 3 else if y = 18 then 7 else 0) <;> rfl
def pi3 (r : Nat × List Int × List Int) : Nat := r.1
theorem dyn_stb (k : Nat) : Stable pi3 (fun L => dynM L k) k := by
  refine stb_congr (stb_tk (k := k) (n := 5) (Nat.le_refl _) (fun a => stb_if (c := 286 < 257 + a) (fun _ => stb_err 2 _) (fun _ => stb_tk (k := k + 5) (n := 5) (Nat.le_refl _) (fun b => stb_if (c := 30 < 1 + b) (fun _ => stb_err 2 _) (fun _ => stb_tk (k := k + 10) (n := 4) (Nat.le_refl _) (fun c => stb_bind (small_stb (ordT.take (c.toNat + 4)) (k + 14) (List.replicate 19 0)) (fun r => stb_if (c := fullB r.2 = false) (fun _ => stb_err 2 _) (fun _ => stb_bind (row_stb r.2 (258 + a.toNat + b.toNat) (258 + a.toNat + b.toNat) r.1 []) (fun q => stb_if (c := fullB (q.2.take (257 + a.toNat)) = false ∨ q.2.getD 256 0 = 0 ∨ (fullB (q.2.drop (257 + a.toNat)) = false ∧ 1 < (q.2.drop (257 + a.toNat)).sum)) (fun _ => stb_err 2 _) (fun _ => stb_pure (pi := pi3) (q.1, q.2.take (257 + a.toNat), q.2.drop (257 + a.toNat)) rfl)))))))))) (fun L => ?_)
  unfold dynM
  cases tkM L k 5 with
  | none => rfl
  | some a =>
    dsimp only
    split
    · rfl
    · cases tkM L (k + 5) 5 with
      | none => rfl
      | some b =>
        dsimp only
        split
        · rfl
        · cases tkM L (k + 10) 4 with
          | none => rfl
          | some c =>
            dsimp only
            cases smallM L (ordT.take (c.toNat + 4)) (k + 14) (List.replicate 19 0) with
            | error e => rfl
            | ok p =>
              obtain ⟨k2, sm⟩ := p
              dsimp only
              split
              · rfl
              · cases rowM sm L (258 + a.toNat + b.toNat) (258 + a.toNat + b.toNat) k2 [] with
                | error e => rfl
                | ok q => rfl
theorem syms_fuel {l d L : List Int} {most : Int} : ∀ (f f' : Nat) (s : Sk), s.k ≤ L.length → L.length + 1 ≤ f + s.k → L.length + 1 ≤ f' + s.k → symsM l d L most f s = symsM l d L most f' s
  | 0, _, s, h, h1, _ => by omega
  | f + 1, 0, s, h, _, h1 => by omega
  | f + 1, f' + 1, s, h, h1, h2 => by
    rw [symsM, symsM]
    cases hs : symM l L s.k with
    | error e => rfl
    | ok p =>
      obtain ⟨y, k1⟩ := p
      have hgt := symM_gt hs
      dsimp only
      split
      · rfl
      · cases hp : (if y < 256 then putM most (0, (y : Int)) ⟨k1, s.size, s.toks⟩ else matchM d L most y ⟨k1, s.size, s.toks⟩) with
        | error e => rfl
        | ok s2 =>
          dsimp only
          have hk : k1 ≤ s2.k ∧ s2.k ≤ L.length := by
            split at hp
            · have := putM_k hp
              have e : s2.k = k1 := this
              omega
            · have := match_stb d most y ⟨k1, s.size, s.toks⟩ L s2 hgt.2 hp
              exact ⟨this.1, this.2.1⟩
          exact syms_fuel f f' s2 hk.2 (by omega) (by omega)
theorem all_stb (l d : List Int) (most : Int) (s : Sk) : Stable skK (fun L => symsAll l d L most s) s.k := by
  intro L r hL hr
  have hr : symsM l d L most (L.length + 1 - s.k) s = .ok r := hr
  have key : ∀ L' : List Int, s.k ≤ L'.length → symsAll l d L' most s = symsM l d L' most (L.length + L'.length + 2) s := fun L' h => syms_fuel _ _ s h (by omega) (by omega)
  have base : ∀ G, L.length + 1 ≤ G + s.k → symsM l d L most G s = .ok r := fun G hG => (syms_fuel _ _ s hL hG (by omega)).trans hr
  have h0 := syms_stb l d most (L.length + 1) s L r hL (base _ (by omega))
  refine ⟨h0.1, h0.2.1, fun L' ha => ?_, fun L' hb hk hc => ?_⟩
  · have h1 := syms_stb l d most (L.length + L'.length + 2) s L r hL (base _ (by omega))
    show symsAll l d L' most s = .ok r
    rw [key L' (by have := ha.2.1; have := h0.1; have e : skK r = r.k := rfl; omega)]
    exact h1.2.2.1 L' ha
  · have h1 := syms_stb l d most (L.length + L'.length + 2) s L r hL (base _ (by omega))
    show symsAll l d L' most s = .error 8
    rw [key L' hk]
    exact h1.2.2.2 L' hb hk hc
def pib (r : Bool × Sk) : Nat := r.2.k
theorem dynall_stb (most : Int) (s : Sk) : Stable skK (fun L => match dynM L (s.k + 3) with
      | .error e => .error e
      | .ok (k2, l, d) => symsAll l d L most ⟨k2, s.size, s.toks⟩) (s.k + 3) :=
  stb_congr (stb_bind (dyn_stb (s.k + 3)) (fun r => all_stb r.2.1 r.2.2 most ⟨r.1, s.size, s.toks⟩)) (fun L => by
    cases dynM L (s.k + 3) with
    | error e => rfl
    | ok p => rfl)
def kM (L : List Int) (most kind : Int) (s : Sk) : Except Int Sk := if kind = 0 then storedM L most ⟨s.k + 3, s.size, s.toks⟩
        else if kind = 1 then symsAll fixL fixD L most ⟨s.k + 3, s.size, s.toks⟩
        else if kind = 2 then (match dynM L (s.k + 3) with
          | .error e => .error e
          | .ok (k2, l, d) => symsAll l d L most ⟨k2, s.size, s.toks⟩)
        else .error 2
theorem body_stb (most kind : Int) (s : Sk) : Stable skK (fun L => kM L most kind s) (s.k + 3) := by
  unfold kM
  exact stb_if (fun _ => stored_stb most ⟨s.k + 3, s.size, s.toks⟩) (fun _ => stb_if (fun _ => all_stb fixL fixD most ⟨s.k + 3, s.size, s.toks⟩) (fun _ => stb_if (fun _ => dynall_stb most s) (fun _ => stb_err 2 _)))
theorem block_stb (most : Int) (s : Sk) : Stable pib (fun L => blockM L most s) s.k := by
  have h1 : ∀ last kind : Int, Stable pib _ (s.k + 3) := fun last kind => stb_bind (body_stb most kind s) (fun s2 => stb_pure (pi := pib) (decide (last = 1), s2) (k0 := s2.k) rfl)
  refine stb_congr (stb_tk (k := s.k) (n := 1) (Nat.le_refl _) (fun last => stb_tk (k := s.k + 1) (n := 2) (Nat.le_refl _) (fun kind => h1 last kind))) (fun L => ?_)
  unfold blockM
  cases tkM L s.k 1 with
  | none => rfl
  | some last =>
    dsimp only
    cases tkM L (s.k + 1) 2 with
    | none => rfl
    | some kind =>
      dsimp only
      unfold kM
      by_cases h0 : kind = 0
      · rw [if_pos h0, if_pos h0]
        cases storedM L most ⟨s.k + 3, s.size, s.toks⟩ <;> rfl
      · rw [if_neg h0, if_neg h0]
        by_cases h1 : kind = 1
        · rw [if_pos h1, if_pos h1]
          cases symsAll fixL fixD L most ⟨s.k + 3, s.size, s.toks⟩ <;> rfl
        · rw [if_neg h1, if_neg h1]
          by_cases h2 : kind = 2
          · rw [if_pos h2, if_pos h2]
            cases dynM L (s.k + 3) with
            | error e => rfl
            | ok p =>
              obtain ⟨k2, l, d⟩ := p
              dsimp only
              cases symsAll l d L most ⟨k2, s.size, s.toks⟩ <;> rfl
          · rw [if_neg h2, if_neg h2]
theorem run_fuel {L : List Int} {most : Int} : ∀ (f f' : Nat) (s : Sk), s.k ≤ L.length → L.length + 1 ≤ f + s.k → L.length + 1 ≤ f' + s.k → runM L most f s = runM L most f' s
  | 0, _, s, h, h1, _ => by omega
  | f + 1, 0, s, h, _, h1 => by omega
  | f + 1, f' + 1, s, h, h1, h2 => by
    rw [runM, runM]
    cases hb : blockM L most s with
    | error e => rfl
    | ok p =>
      obtain ⟨b, s2⟩ := p
      cases b with
      | true => rfl
      | false =>
        have hk := blockM_k hb
        have hl := (block_stb most s L (false, s2) h hb).2.1
        have hl : s2.k ≤ L.length := hl
        exact run_fuel f f' s2 hl (by omega) (by omega)
theorem runf_stb (most : Int) : ∀ (f : Nat) (s : Sk), Stable skK (fun L => runM L most f s) s.k
  | 0, s => stb_err 8 _
  | f + 1, s => by
    have h1 : ∀ r : Bool × Sk, Stable skK (fun L => if r.1 = true then (.ok r.2 : Except Int Sk) else runM L most f r.2) (pib r) := fun r => stb_if (fun _ => stb_pure (pi := skK) r.2 rfl) (fun _ => runf_stb most f r.2)
    refine stb_congr (stb_bind (block_stb most s) h1) (fun L => ?_)
    rw [runM]
    cases blockM L most s with
    | error e => rfl
    | ok p =>
      obtain ⟨b, s2⟩ := p
      cases b <;> rfl
/-- unpacking depends on the bits read alone; with fewer ones it ends with error 8 -/
theorem inf_stb (most : Int) : Stable skK (fun L => infM L most) 0 := by
  unfold infM
  refine stb_if (fun _ => stb_err 7 _) (fun _ => ?_)
  intro L r hL hr
  dsimp only at hr ⊢
  have key : ∀ L' : List Int, runM L' most (L'.length + 1) ⟨0, 0, []⟩ = runM L' most (L.length + L'.length + 2) ⟨0, 0, []⟩ := fun L' => run_fuel _ _ ⟨0, 0, []⟩ (Nat.zero_le _) (by show L'.length + 1 ≤ L'.length + 1 + 0; omega) (by show L'.length + 1 ≤ L.length + L'.length + 2 + 0; omega)
  have base : ∀ G, L.length + 1 ≤ G → runM L most G ⟨0, 0, []⟩ = .ok r := fun G hG => (run_fuel _ _ ⟨0, 0, []⟩ (Nat.zero_le _) (by show L.length + 1 ≤ G + 0; omega) (by show L.length + 1 ≤ L.length + 1 + 0; omega)).trans hr
  have h0 := runf_stb most (L.length + 1) ⟨0, 0, []⟩ L r (Nat.zero_le _) hr
  refine ⟨h0.1, h0.2.1, fun L' ha => ?_, fun L' hb hk hc => ?_⟩
  · rw [key L']
    exact (runf_stb most (L.length + L'.length + 2) ⟨0, 0, []⟩ L r (Nat.zero_le _) (base _ (by omega))).2.2.1 L' ha
  · rw [key L']
    exact (runf_stb most (L.length + L'.length + 2) ⟨0, 0, []⟩ L r (Nat.zero_le _) (base _ (by omega))).2.2.2 L' hb hk hc
end Go.Proofs.Ytegmbjkpjglgpaa
