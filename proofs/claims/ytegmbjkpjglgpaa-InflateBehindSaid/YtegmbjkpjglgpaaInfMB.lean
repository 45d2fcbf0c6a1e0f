/-
  Unpacking, in plain Lean: what lengths' rows are in bounds.
-/
import Derived.Test.YtegmbjkpjglgpaaInfSyms
namespace Go.Proofs.Ytegmbjkpjglgpaa

theorem rdC_mem (l : Cd.SL) (bt : Nat → Nat) (N : Nat) : ∀ (f n c s m : Nat), Cd.rdC l bt N f n c = .sym s m → s = 0 ∨ s ∈ l.map (·.1)
  | 0, _, _, _, _, h => by cases h
  | f + 1, n, c, s, m, h => by
    unfold Cd.rdC at h
    split at h
    · cases h
    · split at h
      · injection h with h1 h2
        rw [List.getD_eq_getElem?_getD] at h1
        cases hx : (Cd.rowOf l n)[2 * c + bt (n - 1) - Cd.low l n / Cd.pw n]? with
        | none => rw [hx] at h1; exact .inl h1.symm
        | some x =>
          rw [hx] at h1
          have h1 : x = s := h1
          have h3 := List.mem_of_getElem? hx
          rw [h1] at h3
          unfold Cd.rowOf at h3
          obtain ⟨y, hy, e⟩ := List.mem_map.1 h3
          exact .inr (List.mem_map.2 ⟨y, (List.mem_filter.1 hy).1, e⟩)
      · split at h
        · exact rdC_mem l bt N f _ _ _ _ h
        · cases h
theorem symM_bd {l L : List Int} {k y k1 : Nat} (h : symM l L k = .ok (y, k1)) : y = 0 ∨ y < l.length := by
  unfold symM at h
  split at h
  · cases h
  · cases hr : Cd.rdC (slOf l) (btF L k) (L.length - k) 16 1 0 with
    | sym s n =>
      rw [hr] at h
      injection h with h
      injection h with h1 h2
      subst h1
      rcases rdC_mem _ _ _ _ _ _ _ _ hr with h3 | h3
      · exact .inl h3
      · right
        unfold slOf at h3
        rw [List.map_map] at h3
        obtain ⟨z, hz, e⟩ := List.mem_map.1 h3
        have e : z = s := e
        rw [← e]
        exact (ordL_mem.1 hz).1
    | short => rw [hr] at h; cases h
    | bad => rw [hr] at h; cases h
theorem rowM_bd {sm L : List Int} (hL : ∀ x ∈ L, isBit x) (hs : sm.length ≤ 19) {size : Nat} : ∀ (f k : Nat) (out : List Int) (k2 : Nat) (row : List Int), (∀ x ∈ out, 0 ≤ x ∧ x ≤ 100) → out.length ≤ size → size ≤ f + out.length → rowM sm L size f k out = .ok (k2, row) → (∀ x ∈ row, 0 ≤ x ∧ x ≤ 100) ∧ row.length = size
  | 0, k, out, k2, row, ho, h1, h2, h => by
    injection h with h
    injection h with _ h
    subst h
    exact ⟨ho, by omega⟩
  | f + 1, k, out, k2, row, ho, h1, h2, h => by
    rw [rowM] at h
    split at h
    · injection h with h
      injection h with _ h
      subst h
      exact ⟨ho, by omega⟩
    · rename_i hn
      cases hy : symM sm L k with
      | error e => rw [hy] at h; cases h
      | ok yk =>
        obtain ⟨y, k1⟩ := yk
        rw [hy] at h
        dsimp only at h
        split at h
        · cases h
        · generalize he : (if y = 16 then 2 else if y = 17 then 3 else if y = 18 then 7 else 0) = e at h
          generalize hl : (if y = 16 then (3 : Int) else if y = 17 then 3 else if y = 18 then 11 else 1) = l at h
          generalize hv : (if y = 16 then out.getD (out.length - 1) 0 else if y = 17 then 0 else if y = 18 then 0 else (y : Int)) = val at h
          have hl1 : 1 ≤ l := by rw [← hl]; split <;> (try split) <;> (try split) <;> omega
          have hv1 : 0 ≤ val ∧ val ≤ 100 := by
            rw [← hv]
            split
            · rw [List.getD_eq_getElem?_getD]
              cases hx : out[out.length - 1]? with
              | none => simp
              | some x => exact ho x (List.mem_of_getElem? hx)
            · have := symM_bd hy
              split
              · omega
              · split <;> omega
          cases ht : tkM L k1 e with
          | none => rw [ht] at h; cases h
          | some v =>
            rw [ht] at h
            dsimp only at h
            have hv0 := (tkM_bd hL ht).1
            split at h
            · cases h
            · refine rowM_bd hL hs f _ _ _ _ (fun x hx => ?_) ?_ ?_ h
              · rcases List.mem_append.1 hx with hx | hx
                · exact ho x hx
                · rw [List.eq_of_mem_replicate hx]; exact hv1
              · rw [List.length_append, List.length_replicate]; omega
              · rw [List.length_append, List.length_replicate]; omega
theorem few_kraft : ∀ {l : List Int}, (∀ x ∈ l, 0 ≤ x) → l.sum ≤ 1 → kraft l ≤ 32768 * l.sum ∧ (∀ x ∈ l, x ≤ 1)
  | [], _, _ => by simp [kraft]
  | x :: l, h, hs => by
    rw [List.sum_cons] at hs ⊢
    have h1 := h x (by simp)
    have h0 : ∀ (l : List Int), (∀ x ∈ l, 0 ≤ x) → 0 ≤ l.sum := by
      intro l
      induction l with
      | nil => intro _; simp
      | cons x l ih => intro h; rw [List.sum_cons]; have := h x (by simp); have := ih (fun y hy => h y (by simp [hy])); omega
    have h2 := h0 l (fun y hy => h y (by simp [hy]))
    have ih := few_kraft (l := l) (fun y hy => h y (by simp [hy])) (by omega)
    have e : kraft (x :: l) = (if 0 < x then (2 : Int) ^ (16 - x.toNat) else 0) + kraft l := by unfold kraft; rw [List.map_cons, List.sum_cons]
    rw [e]
    refine ⟨?_, fun y hy => ?_⟩
    · rcases (show x = 0 ∨ x = 1 by omega) with e | e
      · subst e; simp; exact ih.1
      · subst e
        have : (2 : Int) ^ (16 - (1 : Int).toNat) = 32768 := by decide
        rw [if_pos (by omega), this]
        omega
    · rcases List.mem_cons.1 hy with rfl | hy
      · omega
      · exact ih.2 y hy
theorem few_lens {l : List Int} (hm : l.length ≤ 512) (h : ∀ x ∈ l, 0 ≤ x) (hs : l.sum ≤ 1) : lensB l = true := by
  obtain ⟨h1, h2⟩ := few_kraft h hs
  exact lensB_iff.2 ⟨hm, fun x hx => ⟨h x hx, by have := h2 x hx; omega⟩, by omega⟩
theorem full_lens {l : List Int} (h : fullB l = true) : lensB l = true := by
  unfold fullB at h
  rw [Bool.and_eq_true] at h
  exact h.1
theorem smallM_len {L : List Int} : ∀ (os : List Nat) (k : Nat) (sm : List Int) (k2 : Nat) (r : List Int), smallM L os k sm = .ok (k2, r) → r.length = sm.length
  | [], k, sm, k2, r, h => by injection h with h; injection h with _ h; rw [← h]
  | o :: os, k, sm, k2, r, h => by
    unfold smallM at h
    split at h
    · cases h
    · rw [smallM_len os _ _ _ _ h, List.length_set]
end Go.Proofs.Ytegmbjkpjglgpaa
