/-
  Unpacking, in plain Lean: what lengths' rows are in bounds.
  Unpacking, in plain Lean: how far one comes, and that the tokens are in form.
-/
import Derived.Test.YtegmbjkpjglgpaaInfSyms
namespace Go.Proofs.Ytegmbjkpjglgpaa

theorem rdC_mem (l : Cd.SL) (bt : Nat → Nat) (N : Nat) : ∀ (f n c s m : Nat), Cd.rdC l bt N f n c = .sym s m → s = 0 ∨ s ∈ l.map (·.1)
  | 0, _, _, _, _, h => by cases h
  | f + 1, n, c, s, m, h => by
    unfold Cd.rdC at h
    split at h
    · cases h
    · split at h
      · injection h with h1 h2
        rw [List.getD_eq_getElem?_getD] at h1
        cases hx : (Cd.rowOf l n)[2 * c + bt (n - 1) - Cd.low l n / Cd.pw n]? with
        | none => rw [hx] at h1; exact .inl h1.symm
        | some x =>
          rw [hx] at h1
          have h1 : x = s := h1
          have h3 := List.mem_of_getElem? hx
          rw [h1] at h3
          unfold Cd.rowOf at h3
          obtain ⟨y, hy, e⟩ := List.mem_map.1 h3
          exact .inr (List.mem_map.2 ⟨y, (List.mem_filter.1 hy).1, e⟩)
      · split at h
        · exact rdC_mem l bt N f _ _ _ _ h
        · cases h
theorem symM_bd {l L : List Int} {k y k1 : Nat} (h : symM l L k = .ok (y, k1)) : y = 0 ∨ y < l.length := by
  unfold symM at h
  split at h
  · cases h
  · cases hr : Cd.rdC (slOf l) (btF L k) (L.length - k) 16 1 0 with
    | sym s n =>
      rw [hr] at h
      injection h with h
      injection h with h1 h2
      subst h1
      rcases rdC_mem _ _ _ _ _ _ _ _ hr with h3 | h3
      · exact .inl h3
      · right
        unfold slOf at h3
        rw [List.map_map] at h3
        obtain ⟨z, hz, e⟩ := List.mem_map.1 h3
        have e : z = s := e
        rw [← e]
        exact (ordL_mem.1 hz).1
    | short => rw [hr] at h; cases h
    | bad => rw [hr] at h; cases h
theorem rowM_bd {sm L : List Int} (hL : ∀ x ∈ L, isBit x) (hs : sm.length ≤ 19) {size : Nat} : ∀ (f k : Nat) (out : List Int) (k2 : Nat) (row : List Int), (∀ x ∈ out, 0 ≤ x ∧ x ≤ 100) → out.length ≤ size → size ≤ f + out.length → rowM sm L size f k out = .ok (k2, row) → (∀ x ∈ row, 0 ≤ x ∧ x ≤ 100) ∧ row.length = size
  | 0, k, out, k2, row, ho, h1, h2, h => by
    injection h with h
    injection h with _ h
    subst h
    exact ⟨ho, by omega⟩
  | f + 1, k, out, k2, row, ho, h1, h2, h => by
    rw [rowM] at h
    split at h
    · injection h with h
      injection h with _ h
      subst h
      exact ⟨ho, by omega⟩
    · rename_i hn
      cases hy : symM sm L k with
      | error e => rw [hy] at h; cases h
      | ok yk =>
        obtain ⟨y, k1⟩ := yk
        rw [hy] at h
        dsimp only at h
        split at h
        · cases h
        · generalize he : (if y = 16 then 2 else if y = 17 then 3 else if y = 18 then 7 else 0) = e at h
          generalize hl : (if y = 16 then (3 : Int) else if y = 17 then 3 else if y = 18 then 11 else 1) = l at h
          generalize hv : (if y = 16 then out.getD (out.length - 1) 0 else if y = 17 then 0 else if y = 18 then 0 else (y : Int)) = val at h
          have hl1 : 1 ≤ l := by rw [← hl]; split <;> (try split) <;> (try split) <;> omega
          have hv1 : 0 ≤ val ∧ val ≤ 100 := by
            rw [← hv]
            split
            · rw [List.getD_eq_getElem?_getD]
              cases hx : out[out.length - 1]? with
              | none => simp
              | some x => exact ho x (List.mem_of_getElem? hx)
            · have := symM_bd hy
              split
              · omega
              · split <;> omega
          cases ht : tkM L k1 e with
          | none => rw [ht] at h; cases h
          | some v =>
            rw [ht] at h
            dsimp only at h
            have hv0 := (tkM_bd hL ht).1
            split at h
            · cases h
            · refine rowM_bd hL hs f _ _ _ _ (fun x hx => ?_) ?_ ?_ h
              · rcases List.mem_append.1 hx with hx | hx
                · exact ho x hx
                · rw [List.eq_of_mem_replicate hx]; exact hv1
              · rw [List.length_append, List.length_replicate]; omega
              · rw [List.length_append, List.length_replicate]; omega
theorem few_kraft : ∀ {l : List Int}, (∀ x ∈ l, 0 ≤ x) → l.sum ≤ 1 → kraft l ≤ 32768 * l.sum ∧ (∀ x ∈ l, x ≤ 1)
  | [], _, _ => by simp [kraft]
  | x :: l, h, hs => by
    rw [List.sum_cons] at hs ⊢
    have h1 := h x (by simp)
    have h0 : ∀ (l : List Int), (∀ x ∈ l, 0 ≤ x) → 0 ≤ l.sum := by
      intro l
      induction l with
      | nil => intro _; simp
      | cons x l ih => intro h; rw [List.sum_cons]; have := h x (by simp); have := ih (fun y hy => h y (by simp [hy])); omega
    have h2 := h0 l (fun y hy => h y (by simp [hy]))
    have ih := few_kraft (l := l) (fun y hy => h y (by simp [hy])) (by omega)
    have e : kraft (x :: l) = (if 0 < x then (2 : Int) ^ (16 - x.toNat) else 0) + kraft l := by unfold kraft; rw [List.map_cons, List.sum_cons]
    rw [e]
    refine ⟨?_, fun y hy => ?_⟩
    · rcases (show x = 0 ∨ x = 1 by omega) with e | e
      · subst e; simp; exact ih.1
      · subst e
        have : (2 : Int) ^ (16 - (1 : Int).toNat) = 32768 := by decide
        rw [if_pos (by omega), this]
        omega
    · rcases List.mem_cons.1 hy with rfl | hy
      · omega
      · exact ih.2 y hy
theorem few_lens {l : List Int} (hm : l.length ≤ 512) (h : ∀ x ∈ l, 0 ≤ x) (hs : l.sum ≤ 1) : lensB l = true := by
  obtain ⟨h1, h2⟩ := few_kraft h hs
  exact lensB_iff.2 ⟨hm, fun x hx => ⟨h x hx, by have := h2 x hx; omega⟩, by omega⟩
theorem full_lens {l : List Int} (h : fullB l = true) : lensB l = true := by
  unfold fullB at h
  rw [Bool.and_eq_true] at h
  exact h.1
theorem smallM_len {L : List Int} : ∀ (os : List Nat) (k : Nat) (sm : List Int) (k2 : Nat) (r : List Int), smallM L os k sm = .ok (k2, r) → r.length = sm.length
  | [], k, sm, k2, r, h => by injection h with h; injection h with _ h; rw [← h]
  | o :: os, k, sm, k2, r, h => by
    unfold smallM at h
    split at h
    · cases h
    · rw [smallM_len os _ _ _ _ h, List.length_set]
end Go.Proofs.Ytegmbjkpjglgpaa

namespace Go.Proofs.Ytegmbjkpjglgpaa

theorem tkM_le {L : List Int} {k n : Nat} {x : Int} (h : tkM L k n = some x) : k + n ≤ L.length := by
  unfold tkM at h
  split at h
  · cases h
  · omega
theorem bytesM_k {L : List Int} : ∀ {n : Nat} {s s2 : Sk}, bytesM L n s = .ok s2 → s.k ≤ s2.k
  | 0, s, s2, h => by injection h with h; rw [h]; exact Nat.le_refl _
  | n + 1, s, s2, h => by
    unfold bytesM at h
    split at h
    · cases h
    · have := bytesM_k h
      simp only at this
      omega
theorem storedM_k {L : List Int} {most : Int} {s s2 : Sk} (h : storedM L most s = .ok s2) : s.k ≤ s2.k := by
  unfold storedM at h
  split at h
  · cases h
  · split at h
    · cases h
    · split at h
      · cases h
      · split at h
        · cases h
        · have := bytesM_k h
          simp only at this
          omega
theorem symsM_k {l d L : List Int} {most : Int} : ∀ {f : Nat} {s s2 : Sk}, symsM l d L most f s = .ok s2 → s.k ≤ s2.k
  | 0, _, _, h => by cases h
  | f + 1, s, s2, h => by
    unfold symsM at h
    split at h
    · cases h
    · rename_i y k1 hs
      have h1 := symM_gt hs
      split at h
      · injection h with h; rw [← h]; show s.k ≤ k1; omega
      · split at h
        · cases h
        · rename_i s3 hp
          have h2 := symsM_k h
          have h3 : k1 ≤ s3.k := by
            split at hp
            · have := putM_k hp; simp only at this; omega
            · exact matchM_ge hp
          omega
theorem smallM_k {L : List Int} : ∀ {os : List Nat} {k : Nat} {sm : List Int} {k2 : Nat} {r : List Int}, smallM L os k sm = .ok (k2, r) → k ≤ k2
  | [], k, sm, k2, r, h => by injection h with h; injection h with h _; omega
  | o :: os, k, sm, k2, r, h => by
    unfold smallM at h
    split at h
    · cases h
    · have := smallM_k h
      omega
theorem rowM_k {sm L : List Int} {size : Nat} : ∀ {f k : Nat} {out : List Int} {k2 : Nat} {r : List Int}, rowM sm L size f k out = .ok (k2, r) → k ≤ k2
  | 0, k, out, k2, r, h => by injection h with h; injection h with h _; omega
  | f + 1, k, out, k2, r, h => by
    rw [rowM] at h
    split at h
    · injection h with h; injection h with h _; omega
    · cases hy : symM sm L k with
      | error e => rw [hy] at h; cases h
      | ok yk =>
        obtain ⟨y, k1⟩ := yk
        rw [hy] at h
        dsimp only at h
        have h1 := symM_gt hy
        split at h
        · cases h
        · generalize (if y = 16 then 2 else if y = 17 then 3 else if y = 18 then 7 else 0) = e at h
          generalize (if y = 16 then (3 : Int) else if y = 17 then 3 else if y = 18 then 11 else 1) = l at h
          generalize (if y = 16 then out.getD (out.length - 1) 0 else if y = 17 then 0 else if y = 18 then 0 else (y : Int)) = val at h
          cases ht : tkM L k1 e with
          | none => rw [ht] at h; cases h
          | some v =>
            rw [ht] at h
            dsimp only at h
            split at h
            · cases h
            · have := rowM_k h
              omega
theorem dynM_k {L : List Int} {k k2 : Nat} {l d : List Int} (h : dynM L k = .ok (k2, l, d)) : k ≤ k2 := by
  unfold dynM at h
  split at h
  · cases h
  · split at h
    · cases h
    · split at h
      · cases h
      · split at h
        · cases h
        · split at h
          · cases h
          · split at h
            · cases h
            · rename_i hs
              have h1 := smallM_k hs
              split at h
              · cases h
              · split at h
                · cases h
                · rename_i hr
                  have h2 := rowM_k hr
                  split at h
                  · cases h
                  · injection h with h
                    injection h with h _
                    omega
theorem blockM_k {L : List Int} {most : Int} {s s2 : Sk} {b : Bool} (h : blockM L most s = .ok (b, s2)) : s.k < s2.k := by
  unfold blockM at h
  split at h
  · cases h
  · split at h
    · cases h
    · split at h
      · cases h
      · rename_i s3 hp
        injection h with h
        injection h with _ h
        subst h
        have h3 : s.k + 3 ≤ s3.k := by
          split at hp
          · exact storedM_k hp
          · split at hp
            · exact symsM_k hp
            · split at hp
              · split at hp
                · cases hp
                · rename_i hd
                  have h1 := dynM_k hd
                  have h2 := symsM_k hp
                  simp only at h2
                  omega
              · cases hp
        omega
/-- the tokens are in form, and come to so many bytes -/
def Sound (most : Int) (s : Sk) : Prop := (∀ t ∈ s.toks, tgood t = true) ∧ ∀ r, scan most (s.toks ++ r) 0 = scan most r s.size
theorem sound_nil (most : Int) : Sound most ⟨0, 0, []⟩ := ⟨(fun t ht => by cases ht), fun _ => rfl⟩
theorem sound_put {most : Int} {s : Sk} {t : Int × Int} (h : Sound most s) (ht : tgood t = true) (h1 : ¬ (0 < t.1 ∧ s.size < t.2)) (h2 : ¬ most < s.size + tn t) (k : Nat) : Sound most ⟨k, s.size + tn t, s.toks ++ [t]⟩ := by
  refine ⟨fun x hx => ?_, fun r => ?_⟩
  · rcases List.mem_append.1 hx with hx | hx
    · exact h.1 x hx
    · rw [List.mem_singleton.1 hx]; exact ht
  · show scan most (s.toks ++ [t] ++ r) 0 = scan most r (s.size + tn t)
    rw [List.append_assoc, h.2, List.singleton_append, scan]
    have : terr most s.size t = 0 := by
      unfold terr
      rw [if_neg (by rw [ht]; decide), if_neg h1, if_neg h2]
    rw [if_pos this]
theorem putM_sound {most : Int} {s s2 : Sk} {t : Int × Int} (h : Sound most s) (ht : tgood t = true) (hp : putM most t s = .ok s2) : Sound most s2 := by
  unfold putM at hp
  split at hp
  · cases hp
  · split at hp
    · cases hp
    · injection hp with hp
      rw [← hp]
      exact sound_put h ht (by assumption) (by assumption) _
theorem sound_k {most : Int} {s : Sk} (h : Sound most s) (k : Nat) : Sound most ⟨k, s.size, s.toks⟩ := h
theorem tgood_lit {x : Int} (h0 : 0 ≤ x) (h1 : x < 256) : tgood (0, x) = true := tgood_true.2 (.inl ⟨rfl, h0, by omega⟩)
theorem bytesM_sound {L : List Int} (hL : ∀ x ∈ L, isBit x) {most : Int} : ∀ {n : Nat} {s s2 : Sk}, Sound most s → s.size + n ≤ most → bytesM L n s = .ok s2 → Sound most s2
  | 0, s, s2, h, _, hp => by injection hp with hp; rw [← hp]; exact h
  | n + 1, s, s2, h, hm, hp => by
    unfold bytesM at hp
    split at hp
    · cases hp
    · rename_i v hv
      have hb := tkM_bd hL hv
      have h256 : (2 : Int) ^ 8 = 256 := by decide
      have h3 := sound_put (t := (0, v)) h (tgood_lit hb.1 (by omega)) (by simp) (by show ¬ most < s.size + 1; omega) (s.k + 8)
      exact bytesM_sound hL h3 (by show s.size + tn (0, v) + (n : Int) ≤ most; have : tn ((0 : Int), v) = 1 := rfl; omega) hp
theorem storedM_sound {L : List Int} (hL : ∀ x ∈ L, isBit x) {most : Int} {s s2 : Sk} (h : Sound most s) (hp : storedM L most s = .ok s2) : Sound most s2 := by
  unfold storedM at hp
  split at hp
  · cases hp
  · rename_i a ha
    split at hp
    · cases hp
    · split at hp
      · cases hp
      · split at hp
        · cases hp
        · have hb := tkM_bd hL ha
          exact bytesM_sound hL (sound_k h _) (by show s.size + ((a.toNat : Nat) : Int) ≤ most; omega) hp
theorem matchM_sound {d L : List Int} (hL : ∀ x ∈ L, isBit x) {most : Int} {y : Nat} (hy : 257 ≤ y) {s s2 : Sk} (h : Sound most s) (hp : matchM d L most y s = .ok s2) : Sound most s2 := by
  unfold matchM at hp
  split at hp
  · cases hp
  · rename_i hy2
    split at hp
    · cases hp
    · rename_i n hn
      split at hp
      · cases hp
      · split at hp
        · cases hp
        · rename_i ht
          split at hp
          · cases hp
          · rename_i t k2 _ _ m hm
            have hn1 := tkM_bd hL hn
            have hm1 := tkM_bd hL hm
            have hbb : 3 ≤ lbase y ∧ lbase y + 2 ^ (lextra y).toNat ≤ 259 := by
              have h := lbase_bd ⟨y - 257, by omega⟩
              have e : (257 : Int) + ((y - 257 : Nat) : Int) = (y : Int) := by omega
              simp only [e] at h
              exact h
            have hdb : 1 ≤ dbase t ∧ dbase t + 2 ^ (dextra t).toNat ≤ 32769 := dbase_bd ⟨t, by omega⟩
            refine putM_sound (sound_k h _) (tgood_true.2 (.inr ?_)) hp
            show 3 ≤ lbase y + n ∧ lbase y + n ≤ 258 ∧ 1 ≤ dbase t + m ∧ dbase t + m ≤ 32768
            omega
theorem symsM_sound {l d L : List Int} (hL : ∀ x ∈ L, isBit x) {most : Int} : ∀ {f : Nat} {s s2 : Sk}, Sound most s → symsM l d L most f s = .ok s2 → Sound most s2
  | 0, _, _, _, h => by cases h
  | f + 1, s, s2, hs, h => by
    unfold symsM at h
    split at h
    · cases h
    · rename_i y k1 hy
      split at h
      · injection h with h; rw [← h]; exact sound_k hs _
      · rename_i hne
        split at h
        · cases h
        · rename_i s3 hp
          refine symsM_sound hL ?_ h
          split at hp
          · exact putM_sound (sound_k hs _) (tgood_lit (by omega) (by omega)) hp
          · exact matchM_sound hL (by omega) (sound_k hs _) hp
theorem blockM_sound {L : List Int} (hL : ∀ x ∈ L, isBit x) {most : Int} {s s2 : Sk} {b : Bool} (hs : Sound most s) (h : blockM L most s = .ok (b, s2)) : Sound most s2 := by
  unfold blockM at h
  split at h
  · cases h
  · split at h
    · cases h
    · split at h
      · cases h
      · rename_i s3 hp
        injection h with h
        injection h with _ h
        subst h
        split at hp
        · exact storedM_sound hL (sound_k hs _) hp
        · split at hp
          · exact symsM_sound hL (sound_k hs _) hp
          · split at hp
            · split at hp
              · cases hp
              · exact symsM_sound hL (sound_k hs _) hp
            · cases hp
theorem runM_sound {L : List Int} (hL : ∀ x ∈ L, isBit x) {most : Int} : ∀ {f : Nat} {s s2 : Sk}, Sound most s → runM L most f s = .ok s2 → Sound most s2
  | 0, _, _, _, h => by cases h
  | f + 1, s, s2, hs, h => by
    unfold runM at h
    split at h
    · cases h
    · rename_i s3 hp
      injection h with h
      rw [← h]
      exact blockM_sound hL hs hp
    · rename_i s3 hp
      exact runM_sound hL (blockM_sound hL hs hp) h
theorem infM_sound {L : List Int} (hL : ∀ x ∈ L, isBit x) {most : Int} {s2 : Sk} (h : infM L most = .ok s2) : 0 ≤ most ∧ most ≤ 4194304 ∧ scan most s2.toks 0 = 0 ∧ ∀ t ∈ s2.toks, tgood t = true := by
  unfold infM at h
  split at h
  · cases h
  · have hs := runM_sound hL (sound_nil most) h
    have h2 := hs.2 []
    rw [List.append_nil] at h2
    exact ⟨by omega, by omega, h2, hs.1⟩
end Go.Proofs.Ytegmbjkpjglgpaa
