/-
  Unpacking, plainly: bytes behind don't matter, a byte less is too few, the size alone suffices.
-/
import Derived.Test.YtegmbjkpjglgpaaStc
namespace Go.Proofs.Ytegmbjkpjglgpaa

theorem bit_of {b c : List Int} {n i : Nat} (hi : i < 8 * n) (h1 : n ≤ b.length) (h2 : n ≤ c.length) (h : ∀ j, j < n → b.getD j 0 = c.getD j 0) : (bitsL b).getD i 0 = (bitsL c).getD i 0 := by
  rw [bitsL_at _ _ (by omega), bitsL_at _ _ (by omega)]
  unfold bitA
  rw [h (i / 8) (by omega)]
theorem agr_take (b behind : List Int) (n : Nat) (hn : n ≤ b.length) : Agr (bitsL b) (bitsL (b.take n ++ behind)) (8 * n) := by
  have hl : (b.take n).length = n := by rw [List.length_take]; omega
  refine ⟨by rw [bitsL_length]; omega, by rw [bitsL_length, List.length_append]; omega, fun i hi => bit_of (n := n) hi hn (by rw [List.length_append]; omega) (fun j hj => ?_)⟩
  rw [List.getD_eq_getElem?_getD, List.getD_eq_getElem?_getD, List.getElem?_append_left (by omega), List.getElem?_take, if_pos hj]
theorem beg_take (b : List Int) (m : Nat) (hm : m ≤ b.length) : Beg (bitsL b) (bitsL (b.take m)) := by
  have hl : (b.take m).length = m := by rw [List.length_take]; omega
  refine ⟨by rw [bitsL_length, bitsL_length]; omega, fun i hi => bit_of (n := m) (by rw [bitsL_length, hl] at hi; exact hi) hm (by omega) (fun j hj => ?_)⟩
  rw [List.getD_eq_getElem?_getD, List.getD_eq_getElem?_getD, List.getElem?_take, if_pos hj]
theorem run_pos {L : List Int} {most : Int} : ∀ (f : Nat) (s s2 : Sk), runM L most f s = .ok s2 → s.k < s2.k
  | 0, _, _, h => by cases h
  | f + 1, s, s2, h => by
    rw [runM] at h
    cases hb : blockM L most s with
    | error e => rw [hb] at h; cases h
    | ok p =>
      obtain ⟨b, s3⟩ := p
      rw [hb] at h
      have hk := blockM_k hb
      cases b with
      | true => injection h with h; rw [← h]; exact hk
      | false =>
        have := run_pos f s3 s2 h
        omega
theorem inf_pos {L : List Int} {most : Int} {s2 : Sk} (h : infM L most = .ok s2) : 0 < s2.k := by
  unfold infM at h
  split at h
  · cases h
  · exact run_pos _ ⟨0, 0, []⟩ _ h
/-- bytes behind don't matter; a byte less is too few -/
theorem inf_behind {b : List Int} {most : Int} {s2 : Sk} (h : infM (bitsL b) most = .ok s2) :
    1 ≤ (s2.k + 7) / 8 ∧ (s2.k + 7) / 8 ≤ b.length ∧ (∀ behind, infM (bitsL (b.take ((s2.k + 7) / 8) ++ behind)) most = .ok s2) ∧ infM (bitsL (b.take ((s2.k + 7) / 8 - 1))) most = .error 8 := by
  have hp := inf_pos h
  obtain ⟨_, h2, h3, h4⟩ := inf_stb most (bitsL b) s2 (Nat.zero_le _) h
  have h2 : s2.k ≤ (bitsL b).length := h2
  rw [bitsL_length] at h2
  have hn : (s2.k + 7) / 8 ≤ b.length := by omega
  refine ⟨by omega, hn, fun behind => h3 _ ((agr_take b behind _ hn).less (by show s2.k ≤ _; omega)), h4 _ (beg_take b _ (by omega)) (Nat.zero_le _) ?_⟩
  show (bitsL _).length < s2.k
  rw [bitsL_length, List.length_take]
  omega
/-- a reading that puts tokens: it grows, and goes the same way with any bound that its size keeps -/
def Grows {ρ : Type} (sz : ρ → Int) (f : Int → Except Int ρ) (s0 : Int) : Prop := ∀ most r, f most = .ok r → s0 ≤ sz r ∧ ∀ m2, sz r ≤ m2 → f m2 = .ok r
theorem gro_const {ρ : Type} {sz : ρ → Int} (x : Except Int ρ) (s0 : Int) (h : ∀ r, x = .ok r → s0 ≤ sz r) : Grows sz (fun _ => x) s0 := fun _ r hr => ⟨h r hr, fun _ _ => hr⟩
theorem gro_if {ρ : Type} {sz : ρ → Int} {c : Prop} [Decidable c] {f g : Int → Except Int ρ} {s0 : Int} (h1 : c → Grows sz f s0) (h2 : ¬ c → Grows sz g s0) : Grows sz (fun m => if c then f m else g m) s0 := by
  by_cases h : c
  · intro most r hr
    simp only [if_pos h] at hr ⊢
    exact h1 h most r hr
  · intro most r hr
    simp only [if_neg h] at hr ⊢
    exact h2 h most r hr
theorem gro_bind {ρ σ : Type} {sz : ρ → Int} {sj : σ → Int} {f : Int → Except Int ρ} {g : ρ → Int → Except Int σ} {s0 : Int} (hf : Grows sz f s0) (hg : ∀ r, Grows sj (g r) (sz r)) : Grows sj (fun m => match f m with | .error e => .error e | .ok r => g r m) s0 := by
  intro most r hr
  dsimp only at hr ⊢
  cases ht : f most with
  | error e => rw [ht] at hr; cases hr
  | ok r1 =>
    rw [ht] at hr
    obtain ⟨a1, a2⟩ := hf most r1 ht
    obtain ⟨b1, b2⟩ := hg r1 most r hr
    exact ⟨by omega, fun m2 hm => by rw [a2 m2 (by omega)]; exact b2 m2 hm⟩
theorem gro_congr {ρ : Type} {sz : ρ → Int} {f g : Int → Except Int ρ} {s0 : Int} (h : Grows sz f s0) (e : ∀ m, g m = f m) : Grows sz g s0 := by
  have : g = f := funext e
  rw [this]; exact h
def skS (s : Sk) : Int := s.size
theorem put_gro (t : Int × Int) (s : Sk) : Grows skS (fun m => putM m t s) s.size := by
  intro most r hr
  have hp := tn_pos (t := t)
  dsimp only at hr ⊢
  unfold putM at hr ⊢
  split at hr
  · cases hr
  · rename_i h1
    split at hr
    · cases hr
    · injection hr with hr
      subst hr
      refine ⟨by show s.size ≤ s.size + tn t; omega, fun m2 hm => ?_⟩
      have hm : s.size + tn t ≤ m2 := hm
      rw [if_neg h1, if_neg (by omega)]
theorem bytes_size {L : List Int} : ∀ (n : Nat) (s r : Sk), bytesM L n s = .ok r → r.size = s.size + n
  | 0, s, r, h => by injection h with h; rw [← h]; omega
  | n + 1, s, r, h => by
    rw [bytesM] at h
    split at h
    · cases h
    · have := bytes_size n _ r h
      rw [this]
      show s.size + 1 + (n : Int) = _
      omega
theorem stored_gro {L : List Int} (hL : ∀ x ∈ L, isBit x) (s : Sk) : Grows skS (fun m => storedM L m s) s.size := by
  intro most r hr
  dsimp only at hr ⊢
  unfold storedM at hr ⊢
  split at hr
  · cases hr
  · rename_i a ha
    have hab := tkM_bd hL ha
    split at hr
    · cases hr
    · split at hr
      · cases hr
      · rename_i h1
        split at hr
        · cases hr
        · rename_i h2
          have hs := bytes_size _ _ _ hr
          have hs : r.size = s.size + (a.toNat : Int) := hs
          refine ⟨by show s.size ≤ r.size; omega, fun m2 hm => ?_⟩
          have hm : r.size ≤ m2 := hm
          rw [if_neg h1, if_neg (by omega)]
          exact hr
theorem match_gro (L d : List Int) (y : Nat) (s : Sk) : Grows skS (fun m => matchM d L m y s) s.size := by
  intro most r hr
  have hr : matchM d L most y s = .ok r := hr
  unfold matchM at hr
  by_cases h1 : 285 < y
  · rw [if_pos h1] at hr; cases hr
  rw [if_neg h1] at hr
  cases e1 : tkM L s.k (lextra y).toNat with
  | none => rw [e1] at hr; cases hr
  | some n =>
    rw [e1] at hr
    dsimp only at hr
    cases e2 : symM d L (s.k + (lextra y).toNat) with
    | error e => rw [e2] at hr; cases hr
    | ok p =>
      obtain ⟨t, k2⟩ := p
      rw [e2] at hr
      dsimp only at hr
      by_cases h2 : 29 < t
      · rw [if_pos h2] at hr; cases hr
      rw [if_neg h2] at hr
      cases e3 : tkM L k2 (dextra t).toNat with
      | none => rw [e3] at hr; cases hr
      | some m =>
        rw [e3] at hr
        dsimp only at hr
        have hp := put_gro (lbase y + n, dbase t + m) ⟨k2 + (dextra t).toNat, s.size, s.toks⟩ most r hr
        refine ⟨hp.1, fun m2 hm => ?_⟩
        show matchM d L m2 y s = .ok r
        unfold matchM
        rw [if_neg h1, e1]
        dsimp only
        rw [e2]
        dsimp only
        rw [if_neg h2, e3]
        exact hp.2 m2 hm
theorem syms_gro (L l d : List Int) : ∀ (f : Nat) (s : Sk), Grows skS (fun m => symsM l d L m f s) s.size
  | 0, s => gro_const _ _ (fun r h => by cases h)
  | f + 1, s => by
    cases hs : symM l L s.k with
    | error e =>
      refine gro_congr (f := fun _ => (.error e : Except Int Sk)) (gro_const _ _ (fun r h => by cases h)) (fun m => ?_)
      rw [symsM, hs]
    | ok p =>
      obtain ⟨y, k1⟩ := p
      have h1 : Grows skS (fun m => if y < 256 then putM m (0, (y : Int)) ⟨k1, s.size, s.toks⟩ else matchM d L m y ⟨k1, s.size, s.toks⟩) s.size := gro_if (fun _ => put_gro _ ⟨k1, s.size, s.toks⟩) (fun _ => match_gro L d y ⟨k1, s.size, s.toks⟩)
      have h2 := gro_bind (sj := skS) h1 (fun s2 => syms_gro L l d f s2)
      refine gro_congr (gro_if (c := y = 256) (fun _ => gro_const (sz := skS) (.ok ⟨k1, s.size, s.toks⟩) s.size (fun r h => by injection h with h; rw [← h]; exact Int.le_refl _)) (fun _ => h2)) (fun m => ?_)
      rw [symsM, hs]
      dsimp only
      split
      · rfl
      · cases (if y < 256 then putM m (0, (y : Int)) ⟨k1, s.size, s.toks⟩ else matchM d L m y ⟨k1, s.size, s.toks⟩) <;> rfl
def sib (r : Bool × Sk) : Int := r.2.size
theorem kM_gro {L : List Int} (hL : ∀ x ∈ L, isBit x) (kind : Int) (s : Sk) : Grows skS (fun m => kM L m kind s) s.size := by
  unfold kM
  refine gro_if (fun _ => stored_gro hL ⟨s.k + 3, s.size, s.toks⟩) (fun _ => gro_if (fun _ => syms_gro L fixL fixD _ ⟨s.k + 3, s.size, s.toks⟩) (fun _ => gro_if (fun _ => ?_) (fun _ => gro_const _ _ (fun r h => by cases h))))
  cases dynM L (s.k + 3) with
  | error e => exact gro_const _ _ (fun r h => by cases h)
  | ok p =>
    obtain ⟨k2, l, d⟩ := p
    exact syms_gro L l d _ ⟨k2, s.size, s.toks⟩
theorem blockM_kM {L : List Int} {most : Int} {s : Sk} {last kind : Int} (h1 : tkM L s.k 1 = some last) (h2 : tkM L (s.k + 1) 2 = some kind) : blockM L most s = match kM L most kind s with
    | .error e => .error e
    | .ok s2 => .ok (decide (last = 1), s2) := by
  unfold blockM
  rw [h1]
  dsimp only
  rw [h2]
  dsimp only
  unfold kM
  by_cases h0 : kind = 0
  · rw [if_pos h0, if_pos h0]
    cases storedM L most ⟨s.k + 3, s.size, s.toks⟩ <;> rfl
  · rw [if_neg h0, if_neg h0]
    by_cases h1 : kind = 1
    · rw [if_pos h1, if_pos h1]
      cases symsAll fixL fixD L most ⟨s.k + 3, s.size, s.toks⟩ <;> rfl
    · rw [if_neg h1, if_neg h1]
      by_cases h2 : kind = 2
      · rw [if_pos h2, if_pos h2]
        cases dynM L (s.k + 3) with
        | error e => rfl
        | ok p =>
          obtain ⟨k2, l, d⟩ := p
          dsimp only
          cases symsAll l d L most ⟨k2, s.size, s.toks⟩ <;> rfl
      · rw [if_neg h2, if_neg h2]
theorem block_gro {L : List Int} (hL : ∀ x ∈ L, isBit x) (s : Sk) : Grows sib (fun m => blockM L m s) s.size := by
  cases h1 : tkM L s.k 1 with
  | none =>
    refine gro_congr (f := fun _ => (.error 8 : Except Int (Bool × Sk))) (gro_const _ _ (fun r h => by cases h)) (fun m => ?_)
    unfold blockM
    rw [h1]
  | some last =>
    cases h2 : tkM L (s.k + 1) 2 with
    | none =>
      refine gro_congr (f := fun _ => (.error 8 : Except Int (Bool × Sk))) (gro_const _ _ (fun r h => by cases h)) (fun m => ?_)
      unfold blockM
      rw [h1]
      dsimp only
      rw [h2]
    | some kind =>
      refine gro_congr (gro_bind (sj := sib) (kM_gro hL kind s) (fun s2 => gro_const (.ok (decide (last = 1), s2)) s2.size (fun r h => by injection h with h; rw [← h]; exact Int.le_refl _))) (fun m => ?_)
      rw [blockM_kM h1 h2]
      cases kM L m kind s <;> rfl
theorem run_gro {L : List Int} (hL : ∀ x ∈ L, isBit x) : ∀ (f : Nat) (s : Sk), Grows skS (fun m => runM L m f s) s.size
  | 0, s => gro_const _ _ (fun r h => by cases h)
  | f + 1, s => by
    have h1 : ∀ r : Bool × Sk, Grows skS (fun m => if r.1 = true then (.ok r.2 : Except Int Sk) else runM L m f r.2) (sib r) := fun r => gro_if (fun _ => gro_const _ _ (fun q h => by injection h with h; rw [← h]; exact Int.le_refl _)) (fun _ => run_gro hL f r.2)
    refine gro_congr (gro_bind (block_gro hL s) h1) (fun m => ?_)
    rw [runM]
    cases blockM L m s with
    | error e => rfl
    | ok p =>
      obtain ⟨b, s2⟩ := p
      cases b <;> rfl
/-- the size alone suffices as a bound -/
theorem inf_most {L : List Int} (hL : ∀ x ∈ L, isBit x) {most : Int} {s2 : Sk} (h : infM L most = .ok s2) : 0 ≤ s2.size ∧ infM L s2.size = .ok s2 ∨ 4194304 < s2.size := by
  unfold infM at h
  split at h
  · cases h
  · obtain ⟨h1, h2⟩ := run_gro hL _ ⟨0, 0, []⟩ most s2 h
    have h1 : (0 : Int) ≤ s2.size := h1
    by_cases hb : 4194304 < s2.size
    · exact .inr hb
    · refine .inl ⟨h1, ?_⟩
      unfold infM
      rw [if_neg (by omega)]
      exact h2 s2.size (Int.le_refl _)
end Go.Proofs.Ytegmbjkpjglgpaa
