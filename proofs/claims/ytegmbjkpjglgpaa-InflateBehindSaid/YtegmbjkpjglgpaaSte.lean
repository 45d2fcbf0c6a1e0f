/-
  Unpacking, plainly: the size is no more than what the tokens come to.
-/
import Derived.Test.YtegmbjkpjglgpaaStd
namespace Go.Proofs.Ytegmbjkpjglgpaa

def Tot (s : Sk) : Prop := s.size ≤ ((s.toks.foldl layTok []).length : Int)
theorem lay_len (out : List Int) (t : Int × Int) : ((layTok out t).length : Int) = out.length + tn t := by
  have hp := tn_pos (t := t)
  unfold layTok
  rw [iterB_length]
  omega
theorem tok_len : ∀ (l : List (Int × Int)) (out : List Int), l.length + out.length ≤ (l.foldl layTok out).length
  | [], out => by show 0 + out.length ≤ out.length; omega
  | t :: r, out => by
    have ih := tok_len r (layTok out t)
    have h := lay_len out t
    have hp := tn_pos (t := t)
    show (t :: r).length + out.length ≤ (r.foldl layTok (layTok out t)).length
    rw [List.length_cons]
    omega
theorem tot_put {most : Int} {t : Int × Int} {s r : Sk} (h : putM most t s = .ok r) (ht : Tot s) : Tot r := by
  unfold putM at h
  split at h
  · cases h
  · split at h
    · cases h
    · injection h with h
      subst h
      unfold Tot at ht ⊢
      show s.size + tn t ≤ _
      rw [List.foldl_append]
      show s.size + tn t ≤ ((layTok (s.toks.foldl layTok []) t).length : Int)
      rw [lay_len]
      omega
theorem tot_bytes {L : List Int} : ∀ (n : Nat) (s r : Sk), bytesM L n s = .ok r → Tot s → Tot r
  | 0, s, r, h, ht => by injection h with h; rw [← h]; exact ht
  | n + 1, s, r, h, ht => by
    rw [bytesM] at h
    split at h
    · cases h
    · rename_i v hv
      refine tot_bytes n _ r h ?_
      unfold Tot at ht ⊢
      show s.size + 1 ≤ (((s.toks ++ [(0, v)]).foldl layTok []).length : Int)
      rw [List.foldl_append]
      show s.size + 1 ≤ ((layTok (s.toks.foldl layTok []) (0, v)).length : Int)
      rw [lay_len]
      have : tn (0, v) = 1 := by unfold tn; rw [if_neg (by simp)]
      omega
theorem tot_match {L d : List Int} {most : Int} {y : Nat} {s r : Sk} (h : matchM d L most y s = .ok r) (ht : Tot s) : Tot r := by
  unfold matchM at h
  split at h
  · cases h
  · split at h
    · cases h
    · split at h
      · cases h
      · split at h
        · cases h
        · split at h
          · cases h
          · exact tot_put h ht
theorem tot_syms {L l d : List Int} {most : Int} : ∀ (f : Nat) (s r : Sk), symsM l d L most f s = .ok r → Tot s → Tot r
  | 0, _, _, h, _ => by cases h
  | f + 1, s, r, h, ht => by
    rw [symsM] at h
    split at h
    · cases h
    · split at h
      · injection h with h; rw [← h]; exact ht
      · split at h
        · cases h
        · rename_i hp
          refine tot_syms f _ r h ?_
          split at hp
          · exact tot_put hp ht
          · exact tot_match hp ht
theorem tot_stored {L : List Int} {most : Int} {s r : Sk} (h : storedM L most s = .ok r) (ht : Tot s) : Tot r := by
  unfold storedM at h
  split at h
  · cases h
  · split at h
    · cases h
    · split at h
      · cases h
      · split at h
        · cases h
        · exact tot_bytes _ _ r h ht
theorem tot_block {L : List Int} {most : Int} {s r : Sk} {b : Bool} (h : blockM L most s = .ok (b, r)) (ht : Tot s) : Tot r := by
  unfold blockM at h
  split at h
  · cases h
  · split at h
    · cases h
    · split at h
      · cases h
      · rename_i s3 hp
        injection h with h
        injection h with _ h
        subst h
        split at hp
        · exact tot_stored hp ht
        · split at hp
          · exact tot_syms _ _ _ hp ht
          · split at hp
            · split at hp
              · cases hp
              · exact tot_syms _ _ _ hp ht
            · cases hp
theorem tot_run {L : List Int} {most : Int} : ∀ (f : Nat) (s r : Sk), runM L most f s = .ok r → Tot s → Tot r
  | 0, _, _, h, _ => by cases h
  | f + 1, s, r, h, ht => by
    rw [runM] at h
    split at h
    · cases h
    · rename_i hb
      injection h with h
      rw [← h]
      exact tot_block hb ht
    · rename_i hb
      exact tot_run f _ r h (tot_block hb ht)
/-- what the law asks of the size: the plain length suffices as a bound -/
theorem inf_len {L : List Int} (hL : ∀ x ∈ L, isBit x) {most : Int} {s2 : Sk} (h : infM L most = .ok s2) (hn : ((s2.toks.foldl layTok []).length : Int) ≤ 4194304) : infM L ((s2.toks.foldl layTok []).length : Int) = .ok s2 := by
  unfold infM at h
  split at h
  · cases h
  · have ht : Tot s2 := tot_run _ ⟨0, 0, []⟩ s2 h (by unfold Tot; simp)
    unfold Tot at ht
    obtain ⟨_, h2⟩ := run_gro hL _ ⟨0, 0, []⟩ most s2 h
    unfold infM
    rw [if_neg (by omega)]
    exact h2 _ ht
end Go.Proofs.Ytegmbjkpjglgpaa
