/-
  wish.Parse as a plain function; a reader that has not failed has not gone back.
-/
import Derived.Test.YtfcppchjikmioaaGreatWpI
import Derived.Lib.Small
import Derived.Lib.TrimU
namespace Go.Proofs.YtfcppchjikmioaaGreat
open Go.RowKit

def szs (l : List Int) : Int := (l.map Lib.runeLen).sum
theorem szs_snoc (l : List Int) (c : Int) : szs (l ++ [c]) = szs l + Lib.runeLen c := by unfold szs; simp
theorem runeLen_bd (c : Int) : -1 ≤ Lib.runeLen c ∧ Lib.runeLen c ≤ 4 := by unfold Lib.runeLen; (repeat' split) <;> omega
theorem szs_bd (l : List Int) : -(l.length : Int) ≤ szs l ∧ szs l ≤ 4 * l.length := by
  induction l with
  | nil => exact ⟨by decide, by decide⟩
  | cons c l ih =>
    have := runeLen_bd c
    have e : szs (c :: l) = Lib.runeLen c + szs l := by unfold szs; simp
    rw [e, List.length_cons]
    omega
/-- a reader that has not failed had not failed, and has not gone back -/
def Fwd (r q : RS) : Prop := (q.l = r.l ∧ q.cut = r.cut) ∧ (q.bad = false → r.bad = false ∧ r.k ≤ q.k)
theorem Fwd.refl (r : RS) : Fwd r r := ⟨⟨rfl, rfl⟩, fun h => ⟨h, Nat.le_refl _⟩⟩
theorem Fwd.trans {a b c : RS} (h : Fwd a b) (k : Fwd b c) : Fwd a c := ⟨⟨k.1.1.trans h.1.1, k.1.2.trans h.1.2⟩, fun hc => ⟨(h.2 (k.2 hc).1).1, Nat.le_trans (h.2 (k.2 hc).1).2 (k.2 hc).2⟩⟩
theorem Fwd.fail (q : RS) (p : Nat) : Fwd q (q.fail p) := by
  unfold RS.fail
  cases hb : q.bad
  · exact ⟨⟨rfl, rfl⟩, fun h => by cases h⟩
  · exact ⟨⟨rfl, rfl⟩, fun h => by rw [if_pos rfl, hb] at h; cases h⟩
theorem Fwd.next (r : RS) : Fwd r r.next := by
  unfold RS.next
  split
  · exact Fwd.refl r
  · exact ⟨⟨rfl, rfl⟩, fun h => ⟨h, Nat.le_succ _⟩⟩
theorem Fwd.wordGo : ∀ (f : Nat) (o : List Int) (r : RS), Fwd r (wordGo f o r).2.1
  | 0, o, r => Fwd.refl r
  | f + 1, o, r => by
    cases hs : isSm r.peek
    · rw [wordGo_stop hs]
      exact Fwd.refl r
    · by_cases h6 : o.length = 16
      · rw [wordGo_full hs h6]
        exact Fwd.fail _ _
      · rw [wordGo_more hs h6]
        exact (Fwd.next r).trans (Fwd.wordGo f _ _)
theorem Fwd.wordP (r : RS) : Fwd r (wordP r).2 := by
  unfold Go.Proofs.YtfcppchjikmioaaGreat.wordP wordE
  have h := Fwd.wordGo 17 [] r
  split
  · split
    · exact h.trans (Fwd.fail _ _)
    · exact h
  · exact h
theorem Fwd.numGo : ∀ (f : Nat) (d n : Int) (r : RS), Fwd r (numGo f d n r).2.1
  | 0, d, n, r => Fwd.refl r
  | f + 1, d, n, r => by
    cases hs : isDg r.peek
    · rw [numGo_stop hs]
      exact Fwd.refl r
    · cases hz : zb n d r
      · by_cases hg : 999999999 < 10 * n + (r.peek - 48)
        · rw [numGo_great hs hz hg]
          exact Fwd.fail _ _
        · rw [numGo_more hs hz hg]
          exact (Fwd.next r).trans (Fwd.numGo f _ _ _)
      · rw [numGo_zero hs hz]
        exact Fwd.fail _ _
theorem Fwd.numH (s : Int) (r : RS) : Fwd r (numH s r).2 := by
  unfold Go.Proofs.YtfcppchjikmioaaGreat.numH
  split
  · exact Fwd.fail _ _
  · unfold numE
    have h := Fwd.numGo (r.l.length + 1) r.peek 0 r
    split <;> exact h
theorem Fwd.numP (r : RS) : Fwd r (numP r).2 := by
  unfold Go.Proofs.YtfcppchjikmioaaGreat.numP
  split
  · exact (Fwd.next r).trans (Fwd.numH _ _)
  · exact Fwd.numH _ _
theorem Fwd.quGo : ∀ (f : Nat) (o : List Int) (r : RS), Fwd r (quGo f o r).2
  | 0, o, r => Fwd.refl r
  | f + 1, o, r => by
    rw [quGo_eq]
    split
    · exact (Fwd.next r).trans (Fwd.fail _ _)
    · split
      · exact Fwd.next r
      · split
        · split
          · exact (Fwd.next r).trans (Fwd.fail _ _)
          · exact ((Fwd.next r).trans (Fwd.next _)).trans (Fwd.quGo f _ _)
        · exact (Fwd.next r).trans (Fwd.quGo f _ _)
theorem Fwd.quP (r : RS) : Fwd r (quP r).2 := (Fwd.next r).trans (Fwd.quGo _ _ _)
theorem Fwd.valP (r : RS) : Fwd r (valP r).2 := by
  unfold Go.Proofs.YtfcppchjikmioaaGreat.valP
  split
  · exact Fwd.quP r
  · split
    · exact Fwd.numP r
    · exact Fwd.wordP r
theorem Fwd.wishP (r : RS) (L : List Wsh) : Fwd r (wishP r L).2 := by
  unfold Go.Proofs.YtfcppchjikmioaaGreat.wishP
  have h1 : Fwd r (ws1 r L) := by unfold ws1; split; exact Fwd.fail _ _; exact Fwd.refl _
  have h2 := h1.trans (Fwd.wordP _)
  have h3 : ∀ q, Fwd q (ws3 q) := fun q => by unfold ws3; split; exact Fwd.fail _ _; exact Fwd.refl _
  have h4 : ∀ q nm k L, Fwd q (ws4 q nm k L) := fun q nm k L => by unfold ws4; split; exact Fwd.fail _ _; exact Fwd.refl _
  have h5 : ∀ q nm, Fwd q (ws5 q nm).2 := fun q nm => by
    unfold ws5
    split
    · exact (Fwd.next q).trans (Fwd.valP _)
    · exact Fwd.refl _
  exact ((h2.trans (h3 _)).trans (h4 _ _ _ _)).trans (h5 _ _)
def plGo : Nat → Bool → List Wsh → RS → List Wsh × RS
  | 0, _, L, r => (L, r)
  | f + 1, m, L, r => if m && !r.bad then plGo f ((wishP r L).2.peek == 44) (L ++ [(wishP r L).1]) (if (wishP r L).2.peek = 44 then (wishP r L).2.next else (wishP r L).2) else (L, r)
theorem plGo_stop {f : Nat} {m : Bool} {L : List Wsh} {r : RS} (h : (m && !r.bad) = false) : plGo f m L r = (L, r) := by
  cases f with
  | zero => rfl
  | succ f => unfold plGo; rw [h, if_neg Bool.false_ne_true]
theorem plGo_more {f : Nat} {m : Bool} {L : List Wsh} {r : RS} (h : (m && !r.bad) = true) : plGo (f + 1) m L r = plGo f ((wishP r L).2.peek == 44) (L ++ [(wishP r L).1]) (if (wishP r L).2.peek = 44 then (wishP r L).2.next else (wishP r L).2) := by
  rw [plGo, h, if_pos rfl]
def parseE (x : List Wsh × RS) : List Wsh × RS := if !x.2.bad && (decide (x.2.k < x.2.l.length) || x.2.cut) then (x.1, x.2.fail x.2.k) else x
def parseR (s : ByteArray) : RS := ⟨rnL s, decide (szs (rnL s) < (s.size : Int)), 0, false⟩
def parseP (s : ByteArray) : List Wsh × RS := parseE (plGo ((rnL s).length + 2) (decide (0 < s.size)) [] (parseR s))
theorem rnFrom_ok (s : ByteArray) : ∀ f pos, ∀ x ∈ rnFrom s f pos, 0 ≤ x ∧ x ≤ 1114111
  | 0, pos, x, h => by simp [rnFrom] at h
  | f + 1, pos, x, h => by
    unfold rnFrom at h
    split at h
    · rcases List.mem_cons.1 h with rfl | h
      · have := Lib.rune_le s pos
        omega
      · exact rnFrom_ok s f _ x h
    · simp at h
theorem rnL_ok (s : ByteArray) : ∀ x ∈ rnL s, 0 ≤ x ∧ x ≤ 1114111 := rnFrom_ok s _ _
theorem rnFrom_len (s : ByteArray) : ∀ f pos, pos ≤ s.size → (rnFrom s f pos).length + pos ≤ s.size ∨ rnFrom s f pos = [] ∨ (rnFrom s f pos).length + pos ≤ s.size + 0 ∨ (rnFrom s f pos).length ≤ s.size - pos
  | 0, pos, _ => .inr (.inl rfl)
  | f + 1, pos, h => by
    unfold rnFrom
    split
    · rename_i hc
      have hp := dec_pos hc.1
      rcases Nat.lt_or_ge s.size (pos + (Utf8.decode s pos).2) with h1 | h1
      · have e : rnFrom s f (pos + (Utf8.decode s pos).2) = [] := by
          cases f with
          | zero => rfl
          | succ f => unfold rnFrom; rw [if_neg (fun h => by omega)]
        rw [e]
        right; right; right
        simp
        omega
      · have ih := rnFrom_len s f _ h1
        right; right; right
        rw [List.length_cons]
        rcases ih with h2 | h2 | h2 | h2
        · omega
        · rw [h2]; simp; omega
        · omega
        · omega
    · exact .inr (.inl rfl)
theorem rnL_len (s : ByteArray) : (rnL s).length ≤ s.size := by
  have := rnFrom_len s (s.size + 1) 0 (Nat.zero_le _)
  unfold rnL
  rcases this with h | h | h | h
  · omega
  · rw [h]; simp
  · omega
  · omega
theorem upR_snd (L : List Int) : (upR L L.length).map (·.2) = L := by
  unfold upR
  rw [List.map_map]
  apply List.ext_getElem
  · simp
  · intro i h1 h2
    simp at h1
    simp [h1]
end Go.Proofs.YtfcppchjikmioaaGreat
