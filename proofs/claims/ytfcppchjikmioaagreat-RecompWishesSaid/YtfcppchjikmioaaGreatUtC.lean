/-
  What a text is read as is in form, and its text is no longer (plain).
-/
import Derived.Test.YtfcppchjikmioaaGreatUtB
namespace Go.Proofs.YtfcppchjikmioaaGreat
open Go.RowKit Go.Lib

def bl (l : List Int) : Nat := (l.flatMap enc).length
theorem bl_app (a b : List Int) : bl (a ++ b) = bl a + bl b := by simp [bl]
theorem bl_nil : bl [] = 0 := rfl
theorem bl_cons (c : Int) (l : List Int) : bl (c :: l) = bl [c] + bl l := bl_app [c] l
theorem bl_one (c : Int) : 1 ≤ bl [c] := by have := enc_len c; simp [bl]; omega
theorem bl_low {c : Int} (h0 : 0 ≤ c) (h : c < 128) : bl [c] = 1 := by
  obtain ⟨n, rfl⟩ : ∃ n : Nat, c = (n : Int) := ⟨c.toNat, by omega⟩
  unfold bl
  simp only [List.flatMap_cons, List.flatMap_nil, List.append_nil]
  rw [enc_one (by omega)]
  rfl
theorem bl_lows : ∀ {l : List Int}, (∀ c ∈ l, 0 ≤ c ∧ c < 128) → bl l = l.length
  | [], _ => rfl
  | c :: l, h => by
    rw [bl_cons, bl_low (h c List.mem_cons_self).1 (h c List.mem_cons_self).2, bl_lows (fun x hx => h x (List.mem_cons_of_mem _ hx)), List.length_cons, Nat.add_comm]
theorem sm_low {c : Int} (h : isSm c = true) : 0 ≤ c ∧ c < 128 := by
  unfold isSm at h
  simp at h
  omega
theorem dg_low {c : Int} (h : isDg c = true) : 0 ≤ c ∧ c < 128 := by
  unfold isDg at h
  simp at h
  omega
theorem bl_nm {nm : List Int} (h : nmOk nm) : bl nm = nm.length := bl_lows (fun c hc => sm_low (h.2.2 c hc))
theorem bl_digs (n : Nat) : bl (digs n) = (digs n).length := bl_lows (fun c hc => dg_low (digs_dg n c hc))
theorem bl_til (l : List Int) : bl l ≤ bl (tilR l) := by
  induction l with
  | nil => exact Nat.le_refl _
  | cons c l ih =>
    rw [tilR_cons, bl_cons, bl_app]
    have : bl [c] ≤ bl (if c = 34 ∨ c = 126 then [126, c] else [c]) := by
      split
      · rw [bl_cons 126]; omega
      · exact Nat.le_refl _
    omega
def TT (L : List Wsh) : Nat := bl (txF true L) + (if L.isEmpty = true then 0 else 1)
def qNmK (q : QS) : Prop := nmOk q.nm ∧ q.L.length < 16 ∧ knownQ q = false
def InvS (q : QS) (m : Nat) : Prop := goodF [] q.L ∧ match q.st with
  | 0 => q.nm = [] ∧ q.tx = [] ∧ q.n = 0 ∧ q.mi = false ∧ TT q.L ≤ m
  | 1 => nmOk q.nm ∧ q.L.length < 16 ∧ q.tx = [] ∧ q.n = 0 ∧ q.mi = false ∧ TT q.L + q.nm.length ≤ m
  | 2 => qNmK q ∧ q.tx = [] ∧ q.n = 0 ∧ q.mi = false ∧ TT q.L + q.nm.length + 1 ≤ m
  | 3 => qNmK q ∧ nmOk q.tx ∧ TT q.L + q.nm.length + 1 + q.tx.length ≤ m
  | 4 => qNmK q ∧ q.n = 0 ∧ q.mi = true ∧ TT q.L + q.nm.length + 2 ≤ m
  | 5 => qNmK q ∧ q.n = 0 ∧ q.mi = false ∧ TT q.L + q.nm.length + 2 ≤ m
  | 6 => qNmK q ∧ 1 ≤ q.n ∧ q.n ≤ 999999999 ∧ TT q.L + q.nm.length + 1 + (if q.mi = true then 1 else 0) + (digs q.n.toNat).length ≤ m
  | 7 => qNmK q ∧ (∀ c ∈ q.tx, vr c) ∧ TT q.L + q.nm.length + 2 + bl (tilR q.tx) ≤ m
  | 8 => qNmK q ∧ (∀ c ∈ q.tx, vr c) ∧ TT q.L + q.nm.length + 3 + bl (tilR q.tx) ≤ m
  | 9 => qNmK q ∧ (∀ c ∈ q.tx, vr c) ∧ TT q.L + q.nm.length + 3 + bl (tilR q.tx) ≤ m
  | _ => False
theorem plainR_of {l : List Int} (h : nmOk l) (h1 : l ≠ trueR) (h2 : l ≠ falseR) : plainR l = true := by
  unfold plainR
  simp
  exact ⟨h.1, h.2.1, h.2.2, h1, h2⟩
theorem bl_num (z : Int) : bl (txV (.n z)) = 1 + (if z < 0 then 1 else 0) + (digs z.natAbs).length := by
  show bl (61 :: ((if z < 0 then [45] else []) ++ digs z.natAbs)) = _
  rw [bl_cons, bl_app, bl_digs, bl_low (by decide) (by decide)]
  split
  · rw [bl_low (by decide) (by decide)]; omega
  · rw [bl_nil]; omega
theorem bl_word {l : List Int} (h : nmOk l) : bl (txV (wordV (runesBytes l))) ≤ 1 + l.length ∧ gVal (wordV (runesBytes l)) := by
  by_cases h1 : l = trueR
  · rw [h1, wordV_true]
    exact ⟨by show 0 ≤ _; omega, trivial⟩
  by_cases h2 : l = falseR
  · rw [h2, wordV_false]
    exact ⟨by decide, trivial⟩
  rw [wordV_plain h h1 h2]
  obtain ⟨e, ew⟩ := rn_bytes l (nm_vr h.2.2)
  refine ⟨?_, ew⟩
  rw [txV_s, e, if_pos (plainR_of h h1 h2), bl_cons, bl_nm h, bl_low (by decide) (by decide)]
  omega
theorem bl_quo {l : List Int} (h : ∀ c ∈ l, vr c) : bl (txV (.s (runesBytes l))) ≤ 3 + bl (tilR l) ∧ gVal (.s (runesBytes l)) := by
  obtain ⟨e, ew⟩ := rn_bytes l h
  refine ⟨?_, ew⟩
  rw [txV_s, e]
  have := bl_til l
  split
  · rw [bl_cons, bl_low (by decide) (by decide)]
    omega
  · rw [bl_cons, bl_cons 34, bl_app, bl_low (c := 61) (by decide) (by decide), bl_low (c := 34) (by decide) (by decide)]
    omega
theorem fin_of {L : List Wsh} {nm : List Int} {v : WV} {m k : Nat} (hL : goodF [] L) (hn : nmOk nm) (h16 : L.length < 16) (hk : knownP (runesBytes nm) L = false) (hv : bl (txV v) ≤ k ∧ gVal v) (hm : TT L + nm.length + k ≤ m) :
    goodF [] (L ++ [(runesBytes nm, v)]) ∧ bl (txF true (L ++ [(runesBytes nm, v)])) ≤ m := by
  refine ⟨(goodF_snoc [] L _).2 ⟨hL, ⟨nm, rfl, hn⟩, hv.2, by rw [List.nil_append]; exact hk, by rw [List.nil_append]; exact h16⟩, ?_⟩
  rw [txF_snoc, bl_app, bl_app, bl_app, (rn_bytes nm (nm_vr hn.2.2)).1, bl_nm hn]
  unfold TT at hm
  have : bl (if (true && L.isEmpty) = true then [] else [44]) = if L.isEmpty = true then 0 else 1 := by
    cases L.isEmpty <;> simp [bl_nil, bl_low]
  rw [this]
  show _ + (_ + (_ + bl (txV v))) ≤ m
  omega
theorem fin_ok {q : QS} {m : Nat} (h : InvS q m) (he : endsS q.st = true) (hk : q.st = 1 → knownQ q = false) : goodF [] (q.L ++ [q.closed]) ∧ bl (txF true (q.L ++ [q.closed])) ≤ m := by
  obtain ⟨st, nm, tx, n, mi, L⟩ := q
  obtain ⟨h0, h⟩ := h
  match st, he with
  | 1, _ =>
    obtain ⟨h1, h2, h3, h4, h5, h6⟩ := h
    exact fin_of (k := 0) h0 h1 h2 (hk rfl) ⟨Nat.le_refl 0, trivial⟩ h6
  | 3, _ =>
    obtain ⟨⟨h1, h2, h3⟩, h4, h5⟩ := h
    exact fin_of h0 h1 h2 h3 (bl_word h4) (by rw [← Nat.add_assoc]; exact h5)
  | 5, _ =>
    obtain ⟨⟨h1, h2, h3⟩, h4, h5, h6⟩ := h
    have h4' : n = 0 := h4
    have h5' : mi = false := h5
    subst h4' h5'
    exact fin_of (k := 2) (v := .n 0) h0 h1 h2 h3 ⟨by rw [bl_num, show (0 : Int).natAbs = 0 from rfl, digs_small (by decide)]; decide, by exact ⟨by decide, by decide⟩⟩ h6
  | 6, _ =>
    obtain ⟨⟨h1, h2, h3⟩, h4, h5, h6⟩ := h
    have h4' : 1 ≤ n := h4
    have h5' : n ≤ 999999999 := h5
    refine fin_of (k := 1 + (if mi = true then 1 else 0) + (digs n.toNat).length) (v := .n (if mi = true then -n else n)) h0 h1 h2 h3 ⟨?_, ?_⟩ (by have h6' : TT L + nm.length + 1 + (if mi = true then 1 else 0) + (digs n.toNat).length ≤ m := h6; show TT L + nm.length + (1 + (if mi = true then 1 else 0) + (digs n.toNat).length) ≤ m; omega)
    · rw [bl_num]
      cases mi
      · simp only [Bool.false_eq_true, if_false]
        rw [if_neg (by omega), show n.natAbs = n.toNat from by omega]
        exact Nat.le_refl _
      · simp only [if_true]
        rw [if_pos (by omega), show (-n).natAbs = n.toNat from by omega]
        exact Nat.le_refl _
    · show -999999999 ≤ (if mi = true then -n else n) ∧ _
      split <;> omega
  | 9, _ =>
    obtain ⟨⟨h1, h2, h3⟩, h4, h5⟩ := h
    have h5' : TT L + nm.length + 3 + bl (tilR tx) ≤ m := h5
    exact fin_of h0 h1 h2 h3 (bl_quo h4) (by omega)
theorem rstep_out {q p : QS} {c : Int} (h : rstep q c = some p) : 0 ≤ q.nx c ∧ ¬ (q.nx c = 1 ∧ q.st = 0 ∧ q.L.length = 16) ∧ ¬ (q.st = 1 ∧ q.nx c ≠ 1 ∧ knownQ q = true) ∧ p = q.go1 c (q.nx c) := by
  unfold rstep at h
  split at h
  · cases h
  · split at h
    · cases h
    · rename_i h1 h2
      injection h with h
      exact ⟨by omega, fun e => h1 (.inr e), h2, h.symm⟩
theorem inv_comma {q p : QS} {m : Nat} (h : InvS q m) (he : endsS q.st = true) (hk : q.st = 1 → knownQ q = false) (hp : p = q.go1 44 0) : InvS p (m + bl [44]) := by
  obtain ⟨h1, h2⟩ := fin_ok h he hk
  subst hp
  refine ⟨h1, rfl, rfl, rfl, rfl, ?_⟩
  show TT (q.L ++ [q.closed]) ≤ _
  unfold TT
  rw [bl_low (by decide) (by decide)]
  split <;> omega
theorem digs_snoc {n c : Int} (h1 : 1 ≤ n) (hc : isDg c = true) : digs (10 * n + (c - 48)).toNat = digs n.toNat ++ [c] := by
  unfold isDg at hc
  simp at hc
  rw [digs_big (by omega), show (10 * n + (c - 48)).toNat / 10 = n.toNat from by omega, show (48 : Int) + (((10 * n + (c - 48)).toNat % 10 : Nat) : Int) = c from by omega]
theorem inv_step {q p : QS} {m : Nat} {c : Int} (h : InvS q m) (hc : vr c) (hs : rstep q c = some p) : InvS p (m + bl [c]) := by
  obtain ⟨g1, g2, g3, g4⟩ := rstep_out hs
  clear hs
  have hb := bl_one c
  have hI := h
  obtain ⟨st, nm, tx, n, mi, L⟩ := q
  obtain ⟨h0, h⟩ := h
  match st, h with
  | 0, ⟨h1, h2, h3, h4, h5⟩ =>
    replace h1 : nm = [] := h1
    replace h2 : tx = [] := h2
    replace h3 : n = 0 := h3
    replace h4 : mi = false := h4
    subst h1 h2 h3 h4
    have e : (⟨0, [], [], 0, false, L⟩ : QS).nx c = if isSm c = true then 1 else -1 := by unfold QS.nx QS.cnt stepS; simp [endsS]
    rw [e] at g1 g2 g4
    by_cases hs : isSm c = true
    · rw [if_pos hs] at g2 g4
      subst g4
      have hL : L.length ≠ 16 := fun e => g2 ⟨rfl, rfl, e⟩
      have hle : L.length ≤ 16 := by
        clear hI e g1 g2 g3 h5 hb hL
        have : ∀ (L P : List Wsh), goodF P L → P.length ≤ 16 → (P ++ L).length ≤ 16 := by
          intro L
          induction L with
          | nil => intro P _ h; simpa using h
          | cons x L ih =>
            intro P h hP
            have := ih (P ++ [x]) h.2 (by have := h.1.2.2.2; simp; omega)
            simpa using this
        simpa using this L [] h0 (by simp)
      refine ⟨h0, ⟨?_, ?_, ?_⟩, ?_, rfl, rfl, rfl, ?_⟩
      · show 1 ≤ ([] ++ [c]).length
        simp
      · show ([] ++ [c]).length ≤ 16
        simp
      · intro x hx
        have : x = c := by simpa [QS.go1] using hx
        rw [this]; exact hs
      · show L.length < 16
        omega
      · show TT L + ([] ++ [c]).length ≤ m + bl [c]
        have : TT L ≤ m := h5
        simp
        omega
    · rw [if_neg hs] at g1
      omega
  | 1, ⟨h1, h2, h3, h4, h5, h6⟩ =>
    replace h1 : nmOk nm := h1
    replace h2 : L.length < 16 := h2
    replace h3 : tx = [] := h3
    replace h4 : n = 0 := h4
    replace h5 : mi = false := h5
    replace h6 : TT L + nm.length ≤ m := h6
    subst h3 h4 h5
    have e : (⟨1, nm, [], 0, false, L⟩ : QS).nx c = if isSm c = true ∧ nm.length < 16 then 1 else if c = 61 then 2 else if c = 44 then 0 else -1 := by
      have e16 : ((nm.length : Int) < 16) = (nm.length < 16) := propext ⟨fun h => by omega, fun h => by omega⟩
      unfold QS.nx QS.cnt stepS; simp [endsS, e16]
    rw [e] at g1 g3 g4
    by_cases hs : isSm c = true ∧ nm.length < 16
    · rw [if_pos hs] at g4
      subst g4
      refine ⟨h0, ⟨?_, ?_, ?_⟩, h2, rfl, rfl, rfl, ?_⟩
      · show 1 ≤ (nm ++ [c]).length
        simp
      · show (nm ++ [c]).length ≤ 16
        simp
        omega
      · intro x hx
        rcases List.mem_append.1 (show x ∈ nm ++ [c] from hx) with hx | hx
        · exact h1.2.2 x hx
        · rcases List.mem_singleton.1 hx with rfl
          exact hs.1
      · show TT L + (nm ++ [c]).length ≤ m + bl [c]
        simp
        omega
    · rw [if_neg hs] at g1 g3 g4
      by_cases h61 : c = 61
      · rw [if_pos h61] at g3 g4
        subst g4
        have hk : knownP (runesBytes nm) L = false := by
          cases hh : knownP (runesBytes nm) L
          · rfl
          · exact absurd ⟨rfl, by decide, hh⟩ g3
        exact ⟨h0, ⟨h1, h2, hk⟩, rfl, rfl, rfl, by show TT L + nm.length + 1 ≤ m + bl [c]; omega⟩
      · rw [if_neg h61] at g1 g3 g4
        by_cases h44 : c = 44
        · rw [if_pos h44] at g3 g4
          subst h44
          exact inv_comma hI rfl (fun _ => by
            cases hh : knownQ (⟨1, nm, [], 0, false, L⟩ : QS)
            · rfl
            · exact absurd ⟨rfl, by decide, hh⟩ g3) g4
        · rw [if_neg h44] at g1
          omega
  | 2, ⟨h1, h3, h4, h5, h6⟩ =>
    replace h3 : tx = [] := h3
    replace h4 : n = 0 := h4
    replace h5 : mi = false := h5
    replace h6 : TT L + nm.length + 1 ≤ m := h6
    subst h3 h4 h5
    have e : (⟨2, nm, [], 0, false, L⟩ : QS).nx c = _ := qe_nx (L := L) (nm := nm) (c := c)
    rw [e] at g1 g4
    by_cases hs : isSm c = true
    · rw [if_pos hs] at g4
      subst g4
      refine ⟨h0, h1, ⟨?_, ?_, ?_⟩, ?_⟩
      · show 1 ≤ ([] ++ [c]).length
        simp
      · show ([] ++ [c]).length ≤ 16
        simp
      · intro x hx
        have : x = c := by simpa [QS.go1] using hx
        rw [this]; exact hs
      · show TT L + nm.length + 1 + ([] ++ [c]).length ≤ m + bl [c]
        simp
        omega
    rw [if_neg hs] at g1 g4
    by_cases h45 : c = 45
    · rw [if_pos h45] at g4
      subst g4
      exact ⟨h0, h1, rfl, rfl, by show TT L + nm.length + 2 ≤ m + bl [c]; omega⟩
    rw [if_neg h45] at g1 g4
    by_cases h48 : c = 48
    · rw [if_pos h48] at g4
      subst g4
      exact ⟨h0, h1, rfl, rfl, by show TT L + nm.length + 2 ≤ m + bl [c]; omega⟩
    rw [if_neg h48] at g1 g4
    by_cases hd : isDg c = true
    · rw [if_pos hd] at g4
      subst g4
      have hd2 := dg_not hd
      refine ⟨h0, h1, ?_, ?_, ?_⟩
      · show 1 ≤ 10 * (0 : Int) + (c - 48)
        omega
      · show 10 * (0 : Int) + (c - 48) ≤ 999999999
        omega
      · show TT L + nm.length + 1 + (if false = true then 1 else 0) + (digs (10 * (0 : Int) + (c - 48)).toNat).length ≤ m + bl [c]
        rw [digs_small (by omega)]
        simp
        omega
    rw [if_neg hd] at g1 g4
    by_cases h34 : c = 34
    · rw [if_pos h34] at g4
      subst g4
      refine ⟨h0, h1, ?_, ?_⟩
      · intro x hx
        cases (show x ∈ ([] : List Int) from hx)
      · show TT L + nm.length + 2 + 0 ≤ m + bl [c]
        omega
    · rw [if_neg h34] at g1
      omega
  | 3, ⟨h1, h2, h6⟩ =>
    replace h2 : nmOk tx := h2
    replace h6 : TT L + nm.length + 1 + tx.length ≤ m := h6
    have e : (⟨3, nm, tx, n, mi, L⟩ : QS).nx c = if isSm c = true ∧ tx.length < 16 then 3 else if c = 44 then 0 else -1 := by
      have e16 : ((tx.length : Int) < 16) = (tx.length < 16) := propext ⟨fun h => by omega, fun h => by omega⟩
      unfold QS.nx QS.cnt stepS; simp [endsS, e16]
    rw [e] at g1 g3 g4
    by_cases hs : isSm c = true ∧ tx.length < 16
    · rw [if_pos hs] at g4
      subst g4
      refine ⟨h0, h1, ⟨?_, ?_, ?_⟩, ?_⟩
      · show 1 ≤ (tx ++ [c]).length
        simp
      · show (tx ++ [c]).length ≤ 16
        simp
        omega
      · intro x hx
        rcases List.mem_append.1 (show x ∈ tx ++ [c] from hx) with hx | hx
        · exact h2.2.2 x hx
        · rcases List.mem_singleton.1 hx with rfl
          exact hs.1
      · show TT L + nm.length + 1 + (tx ++ [c]).length ≤ m + bl [c]
        simp
        omega
    · rw [if_neg hs] at g1 g4
      by_cases h44 : c = 44
      · rw [if_pos h44] at g4
        subst h44
        exact inv_comma hI rfl (fun h => absurd h (by show ¬ (3 = 1); decide)) g4
      · rw [if_neg h44] at g1
        omega
  | 4, ⟨h1, h4, h5, h6⟩ =>
    replace h4 : n = 0 := h4
    replace h5 : mi = true := h5
    replace h6 : TT L + nm.length + 2 ≤ m := h6
    subst h4 h5
    have e : (⟨4, nm, tx, 0, true, L⟩ : QS).nx c = if isDg c = true ∧ c ≠ 48 then 6 else -1 := by unfold QS.nx QS.cnt stepS; simp [endsS]
    rw [e] at g1 g4
    by_cases hd : isDg c = true ∧ c ≠ 48
    · rw [if_pos hd] at g4
      subst g4
      have hd2 := dg_not hd.1
      have hd3 := hd.2
      refine ⟨h0, h1, ?_, ?_, ?_⟩
      · show 1 ≤ 10 * (0 : Int) + (c - 48)
        omega
      · show 10 * (0 : Int) + (c - 48) ≤ 999999999
        omega
      · show TT L + nm.length + 1 + (if true = true then 1 else 0) + (digs (10 * (0 : Int) + (c - 48)).toNat).length ≤ m + bl [c]
        rw [digs_small (by omega)]
        simp
        omega
    · rw [if_neg hd] at g1
      omega
  | 5, ⟨h1, h4, h5, h6⟩ =>
    have e : (⟨5, nm, tx, n, mi, L⟩ : QS).nx c = if c = 44 then 0 else -1 := by unfold QS.nx QS.cnt stepS; simp [endsS]
    rw [e] at g1 g4
    by_cases h44 : c = 44
    · rw [if_pos h44] at g4
      subst h44
      exact inv_comma hI rfl (fun h => absurd h (by show ¬ (5 = 1); decide)) g4
    · rw [if_neg h44] at g1
      omega
  | 6, ⟨h1, h4, h5, h6⟩ =>
    replace h4 : 1 ≤ n := h4
    replace h5 : n ≤ 999999999 := h5
    replace h6 : TT L + nm.length + 1 + (if mi = true then 1 else 0) + (digs n.toNat).length ≤ m := h6
    have e : (⟨6, nm, tx, n, mi, L⟩ : QS).nx c = if isDg c = true ∧ 10 * n + (c - 48) ≤ 999999999 then 6 else if c = 44 then 0 else -1 := by unfold QS.nx QS.cnt stepS; simp [endsS]
    rw [e] at g1 g4
    by_cases hd : isDg c = true ∧ 10 * n + (c - 48) ≤ 999999999
    · rw [if_pos hd] at g4
      subst g4
      have hd2 := dg_not hd.1
      refine ⟨h0, h1, ?_, hd.2, ?_⟩
      · show 1 ≤ 10 * n + (c - 48)
        omega
      · show TT L + nm.length + 1 + (if mi = true then 1 else 0) + (digs (10 * n + (c - 48)).toNat).length ≤ m + bl [c]
        rw [digs_snoc h4 hd.1, List.length_append]
        simp
        omega
    · rw [if_neg hd] at g1 g4
      by_cases h44 : c = 44
      · rw [if_pos h44] at g4
        subst h44
        exact inv_comma hI rfl (fun h => absurd h (by show ¬ (6 = 1); decide)) g4
      · rw [if_neg h44] at g1
        omega
  | 7, ⟨h1, h4, h6⟩ =>
    replace h4 : ∀ c ∈ tx, vr c := h4
    replace h6 : TT L + nm.length + 2 + bl (tilR tx) ≤ m := h6
    have e : (⟨7, nm, tx, n, mi, L⟩ : QS).nx c = if c = 34 then 9 else if c = 126 then 8 else 7 := by unfold QS.nx QS.cnt stepS; simp
    rw [e] at g4
    by_cases h34 : c = 34
    · rw [if_pos h34] at g4
      subst g4
      exact ⟨h0, h1, h4, by show TT L + nm.length + 3 + bl (tilR tx) ≤ m + bl [c]; omega⟩
    rw [if_neg h34] at g4
    by_cases h126 : c = 126
    · rw [if_pos h126] at g4
      subst g4
      exact ⟨h0, h1, h4, by show TT L + nm.length + 3 + bl (tilR tx) ≤ m + bl [c]; omega⟩
    · rw [if_neg h126] at g4
      subst g4
      refine ⟨h0, h1, ?_, ?_⟩
      · intro x hx
        rcases List.mem_append.1 (show x ∈ tx ++ [c] from hx) with hx | hx
        · exact h4 x hx
        · rcases List.mem_singleton.1 hx with rfl
          exact hc
      · show TT L + nm.length + 2 + bl (tilR (tx ++ [c])) ≤ m + bl [c]
        rw [tilR_app, bl_app, tilR_cons, if_neg (by omega), bl_app]
        have e0 : bl (tilR []) = 0 := rfl
        omega
  | 8, ⟨h1, h4, h6⟩ =>
    replace h4 : ∀ c ∈ tx, vr c := h4
    replace h6 : TT L + nm.length + 3 + bl (tilR tx) ≤ m := h6
    have e : (⟨8, nm, tx, n, mi, L⟩ : QS).nx c = if c = 34 ∨ c = 126 then 7 else -1 := by unfold QS.nx QS.cnt stepS; simp [endsS]
    rw [e] at g1 g4
    by_cases h34 : c = 34 ∨ c = 126
    · rw [if_pos h34] at g4
      subst g4
      refine ⟨h0, h1, ?_, ?_⟩
      · intro x hx
        rcases List.mem_append.1 (show x ∈ tx ++ [c] from hx) with hx | hx
        · exact h4 x hx
        · rcases List.mem_singleton.1 hx with rfl
          exact hc
      · show TT L + nm.length + 2 + bl (tilR (tx ++ [c])) ≤ m + bl [c]
        rw [tilR_app, bl_app, tilR_cons, if_pos h34, bl_app, bl_cons, bl_low (c := 126) (by decide) (by decide)]
        have e0 : bl (tilR []) = 0 := rfl
        omega
    · rw [if_neg h34] at g1
      omega
  | 9, ⟨h1, h4, h6⟩ =>
    have e : (⟨9, nm, tx, n, mi, L⟩ : QS).nx c = if c = 44 then 0 else -1 := by unfold QS.nx QS.cnt stepS; simp [endsS]
    rw [e] at g1 g4
    by_cases h44 : c = 44
    · rw [if_pos h44] at g4
      subst h44
      exact inv_comma hI rfl (fun h => absurd h (by show ¬ (9 = 1); decide)) g4
    · rw [if_neg h44] at g1
      omega
theorem inv_all (w : Bool) (M : List Wsh) : ∀ (l : List Int) (q : QS) (m : Nat), InvS q m → (∀ c ∈ l, vr c) → GG w l q = some M → goodF [] M ∧ bl (txF true M) ≤ m + bl l
  | [], q, m, h, _, hg => by
    rw [GG_nil] at hg
    unfold rfin at hg
    split at hg
    · cases hg
    · split at hg
      · cases hg
      · rename_i h1 h2
        injection hg with hg
        subst hg
        have he : endsS q.st = true := by
          cases hh : endsS q.st
          · exact absurd (.inr hh) h1
          · rfl
        have hk : q.st = 1 → knownQ q = false := fun e => by
          cases hh : knownQ q
          · rfl
          · exact absurd ⟨e, hh⟩ h2
        have := fin_ok h he hk
        exact ⟨this.1, by rw [bl_nil]; exact this.2⟩
  | c :: l, q, m, h, hv, hg => by
    cases hs : rstep q c with
    | none => rw [GG_none hs] at hg; cases hg
    | some p =>
      rw [GG_some hs] at hg
      have := inv_all w M l p _ (inv_step h (hv c List.mem_cons_self) hs) (fun x hx => hv x (List.mem_cons_of_mem _ hx)) hg
      rw [bl_cons]
      exact ⟨this.1, by omega⟩
/-- what a text is read as is in form, and its text is no longer -/
theorem parse_good {s : ByteArray} {M : List Wsh} (h : refP s = some M) : goodF [] M ∧ (runesBytes (txF true M)).size ≤ s.size := by
  unfold refP at h
  split at h
  · injection h with h
    subst h
    exact ⟨trivial, Nat.zero_le _⟩
  · have h1 : GG (rnWhole s) (rnL s) (Q0 []) = some M := h
    have h2 := inv_all _ M _ (Q0 []) 0 ⟨trivial, rfl, rfl, rfl, rfl, Nat.le_refl 0⟩ (rnL_vr s) h1
    refine ⟨h2.1, ?_⟩
    have e1 : (runesBytes (txF true M)).size = bl (txF true M) := by
      show (runesBytes (txF true M)).data.toList.length = _
      rw [rb_list]
      rfl
    obtain ⟨_, t, ht, _⟩ := rnG_back _ _ _ _ (Nat.lt_succ_self _) (rn_all s)
    have e2 : s.size = bl (rnL s) + t.length := by
      show s.data.toList.length = _
      rw [ht, List.length_append]
      rfl
    omega
end Go.Proofs.YtfcppchjikmioaaGreat
