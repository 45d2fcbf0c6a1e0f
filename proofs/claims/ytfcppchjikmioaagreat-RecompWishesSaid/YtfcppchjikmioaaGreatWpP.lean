/-
  The reference's Parse as a plain function, state by state; it is the program's.
-/
import Derived.Test.YtfcppchjikmioaaGreatWpR
namespace Go.Proofs.YtfcppchjikmioaaGreat
open Go.RowKit Go.Lib

/-- where the reference stands -/
structure QS where
  st : Nat
  nm : List Int
  tx : List Int
  n : Int
  mi : Bool
  L : List Wsh
def endsS (st : Nat) : Bool := st == 1 || (st == 3 || (st == 5 || (st == 6 || st == 9)))
def stepS (st : Nat) (c cnt : Int) : Int :=
  if st = 0 ∧ isSm c = true then 1
  else if st = 1 ∧ isSm c = true ∧ cnt < 16 then 1
  else if st = 1 ∧ c = 61 then 2
  else if st = 2 ∧ isSm c = true then 3
  else if st = 2 ∧ c = 45 then 4
  else if st = 2 ∧ c = 48 then 5
  else if st = 2 ∧ isDg c = true then 6
  else if st = 2 ∧ c = 34 then 7
  else if st = 3 ∧ isSm c = true ∧ cnt < 16 then 3
  else if st = 4 ∧ isDg c = true ∧ c ≠ 48 then 6
  else if st = 6 ∧ isDg c = true ∧ 10 * cnt + (c - 48) ≤ 999999999 then 6
  else if st = 7 ∧ c = 34 then 9
  else if st = 7 ∧ c = 126 then 8
  else if st = 7 then 7
  else if st = 8 ∧ (c = 34 ∨ c = 126) then 7
  else if c = 44 ∧ endsS st = true then 0 else -1
namespace QS
def cnt (q : QS) : Int := if q.st = 1 then (q.nm.length : Int) else if q.st = 3 then (q.tx.length : Int) else q.n
def nx (q : QS) (c : Int) : Int := stepS q.st c q.cnt
def val (q : QS) : WV := if q.st = 1 then .t true else if q.st = 3 then wordV (runesBytes q.tx) else if q.st = 9 then .s (runesBytes q.tx) else .n (if q.mi = true then -q.n else q.n)
def closed (q : QS) : Wsh := (runesBytes q.nm, q.val)
def go1 (q : QS) (c nx : Int) : QS :=
  if nx = 0 then ⟨0, [], [], 0, false, q.L ++ [q.closed]⟩
  else if nx = 1 then { q with st := 1, nm := q.nm ++ [c] }
  else if nx = 3 then { q with st := 3, tx := q.tx ++ [c] }
  else if nx = 4 then { q with st := 4, mi := true }
  else if nx = 6 then { q with st := 6, n := 10 * q.n + (c - 48) }
  else if nx = 7 then { q with st := 7, tx := if q.st = 2 then q.tx else q.tx ++ [c] }
  else { q with st := nx.toNat }
end QS
def knownQ (q : QS) : Bool := knownP (runesBytes q.nm) q.L
def rstep (q : QS) (c : Int) : Option QS :=
  if q.nx c < 0 ∨ (q.nx c = 1 ∧ q.st = 0 ∧ q.L.length = 16) then none
  else if q.st = 1 ∧ q.nx c ≠ 1 ∧ knownQ q = true then none
  else some (q.go1 c (q.nx c))
def runQ : List Int → QS → Option QS
  | [], q => some q
  | c :: t, q => match rstep q c with
    | none => none
    | some p => runQ t p
def rfin (q : QS) (whole : Bool) : Option (List Wsh) :=
  if whole = false ∨ endsS q.st = false then none else if q.st = 1 ∧ knownQ q = true then none else some (q.L ++ [q.closed])
def Q0 (L : List Wsh) : QS := ⟨0, [], [], 0, false, L⟩
def refP (s : ByteArray) : Option (List Wsh) := if s.size = 0 then some [] else match runQ (rnL s) (Q0 []) with
  | none => none
  | some q => rfin q (rnWhole s)
def GG (whole : Bool) (l : List Int) (q : QS) : Option (List Wsh) := match runQ l q with
  | none => none
  | some p => rfin p whole
theorem GG_nil (w : Bool) (q : QS) : GG w [] q = rfin q w := rfl
theorem GG_none {w : Bool} {c : Int} {t : List Int} {q : QS} (h : rstep q c = none) : GG w (c :: t) q = none := by unfold GG runQ; rw [h]
theorem GG_some {w : Bool} {c : Int} {t : List Int} {q p : QS} (h : rstep q c = some p) : GG w (c :: t) q = GG w t p := by
  unfold GG
  rw [runQ, h]
theorem stepS_st {q : QS} {c x : Int} (h : q.nx c = x) (h0 : 0 ≤ x) (h1 : ¬ (x = 1 ∧ q.st = 0 ∧ q.L.length = 16)) (h2 : ¬ (q.st = 1 ∧ x ≠ 1 ∧ knownQ q = true)) : rstep q c = some (q.go1 c x) := by
  unfold rstep
  rw [h, if_neg (by rintro (h | h); omega; exact h1 h), if_neg h2]
theorem stepS_no {q : QS} {c : Int} (h : q.nx c = -1) : rstep q c = none := by
  unfold rstep
  rw [h, if_pos (.inl (by decide))]
theorem fin_no {q : QS} (w : Bool) (h : endsS q.st = false) : rfin q w = none := by unfold rfin; rw [if_pos (.inr h)]
theorem fin_cut (q : QS) : rfin q false = none := by unfold rfin; rw [if_pos (.inl rfl)]

/-! the reader -/
def rest (r : RS) : List Int := r.l.drop r.k
def Ok (r : RS) : Prop := r.bad = false ∧ ∀ x ∈ r.l, 0 ≤ x
theorem rest_cases {r : RS} (h : Ok r) : (rest r = [] ∧ r.peek = -1) ∨ ∃ c t, rest r = c :: t ∧ r.peek = c ∧ 0 ≤ c ∧ Ok r.next ∧ rest r.next = t ∧ r.next.cut = r.cut ∧ r.next.l = r.l ∧ r.next.k = r.k + 1 := by
  obtain ⟨hb, hx⟩ := h
  have hp : r.peek = r.l.getD r.k (-1) := by unfold RS.peek; rw [hb]; rfl
  by_cases hk : r.k < r.l.length
  · right
    have e1 : r.l.getD r.k (-1) = r.l[r.k] := by rw [List.getD_eq_getElem?_getD, List.getElem?_eq_getElem hk]; rfl
    have h0 := hx _ (List.getElem_mem hk)
    have hn : r.next = { r with k := r.k + 1 } := by unfold RS.next; rw [if_neg (by rw [hp, e1]; omega)]
    refine ⟨r.l[r.k], r.l.drop (r.k + 1), List.drop_eq_getElem_cons hk, hp.trans e1, h0, ?_⟩
    rw [hn]
    exact ⟨⟨hb, hx⟩, rfl, rfl, rfl, rfl⟩
  · left
    refine ⟨List.drop_eq_nil_of_le (by omega), ?_⟩
    rw [hp, List.getD_eq_getElem?_getD, List.getElem?_eq_none (by omega)]
    rfl
theorem fail_badP (r : RS) (p : Nat) : (r.fail p).bad = true := by
  unfold RS.fail
  cases hb : r.bad
  · rfl
  · rw [if_pos rfl, hb]
theorem fail_cut (r : RS) (p : Nat) : (r.fail p).cut = r.cut := by unfold RS.fail; split <;> rfl
theorem sm_not {c : Int} (h : isSm c = true) : c ≠ 61 ∧ c ≠ 44 ∧ c ≠ -1 ∧ c ≠ 45 ∧ c ≠ 48 ∧ c ≠ 34 ∧ isDg c = false := by
  unfold isSm at h
  unfold isDg
  simp only [Bool.and_eq_true, decide_eq_true_eq] at h
  refine ⟨by omega, by omega, by omega, by omega, by omega, by omega, ?_⟩
  rw [decide_eq_false (show ¬ c ≤ 57 by omega), Bool.and_false]
theorem dg_not {c : Int} (h : isDg c = true) : 48 ≤ c ∧ c ≤ 57 ∧ isSm c = false := by
  unfold isDg at h
  unfold isSm
  simp only [Bool.and_eq_true, decide_eq_true_eq] at h
  refine ⟨h.1, h.2, ?_⟩
  rw [decide_eq_false (show ¬ 97 ≤ c by omega), Bool.false_and]
theorem sm_end : isSm (-1) = false := rfl
theorem dg_end : isDg (-1) = false := rfl

/-! words -/
def QN (L : List Wsh) (o : List Int) : QS := ⟨1, o, [], 0, false, L⟩
def QW (L : List Wsh) (nm o : List Int) : QS := ⟨3, nm, o, 0, false, L⟩
/-- both rows of letters: the state behind so many -/
structure Words (Q : List Int → QS) : Prop where
  more : ∀ o c, isSm c = true → o.length < 16 → 1 ≤ o.length → rstep (Q o) c = some (Q (o ++ [c]))
  full : ∀ o c, isSm c = true → o.length = 16 → rstep (Q o) c = none
theorem words_name (L : List Wsh) : Words (QN L) where
  more := fun o c hc ho h1 => by
    have e : (QN L o).nx c = 1 := by
      have := sm_not hc
      unfold QS.nx QS.cnt stepS QN
      simp only [hc]
      simp [this]
      omega
    rw [stepS_st e (by omega) (fun h => absurd h.2.1 (by show ¬ (1 = 0); decide)) (fun h => absurd rfl h.2.1)]
    rfl
  full := fun o c hc ho => by
    refine stepS_no ?_
    have := sm_not hc
    unfold QS.nx QS.cnt stepS QN
    simp only [hc, ho]
    simp [this]
theorem words_word (L : List Wsh) (nm : List Int) : Words (QW L nm) where
  more := fun o c hc ho h1 => by
    have e : (QW L nm o).nx c = 3 := by
      have := sm_not hc
      unfold QS.nx QS.cnt stepS QW
      simp only [hc]
      simp [this]
      omega
    rw [stepS_st e (by omega) (fun h => absurd h.1 (by decide)) (fun h => absurd h.1 (by show ¬ (3 = 1); decide))]
    rfl
  full := fun o c hc ho => by
    refine stepS_no ?_
    have := sm_not hc
    unfold QS.nx QS.cnt stepS QW
    simp only [hc, ho]
    simp [this]
theorem word_loop {Q : List Int → QS} (hQ : Words Q) (w : Bool) : ∀ (f : Nat) (o : List Int) (r : RS), Ok r → 1 ≤ o.length → o.length ≤ 16 → 17 ≤ f + o.length →
    ((wordGo f o r).2.2 = false → (wordGo f o r).2.1.bad = true ∧ GG w (rest r) (Q o) = none) ∧
    ((wordGo f o r).2.2 = true → Ok (wordGo f o r).2.1 ∧ (wordGo f o r).2.1.cut = r.cut ∧ isSm (wordGo f o r).2.1.peek = false ∧ 1 ≤ (wordGo f o r).1.length ∧ GG w (rest r) (Q o) = GG w (rest (wordGo f o r).2.1) (Q (wordGo f o r).1))
  | 0, o, r, _, _, h2, h3 => by omega
  | f + 1, o, r, hr, h1, h2, h3 => by
    cases hs : isSm r.peek with
    | false =>
      rw [wordGo_stop hs]
      exact ⟨fun h => (by cases h), fun _ => ⟨hr, rfl, hs, h1, rfl⟩⟩
    | true =>
      rcases rest_cases hr with ⟨_, hp⟩ | ⟨c, t, e1, hp, hc, hn, e2, hcut, _⟩
      · rw [hp, sm_end] at hs; cases hs
      · rw [hp] at hs
        by_cases h6 : o.length = 16
        · rw [wordGo_full (by rw [hp]; exact hs) h6]
          refine ⟨fun _ => ⟨fail_badP _ _, ?_⟩, fun h => by cases h⟩
          rw [e1]
          exact GG_none (hQ.full o c hs h6)
        · rw [wordGo_more (by rw [hp]; exact hs) h6, hp, e1, GG_some (hQ.more o c hs (by omega) h1), ← e2]
          have := word_loop hQ w f (o ++ [c]) r.next hn (by simp) (by simp; omega) (by simp; omega)
          rw [hcut] at this
          exact this
/-- a word from its first letter on: P: the state ahead of it -/
theorem word_all {Q : List Int → QS} (hQ : Words Q) (w : Bool) (P : QS) (r : RS) (hr : Ok r) (h1 : ∀ c, r.peek = c → isSm c = true → rstep P c = some (Q [c])) :
    (isSm r.peek = false → (wordP r).2.bad = true) ∧
    (isSm r.peek = true → ((wordP r).2.bad = true → GG w (rest r) P = none) ∧
      ((wordP r).2.bad = false → Ok (wordP r).2 ∧ (wordP r).2.cut = r.cut ∧ isSm (wordP r).2.peek = false ∧ GG w (rest r) P = GG w (rest (wordP r).2) (Q (wordP r).1))) := by
  unfold wordP
  cases hs : isSm r.peek with
  | false =>
    refine ⟨fun _ => ?_, fun h => by cases h⟩
    rw [wordGo_stop hs]
    show (if true = true then (if ([] : List Int).length = 0 then (([] : List Int), r.fail r.k) else ([], r)) else ([], r)).2.bad = true
    rw [if_pos rfl, if_pos (show ([] : List Int).length = 0 from rfl)]
    exact fail_badP _ _
  | true =>
    refine ⟨fun h => (by cases h), fun _ => ?_⟩
    rcases rest_cases hr with ⟨_, hp⟩ | ⟨c, t, e1, hp, hc, hn, e2, hcut, _⟩
    · rw [hp, sm_end] at hs; cases hs
    · have h2 := h1 c hp (by rw [← hp]; exact hs)
      rw [wordGo_more hs (by simp), hp, e1, GG_some h2, ← e2, List.nil_append]
      have hl := word_loop hQ w 16 [c] r.next hn (by simp) (by simp) (by simp)
      rw [hcut] at hl
      generalize wordGo 16 [c] r.next = x at *
      obtain ⟨o, q, b⟩ := x
      cases b with
      | false =>
        obtain ⟨hb, hG⟩ := hl.1 rfl
        unfold wordE
        rw [if_neg Bool.false_ne_true]
        exact ⟨fun _ => hG, fun h => by rw [show q.bad = true from hb] at h; cases h⟩
      | true =>
        obtain ⟨ho, h3, h4, h5, hG⟩ := hl.2 rfl
        unfold wordE
        rw [if_pos rfl, if_neg (by intro h; have : 1 ≤ o.length := h5; have : o.length = 0 := h; omega)]
        exact ⟨fun h => (by rw [show q.bad = false from ho.1] at h; cases h), fun _ => ⟨ho, h3, h4, hG⟩⟩

/-! numbers -/
def QZ (L : List Wsh) (nm : List Int) (m : Bool) (st : Nat) (n : Int) : QS := ⟨st, nm, [], n, m, L⟩
theorem num_step {L : List Wsh} {nm : List Int} {m : Bool} {n c : Int} (hc : isDg c = true) (h : 10 * n + (c - 48) ≤ 999999999) : rstep (QZ L nm m 6 n) c = some (QZ L nm m 6 (10 * n + (c - 48))) := by
  have e : (QZ L nm m 6 n).nx c = 6 := by
    unfold QS.nx QS.cnt stepS QZ
    simp [hc, h]
  rw [stepS_st e (by omega) (fun h => absurd h.1 (by decide)) (fun h => absurd h.1 (by show ¬ (6 = 1); decide))]
  rfl
theorem num_great {L : List Wsh} {nm : List Int} {m : Bool} {n c : Int} (hc : isDg c = true) (h : 999999999 < 10 * n + (c - 48)) : rstep (QZ L nm m 6 n) c = none := by
  refine stepS_no ?_
  have := dg_not hc
  unfold QS.nx QS.cnt stepS QZ
  simp [hc]
  omega
theorem num_loop (L : List Wsh) (nm : List Int) (m : Bool) (d : Int) (w : Bool) : ∀ (f : Nat) (n : Int) (r : RS), Ok r → 1 ≤ n → (rest r).length < f →
    ((numGo f d n r).2.2 = false → (numGo f d n r).2.1.bad = true ∧ GG w (rest r) (QZ L nm m 6 n) = none) ∧
    ((numGo f d n r).2.2 = true → Ok (numGo f d n r).2.1 ∧ (numGo f d n r).2.1.cut = r.cut ∧ isDg (numGo f d n r).2.1.peek = false ∧ GG w (rest r) (QZ L nm m 6 n) = GG w (rest (numGo f d n r).2.1) (QZ L nm m 6 (numGo f d n r).1))
  | 0, n, r, _, _, h3 => by omega
  | f + 1, n, r, hr, h1, h3 => by
    cases hs : isDg r.peek with
    | false =>
      rw [numGo_stop hs]
      exact ⟨fun h => (by cases h), fun _ => ⟨hr, rfl, hs, rfl⟩⟩
    | true =>
      have hz : zb n d r = false := by unfold zb; rw [show (n == 0) = false from by rw [beq_eq_false_iff_ne]; omega]; rfl
      rcases rest_cases hr with ⟨_, hp⟩ | ⟨c, t, e1, hp, hc, hn, e2, hcut, _⟩
      · rw [hp, dg_end] at hs; cases hs
      · rw [hp] at hs
        by_cases h6 : 999999999 < 10 * n + (c - 48)
        · rw [numGo_great (by rw [hp]; exact hs) hz (by rw [hp]; exact h6)]
          refine ⟨fun _ => ⟨fail_badP _ _, ?_⟩, fun h => by cases h⟩
          rw [e1]
          exact GG_none (num_great hs h6)
        · have := dg_not hs
          rw [numGo_more (by rw [hp]; exact hs) hz (by rw [hp]; exact h6), hp, e1, GG_some (num_step hs (by omega)), ← e2]
          have := num_loop L nm m d w f (10 * n + (c - 48)) r.next hn (by omega) (by rw [e2]; rw [e1] at h3; simpa using h3)
          rw [hcut] at this
          exact this
theorem numE_bad (s : Int) (x : Int × RS × Bool) : (numE s x).2 = x.2.1 := by unfold numE; split <;> rfl
/-- the state behind a value, at the next rune -/
structure After (r : RS) (q : QS) (v : WV) (L : List Wsh) (nm : List Int) : Prop where
  ok : Ok r
  ends : endsS q.st = true
  val : q.val = v
  nm : q.nm = nm
  L : q.L = L
  one : q.st ≠ 1
  next : ∀ c, r.peek = c → 0 ≤ c → c ≠ 44 → rstep q c = none
theorem nx_comma {q : QS} (h : endsS q.st = true) : q.nx 44 = 0 := by
  unfold QS.nx stepS
  unfold endsS at h ⊢
  simp only [Bool.or_eq_true, beq_iff_eq] at h
  rcases h with h | h | h | h | h
  all_goals
    rw [h]
    simp [show isSm 44 = false from rfl, show isDg 44 = false from rfl]
/-- from the first digit on -/
theorem numH_ok (L : List Wsh) (nm : List Int) (w : Bool) (m : Bool) (s : Int) (hs : s = if m = true then -1 else 1) (r : RS) (hr : Ok r) (hp : r.l.getD (r.k - 1) 0 ≠ 48) (hk : r.k ≤ r.l.length)
    (P : QS) (hP1 : ∀ c, r.peek = c → isDg c = true → c ≠ 48 → rstep P c = some (QZ L nm m 6 (c - 48))) (hP2 : r.peek = 48 → m = false → rstep P 48 = some (QZ L nm m 5 0))
    (hP3 : ∀ c, r.peek = c → 0 ≤ c → (isDg c = false ∨ (c = 48 ∧ m = true)) → rstep P c = none) (hP4 : endsS P.st = false) :
    ((numH s r).2.bad = true → GG w (rest r) P = none) ∧ ((numH s r).2.bad = false → ∃ q, After (numH s r).2 q (.n (numH s r).1) L nm ∧ (numH s r).2.cut = r.cut ∧ GG w (rest r) P = GG w (rest (numH s r).2) q) := by
  unfold numH
  rcases rest_cases hr with ⟨e1, hpk⟩ | ⟨c, t, e1, hpk, hc, hn, e2, hcut, hnl, hnk⟩
  · rw [hpk, dg_end, if_pos (by rfl)]
    refine ⟨fun _ => by rw [e1, GG_nil]; exact fin_no w hP4, fun h => by rw [fail_badP] at h; cases h⟩
  · rw [hpk]
    cases hd : isDg c with
    | false =>
      rw [if_pos (by rfl)]
      refine ⟨fun _ => by rw [e1]; exact GG_none (hP3 c hpk hc (.inl hd)), fun h => by rw [fail_badP] at h; cases h⟩
    | true =>
      have hd2 := dg_not hd
      by_cases h48 : c = 48
      · subst h48
        cases m with
        | true =>
          rw [show s = -1 from hs, if_pos (by decide)]
          refine ⟨fun _ => by rw [e1]; exact GG_none (hP3 48 hpk hc (.inr ⟨rfl, rfl⟩)), fun h => by rw [fail_badP] at h; cases h⟩
        | false =>
          have hs1 : s = 1 := hs
          subst hs1
          rw [if_neg (by decide)]
          have hz : zb 0 48 r = false := by
            unfold zb
            rw [show (r.l.getD (r.k - 1) 0 == 48) = false from by rw [beq_eq_false_iff_ne]; exact hp]
            rfl
          have hl1 : 1 ≤ r.l.length := by
            have : (rest r).length = r.l.length - r.k := List.length_drop
            rw [e1, List.length_cons] at this
            omega
          obtain ⟨f, hf⟩ : ∃ f, r.l.length + 1 = f + 1 + 1 := ⟨r.l.length - 1, by omega⟩
          rw [hf, numGo_more (by rw [hpk]; exact hd) hz (by rw [hpk]; decide), hpk, e1, GG_some (hP2 hpk rfl), ← e2]
          have e48 : r.next.l.getD (r.next.k - 1) 0 = 48 := by
            rw [hnl, hnk, Nat.add_sub_cancel, List.getD_eq_getElem?_getD]
            have : r.l[r.k]? = some 48 := by
              have : (rest r)[0]? = some 48 := by rw [e1]; rfl
              unfold rest at this
              rw [List.getElem?_drop] at this
              exact this
            rw [this]; rfl
          have hst : ∀ (P2 : QS) (_ : P2 = QZ L nm false 5 0) (x : Int), isDg x = false ∨ isDg x = true → x ≠ 44 → rstep P2 x = none := by
            intro P2 h2 x _ h44
            rw [h2]
            refine stepS_no ?_
            unfold QS.nx QS.cnt stepS QZ
            simp [h44]
          have hn0 : (10 * 0 + (48 - 48) : Int) = 0 := by decide
          rw [hn0]
          cases hq : isDg r.next.peek with
          | true =>
            rw [numGo_zero hq (by unfold zb; rw [e48]; rfl), numE_bad]
            refine ⟨fun _ => ?_, fun h => by rw [fail_badP] at h; cases h⟩
            rcases rest_cases hn with ⟨_, hp2⟩ | ⟨c2, t2, e3, hp2, hc2, _⟩
            · rw [hp2, dg_end] at hq; cases hq
            · rw [e3]
              rw [hp2] at hq
              exact GG_none (hst _ rfl c2 (.inr hq) (by have := dg_not hq; omega))
          | false =>
            rw [numGo_stop hq]
            refine ⟨fun h => (by rw [numE_bad] at h; rw [hn.1] at h; cases h), fun _ => ⟨QZ L nm false 5 0, ⟨?_, rfl, ?_, rfl, rfl, by show ¬ (5 = 1); decide, ?_⟩, ?_, ?_⟩⟩
            · rw [numE_bad]; exact hn
            · rfl
            · intro c hc' h0 h44
              exact hst _ rfl c (by cases isDg c <;> simp) h44
            · rw [numE_bad]; exact hcut
            · rw [numE_bad]
      · rw [show (c == 48) = false from by rw [beq_eq_false_iff_ne]; exact h48, if_neg (by rw [Bool.false_and]; decide)]
        have hz : zb 0 c r = false := by
          unfold zb
          rw [show (c == 48) = false from by rw [beq_eq_false_iff_ne]; exact h48]
          simp
        rw [numGo_more (by rw [hpk]; exact hd) hz (by rw [hpk]; omega), hpk, e1, GG_some (hP1 c hpk hd h48), ← e2]
        have hlen : (rest r.next).length < r.l.length := by
          have h1 : (rest r).length = r.l.length - r.k := List.length_drop
          rw [e1, List.length_cons] at h1
          rw [e2]
          omega
        have hl := num_loop L nm m c w r.l.length (10 * 0 + (c - 48)) r.next hn (by omega) hlen
        have hn0 : (10 * 0 + (c - 48) : Int) = c - 48 := by omega
        rw [hcut, hn0] at hl
        rw [hn0]
        generalize numGo r.l.length c (c - 48) r.next = x at *
        obtain ⟨n2, q, b⟩ := x
        rw [numE_bad]
        cases b with
        | false =>
          obtain ⟨hb, hG⟩ := hl.1 rfl
          exact ⟨fun _ => hG, fun h => by rw [show q.bad = true from hb] at h; cases h⟩
        | true =>
          obtain ⟨ho, h3, h4, hG⟩ := hl.2 rfl
          refine ⟨fun h => (by rw [show q.bad = false from ho.1] at h; cases h), fun _ => ⟨QZ L nm m 6 n2, ⟨ho, rfl, ?_, rfl, rfl, by show ¬ (6 = 1); decide, ?_⟩, h3, hG⟩⟩
          · show WV.n (if m = true then -n2 else n2) = .n (s * n2)
            rw [hs]
            cases m <;> simp
          · intro c hc' h0 h44
            refine stepS_no ?_
            have h4' : isDg c = false := by rw [← hc']; exact h4
            unfold QS.nx QS.cnt stepS QZ
            simp [h44, h4']
end Go.Proofs.YtfcppchjikmioaaGreat
