/-
  The text of wishes in form, rune by rune; it is read as them (plain).
-/
import Derived.Test.YtfcppchjikmioaaGreatUtA
namespace Go.Proofs.YtfcppchjikmioaaGreat
open Go.RowKit Go.Lib

def trueR : List Int := [116, 114, 117, 101]
def falseR : List Int := [102, 97, 108, 115, 101]
def digs (n : Nat) : List Int := if h : n < 10 then [48 + (n : Int)] else digs (n / 10) ++ [48 + ((n % 10 : Nat) : Int)]
termination_by n
decreasing_by omega
theorem digs_small {n : Nat} (h : n < 10) : digs n = [48 + (n : Int)] := by rw [digs, dif_pos h]
theorem digs_big {n : Nat} (h : ¬ n < 10) : digs n = digs (n / 10) ++ [48 + ((n % 10 : Nat) : Int)] := by rw [digs, dif_neg h]
def tilR (l : List Int) : List Int := l.flatMap (fun c => if c = 34 ∨ c = 126 then [126, c] else [c])
def plainR (l : List Int) : Bool := decide (1 ≤ l.length) && (decide (l.length ≤ 16) && (l.all isSm && (!(l == trueR) && !(l == falseR))))
/-- the runes behind a name -/
def txV : WV → List Int
  | .t true => []
  | .t false => 61 :: falseR
  | .n z => 61 :: ((if z < 0 then [45] else []) ++ digs z.natAbs)
  | .s x => if plainR (rnL x) = true then 61 :: rnL x else 61 :: 34 :: (tilR (rnL x) ++ [34])
theorem txV_s (x : ByteArray) : txV (.s x) = if plainR (rnL x) = true then 61 :: rnL x else 61 :: 34 :: (tilR (rnL x) ++ [34]) := rfl
def txF : Bool → List Wsh → List Int
  | _, [] => []
  | b, x :: t => (if b = true then [] else [44]) ++ (rnL x.1 ++ txV x.2) ++ txF false t
theorem txF_snoc : ∀ (b : Bool) (L : List Wsh) (x : Wsh), txF b (L ++ [x]) = txF b L ++ ((if (b && L.isEmpty) = true then [] else [44]) ++ (rnL x.1 ++ txV x.2))
  | b, [], x => by simp [txF]
  | b, y :: L, x => by
    rw [List.cons_append, txF, txF_snoc false L x, txF]
    simp [List.append_assoc]
def nmOk (nm : List Int) : Prop := 1 ≤ nm.length ∧ nm.length ≤ 16 ∧ ∀ c ∈ nm, isSm c = true
def gName (x : ByteArray) : Prop := ∃ nm, x = runesBytes nm ∧ nmOk nm
def gVal : WV → Prop
  | .n z => -999999999 ≤ z ∧ z ≤ 999999999
  | .s x => rnWhole x = true
  | .t _ => True
def goodF : List Wsh → List Wsh → Prop
  | _, [] => True
  | P, x :: t => (gName x.1 ∧ gVal x.2 ∧ knownP x.1 P = false ∧ P.length < 16) ∧ goodF (P ++ [x]) t
theorem goodF_snoc : ∀ (P L : List Wsh) (x : Wsh), goodF P (L ++ [x]) ↔ goodF P L ∧ (gName x.1 ∧ gVal x.2 ∧ knownP x.1 (P ++ L) = false ∧ (P ++ L).length < 16)
  | P, [], x => by simp [goodF]
  | P, y :: L, x => by
    rw [List.cons_append, goodF, goodF, goodF_snoc (P ++ [y]) L x, List.append_assoc]
    exact and_assoc.symm
theorem sm_vr {c : Int} (h : isSm c = true) : vr c := by
  unfold isSm at h
  simp at h
  exact ⟨by omega, by omega, by omega⟩
theorem nm_vr {nm : List Int} (h : ∀ c ∈ nm, isSm c = true) : ∀ c ∈ nm, vr c := fun c hc => sm_vr (h c hc)
theorem dig_dg {k : Nat} (h : k < 10) : isDg (48 + (k : Int)) = true := by
  unfold isDg
  simp
  omega
theorem digs_dg (n : Nat) : ∀ c ∈ digs n, isDg c = true := by
  induction n using Nat.strongRecOn with
  | ind n ih =>
    intro c hc
    by_cases h : n < 10
    · rw [digs_small h] at hc
      rcases List.mem_singleton.1 hc with rfl
      exact dig_dg h
    · rw [digs_big h] at hc
      rcases List.mem_append.1 hc with hc | hc
      · exact ih _ (by omega) c hc
      · rcases List.mem_singleton.1 hc with rfl
        exact dig_dg (by omega)
theorem dg_vr {c : Int} (h : isDg c = true) : vr c := by
  unfold isDg at h
  simp at h
  exact ⟨by omega, by omega, by omega⟩
theorem tilR_vr {l : List Int} (h : ∀ c ∈ l, vr c) : ∀ c ∈ tilR l, vr c := by
  intro c hc
  unfold tilR at hc
  obtain ⟨x, hx, hc⟩ := List.mem_flatMap.1 hc
  split at hc
  · rcases List.mem_cons.1 hc with rfl | hc
    · exact ⟨by decide, by decide, by decide⟩
    · rcases List.mem_singleton.1 hc with rfl
      exact h _ hx
  · rcases List.mem_singleton.1 hc with rfl
    exact h _ hx
theorem v61 : vr 61 := ⟨by decide, by decide, by decide⟩
theorem v44 : vr 44 := ⟨by decide, by decide, by decide⟩
theorem v34 : vr 34 := ⟨by decide, by decide, by decide⟩
theorem v45 : vr 45 := ⟨by decide, by decide, by decide⟩
theorem falseR_sm : ∀ c ∈ falseR, isSm c = true := by decide
theorem trueR_sm : ∀ c ∈ trueR, isSm c = true := by decide
theorem txV_vr (v : WV) : ∀ c ∈ txV v, vr c := by
  intro c hc
  match v with
  | .t true => cases hc
  | .t false =>
    rcases List.mem_cons.1 hc with rfl | hc
    · exact v61
    · exact sm_vr (falseR_sm c hc)
  | .n z =>
    rcases List.mem_cons.1 hc with rfl | hc
    · exact v61
    rcases List.mem_append.1 hc with hc | hc
    · split at hc
      · rcases List.mem_singleton.1 hc with rfl
        exact v45
      · cases hc
    · exact dg_vr (digs_dg _ c hc)
  | .s x =>
    rw [txV_s] at hc
    split at hc
    · rcases List.mem_cons.1 hc with rfl | hc
      · exact v61
      · exact rnL_vr x c hc
    · rcases List.mem_cons.1 hc with rfl | hc
      · exact v61
      rcases List.mem_cons.1 hc with rfl | hc
      · exact v34
      rcases List.mem_append.1 hc with hc | hc
      · exact tilR_vr (rnL_vr x) c hc
      · rcases List.mem_singleton.1 hc with rfl
        exact v34
theorem txF_vr : ∀ (b : Bool) (L : List Wsh), ∀ c ∈ txF b L, vr c
  | _, [], c, hc => by cases hc
  | b, x :: t, c, hc => by
    unfold txF at hc
    rcases List.mem_append.1 hc with hc | hc
    · rcases List.mem_append.1 hc with hc | hc
      · split at hc
        · cases hc
        · rcases List.mem_singleton.1 hc with rfl
          exact v44
      · rcases List.mem_append.1 hc with hc | hc
        · exact rnL_vr _ c hc
        · exact txV_vr _ c hc
    · exact txF_vr false t c hc

/-! read -/
theorem runQ_app : ∀ (a b : List Int) (q : QS), runQ (a ++ b) q = (runQ a q).bind (runQ b)
  | [], b, q => rfl
  | c :: a, b, q => by
    rw [List.cons_append, runQ, runQ]
    cases rstep q c with
    | none => rfl
    | some p => exact runQ_app a b p
theorem runQ_one {c : Int} {q p : QS} (h : rstep q c = some p) (t : List Int) : runQ (c :: t) q = runQ t p := by rw [runQ, h]
theorem words_run {Q : List Int → QS} (hQ : Words Q) : ∀ (t o : List Int), (∀ c ∈ t, isSm c = true) → 1 ≤ o.length → o.length + t.length ≤ 16 → runQ t (Q o) = some (Q (o ++ t))
  | [], o, _, _, _ => by rw [List.append_nil]; rfl
  | c :: t, o, h, h1, h2 => by
    rw [List.length_cons] at h2
    rw [runQ_one (hQ.more o c (h c List.mem_cons_self) (by omega) h1), words_run hQ t (o ++ [c]) (fun x hx => h x (List.mem_cons_of_mem _ hx)) (by simp) (by simp; omega), List.append_assoc]
    rfl
theorem name_run {L : List Wsh} {nm : List Int} (h : nmOk nm) (hL : L.length < 16) : runQ nm (Q0 L) = some (QN L nm) := by
  obtain ⟨h1, h2, h3⟩ := h
  match nm, h1 with
  | c :: t, _ =>
    have hs : rstep (Q0 L) c = some (QN L [c]) := by
      rw [stepS_st (q0_nx (h3 c List.mem_cons_self)) (by decide) (fun h => by have : L.length = 16 := h.2.2; omega) (fun h => absurd h.1 (by show ¬ (0 = 1); decide))]
      rfl
    rw [runQ_one hs, words_run (words_name L) t [c] (fun x hx => h3 x (List.mem_cons_of_mem _ hx)) (by simp) (by simpa [Nat.add_comm] using h2)]
    rfl
theorem eq_step {L : List Wsh} {nm : List Int} (h : knownP (runesBytes nm) L = false) : rstep (QN L nm) 61 = some (QE L nm) := by
  have e : (QN L nm).nx 61 = 2 := by
    unfold QS.nx QS.cnt stepS QN
    simp [show isSm 61 = false from rfl]
  rw [stepS_st e (by decide) (fun h => absurd h.1 (by decide)) (fun hh => by rw [show knownQ (QN L nm) = knownP (runesBytes nm) L from rfl, h] at hh; exact absurd hh.2.2 (by decide))]
  rfl
theorem word_run {L : List Wsh} {nm w : List Int} (h : nmOk w) : runQ w (QE L nm) = some (QW L nm w) := by
  obtain ⟨h1, h2, h3⟩ := h
  match w, h1 with
  | c :: t, _ =>
    have hs : rstep (QE L nm) c = some (QW L nm [c]) := by
      rw [qe_st (x := 3) (by rw [qe_nx, if_pos (h3 c List.mem_cons_self)]) (by decide)]
      rfl
    rw [runQ_one hs, words_run (words_word L nm) t [c] (fun x hx => h3 x (List.mem_cons_of_mem _ hx)) (by simp) (by simpa [Nat.add_comm] using h2)]
    rfl
theorem digs_run {L : List Wsh} {nm : List Int} {m : Bool} {P : QS} (hP : ∀ c, isDg c = true → c ≠ 48 → rstep P c = some (QZ L nm m 6 (c - 48))) (n : Nat) (h1 : 1 ≤ n) (h2 : n ≤ 999999999) : runQ (digs n) P = some (QZ L nm m 6 (n : Int)) := by
  induction n using Nat.strongRecOn with
  | ind n ih =>
    by_cases h : n < 10
    · rw [digs_small h, runQ_one (hP _ (dig_dg h) (by omega)), show (48 + (n : Int)) - 48 = (n : Int) from by omega]
      rfl
    · rw [digs_big h, runQ_app, ih _ (by omega) (by omega) (by omega)]
      show runQ [_] _ = _
      have hd : isDg (48 + ((n % 10 : Nat) : Int)) = true := dig_dg (by omega)
      rw [runQ_one (num_step hd (by omega)), show 10 * ((n / 10 : Nat) : Int) + (48 + ((n % 10 : Nat) : Int) - 48) = (n : Int) from by omega]
      rfl
theorem tilR_cons (c : Int) (l : List Int) : tilR (c :: l) = (if c = 34 ∨ c = 126 then [126, c] else [c]) ++ tilR l := rfl
theorem tilR_app (a b : List Int) : tilR (a ++ b) = tilR a ++ tilR b := by simp [tilR]
theorem qq_step {L : List Wsh} {nm o : List Int} {c : Int} (h : ¬ (c = 34 ∨ c = 126)) : rstep (QQ L nm 7 o) c = some (QQ L nm 7 (o ++ [c])) := by
  have e : (QQ L nm 7 o).nx c = 7 := by rw [qq_nx, if_neg (fun e => h (.inl e)), if_neg (fun e => h (.inr e))]
  rw [stepS_st e (by decide) (fun h => absurd h.1 (by decide)) (fun h => absurd h.1 (by show ¬ (7 = 1); decide))]
  rfl
theorem qq_til {L : List Wsh} {nm o : List Int} : rstep (QQ L nm 7 o) 126 = some (QQ L nm 8 o) := by
  have e : (QQ L nm 7 o).nx 126 = 8 := by rw [qq_nx]; rfl
  rw [stepS_st e (by decide) (fun h => absurd h.1 (by decide)) (fun h => absurd h.1 (by show ¬ (7 = 1); decide))]
  rfl
theorem qq_end {L : List Wsh} {nm o : List Int} : rstep (QQ L nm 7 o) 34 = some (QQ L nm 9 o) := by
  have e : (QQ L nm 7 o).nx 34 = 9 := by rw [qq_nx]; rfl
  rw [stepS_st e (by decide) (fun h => absurd h.1 (by decide)) (fun h => absurd h.1 (by show ¬ (7 = 1); decide))]
  rfl
theorem qq_back {L : List Wsh} {nm o : List Int} {c : Int} (h : c = 34 ∨ c = 126) : rstep (QQ L nm 8 o) c = some (QQ L nm 7 (o ++ [c])) := by
  have e : (QQ L nm 8 o).nx c = 7 := by rw [qq_tilde, if_pos h]
  rw [stepS_st e (by decide) (fun h => absurd h.1 (by decide)) (fun h => absurd h.1 (by show ¬ (8 = 1); decide))]
  rfl
theorem til_run {L : List Wsh} {nm : List Int} : ∀ (l o : List Int), runQ (tilR l) (QQ L nm 7 o) = some (QQ L nm 7 (o ++ l))
  | [], o => by rw [List.append_nil]; rfl
  | c :: l, o => by
    rw [tilR_cons]
    split
    · rename_i h
      show runQ (126 :: c :: tilR l) _ = _
      rw [runQ_one qq_til, runQ_one (qq_back h), til_run l, List.append_assoc]
      rfl
    · rename_i h
      show runQ (c :: tilR l) _ = _
      rw [runQ_one (qq_step h), til_run l, List.append_assoc]
      rfl
theorem plainR_ok {l : List Int} (h : plainR l = true) : nmOk l ∧ l ≠ trueR ∧ l ≠ falseR := by
  unfold plainR at h
  simp at h
  exact ⟨⟨h.1, h.2.1, h.2.2.1⟩, h.2.2.2.1, h.2.2.2.2⟩
theorem ba_ne {x : ByteArray} {t l : List Int} (hx : runesBytes l = x) (hl : ∀ c ∈ l, vr c) (ht : ∀ c ∈ t, vr c) (h : l ≠ t) : (x.toList == (runesBytes t).toList) = false := by
  rw [beq_eq_false_iff_ne, ByteArray.toList_eq, ByteArray.toList_eq]
  intro e
  refine h (rb_inj hl ht (hx.trans (ba_ext e)))
theorem true_b : (runesBytes trueR).toList = [116, 114, 117, 101] := by rw [ByteArray.toList_eq, rb_list]; rfl
theorem false_b : (runesBytes falseR).toList = [102, 97, 108, 115, 101] := by rw [ByteArray.toList_eq, rb_list]; rfl
theorem wordV_false : wordV (runesBytes falseR) = .t false := by
  unfold wordV
  rw [false_b]
  rfl
theorem wordV_true : wordV (runesBytes trueR) = .t true := by
  unfold wordV
  rw [true_b]
  rfl
theorem wordV_plain {l : List Int} (h : nmOk l) (h1 : l ≠ trueR) (h2 : l ≠ falseR) : wordV (runesBytes l) = .s (runesBytes l) := by
  unfold wordV
  rw [← true_b, ba_ne rfl (nm_vr h.2.2) (nm_vr trueR_sm) h1, if_neg Bool.false_ne_true, ← false_b, ba_ne rfl (nm_vr h.2.2) (nm_vr falseR_sm) h2, if_neg Bool.false_ne_true]
/-- behind a value the wish stands whole -/
theorem val_run (L : List Wsh) (nm : List Int) (v : WV) (hn : nmOk nm) (hL : L.length < 16) (hk : knownP (runesBytes nm) L = false) (hv : gVal v) :
    ∃ q, runQ (nm ++ txV v) (Q0 L) = some q ∧ endsS q.st = true ∧ q.closed = (runesBytes nm, v) ∧ q.L = L ∧ (q.st = 1 → knownQ q = false) := by
  rw [runQ_app, name_run hn hL]
  show ∃ q, runQ (txV v) (QN L nm) = some q ∧ _
  match v, hv with
  | .t true, _ => exact ⟨QN L nm, rfl, rfl, rfl, rfl, fun _ => hk⟩
  | .t false, _ =>
    refine ⟨QW L nm falseR, ?_, rfl, ?_, rfl, fun h => absurd h (by show ¬ (3 = 1); decide)⟩
    · show runQ (61 :: falseR) _ = _
      rw [runQ_one (eq_step hk), word_run ⟨by decide, by decide, falseR_sm⟩]
    · show (runesBytes nm, wordV (runesBytes falseR)) = _
      rw [wordV_false]
  | .n z, hv =>
    have hv1 : -999999999 ≤ z := hv.1
    have hv2 : z ≤ 999999999 := hv.2
    show ∃ q, runQ (61 :: ((if z < 0 then [45] else []) ++ digs z.natAbs)) _ = some q ∧ _
    rw [runQ_one (eq_step hk)]
    by_cases h0 : z < 0
    · rw [if_pos h0]
      have hs : rstep (QE L nm) 45 = some (QZ L nm true 4 0) := by
        rw [qe_st (x := 4) (by rw [qe_nx]; rfl) (by decide)]
        rfl
      have hP : ∀ c, isDg c = true → c ≠ 48 → rstep (QZ L nm true 4 0) c = some (QZ L nm true 6 (c - 48)) := fun c hc h48 => by
        have e : (QZ L nm true 4 0).nx c = 6 := by
          unfold QS.nx QS.cnt stepS QZ
          simp [hc, h48]
        rw [stepS_st e (by omega) (fun h => absurd h.1 (by decide)) (fun h => absurd h.1 (by show ¬ (4 = 1); decide))]
        show some (QS.mk 6 nm [] (10 * 0 + (c - 48)) true L) = _
        rw [show (10 * 0 + (c - 48) : Int) = c - 48 from by omega]
        rfl
      refine ⟨QZ L nm true 6 (z.natAbs : Int), ?_, rfl, ?_, rfl, fun h => absurd h (by show ¬ (6 = 1); decide)⟩
      · show runQ (45 :: digs z.natAbs) _ = _
        rw [runQ_one hs, digs_run hP _ (by omega) (by omega)]
      · show (runesBytes nm, WV.n (-(z.natAbs : Int))) = _
        rw [show -(z.natAbs : Int) = z from by omega]
    · rw [if_neg h0, List.nil_append]
      by_cases hz : z = 0
      · subst hz
        have hs : rstep (QE L nm) 48 = some (QZ L nm false 5 0) := by
          rw [qe_st (x := 5) (by rw [qe_nx]; rfl) (by decide)]
          rfl
        refine ⟨QZ L nm false 5 0, ?_, rfl, rfl, rfl, fun h => absurd h (by show ¬ (5 = 1); decide)⟩
        rw [show (0 : Int).natAbs = 0 from rfl, digs_small (by decide)]
        exact (runQ_one hs [])
      · have hP : ∀ c, isDg c = true → c ≠ 48 → rstep (QE L nm) c = some (QZ L nm false 6 (c - 48)) := fun c hc h48 => by
          have hd := dg_not hc
          rw [qe_st (x := 6) (by rw [qe_nx, if_neg (by rw [hd.2.2]; decide), if_neg (by omega), if_neg h48, if_pos hc]) (by decide)]
          show some (QS.mk 6 nm [] (10 * 0 + (c - 48)) false L) = _
          rw [show (10 * 0 + (c - 48) : Int) = c - 48 from by omega]
          rfl
        refine ⟨QZ L nm false 6 (z.natAbs : Int), digs_run hP _ (by omega) (by omega), rfl, ?_, rfl, fun h => absurd h (by show ¬ (6 = 1); decide)⟩
        show (runesBytes nm, WV.n (z.natAbs : Int)) = _
        rw [show (z.natAbs : Int) = z from by omega]
  | .s x, hv =>
    have hw : rnWhole x = true := hv
    by_cases hp : plainR (rnL x) = true
    · obtain ⟨h1, h2, h3⟩ := plainR_ok hp
      refine ⟨QW L nm (rnL x), ?_, rfl, ?_, rfl, fun h => absurd h (by show ¬ (3 = 1); decide)⟩
      · rw [txV_s, if_pos hp, runQ_one (eq_step hk), word_run h1]
      · show (runesBytes nm, wordV (runesBytes (rnL x))) = _
        rw [wordV_plain h1 h2 h3, whole_bytes x hw]
    · have hs : rstep (QE L nm) 34 = some (QQ L nm 7 []) := by
        rw [qe_st (x := 7) (by rw [qe_nx]; rfl) (by decide)]
        rfl
      refine ⟨QQ L nm 9 (rnL x), ?_, rfl, ?_, rfl, fun h => absurd h (by show ¬ (9 = 1); decide)⟩
      · rw [txV_s, if_neg hp, runQ_one (eq_step hk), runQ_one hs, runQ_app, til_run]
        exact runQ_one qq_end []
      · show (runesBytes nm, WV.s (runesBytes (rnL x))) = _
        rw [whole_bytes x hw]
theorem comma_step {q : QS} (h : endsS q.st = true) (hk : q.st = 1 → knownQ q = false) : rstep q 44 = some (Q0 (q.L ++ [q.closed])) := by
  rw [stepS_st (nx_comma h) (by decide) (fun h => absurd h.1 (by decide)) (fun hh => by rw [hk hh.1] at hh; exact absurd hh.2.2 (by decide))]
  rfl
theorem name_r {x : ByteArray} (h : gName x) : nmOk (rnL x) ∧ runesBytes (rnL x) = x := by
  obtain ⟨nm, rfl, h⟩ := h
  rw [(rn_bytes nm (nm_vr h.2.2)).1]
  exact ⟨h, rfl⟩
theorem text_run : ∀ (t : List Wsh) (x : Wsh) (L : List Wsh), goodF L (x :: t) → GG true (rnL x.1 ++ txV x.2 ++ txF false t) (Q0 L) = some (L ++ x :: t)
  | [], x, L, h => by
    obtain ⟨⟨h1, h2, h3, h4⟩, _⟩ := h
    obtain ⟨h5, h6⟩ := name_r h1
    obtain ⟨q, q1, q2, q3, q4, q5⟩ := val_run L (rnL x.1) x.2 h5 h4 (by rw [h6]; exact h3) h2
    rw [h6] at q3
    rw [txF, List.append_nil]
    unfold GG
    rw [q1]
    show rfin q true = _
    unfold rfin
    rw [if_neg (by rw [q2]; simp), if_neg (fun h => by rw [q5 h.1] at h; exact absurd h.2 (by decide)), q3, q4]
  | y :: t, x, L, h => by
    obtain ⟨⟨h1, h2, h3, h4⟩, h0⟩ := h
    obtain ⟨h5, h6⟩ := name_r h1
    obtain ⟨q, q1, q2, q3, q4, q5⟩ := val_run L (rnL x.1) x.2 h5 h4 (by rw [h6]; exact h3) h2
    rw [h6] at q3
    rw [txF, if_neg Bool.false_ne_true, List.append_assoc, List.append_assoc]
    have ih := text_run t y (L ++ [x]) h0
    unfold GG at ih ⊢
    rw [← List.append_assoc, runQ_app, q1]
    show (match runQ (44 :: _) q with | none => none | some p => rfin p true) = _
    rw [runQ_one (comma_step q2 q5), q3, q4]
    show (match runQ (rnL y.fst ++ txV y.snd ++ txF false t) (Q0 (L ++ [x])) with | none => none | some p => rfin p true) = _
    refine ih.trans ?_
    rw [List.append_assoc]
    rfl
/-- the text of wishes in form is read as them -/
theorem text_back (L : List Wsh) (h : goodF [] L) : refP (runesBytes (txF true L)) = some L := by
  match L, h with
  | [], _ => rfl
  | x :: t, h =>
    unfold refP
    obtain ⟨h1, h2⟩ := rn_bytes _ (txF_vr true (x :: t))
    have hne : (runesBytes (txF true (x :: t))).size ≠ 0 := by
      intro e
      have e2 : (runesBytes (txF true (x :: t))).data.toList.length = 0 := e
      rw [rb_list] at e2
      have h5 := (name_r h.1.1).1.1
      unfold txF at e2
      match hn : rnL x.1, h5 with
      | c :: l, _ =>
        rw [hn] at e2
        have := enc_len c
        rw [if_pos rfl, List.nil_append, List.cons_append, List.cons_append, List.flatMap_cons, List.length_append] at e2
        omega
    rw [if_neg hne, h1, h2]
    exact text_run t x [] h
end Go.Proofs.YtfcppchjikmioaaGreat
