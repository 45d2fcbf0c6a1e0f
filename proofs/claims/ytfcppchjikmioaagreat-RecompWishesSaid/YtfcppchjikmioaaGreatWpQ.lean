/-
  The reference's Parse is the program's: quoted texts, values, wishes, the whole.
-/
import Derived.Test.YtfcppchjikmioaaGreatWpP
import Derived.Lib.MapLaws
import Derived.Lib.TrimUEq
namespace Go.Proofs.YtfcppchjikmioaaGreat
open Go.RowKit Go.Lib

def QQ (L : List Wsh) (nm : List Int) (st : Nat) (o : List Int) : QS := ⟨st, nm, o, 0, false, L⟩
theorem qq_nx {L : List Wsh} {nm o : List Int} {c : Int} : (QQ L nm 7 o).nx c = if c = 34 then 9 else if c = 126 then 8 else 7 := by
  unfold QS.nx QS.cnt stepS QQ
  simp
theorem qq_tilde {L : List Wsh} {nm o : List Int} {c : Int} : (QQ L nm 8 o).nx c = if c = 34 ∨ c = 126 then 7 else -1 := by
  unfold QS.nx QS.cnt stepS QQ
  simp [endsS]
theorem qu_loop (L : List Wsh) (nm : List Int) (w : Bool) : ∀ (f : Nat) (o : List Int) (r : RS), Ok r → (rest r).length < f →
    ((quGo f o r).2.bad = true → GG w (rest r) (QQ L nm 7 o) = none) ∧
    ((quGo f o r).2.bad = false → Ok (quGo f o r).2 ∧ (quGo f o r).2.cut = r.cut ∧ GG w (rest r) (QQ L nm 7 o) = GG w (rest (quGo f o r).2) (QQ L nm 9 (quGo f o r).1))
  | 0, o, r, _, h => by omega
  | f + 1, o, r, hr, hf => by
    rcases rest_cases hr with ⟨e1, hp⟩ | ⟨c, t, e1, hp, hc, hn, e2, hcut, _⟩
    · rw [quGo_end hp]
      refine ⟨fun _ => by rw [e1, GG_nil]; exact fin_no w rfl, fun h => by rw [fail_badP] at h; cases h⟩
    · by_cases h34 : c = 34
      · rw [quGo_quote (by rw [hp]; exact h34)]
        refine ⟨fun h => (by rw [show r.next.bad = false from hn.1] at h; cases h), fun _ => ⟨hn, hcut, ?_⟩⟩
        rw [e1, GG_some (p := QQ L nm 9 o) ?_, ← e2]
        rw [stepS_st (x := 9) (by rw [qq_nx, if_pos h34]) (by decide) (fun h => absurd h.1 (by decide)) (fun h => absurd h.1 (by show ¬ (7 = 1); decide))]
        rfl
      · by_cases h126 : c = 126
        · have e8 : rstep (QQ L nm 7 o) c = some (QQ L nm 8 o) := by
            rw [stepS_st (x := 8) (by rw [qq_nx, if_neg h34, if_pos h126]) (by decide) (fun h => absurd h.1 (by decide)) (fun h => absurd h.1 (by show ¬ (7 = 1); decide))]
            rfl
          by_cases hb : r.next.peek ≠ 34 ∧ r.next.peek ≠ 126
          · rw [quGo_bad (by rw [hp]; exact h126) hb]
            refine ⟨fun _ => ?_, fun h => by rw [fail_badP] at h; cases h⟩
            rw [e1, GG_some e8, ← e2]
            rcases rest_cases hn with ⟨e3, _⟩ | ⟨c2, t2, e3, hp2, _⟩
            · rw [e3, GG_nil]; exact fin_no w rfl
            · rw [e3]
              refine GG_none (stepS_no ?_)
              rw [qq_tilde, if_neg (by rw [← hp2]; omega)]
          · rw [quGo_tilde (by rw [hp]; exact h126) hb]
            rcases rest_cases hn with ⟨_, hp2⟩ | ⟨c2, t2, e3, hp2, hc2, hn2, e4, hcut2, _⟩
            · exact absurd ⟨by omega, by omega⟩ hb
            · rw [hp2, e1, GG_some e8, ← e2, e3]
              have e7 : rstep (QQ L nm 8 o) c2 = some (QQ L nm 7 (o ++ [c2])) := by
                rw [stepS_st (x := 7) (by rw [qq_tilde, if_pos (by rw [← hp2]; omega)]) (by decide) (fun h => absurd h.1 (by decide)) (fun h => absurd h.1 (by show ¬ (8 = 1); decide))]
                rfl
              rw [GG_some e7, ← e4]
              have hl : (rest r.next.next).length < f := by
                rw [e4]
                have h1 : (rest r).length = t.length + 1 := by rw [e1]; rfl
                have h2 : (rest r.next).length = t2.length + 1 := by rw [e3]; rfl
                rw [e2] at h2
                omega
              have := qu_loop L nm w f (o ++ [c2]) r.next.next hn2 hl
              rw [hcut2, hcut] at this
              exact this
        · rw [quGo_char (by rw [hp]; omega) (by rw [hp]; exact h34) (by rw [hp]; exact h126), hp]
          have e7 : rstep (QQ L nm 7 o) c = some (QQ L nm 7 (o ++ [c])) := by
            rw [stepS_st (x := 7) (by rw [qq_nx, if_neg h34, if_neg h126]) (by decide) (fun h => absurd h.1 (by decide)) (fun h => absurd h.1 (by show ¬ (7 = 1); decide))]
            rfl
          rw [e1, GG_some e7, ← e2]
          have hl : (rest r.next).length < f := by
            rw [e2]
            have h1 : (rest r).length = t.length + 1 := by rw [e1]; rfl
            omega
          have := qu_loop L nm w f (o ++ [c]) r.next hn hl
          rw [hcut] at this
          exact this

def QE (L : List Wsh) (nm : List Int) : QS := ⟨2, nm, [], 0, false, L⟩
theorem qe_nx {L : List Wsh} {nm : List Int} {c : Int} : (QE L nm).nx c = if isSm c = true then 3 else if c = 45 then 4 else if c = 48 then 5 else if isDg c = true then 6 else if c = 34 then 7 else -1 := by
  unfold QS.nx QS.cnt stepS QE
  simp [endsS]
theorem qe_st {L : List Wsh} {nm : List Int} {c x : Int} (h : (QE L nm).nx c = x) (h0 : 0 ≤ x) : rstep (QE L nm) c = some ((QE L nm).go1 c x) :=
  stepS_st h h0 (fun h => absurd h.2.1 (by show ¬ (2 = 0); decide)) (fun h => absurd h.1 (by show ¬ (2 = 1); decide))
theorem rest_len (r : RS) : (rest r).length = r.l.length - r.k := List.length_drop
theorem val_all (L : List Wsh) (nm : List Int) (w : Bool) (r : RS) (hr : Ok r) (hprev : r.l.getD (r.k - 1) 0 = 61) (hk : r.k ≤ r.l.length) :
    ((valP r).2.bad = true → GG w (rest r) (QE L nm) = none) ∧ ((valP r).2.bad = false → ∃ q, After (valP r).2 q (valP r).1 L nm ∧ (valP r).2.cut = r.cut ∧ GG w (rest r) (QE L nm) = GG w (rest (valP r).2) q) := by
  unfold valP
  by_cases h34 : r.peek = 34
  · rw [if_pos h34]
    rcases rest_cases hr with ⟨_, hp⟩ | ⟨c, t, e1, hp, hc, hn, e2, hcut, hnl, hnk⟩
    · omega
    · have hc34 : c = 34 := by omega
      subst hc34
      have e7 : rstep (QE L nm) 34 = some (QQ L nm 7 []) := by
        rw [qe_st (x := 7) (by rw [qe_nx]; decide) (by decide)]
        rfl
      rw [e1, GG_some e7, ← e2]
      have hl : (rest r.next).length < r.l.length + 1 := by rw [rest_len, hnl]; omega
      have := qu_loop L nm w (r.l.length + 1) [] r.next hn hl
      unfold quP
      rw [hcut] at this
      refine ⟨this.1, fun hb => ?_⟩
      obtain ⟨h1, h2, h3⟩ := this.2 hb
      refine ⟨_, ⟨h1, rfl, rfl, rfl, rfl, by show ¬ (9 = 1); decide, ?_⟩, h2, h3⟩
      intro c _ _ h44
      refine stepS_no ?_
      unfold QS.nx QS.cnt stepS QQ
      simp [h44]
  · rw [if_neg h34]
    by_cases hd : r.peek = 45 ∨ isDg r.peek = true
    · rw [if_pos hd]
      unfold numP
      by_cases h45 : r.peek = 45
      · rw [if_pos h45]
        rcases rest_cases hr with ⟨_, hp⟩ | ⟨c, t, e1, hp, hc, hn, e2, hcut, hnl, hnk⟩
        · omega
        · have hc45 : c = 45 := by omega
          subst hc45
          have e4 : rstep (QE L nm) 45 = some (QZ L nm true 4 0) := by
            rw [qe_st (x := 4) (by rw [qe_nx]; decide) (by decide)]
            rfl
          rw [e1, GG_some e4, ← e2]
          have hat : r.l[r.k]? = some 45 := by
            have h1 : (rest r)[0]? = some 45 := by rw [e1]; rfl
            unfold rest at h1
            rw [List.getElem?_drop] at h1
            exact h1
          have hlt : r.k < r.l.length := (List.getElem?_eq_some_iff.1 hat).1
          have hh := numH_ok L nm w true (-1) rfl r.next hn (by rw [hnl, hnk, Nat.add_sub_cancel, List.getD_eq_getElem?_getD, hat]; decide) (by rw [hnl, hnk]; omega) (QZ L nm true 4 0)
            (fun c _ hc h48 => by
              have e : (QZ L nm true 4 0).nx c = 6 := by
                unfold QS.nx QS.cnt stepS QZ
                simp [hc, h48]
              rw [stepS_st e (by omega) (fun h => absurd h.1 (by decide)) (fun h => absurd h.1 (by show ¬ (4 = 1); decide))]
              show some (QZ L nm true 6 (10 * 0 + (c - 48))) = _
              rw [show (10 * 0 + (c - 48) : Int) = c - 48 by omega])
            (fun _ h => by cases h)
            (fun c _ h0 hc => by
              refine stepS_no ?_
              unfold QS.nx QS.cnt stepS QZ
              rcases hc with hc | ⟨rfl, _⟩
              · simp [hc, endsS]
              · simp [endsS]) rfl
          rw [hcut] at hh
          exact hh
      · rw [if_neg h45]
        exact numH_ok L nm w false 1 rfl r hr (by rw [hprev]; decide) hk (QE L nm)
          (fun c hp hc h48 => by
            have := dg_not hc
            rw [qe_st (x := 6) (by rw [qe_nx, if_neg (by rw [this.2.2]; decide), if_neg (by omega), if_neg h48, if_pos hc]) (by decide)]
            show some (QZ L nm false 6 (10 * 0 + (c - 48))) = _
            rw [show (10 * 0 + (c - 48) : Int) = c - 48 by omega])
          (fun hp _ => by
            rw [qe_st (x := 5) (by rw [qe_nx]; decide) (by decide)]
            rfl)
          (fun c hp h0 hc => by
            rcases hc with hc | ⟨_, h⟩
            · rw [hp, hc] at hd
              exact absurd hd (by rintro (h | h); exact h45 (hp.trans h); cases h)
            · cases h) rfl
    · rw [if_neg hd]
      have hwa := word_all (words_word L nm) w (QE L nm) r hr (fun c hp hc => by
        rw [qe_st (x := 3) (by rw [qe_nx, if_pos hc]) (by decide)]
        rfl)
      cases hs : isSm r.peek with
      | false =>
        have hbad := hwa.1 hs
        refine ⟨fun _ => ?_, fun h => by rw [hbad] at h; cases h⟩
        rcases rest_cases hr with ⟨e1, _⟩ | ⟨c, t, e1, hp, hc, _⟩
        · rw [e1, GG_nil]; exact fin_no w rfl
        · rw [e1]
          refine GG_none (stepS_no ?_)
          rw [hp] at hs hd h34
          rw [qe_nx, if_neg (by rw [hs]; decide), if_neg (fun h => hd (.inl h)), if_neg (fun h => hd (.inr (by rw [h]; rfl))), if_neg (fun h => hd (.inr h)), if_neg h34]
      | true =>
        obtain ⟨h1, h2⟩ := hwa.2 hs
        refine ⟨h1, fun hb => ?_⟩
        obtain ⟨ho, hcut, hsm, hG⟩ := h2 hb
        refine ⟨_, ⟨ho, rfl, rfl, rfl, rfl, by show ¬ (3 = 1); decide, ?_⟩, hcut, hG⟩
        intro c hc h0 h44
        rw [hc] at hsm
        refine stepS_no ?_
        unfold QS.nx QS.cnt stepS QW
        simp [h44, hsm]

/-! wishes -/
structure AfterW (r : RS) (q : QS) (x : Wsh) (L : List Wsh) : Prop where
  ok : Ok r
  next : ∀ c, r.peek = c → 0 ≤ c → rstep q c = if c = 44 then some (Q0 (L ++ [x])) else none
  fin : rfin q true = some (L ++ [x])
theorem After.wish {r : RS} {q : QS} {v : WV} {L : List Wsh} {nm : List Int} (h : After r q v L nm) : AfterW r q (runesBytes nm, v) L := by
  have hc : q.closed = (runesBytes nm, v) := by unfold QS.closed; rw [h.val, h.nm]
  refine ⟨h.ok, fun c hp h0 => ?_, ?_⟩
  · by_cases h44 : c = 44
    · rw [if_pos h44, h44, stepS_st (nx_comma h.ends) (by decide) (fun h => absurd h.1 (by decide)) (fun h' => h.one h'.1)]
      unfold QS.go1 Q0
      rw [if_pos rfl, hc, h.L]
    · rw [if_neg h44]
      exact h.next c hp h0 h44
  · unfold rfin
    rw [if_neg (by rintro (h' | h'); cases h'; rw [h.ends] at h'; cases h'), if_neg (fun h' => h.one h'.1), hc, h.L]
theorem fwd3 (q : RS) : Fwd q (ws3 q) := by unfold ws3; split; exact Fwd.fail _ _; exact Fwd.refl _
theorem fwd4 (q : RS) (nm : ByteArray) (k : Nat) (L : List Wsh) : Fwd q (ws4 q nm k L) := by unfold ws4; split; exact Fwd.fail _ _; exact Fwd.refl _
theorem fwd5 (q : RS) (nm : ByteArray) : Fwd q (ws5 q nm).2 := by
  unfold ws5
  split
  · exact (Fwd.next q).trans (Fwd.valP _)
  · exact Fwd.refl _
theorem fwdW (r : RS) (L : List Wsh) : Fwd (wordP (ws1 r L)).2 (wishP r L).2 := ((fwd3 _).trans (fwd4 _ _ _ _)).trans (fwd5 _ _)
theorem bad_of {a b : RS} (h : Fwd a b) (hb : a.bad = true) : b.bad = true := by
  cases h2 : b.bad with
  | true => rfl
  | false => rw [(h.2 h2).1] at hb; cases hb
theorem q0_no {L : List Wsh} {c : Int} (h : isSm c = false) : rstep (Q0 L) c = none := by
  refine stepS_no ?_
  unfold QS.nx QS.cnt stepS Q0
  simp [h, endsS]
theorem q0_nx {L : List Wsh} {c : Int} (h : isSm c = true) : (Q0 L).nx c = 1 := by
  unfold QS.nx QS.cnt stepS Q0
  simp [h]
theorem wish_all (L : List Wsh) (w : Bool) (r : RS) (hr : Ok r) (hw : w = !r.cut) :
    ((wishP r L).2.bad = true → GG w (rest r) (Q0 L) = none) ∧ ((wishP r L).2.bad = false → ∃ q, AfterW (wishP r L).2 q (wishP r L).1 L ∧ (wishP r L).2.cut = r.cut ∧ GG w (rest r) (Q0 L) = GG w (rest (wishP r L).2) q) := by
  cases hs : isSm r.peek with
  | false =>
    have hG : GG w (rest r) (Q0 L) = none := by
      rcases rest_cases hr with ⟨e1, _⟩ | ⟨c, t, e1, hp, hc, _⟩
      · rw [e1, GG_nil]; exact fin_no w rfl
      · rw [e1]; rw [hp] at hs; exact GG_none (q0_no hs)
    have e1 : ws1 r L = r := by unfold ws1; rw [hs, Bool.and_false, if_neg Bool.false_ne_true]
    have hb : (wishP r L).2.bad = true := by
      refine bad_of (fwdW r L) ?_
      rw [e1]
      exact (word_all (words_name L) w (Q0 L) r hr (fun c hp hc => by rw [hp, hc] at hs; cases hs)).1 hs
    exact ⟨fun _ => hG, fun h => by rw [hb] at h; cases h⟩
  | true =>
    by_cases h16 : L.length = 16
    · have hb : (wishP r L).2.bad = true := by
        refine bad_of (fwdW r L) (bad_of (Fwd.wordP _) ?_)
        unfold ws1
        rw [hs, h16, if_pos (by decide)]
        exact fail_badP _ _
      refine ⟨fun _ => ?_, fun h => by rw [hb] at h; cases h⟩
      rcases rest_cases hr with ⟨_, hp⟩ | ⟨c, t, e1, hp, hc, _⟩
      · rw [hp, sm_end] at hs; cases hs
      · rw [e1]
        refine GG_none ?_
        unfold rstep
        rw [hp] at hs
        rw [q0_nx hs, if_pos (.inr ⟨rfl, rfl, h16⟩)]
    · have e1 : ws1 r L = r := by unfold ws1; rw [show (L.length == 16) = false from by rw [beq_eq_false_iff_ne]; exact h16, Bool.false_and, if_neg Bool.false_ne_true]
      have hwa := (word_all (words_name L) w (Q0 L) r hr (fun c hp hc => by
        rw [stepS_st (q0_nx hc) (by decide) (fun h => h16 h.2.2) (fun h => absurd h.1 (by show ¬ (0 = 1); decide))]
        rfl)).2 hs
      have hfw := fwdW r L
      have ewish : wishP r L = ws5 (ws4 (ws3 (wordP r).2) (runesBytes (wordP r).1) r.k L) (runesBytes (wordP r).1) := by unfold wishP wishN; rw [e1]
      rw [e1] at hfw
      cases hb1 : (wordP r).2.bad with
      | true =>
        refine ⟨fun _ => hwa.1 hb1, fun h => ?_⟩
        rw [bad_of hfw hb1] at h
        cases h
      | false =>
        obtain ⟨ho, hcut, hsm, hG⟩ := hwa.2 hb1
        generalize (wordP r).1 = o at *
        generalize (wordP r).2 = q at *
        rw [ewish, hG]
        have hq61 : rstep (QN L o) 61 = if knownP (runesBytes o) L = true then none else some (QE L o) := by
          have e : (QN L o).nx 61 = 2 := by
            unfold QS.nx QS.cnt stepS QN
            simp [show isSm 61 = false from rfl]
          unfold rstep
          rw [e, if_neg (by rintro (h | h); omega; exact absurd h.1 (by decide))]
          by_cases hk : knownP (runesBytes o) L = true
          · rw [if_pos ⟨rfl, by decide, hk⟩, if_pos hk]
          · rw [if_neg (fun h => hk h.2.2), if_neg hk]
            rfl
        have hq44 : rstep (QN L o) 44 = if knownP (runesBytes o) L = true then none else some (Q0 (L ++ [(runesBytes o, .t true)])) := by
          unfold rstep
          rw [nx_comma (show endsS (QN L o).st = true from rfl), if_neg (by rintro (h | h); omega; exact absurd h.1 (by decide))]
          by_cases hk : knownP (runesBytes o) L = true
          · rw [if_pos ⟨rfl, by decide, hk⟩, if_pos hk]
          · rw [if_neg (fun h => hk h.2.2), if_neg hk]
            rfl
        have hqf : rfin (QN L o) true = if knownP (runesBytes o) L = true then none else some (L ++ [(runesBytes o, .t true)]) := by
          unfold rfin
          rw [if_neg (by rintro (h | h) <;> cases h)]
          by_cases hk : knownP (runesBytes o) L = true
          · rw [if_pos ⟨rfl, hk⟩, if_pos hk]
          · rw [if_neg (fun h => hk h.2), if_neg hk]
            rfl
        have b4 : knownP (runesBytes o) L = true → (ws5 (ws4 (ws3 q) (runesBytes o) r.k L) (runesBytes o)).2.bad = true := by
          intro hk
          refine bad_of (fwd5 _ _) ?_
          unfold ws4
          rw [if_pos hk]
          exact fail_badP _ _
        have b3 : ws3b q = true → (ws5 (ws4 (ws3 q) (runesBytes o) r.k L) (runesBytes o)).2.bad = true := by
          intro hk
          refine bad_of (fwd5 _ _) (bad_of (fwd4 _ _ _ _) ?_)
          unfold ws3
          rw [if_pos hk]
          exact fail_badP _ _
        rcases rest_cases ho with ⟨e3, hp⟩ | ⟨c, t, e3, hp, hc, hn, e4, hcut2, hnl, hnk⟩
        · rw [e3, GG_nil, hw, ← hcut]
          cases hcu : q.cut with
          | true =>
            have hb := b3 (by unfold ws3b; rw [ho.1, hp, hcu]; decide)
            exact ⟨fun _ => fin_cut _, fun h => by rw [hb] at h; cases h⟩
          | false =>
            show (_ → rfin (QN L o) true = none) ∧ _
            by_cases hk : knownP (runesBytes o) L = true
            · rw [hqf, if_pos hk]
              exact ⟨fun _ => rfl, fun h => by rw [b4 hk] at h; cases h⟩
            · rw [hqf, if_neg hk]
              have e5 : ws5 (ws4 (ws3 q) (runesBytes o) r.k L) (runesBytes o) = ((runesBytes o, .t true), q) := by
                unfold ws3
                rw [if_neg (by unfold ws3b; rw [ho.1, hp, hcu]; decide)]
                unfold ws4
                rw [if_neg hk]
                unfold ws5
                rw [if_neg (by rw [hp]; decide)]
              rw [e5]
              refine ⟨fun h => (by rw [show q.bad = false from ho.1] at h; cases h), fun _ => ⟨QN L o, ⟨ho, fun c hc h0 => ?_, ?_⟩, hcu, ?_⟩⟩
              · rw [hp] at hc; omega
              · rw [hqf, if_neg hk]
              · rw [e3, GG_nil]
        · rw [hp] at hsm
          by_cases h61 : c = 61
          · subst h61
            by_cases hk : knownP (runesBytes o) L = true
            · rw [e3, GG_none (by rw [hq61, if_pos hk])]
              exact ⟨fun _ => rfl, fun h => by rw [b4 hk] at h; cases h⟩
            · rw [e3, GG_some (p := QE L o) (by rw [hq61, if_neg hk]), ← e4]
              have e5 : ws5 (ws4 (ws3 q) (runesBytes o) r.k L) (runesBytes o) = ((runesBytes o, (valP q.next).1), (valP q.next).2) := by
                unfold ws3
                rw [if_neg (by unfold ws3b; rw [ho.1, hp]; exact Bool.false_ne_true)]
                unfold ws4
                rw [if_neg hk]
                unfold ws5
                rw [if_pos hp]
              rw [e5]
              have hat : q.l[q.k]? = some 61 := by
                have h1 : (rest q)[0]? = some 61 := by rw [e3]; rfl
                unfold rest at h1
                rw [List.getElem?_drop] at h1
                exact h1
              have hlt : q.k < q.l.length := (List.getElem?_eq_some_iff.1 hat).1
              have hv := val_all L o w q.next hn (by rw [hnl, hnk, Nat.add_sub_cancel, List.getD_eq_getElem?_getD, hat]; rfl) (by rw [hnl, hnk]; omega)
              refine ⟨hv.1, fun hb => ?_⟩
              obtain ⟨q2, ha, hc2, hg2⟩ := hv.2 hb
              exact ⟨q2, ha.wish, by rw [hc2, hcut2, hcut], hg2⟩
          · by_cases h44 : c = 44
            · subst h44
              by_cases hk : knownP (runesBytes o) L = true
              · rw [e3, GG_none (by rw [hq44, if_pos hk])]
                exact ⟨fun _ => rfl, fun h => by rw [b4 hk] at h; cases h⟩
              · have e5 : ws5 (ws4 (ws3 q) (runesBytes o) r.k L) (runesBytes o) = ((runesBytes o, .t true), q) := by
                  unfold ws3
                  rw [if_neg (by unfold ws3b; rw [ho.1, hp]; exact Bool.false_ne_true)]
                  unfold ws4
                  rw [if_neg hk]
                  unfold ws5
                  rw [if_neg (by rw [hp]; decide)]
                rw [e5]
                refine ⟨fun h => (by rw [show q.bad = false from ho.1] at h; cases h), fun _ => ⟨QN L o, ⟨ho, fun c hc h0 => ?_, ?_⟩, hcut, rfl⟩⟩
                · have : c = 44 := by rw [← hc, hp]
                  rw [this, if_pos rfl, hq44, if_neg hk]
                · rw [hqf, if_neg hk]
            · have hb := b3 (by
                unfold ws3b
                rw [ho.1, hp, show (c != 61) = true from by rw [bne_iff_ne]; exact h61, show (c != 44) = true from by rw [bne_iff_ne]; exact h44, show (c != -1) = true from by rw [bne_iff_ne]; omega]
                rfl)
              refine ⟨fun _ => ?_, fun h => by rw [hb] at h; cases h⟩
              rw [e3]
              refine GG_none (stepS_no ?_)
              unfold QS.nx QS.cnt stepS QN
              simp [h61, h44, hsm]

/-! the whole -/
def EE (x : List Wsh × RS) : Option (List Wsh) := if x.2.bad = true then none else some x.1
theorem parseE_bad {x : List Wsh × RS} (h : x.2.bad = true) : EE (parseE x) = none := by
  unfold parseE
  rw [h, Bool.not_true, Bool.false_and, if_neg Bool.false_ne_true]
  unfold EE
  rw [if_pos h]
theorem next_bad {r : RS} (h : r.bad = true) : r.next = r := by
  unfold RS.next RS.peek
  rw [h, if_pos rfl, if_pos rfl]
theorem parse_all : ∀ (f : Nat) (L : List Wsh) (r : RS), Ok r → (rest r).length < f → EE (parseE (plGo f true L r)) = GG (!r.cut) (rest r) (Q0 L)
  | 0, L, r, _, h => by omega
  | f + 1, L, r, hr, hf => by
    rw [plGo_more (by rw [hr.1]; rfl)]
    obtain ⟨h1, h2⟩ := wish_all L (!r.cut) r hr rfl
    have hfw := Fwd.wishP r L
    generalize hx : wishP r L = x at *
    obtain ⟨wx, q⟩ := x
    dsimp only at *
    cases hb : q.bad with
    | true =>
      rw [h1 hb]
      have e : (if q.peek = 44 then q.next else q) = q := by split; exact next_bad hb; rfl
      rw [e, plGo_stop (by rw [hb]; simp)]
      exact parseE_bad hb
    | false =>
      obtain ⟨q1, ha, hcut, hG⟩ := h2 hb
      rw [hG]
      rcases rest_cases ha.ok with ⟨e3, hp⟩ | ⟨c, t, e3, hp, hc, hn, e4, hcut2, hnl, hnk⟩
      · rw [hp, if_neg (by decide), plGo_stop (by rfl)]
        have hkl : ¬ q.k < q.l.length := by
          have := rest_len q
          rw [e3] at this
          simp only [List.length_nil] at this
          omega
        unfold parseE
        rw [e3, GG_nil, ← hcut]
        cases hcu : q.cut with
        | true =>
          rw [if_pos (by rw [hb]; simp)]
          unfold EE
          rw [if_pos (fail_badP _ _)]
          exact (fin_cut _).symm
        | false =>
          rw [if_neg (by simp [hkl])]
          unfold EE
          rw [if_neg (by rw [hb]; decide)]
          exact ha.fin.symm
      · rw [hp]
        have hnx := ha.next c hp hc
        by_cases h44 : c = 44
        · rw [if_pos h44] at hnx
          rw [e3, GG_some hnx, if_pos h44, show (c == 44) = true from beq_iff_eq.2 h44, ← e4]
          have hl : (rest q.next).length < f := by
            have hk := (hfw.2 hb).2
            have hll := hfw.1.1
            have a1 := rest_len q
            have a2 := rest_len r
            rw [e3, List.length_cons] at a1
            rw [e4]
            rw [hll] at a1
            omega
          have := parse_all f (L ++ [wx]) q.next hn hl
          rw [this, hcut2, hcut]
        · rw [if_neg h44] at hnx
          rw [e3, GG_none hnx, if_neg h44, show (c == 44) = false from by rw [beq_eq_false_iff_ne]; exact h44, plGo_stop (by rfl)]
          have hkl : q.k < q.l.length := by
            have := rest_len q
            rw [e3, List.length_cons] at this
            omega
          unfold parseE
          rw [if_pos (by simp [hb, hkl])]
          unfold EE
          rw [if_pos (fail_badP _ _)]
theorem runeLen_at {s : ByteArray} {pos : Nat} (hp : pos < s.size) (h : okAt s pos = true) : Lib.runeLen ((Utf8.decode s pos).1 : Int) = ((Utf8.decode s pos).2 : Int) := by
  rw [okAt_by s pos (by omega)] at h
  rw [← decodeL_drop]
  by_cases hv : (Lib.decodeL (s.data.toList.drop pos)).1 = 65533
  · rw [← decodeL_drop, hv] at h
    have hby : okBy s pos = true := by simpa using h
    have hsz : pos + 3 ≤ s.size := by
      unfold okBy at hby
      simp only [Bool.and_eq_true, decide_eq_true_eq] at hby
      exact hby.1
    have hb : s.data.toList.getD pos 0 = 239 ∧ s.data.toList.getD (pos + 1) 0 = 191 ∧ s.data.toList.getD (pos + 2) 0 = 189 := by
      unfold okBy at hby
      simp only [Bool.and_eq_true, beq_iff_eq] at hby
      exact ⟨hby.2.1, hby.2.2.1, hby.2.2.2⟩
    have e : (Lib.decodeL (s.data.toList.drop pos)).2 = 3 := by
      rw [decodeL_drop, decode_N, hb.1, hb.2.1, hb.2.2]
      have : s.data.toList.length - pos = (s.data.toList.length - pos - 3) + 3 := by
        have : s.data.toList.length = s.size := rfl
        omega
      rw [this]
      generalize s.data.toList.length - pos - 3 = k
      generalize (s.data.toList.getD (pos + 3) 0).toNat = z
      show (decodeN (k + 3) 239 191 189 z).2 = 3
      unfold decodeN
      simp
    rw [hv, e]
    rfl
  · exact Lib.runeLen_decode _ hv
theorem rnW_cut (s : ByteArray) : ∀ (f pos : Nat), pos ≤ s.size → s.size < f + pos →
    (pos : Int) + szs (rnFrom s f pos) ≤ s.size ∧ (rnW s f pos = decide (¬ ((pos : Int) + szs (rnFrom s f pos) < (s.size : Int))))
  | 0, pos, h, hf => by omega
  | f + 1, pos, h, hf => by
    unfold rnFrom rnW
    by_cases hp : pos < s.size
    · cases ho : okAt s pos with
      | true =>
        rw [if_pos ⟨hp, rfl⟩, if_pos hp, if_pos rfl]
        have hl := runeLen_at hp ho
        have hpos := dec_pos hp
        have hle : pos + (Utf8.decode s pos).2 ≤ s.size := by
          have := decodeL_le (s.data.toList.drop pos) (by
            intro he
            have : (s.data.toList.drop pos).length = s.size - pos := by rw [List.length_drop]; rfl
            rw [he] at this
            simp at this
            omega)
          rw [decodeL_drop, List.length_drop] at this
          have e : s.data.toList.length = s.size := rfl
          omega
        have ih := rnW_cut s f (pos + (Utf8.decode s pos).2) hle (by omega)
        have e : szs (((Utf8.decode s pos).1 : Int) :: rnFrom s f (pos + (Utf8.decode s pos).2)) = ((Utf8.decode s pos).2 : Int) + szs (rnFrom s f (pos + (Utf8.decode s pos).2)) := by
          unfold szs
          rw [List.map_cons, List.sum_cons, hl]
        rw [e, ih.2]
        refine ⟨by omega, ?_⟩
        congr 1
        simp only [eq_iff_iff]
        omega
      | false =>
        rw [if_neg (by rintro ⟨_, h⟩; cases h), if_pos hp, if_neg Bool.false_ne_true]
        have e : szs [] = 0 := rfl
        rw [e]
        refine ⟨by omega, ?_⟩
        rw [eq_comm, decide_eq_false_iff_not]
        omega
    · rw [if_neg (fun h => hp h.1), if_neg hp]
      have e : szs [] = 0 := rfl
      rw [e]
      refine ⟨by omega, ?_⟩
      rw [eq_comm, decide_eq_true_iff]
      omega
theorem cut_whole (s : ByteArray) : rnWhole s = !(parseR s).cut := by
  have h := (rnW_cut s (s.size + 1) 0 (Nat.zero_le _) (by omega)).2
  unfold rnWhole parseR
  rw [h]
  have e : ((0 : Nat) : Int) + szs (rnFrom s (s.size + 1) 0) = szs (rnL s) := by unfold rnL; omega
  rw [e]
  by_cases h2 : szs (rnL s) < (s.size : Int)
  · rw [decide_eq_true h2, decide_eq_false (fun h => h h2)]; rfl
  · rw [decide_eq_false h2, decide_eq_true h2]; rfl
/-- the reference's Parse is the program's -/
theorem refP_eq (s : ByteArray) : refP s = if (parseP s).2.bad = true then none else some (parseP s).1 := by
  show refP s = EE (parseP s)
  unfold refP parseP
  by_cases h0 : s.size = 0
  · rw [if_pos h0, decide_eq_false (by omega), plGo_stop (by rfl)]
    have hl : rnL s = [] := by
      have := rnL_len s
      exact List.eq_nil_of_length_eq_zero (by omega)
    have hp : parseE ([], parseR s) = ([], parseR s) := by
      unfold parseE
      rw [if_neg (by unfold parseR; rw [hl]; simp [szs, h0])]
    rw [hp]
    rfl
  · rw [if_neg h0, decide_eq_true (by omega), parse_all _ _ _ ⟨rfl, fun x hx => (rnL_ok s x hx).1⟩ (by show ((rnL s).drop 0).length < _; rw [List.drop_zero]; omega), ← cut_whole]
    rfl
end Go.Proofs.YtfcppchjikmioaaGreat
