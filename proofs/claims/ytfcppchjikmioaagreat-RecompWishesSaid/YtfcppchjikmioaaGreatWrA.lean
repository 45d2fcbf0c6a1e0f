/-
  The wishes that say an order (plain): they are in form, and the order comes back from them.
-/
import Derived.Test.YtfcppchjikmioaaGreatOrdD
import Derived.Test.YtfcppchjikmioaaGreatWtH
import Derived.Test.YtfcppchjikmioaaGreatPngGood
namespace Go.Proofs.YtfcppchjikmioaaGreat
open Go.RowKit Go.Lib Go.Proofs.YtfcppchjikmioaaGreat.PngChecks

def pick : List (Bool × Wsh) → List Wsh
  | [] => []
  | (b, x) :: t => (if b = true then [x] else []) ++ pick t
theorem pick_cons (b : Bool) (x : Wsh) (t : List (Bool × Wsh)) : pick ((b, x) :: t) = (if b = true then [x] else []) ++ pick t := rfl
def nmB (k : Nat) : ByteArray := ⟨(litN k).toArray⟩
def xTold (o : Od) : Bool := decide (o.x ≠ 0) || (o.cr && (decide (o.y = 0) && (decide (o.w = 65535) && decide (o.h = 65535))))
def wCand (o : Od) : List (Bool × Wsh) :=
  [(decide (o.t ≠ 0), (nmB 0, .s (turnsW.getD o.t.toNat ⟨#[]⟩))), (o.p, (nmB 1, .t true)), (o.ba, (nmB 2, .t true)), (xTold o, (nmB 3, .n o.x)), (decide (o.y ≠ 0), (nmB 4, .n o.y)),
   (o.cr && decide (o.w ≠ 65535), (nmB 5, .n o.w)), (o.cr && decide (o.h ≠ 65535), (nmB 6, .n o.h)), (decide (o.fo ≠ 0), (nmB 7, .s (formsW.getD o.fo.toNat ⟨#[]⟩))), (decide (o.re ≠ 0), (nmB 8, .n o.re)), (decide (o.la ≠ -1), (nmB 9, .s (lacesW.getD (o.la + 1).toNat ⟨#[]⟩)))]
/-- an order that wishes say -/
structure FineO (o : Od) : Prop where
  fine : Fine o.t o.cr o.x o.y o.w o.h o.fo o.re o.la
  plc : o.cr = false → o.x = 0 ∧ o.y = 0 ∧ o.w = 0 ∧ o.h = 0
theorem known_app (nm : ByteArray) (P Q : List Wsh) : knownP nm (P ++ Q) = (knownP nm P || knownP nm Q) := by unfold knownP; rw [List.any_append]
theorem goodF_pick : ∀ (C : List (Bool × Wsh)) (P : List Wsh), (∀ c ∈ C, gName c.2.1) → (∀ c ∈ C, c.1 = true → gVal c.2.2) → (C.map (fun c => c.2.1.toList)).Nodup → (∀ c ∈ C, knownP c.2.1 P = false) → P.length + C.length ≤ 16 → goodF P (pick C)
  | [], P, _, _, _, _, _ => trivial
  | (b, x) :: C, P, h1, h2, h3, h4, h5 => by
    rw [List.map_cons, List.nodup_cons] at h3
    rw [List.length_cons] at h5
    have ih := fun Q h => goodF_pick C Q (fun c hc => h1 c (List.mem_cons_of_mem _ hc)) (fun c hc => h2 c (List.mem_cons_of_mem _ hc)) h3.2 h
    unfold pick
    cases b
    · simp only [Bool.false_eq_true, if_false, List.nil_append]
      exact ih P (fun c hc => h4 c (List.mem_cons_of_mem _ hc)) (by omega)
    · simp only [if_true, List.cons_append, List.nil_append]
      refine ⟨⟨h1 _ List.mem_cons_self, h2 _ List.mem_cons_self rfl, h4 _ List.mem_cons_self, by omega⟩, ih (P ++ [x]) (fun c hc => ?_) (by rw [List.length_append]; simp; omega)⟩
      rw [known_app, h4 c (List.mem_cons_of_mem _ hc), Bool.false_or]
      unfold knownP
      rw [List.any_cons, List.any_nil, Bool.or_false, beq_eq_false_iff_ne]
      intro e
      exact h3.1 (by rw [e]; exact List.mem_map_of_mem hc)
theorem small_name (l : List UInt8) (h1 : 1 ≤ l.length) (h2 : l.length ≤ 16) (h3 : ∀ c ∈ l, 97 ≤ c.toNat ∧ c.toNat ≤ 122) : gName ⟨l.toArray⟩ := by
  refine ⟨l.map (fun c => (c.toNat : Int)), ?_, by simpa using h1, by simpa using h2, ?_⟩
  · refine ba_ext ?_
    rw [rb_list]
    show l = _
    clear h1 h2
    induction l with
    | nil => rfl
    | cons c l ih =>
      rw [List.map_cons, List.flatMap_cons, enc_one (by have := h3 c List.mem_cons_self; omega), ← ih (fun x hx => h3 x (List.mem_cons_of_mem _ hx))]
      simp
  · intro c hc
    obtain ⟨b, hb, rfl⟩ := List.mem_map.1 hc
    have := h3 b hb
    unfold isSm
    simp
    omega
theorem nmB_good (k : Nat) (h : k < 10) : gName (nmB k) := by
  rcases (show k = 0 ∨ k = 1 ∨ k = 2 ∨ k = 3 ∨ k = 4 ∨ k = 5 ∨ k = 6 ∨ k = 7 ∨ k = 8 ∨ k = 9 by omega) with rfl | rfl | rfl | rfl | rfl | rfl | rfl | rfl | rfl | rfl <;> exact small_name _ (by decide) (by decide) (by decide)
theorem small_whole (l : List UInt8) (h3 : ∀ c ∈ l, 97 ≤ c.toNat ∧ c.toNat ≤ 122) : rnWhole ⟨l.toArray⟩ = true := by
  have e : (⟨l.toArray⟩ : ByteArray) = runesBytes (l.map (fun c => (c.toNat : Int))) := by
    refine ba_ext ?_
    rw [rb_list]
    show l = _
    induction l with
    | nil => rfl
    | cons c l ih =>
      rw [List.map_cons, List.flatMap_cons, enc_one (by have := h3 c List.mem_cons_self; omega), ← ih (fun x hx => h3 x (List.mem_cons_of_mem _ hx))]
      simp
  rw [e]
  refine (rn_bytes _ ?_).2
  intro c hc
  obtain ⟨b, hb, rfl⟩ := List.mem_map.1 hc
  have := h3 b hb
  exact ⟨by omega, by omega, by omega⟩
theorem turns_whole (k : Nat) : rnWhole (turnsW.getD k ⟨#[]⟩) = true := by
  match k with
  | 0 | 1 | 2 | 3 | 4 | 5 | 6 | 7 => exact small_whole _ (by decide)
  | k + 8 => rfl
theorem forms_whole (k : Nat) : rnWhole (formsW.getD k ⟨#[]⟩) = true := by
  match k with
  | 0 | 1 | 2 => exact small_whole _ (by decide)
  | k + 3 => rfl
theorem laces_whole (k : Nat) : rnWhole (lacesW.getD k ⟨#[]⟩) = true := by
  match k with
  | 0 | 1 | 2 => exact small_whole _ (by decide)
  | k + 3 => rfl
theorem nmB_list (k : Nat) : (nmB k).toList = litN k := by rw [ByteArray.toList_eq]; rfl
theorem wishes_good (o : Od) (h : FineO o) : goodF [] (pick (wCand o)) := by
  obtain ⟨f, plc⟩ := h
  refine goodF_pick _ [] ?_ ?_ ?_ (fun c _ => rfl) (by show 0 + 10 ≤ 16; decide)
  · intro c hc
    unfold wCand at hc
    simp only [List.mem_cons, List.not_mem_nil, or_false] at hc
    rcases hc with rfl | rfl | rfl | rfl | rfl | rfl | rfl | rfl | rfl | rfl <;> exact nmB_good _ (by decide)
  · intro c hc ht
    have q : ∀ z : Int, 0 ≤ z → z ≤ 65535 → gVal (.n z) := fun z h1 h2 => ⟨by omega, by omega⟩
    unfold wCand at hc
    simp only [List.mem_cons, List.not_mem_nil, or_false] at hc
    rcases hc with rfl | rfl | rfl | rfl | rfl | rfl | rfl | rfl | rfl | rfl
    · exact turns_whole _
    · exact trivial
    · exact trivial
    · exact q _ f.x0 f.x1
    · exact q _ f.y0 f.y1
    · have hc : o.cr = true := by
        have : (o.cr && decide (o.w ≠ 65535)) = true := ht
        rw [Bool.and_eq_true] at this
        exact this.1
      exact q _ (by have := f.cw hc; omega) f.w1
    · have hc : o.cr = true := by
        have : (o.cr && decide (o.h ≠ 65535)) = true := ht
        rw [Bool.and_eq_true] at this
        exact this.1
      exact q _ (by have := f.ch hc; omega) f.h1
    · exact forms_whole _
    · exact q _ f.r0 f.r1
    · exact laces_whole _
  · unfold wCand
    simp only [List.map_cons, List.map_nil, nmB_list]
    decide
/-- one wish more -/
def stepO (c : Bool × Wsh) (o : Od) : Option Od := if c.1 = true then setO o c.2 else some o
theorem ordF_pick : ∀ (b : Bool) (x : Wsh) (C : List (Bool × Wsh)) (o p : Od), stepO (b, x) o = some p → ordF (pick ((b, x) :: C)) o = ordF (pick C) p
  | b, x, C, o, p, h => by
    unfold stepO at h
    rw [pick_cons]
    cases b
    · simp only [Bool.false_eq_true, if_false] at h
      injection h with h
      rw [h]
      simp
    · simp only [if_true] at h
      simp only [if_true, List.cons_append, List.nil_append]
      rw [ordF, h]
theorem nmK_B (k : Nat) (h : k < 10) : nmK (nmB k) = k := nmK_of h (by rw [nmB_list]; exact beq_self_eq_true _)
theorem setO_B (k : Nat) (h : k < 10) (o : Od) (v : WV) : setO o (nmB k, v) = setK k o v := by
  unfold setO
  rw [nmK_B k h]
theorem amg_turn (t : Int) (h0 : 0 ≤ t) (h7 : t ≤ 7) : amgV turnsW (.s (turnsW.getD t.toNat ⟨#[]⟩)) = t := by
  rcases (show t = 0 ∨ t = 1 ∨ t = 2 ∨ t = 3 ∨ t = 4 ∨ t = 5 ∨ t = 6 ∨ t = 7 by omega) with rfl | rfl | rfl | rfl | rfl | rfl | rfl | rfl <;> kernel_rfl
theorem amg_form (t : Int) (h0 : 0 ≤ t) (h7 : t ≤ 2) : amgV formsW (.s (formsW.getD t.toNat ⟨#[]⟩)) = t := by
  rcases (show t = 0 ∨ t = 1 ∨ t = 2 by omega) with rfl | rfl | rfl <;> kernel_rfl
theorem amg_lace (t : Int) (h0 : -1 ≤ t) (h7 : t ≤ 1) : amgV lacesW (.s (lacesW.getD (t + 1).toNat ⟨#[]⟩)) = t + 1 := by
  rcases (show t = -1 ∨ t = 0 ∨ t = 1 by omega) with rfl | rfl | rfl <;> kernel_rfl
theorem num_in (z l : Int) (h0 : l ≤ z) (h1 : z ≤ 65535) : numV (.n z) l = z := by
  unfold numV
  exact if_pos ⟨rfl, h0, h1⟩
theorem order_back (o : Od) (h : FineO o) : ∃ p, ordF (pick (wCand o)) od0 = some p ∧ finO p = o := by
  obtain ⟨f, plc⟩ := h
  have s0 : stepO (decide (o.t ≠ 0), (nmB 0, .s (turnsW.getD o.t.toNat ⟨#[]⟩))) od0 = some { od0 with t := o.t } := by
    unfold stepO
    by_cases h0 : o.t = 0
    · rw [decide_eq_false (by omega), if_neg Bool.false_ne_true, h0]; rfl
    · rw [decide_eq_true h0, if_pos rfl, setO_B 0 (by decide)]
      unfold setK
      rw [if_pos rfl, amg_turn _ f.t0 f.t7, if_neg (by have := f.t0; omega)]
  have s1 : ∀ q : Od, q.p = false → stepO (o.p, (nmB 1, .t true)) q = some { q with p := o.p } := fun q hq => by
    unfold stepO
    cases hp : o.p
    · rw [if_neg Bool.false_ne_true, ← hq]
    · rw [if_pos rfl, setO_B 1 (by decide)]; rfl
  have s2 : ∀ q : Od, q.ba = false → stepO (o.ba, (nmB 2, .t true)) q = some { q with ba := o.ba } := fun q hq => by
    unfold stepO
    cases hp : o.ba
    · rw [if_neg Bool.false_ne_true, ← hq]
    · rw [if_pos rfl, setO_B 2 (by decide)]; rfl
  have s3 : ∀ q : Od, q.x = 0 → stepO (xTold o, (nmB 3, .n o.x)) q = some { q with x := o.x, cr := q.cr || xTold o } := fun q hq => by
    unfold stepO
    cases hx : xTold o
    · have h0 : o.x = 0 := by
        unfold xTold at hx
        rw [Bool.or_eq_false_iff] at hx
        have := of_decide_eq_false hx.1
        omega
      rw [if_neg Bool.false_ne_true, h0, ← hq, Bool.or_false]
    · rw [if_pos rfl, setO_B 3 (by decide), Bool.or_true]
      unfold setK
      rw [if_neg (by decide), if_neg (by decide), if_neg (by decide), if_pos rfl, num_in _ _ f.x0 f.x1, if_neg (by have := f.x0; omega)]
  have s4 : ∀ q : Od, q.y = 0 → stepO (decide (o.y ≠ 0), (nmB 4, .n o.y)) q = some { q with y := o.y, cr := q.cr || decide (o.y ≠ 0) } := fun q hq => by
    unfold stepO
    by_cases h0 : o.y = 0
    · rw [decide_eq_false (by omega), if_neg Bool.false_ne_true, h0, ← hq, Bool.or_false]
    · rw [decide_eq_true h0, if_pos rfl, setO_B 4 (by decide), Bool.or_true]
      unfold setK
      rw [if_neg (by decide), if_neg (by decide), if_neg (by decide), if_neg (by decide), if_pos rfl, num_in _ _ f.y0 f.y1, if_neg (by have := f.y0; omega)]
  have s7 : ∀ q : Od, q.fo = 0 → stepO (decide (o.fo ≠ 0), (nmB 7, .s (formsW.getD o.fo.toNat ⟨#[]⟩))) q = some { q with fo := o.fo } := fun q hq => by
    unfold stepO
    by_cases h0 : o.fo = 0
    · rw [decide_eq_false (by omega), if_neg Bool.false_ne_true, h0, ← hq]
    · rw [decide_eq_true h0, if_pos rfl, setO_B 7 (by decide)]
      unfold setK
      rw [if_neg (by decide), if_neg (by decide), if_neg (by decide), if_neg (by decide), if_neg (by decide), if_neg (by decide), if_neg (by decide), if_pos rfl, amg_form _ f.f0 f.f2, if_neg (by have := f.f0; omega)]
  have s8 : ∀ q : Od, q.re = 0 → stepO (decide (o.re ≠ 0), (nmB 8, .n o.re)) q = some { q with re := o.re } := fun q hq => by
    unfold stepO
    by_cases h0 : o.re = 0
    · rw [decide_eq_false (by omega), if_neg Bool.false_ne_true, h0, ← hq]
    · rw [decide_eq_true h0, if_pos rfl, setO_B 8 (by decide)]
      unfold setK
      rw [if_neg (by decide), if_neg (by decide), if_neg (by decide), if_neg (by decide), if_neg (by decide), if_neg (by decide), if_neg (by decide), if_neg (by decide), if_pos rfl, num_in _ _ f.r0 f.r1, if_neg (by have := f.r0; omega)]
  have s9 : ∀ q : Od, q.la = -1 → stepO (decide (o.la ≠ -1), (nmB 9, .s (lacesW.getD (o.la + 1).toNat ⟨#[]⟩))) q = some { q with la := o.la } := fun q hq => by
    unfold stepO
    by_cases h0 : o.la = -1
    · rw [decide_eq_false (by omega), if_neg Bool.false_ne_true, h0, ← hq]
    · rw [decide_eq_true h0, if_pos rfl, setO_B 9 (by decide)]
      unfold setK
      rw [if_neg (by decide), if_neg (by decide), if_neg (by decide), if_neg (by decide), if_neg (by decide), if_neg (by decide), if_neg (by decide), if_neg (by decide), if_neg (by decide), if_pos rfl, amg_lace _ f.l0 f.l1, if_neg (by have := f.l0; omega), show o.la + 1 - 1 = o.la by omega]
  cases hcr : o.cr
  · obtain ⟨px, py, pw, ph⟩ := plc hcr
    have hx : xTold o = false := by unfold xTold; rw [hcr, px]; rfl
    have s5 : ∀ q : Od, stepO (o.cr && decide (o.w ≠ 65535), (nmB 5, .n o.w)) q = some q := fun q => by unfold stepO; rw [hcr]; rfl
    have s6 : ∀ q : Od, stepO (o.cr && decide (o.h ≠ 65535), (nmB 6, .n o.h)) q = some q := fun q => by unfold stepO; rw [hcr]; rfl
    unfold wCand
    refine ⟨_, by rw [ordF_pick _ _ _ _ _ s0, ordF_pick _ _ _ _ _ (s1 _ rfl), ordF_pick _ _ _ _ _ (s2 _ rfl), ordF_pick _ _ _ _ _ (s3 _ rfl), ordF_pick _ _ _ _ _ (s4 _ rfl), ordF_pick _ _ _ _ _ (s5 _), ordF_pick _ _ _ _ _ (s6 _), ordF_pick _ _ _ _ _ (s7 _ rfl), ordF_pick _ _ _ _ _ (s8 _ rfl), ordF_pick _ _ _ _ _ (s9 _ rfl)]; rfl, ?_⟩
    obtain ⟨t, p, cr, x, y, w, h, ba, fo, re, la⟩ := o
    dsimp only at hcr px py pw ph hx ⊢
    subst hcr px py pw ph
    rfl
  · have s5 : ∀ q : Od, q.w = 65535 → stepO (o.cr && decide (o.w ≠ 65535), (nmB 5, .n o.w)) q = some { q with w := o.w, cr := q.cr || decide (o.w ≠ 65535) } := fun q hq => by
      unfold stepO
      rw [hcr, Bool.true_and]
      by_cases h0 : o.w = 65535
      · rw [decide_eq_false (by omega), if_neg Bool.false_ne_true, h0, ← hq, Bool.or_false]
      · rw [decide_eq_true h0, if_pos rfl, setO_B 5 (by decide), Bool.or_true]
        unfold setK
        have hw := f.cw hcr
        rw [if_neg (by decide), if_neg (by decide), if_neg (by decide), if_neg (by decide), if_neg (by decide), if_pos rfl, num_in _ _ hw f.w1, if_neg (by omega)]
    have s6 : ∀ q : Od, q.h = 65535 → stepO (o.cr && decide (o.h ≠ 65535), (nmB 6, .n o.h)) q = some { q with h := o.h, cr := q.cr || decide (o.h ≠ 65535) } := fun q hq => by
      unfold stepO
      rw [hcr, Bool.true_and]
      by_cases h0 : o.h = 65535
      · rw [decide_eq_false (by omega), if_neg Bool.false_ne_true, h0, ← hq, Bool.or_false]
      · rw [decide_eq_true h0, if_pos rfl, setO_B 6 (by decide), Bool.or_true]
        unfold setK
        have hh := f.ch hcr
        rw [if_neg (by decide), if_neg (by decide), if_neg (by decide), if_neg (by decide), if_neg (by decide), if_neg (by decide), if_pos rfl, num_in _ _ hh f.h1, if_neg (by omega)]
    have hall : (((false || xTold o) || decide (o.y ≠ 0)) || decide (o.w ≠ 65535) || decide (o.h ≠ 65535)) = true := by
      unfold xTold
      rw [hcr]
      by_cases a : o.x = 0 <;> by_cases b : o.y = 0 <;> by_cases c : o.w = 65535 <;> by_cases d : o.h = 65535 <;> simp [a, b, c, d]
    unfold wCand
    refine ⟨_, by rw [ordF_pick _ _ _ _ _ s0, ordF_pick _ _ _ _ _ (s1 _ rfl), ordF_pick _ _ _ _ _ (s2 _ rfl), ordF_pick _ _ _ _ _ (s3 _ rfl), ordF_pick _ _ _ _ _ (s4 _ rfl), ordF_pick _ _ _ _ _ (s5 _ rfl), ordF_pick _ _ _ _ _ (s6 _ rfl), ordF_pick _ _ _ _ _ (s7 _ rfl), ordF_pick _ _ _ _ _ (s8 _ rfl), ordF_pick _ _ _ _ _ (s9 _ rfl)]; rfl, ?_⟩
    show finO ⟨o.t, o.p, ((false || xTold o) || decide (o.y ≠ 0)) || decide (o.w ≠ 65535) || decide (o.h ≠ 65535), o.x, o.y, o.w, o.h, o.ba, o.fo, o.re, o.la⟩ = o
    rw [hall, ← hcr]
    unfold finO
    rw [if_pos hcr]
end Go.Proofs.YtfcppchjikmioaaGreat
