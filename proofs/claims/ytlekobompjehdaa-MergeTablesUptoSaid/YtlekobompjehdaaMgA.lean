/-
  Package-merge, in plain words: items, packages, rows; a row's beginning is the lightest symbols and packages, level by level; what the levels come to is a code that is whole, and no code costs less.
-/
import Derived.Below
namespace Go.Proofs.Ytlekobompjehdaa.Mg

/-- a symbol, or a package: its weight, its symbols -/
structure It where
  w : Int
  s : List Nat
deriving DecidableEq, Inhabited
def Le (a b : It) : Prop := a.w < b.w ∨ (a.w = b.w ∧ a.s.length ≤ b.s.length)
theorem Le.w {a b : It} (h : Le a b) : a.w ≤ b.w := by rcases h with h | h <;> omega
/-- items by twos -/
def pk : List It → List It
  | a :: b :: t => ⟨a.w + b.w, a.s ++ b.s⟩ :: pk t
  | [] => []
  | [_] => []
def ws (l : List It) : Int := (l.map (·.w)).sum
def sy (l : List It) : List Nat := l.flatMap (·.s)
theorem ws_cons (a : It) (l : List It) : ws (a :: l) = a.w + ws l := by simp [ws]
theorem ws_app (a b : List It) : ws (a ++ b) = ws a + ws b := by simp [ws]
theorem ws_nil : ws [] = 0 := rfl
theorem sy_app (a b : List It) : sy (a ++ b) = sy a ++ sy b := by simp [sy]
theorem ws_perm {a b : List It} (h : a.Perm b) : ws a = ws b := by
  induction h with
  | nil => rfl
  | cons x _ ih => rw [ws_cons, ws_cons, ih]
  | swap x y l => rw [ws_cons, ws_cons, ws_cons, ws_cons]; omega
  | trans _ _ h1 h2 => exact h1.trans h2
theorem sy_perm {a b : List It} (h : a.Perm b) : (sy a).Perm (sy b) := h.flatMap_right _
theorem pk_len : ∀ r : List It, (pk r).length = r.length / 2
  | [] => rfl
  | [_] => by simp [pk]
  | a :: b :: t => by
    unfold pk
    simp only [List.length_cons, pk_len t]
    omega
theorem ws_pk : ∀ r : List It, r.length % 2 = 0 → ws (pk r) = ws r
  | [], _ => rfl
  | [_], h => by simp at h
  | a :: b :: t, h => by
    unfold pk
    rw [ws_cons, ws_cons, ws_cons, ws_pk t (by simp only [List.length_cons] at h; omega)]
    show a.w + b.w + _ = _
    omega
theorem sy_pk : ∀ r : List It, r.length % 2 = 0 → sy (pk r) = sy r
  | [], _ => rfl
  | [_], h => by simp at h
  | a :: b :: t, h => by
    unfold pk
    have := sy_pk t (by simp only [List.length_cons] at h; omega)
    unfold sy at *
    simp only [List.flatMap_cons, this, List.append_assoc]
theorem pk_take : ∀ (p : Nat) (r : List It), 2 * p ≤ r.length → (pk r).take p = pk (r.take (2 * p))
  | 0, r, _ => by simp [pk]
  | p + 1, [], h => by simp at h
  | p + 1, [_], h => by simp at h; omega
  | p + 1, a :: b :: t, h => by
    have ih := pk_take p t (by simp only [List.length_cons] at h; omega)
    rw [show 2 * (p + 1) = 2 * p + 1 + 1 by omega, List.take_succ_cons, List.take_succ_cons]
    unfold pk
    rw [List.take_succ_cons, ih]
theorem pk_from : ∀ (r : List It) (P : It), P ∈ pk r → ∃ c d, c ∈ r ∧ d ∈ r ∧ P = ⟨c.w + d.w, c.s ++ d.s⟩
  | [], P, h => by simp [pk] at h
  | [_], P, h => by simp [pk] at h
  | a :: b :: t, P, h => by
    unfold pk at h
    rcases List.mem_cons.1 h with rfl | h
    · exact ⟨a, b, by simp, by simp, rfl⟩
    · obtain ⟨c, d, hc, hd, e⟩ := pk_from t P h
      exact ⟨c, d, by simp [hc], by simp [hd], e⟩
theorem pk_sorted : ∀ r : List It, r.Pairwise Le → (pk r).Pairwise Le
  | [], _ => by simp [pk]
  | [_], _ => by simp [pk]
  | a :: b :: t, h => by
    obtain ⟨h1, h2⟩ := List.pairwise_cons.1 h
    obtain ⟨h3, h4⟩ := List.pairwise_cons.1 h2
    unfold pk
    refine List.pairwise_cons.2 ⟨fun P hP => ?_, pk_sorted t h4⟩
    obtain ⟨c, d, hc, hd, rfl⟩ := pk_from t P hP
    have k1 := h1 c (by simp [hc])
    have k2 := h3 d hd
    unfold Le at *
    simp only [List.length_append]
    rcases k1 with k1 | ⟨k1, k1'⟩ <;> rcases k2 with k2 | ⟨k2, k2'⟩ <;> omega
/-- every member of an even row lies in a package that weighs no less and holds more -/
theorem pk_mem : ∀ (r : List It) (x : It), r.length % 2 = 0 → (∀ y ∈ r, 1 ≤ y.s.length ∧ 0 ≤ y.w) → x ∈ r → ∃ P ∈ pk r, x.w ≤ P.w ∧ 2 ≤ P.s.length
  | [], x, _, _, h => by cases h
  | [_], x, h, _, _ => by simp at h
  | a :: b :: t, x, h, hg, hx => by
    have ga := hg a (by simp)
    have gb := hg b (by simp)
    unfold pk
    rcases List.mem_cons.1 hx with rfl | hx
    · exact ⟨_, List.mem_cons_self, by show x.w ≤ x.w + b.w; omega, by simp; omega⟩
    · rcases List.mem_cons.1 hx with rfl | hx
      · exact ⟨_, List.mem_cons_self, by show x.w ≤ a.w + x.w; omega, by simp; omega⟩
      · obtain ⟨P, hP, h1, h2⟩ := pk_mem t x (by simp only [List.length_cons] at h; omega) (fun y hy => hg y (by simp [hy])) hx
        exact ⟨P, List.mem_cons_of_mem _ hP, h1, h2⟩
theorem pk_good {r : List It} (hg : ∀ y ∈ r, 1 ≤ y.s.length ∧ 0 ≤ y.w) : ∀ P ∈ pk r, 2 ≤ P.s.length ∧ 0 ≤ P.w := by
  intro P hP
  obtain ⟨c, d, hc, hd, rfl⟩ := pk_from r P hP
  have := hg c hc
  have := hg d hd
  simp only [List.length_append]
  omega

/-- a stable order of a list -/
structure St (l r : List It) : Prop where
  perm : r.Perm l
  sorted : r.Pairwise Le
  stable : ∀ c : List It, c.Pairwise Le → c.Sublist l → c.Sublist r
def sg (x : It) : Bool := decide (x.s.length = 1)
/-- symbols, ordered -/
structure GL (l : List It) : Prop where
  sorted : l.Pairwise Le
  single : ∀ x ∈ l, x.s.length = 1
  nonneg : ∀ x ∈ l, 0 ≤ x.w
  nodup : (sy l).Nodup
/-- the rows, the deepest first -/
def RowOf (l : List It) : Nat → List It → Prop
  | 0, r => r = l
  | k + 1, r => ∃ r0, RowOf l k r0 ∧ St (l ++ pk r0) r
theorem filter_perm (f : It → Bool) : ∀ l : List It, (l.filter f ++ l.filter (fun x => !f x)).Perm l
  | [] => List.Perm.refl _
  | a :: l => by
    have ih := filter_perm f l
    by_cases h : f a = true
    · rw [List.filter_cons_of_pos h, List.filter_cons_of_neg (by simp [h])]
      exact ih.cons a
    · rw [List.filter_cons_of_neg h, List.filter_cons_of_pos (by simpa using h)]
      exact List.perm_middle.trans (ih.cons a)
theorem st_parts {l q r : List It} (hl : l.Pairwise Le) (hq : q.Pairwise Le) (h1 : ∀ x ∈ l, sg x = true) (h2 : ∀ x ∈ q, sg x = false) (h : St (l ++ q) r) : r.filter sg = l ∧ r.filter (fun x => !sg x) = q := by
  have a1 : l.filter sg = l := List.filter_eq_self.2 h1
  have a2 : q.filter sg = [] := List.filter_eq_nil_iff.2 (fun x hx => by simp [h2 x hx])
  have a3 : l.filter (fun x => !sg x) = [] := List.filter_eq_nil_iff.2 (fun x hx => by simp [h1 x hx])
  have a4 : q.filter (fun x => !sg x) = q := List.filter_eq_self.2 (fun x hx => by simp [h2 x hx])
  constructor
  · have s1 := (h.stable l hl (List.sublist_append_left _ _)).filter sg
    rw [a1] at s1
    have p1 := (h.perm.filter sg).length_eq
    rw [List.filter_append, a1, a2, List.append_nil] at p1
    exact (s1.eq_of_length p1.symm).symm
  · have s1 := (h.stable q hq (List.sublist_append_right _ _)).filter (fun x => !sg x)
    rw [a4] at s1
    have p1 := (h.perm.filter (fun x => !sg x)).length_eq
    rw [List.filter_append, a3, a4, List.nil_append] at p1
    exact (s1.eq_of_length p1.symm).symm
theorem row_facts {l : List It} (hl : GL l) : ∀ (k : Nat) (r : List It), RowOf l k r → r.Pairwise Le ∧ (∀ x ∈ r, 1 ≤ x.s.length ∧ 0 ≤ x.w) ∧ r.filter sg = l
  | 0, r, h => by
    have h : r = l := h
    subst h
    exact ⟨hl.sorted, fun x hx => ⟨by rw [hl.single x hx]; exact Nat.le_refl _, hl.nonneg x hx⟩, List.filter_eq_self.2 (fun x hx => by simp [sg, hl.single x hx])⟩
  | k + 1, r, h => by
    obtain ⟨r0, h0, hs⟩ := h
    obtain ⟨f1, f2, f3⟩ := row_facts hl k r0 h0
    have hp := pk_good f2
    refine ⟨hs.sorted, fun x hx => ?_, (st_parts hl.sorted (pk_sorted r0 f1) (fun x hx => by simp [sg, hl.single x hx]) (fun x hx => by have := (hp x hx).1; unfold sg; exact decide_eq_false (by omega)) hs).1⟩
    rcases List.mem_append.1 (hs.perm.mem_iff.1 hx) with hx | hx
    · exact ⟨by rw [hl.single x hx]; exact Nat.le_refl _, hl.nonneg x hx⟩
    · have := hp x hx
      omega
theorem row_step {l r0 r : List It} (hl : GL l) {k : Nat} (h0 : RowOf l k r0) (hs : St (l ++ pk r0) r) : r.filter sg = l ∧ r.filter (fun x => !sg x) = pk r0 := by
  obtain ⟨f1, f2, _⟩ := row_facts hl k r0 h0
  have hp := pk_good f2
  exact st_parts hl.sorted (pk_sorted r0 f1) (fun x hx => by simp [sg, hl.single x hx]) (fun x hx => by have := (hp x hx).1; unfold sg; exact decide_eq_false (by omega)) hs
theorem take_filter (f : It → Bool) (r : List It) (j : Nat) : (r.take j).filter f = (r.filter f).take ((r.take j).filter f).length :=
  List.prefix_iff_eq_take.1 ((List.take_prefix j r).filter f)
/-- how many of the first j are symbols -/
def cOf (r : List It) (j : Nat) : Nat := ((r.take j).filter sg).length
/-- the levels' widths, the uppermost first -/
def wd : List Nat → Nat
  | [] => 0
  | c :: cs => c * 2 ^ cs.length + wd cs
/-- what the levels hold -/
def wsum (l : List It) (cs : List Nat) : Int := (cs.map (fun c => ws (l.take c))).sum
theorem nested {l r0 r : List It} (hl : GL l) {k : Nat} (h0 : RowOf l k r0) (hs : St (l ++ pk r0) r) (j p : Nat) (hp : ((r.take j).filter (fun x => !sg x)).length = p) (hp2 : 2 * p ≤ r0.length) : cOf r0 (2 * p) ≤ cOf r j := by
  obtain ⟨e1, e2⟩ := row_step hl h0 hs
  obtain ⟨f1, f2, f3⟩ := row_facts hl k r0 h0
  apply Decidable.byContradiction
  intro hn
  have hc : cOf r j < cOf r0 (2 * p) := by omega
  have t0 := take_filter sg r0 (2 * p)
  rw [f3] at t0
  have hle0 : cOf r0 (2 * p) ≤ l.length := by
    have := congrArg List.length t0
    rw [List.length_take] at this
    unfold cOf
    omega
  have hlt : cOf r j < l.length := by omega
  have m0 : l[cOf r j] ∈ r0.take (2 * p) := by
    have : l[cOf r j] ∈ (r0.take (2 * p)).filter sg := by
      rw [t0]
      exact List.mem_take_iff_getElem.2 ⟨cOf r j, by show cOf r j < min (cOf r0 (2 * p)) l.length; omega, rfl⟩
    exact (List.mem_filter.1 this).1
  obtain ⟨P, hP, hw, hP2⟩ := pk_mem (r0.take (2 * p)) l[cOf r j] (by rw [List.length_take]; omega) (fun y hy => f2 y (List.mem_of_mem_take hy)) m0
  rw [← pk_take p r0 hp2, ← e2] at hP
  have t1 := take_filter (fun x => !sg x) r j
  rw [hp] at t1
  rw [← t1] at hP
  have hPr : P ∈ r.take j := (List.mem_filter.1 hP).1
  have hd : l[cOf r j] ∈ r.drop j := by
    have e3 : (r.take j).filter sg ++ (r.drop j).filter sg = l := by rw [← List.filter_append, List.take_append_drop, e1]
    have t2 := take_filter sg r j
    rw [e1] at t2
    have e4 : (r.drop j).filter sg = l.drop (cOf r j) := by
      have h5 : l.take (cOf r j) ++ (r.drop j).filter sg = l.take (cOf r j) ++ l.drop (cOf r j) := by
        rw [List.take_append_drop]
        unfold cOf
        rw [← t2]
        exact e3
      exact List.append_cancel_left h5
    have : l[cOf r j] ∈ (r.drop j).filter sg := by
      rw [e4, List.drop_eq_getElem_cons hlt]
      exact List.mem_cons_self
    exact (List.mem_filter.1 this).1
  have hsr := hs.sorted
  rw [← List.take_append_drop j r, List.pairwise_append] at hsr
  have hle := hsr.2.2 P hPr _ hd
  have h1 := hl.single _ (List.getElem_mem hlt)
  unfold Le at hle
  omega
/-- a row's beginning, level by level -/
theorem levels {l : List It} (hl : GL l) : ∀ (k : Nat) (r : List It), RowOf l k r → ∀ j, j ≤ r.length →
    ∃ cs : List Nat, cs.length = k + 1 ∧ cs.head? = some (cOf r j) ∧ cs.Pairwise (· ≥ ·) ∧ (∀ c ∈ cs, c ≤ l.length) ∧ wd cs = j * 2 ^ k ∧ ws (r.take j) = wsum l cs ∧ (sy (r.take j)).Perm (cs.flatMap fun c => sy (l.take c))
  | 0, r, h, j, hj => by
    have h : r = l := h
    subst h
    have e : (r.take j).filter sg = r.take j := List.filter_eq_self.2 (fun x hx => by simp [sg, hl.single x (List.mem_of_mem_take hx)])
    have hc : cOf r j = j := by unfold cOf; rw [e, List.length_take, Nat.min_eq_left hj]
    refine ⟨[j], rfl, by rw [hc]; rfl, by simp, by simpa using hj, by simp [wd], by simp [wsum], by simp⟩
  | k + 1, r, h, j, hj => by
    obtain ⟨r0, h0, hs⟩ := h
    obtain ⟨e1, e2⟩ := row_step hl h0 hs
    obtain ⟨p, hp⟩ : ∃ p, ((r.take j).filter (fun x => !sg x)).length = p := ⟨_, rfl⟩
    have t1 := take_filter sg r j
    have t2 := take_filter (fun x => !sg x) r j
    rw [e1] at t1
    rw [e2, hp] at t2
    have hpl : p ≤ (pk r0).length := by
      have := congrArg List.length t2
      rw [hp, List.length_take] at this
      omega
    have hp2 : 2 * p ≤ r0.length := by rw [pk_len] at hpl; omega
    have hperm := filter_perm sg (r.take j)
    have hjc : cOf r j + p = j := by
      have := hperm.length_eq
      rw [List.length_append, hp, List.length_take, Nat.min_eq_left hj] at this
      exact this
    obtain ⟨cs, a1, a2, a3, a4, a5, a6, a7⟩ := levels hl k r0 h0 (2 * p) hp2
    have hn := nested hl h0 hs j p hp hp2
    have hcl : cOf r j ≤ l.length := by
      have := congrArg List.length t1
      rw [List.length_take] at this
      unfold cOf
      omega
    have tl : (r.take j).filter sg = l.take (cOf r j) := t1
    have ev : (r0.take (2 * p)).length % 2 = 0 := by rw [List.length_take, Nat.min_eq_left hp2]; omega
    refine ⟨cOf r j :: cs, by simp [a1], rfl, ?_, ?_, ?_, ?_, ?_⟩
    · refine List.pairwise_cons.2 ⟨fun c hc => ?_, a3⟩
      cases cs with
      | nil => cases hc
      | cons c0 ct =>
        have e0 : c0 = cOf r0 (2 * p) := by simpa using a2
        rcases List.mem_cons.1 hc with rfl | hc
        · show cOf r j ≥ c
          omega
        · have := (List.pairwise_cons.1 a3).1 c hc
          show cOf r j ≥ c
          omega
    · intro c hc
      rcases List.mem_cons.1 hc with rfl | hc
      · exact hcl
      · exact a4 c hc
    · show cOf r j * 2 ^ cs.length + wd cs = j * 2 ^ (k + 1)
      have e9 : ∀ c q : Nat, c + q = j → c * 2 ^ (k + 1) + 2 * q * 2 ^ k = j * 2 ^ (k + 1) := by
        intro c q h
        subst h
        rw [Nat.add_mul, Nat.pow_succ, Nat.mul_comm 2 q, Nat.mul_assoc q 2, Nat.mul_comm 2 (2 ^ k)]
      rw [a1, a5]
      exact e9 _ _ hjc
    · rw [← ws_perm hperm, ws_app, tl, t2, pk_take p r0 hp2, ws_pk _ ev, a6]
      simp [wsum]
    · refine (sy_perm hperm).symm.trans ?_
      rw [sy_app, tl, t2, pk_take p r0 hp2, sy_pk _ ev]
      simp only [List.flatMap_cons]
      exact List.Perm.append_left _ a7

end Go.Proofs.Ytlekobompjehdaa.Mg
