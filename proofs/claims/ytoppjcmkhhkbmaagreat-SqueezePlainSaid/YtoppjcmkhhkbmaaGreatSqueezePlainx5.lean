/-
  Package-merge, in plain words: items, packages, rows; a row's beginning is the lightest symbols and packages, level by level; what the levels come to is a code that is whole, and no code costs less.
  Package-merge, in plain words: the levels are a code that is whole; no code costs less.
  Package-merge, plain: a stable order is one list only, so that rows can be reckoned.
-/
import Derived.Below
namespace Go.Proofs.YtoppjcmkhhkbmaaGreat.Mg

/-- a symbol, or a package: its weight, its symbols -/
structure It where
  w : Int
  s : List Nat
deriving DecidableEq, Inhabited
def Le (a b : It) : Prop := a.w < b.w ∨ (a.w = b.w ∧ a.s.length ≤ b.s.length)
theorem Le.w {a b : It} (h : Le a b) : a.w ≤ b.w := by rcases h with h | h <;> omega
/-- items by twos -/
def pk : List It → List It
  | a :: b :: t => ⟨a.w + b.w, a.s ++ b.s⟩ :: pk t
  | [] => []
  | [_] => []
def ws (l : List It) : Int := (l.map (·.w)).sum
def sy (l : List It) : List Nat := l.flatMap (·.s)
theorem ws_cons (a : It) (l : List It) : ws (a :: l) = a.w + ws l := by simp [ws]
theorem ws_app (a b : List It) : ws (a ++ b) = ws a + ws b := by simp [ws]
theorem sy_app (a b : List It) : sy (a ++ b) = sy a ++ sy b := by simp [sy]
theorem ws_perm {a b : List It} (h : a.Perm b) : ws a = ws b := by
  induction h with
  | nil => rfl
  | cons x _ ih => rw [ws_cons, ws_cons, ih]
  | swap x y l => rw [ws_cons, ws_cons, ws_cons, ws_cons]; omega
  | trans _ _ h1 h2 => exact h1.trans h2
theorem sy_perm {a b : List It} (h : a.Perm b) : (sy a).Perm (sy b) := h.flatMap_right _
theorem pk_len : ∀ r : List It, (pk r).length = r.length / 2
  | [] => rfl
  | [_] => by simp [pk]
  | a :: b :: t => by
    unfold pk
    simp only [List.length_cons, pk_len t]
    omega
theorem ws_pk : ∀ r : List It, r.length % 2 = 0 → ws (pk r) = ws r
  | [], _ => rfl
  | [_], h => by simp at h
  | a :: b :: t, h => by
    unfold pk
    rw [ws_cons, ws_cons, ws_cons, ws_pk t (by simp only [List.length_cons] at h; omega)]
    show a.w + b.w + _ = _
    omega
theorem sy_pk : ∀ r : List It, r.length % 2 = 0 → sy (pk r) = sy r
  | [], _ => rfl
  | [_], h => by simp at h
  | a :: b :: t, h => by
    unfold pk
    have := sy_pk t (by simp only [List.length_cons] at h; omega)
    unfold sy at *
    simp only [List.flatMap_cons, this, List.append_assoc]
theorem pk_take : ∀ (p : Nat) (r : List It), 2 * p ≤ r.length → (pk r).take p = pk (r.take (2 * p))
  | 0, r, _ => by simp [pk]
  | p + 1, [], h => by simp at h
  | p + 1, [_], h => by simp at h; omega
  | p + 1, a :: b :: t, h => by
    have ih := pk_take p t (by simp only [List.length_cons] at h; omega)
    rw [show 2 * (p + 1) = 2 * p + 1 + 1 by omega, List.take_succ_cons, List.take_succ_cons]
    unfold pk
    rw [List.take_succ_cons, ih]
theorem pk_from : ∀ (r : List It) (P : It), P ∈ pk r → ∃ c d, c ∈ r ∧ d ∈ r ∧ P = ⟨c.w + d.w, c.s ++ d.s⟩
  | [], P, h => by simp [pk] at h
  | [_], P, h => by simp [pk] at h
  | a :: b :: t, P, h => by
    unfold pk at h
    rcases List.mem_cons.1 h with rfl | h
    · exact ⟨a, b, by simp, by simp, rfl⟩
    · obtain ⟨c, d, hc, hd, e⟩ := pk_from t P h
      exact ⟨c, d, by simp [hc], by simp [hd], e⟩
theorem pk_sorted : ∀ r : List It, r.Pairwise Le → (pk r).Pairwise Le
  | [], _ => by simp [pk]
  | [_], _ => by simp [pk]
  | a :: b :: t, h => by
    obtain ⟨h1, h2⟩ := List.pairwise_cons.1 h
    obtain ⟨h3, h4⟩ := List.pairwise_cons.1 h2
    unfold pk
    refine List.pairwise_cons.2 ⟨fun P hP => ?_, pk_sorted t h4⟩
    obtain ⟨c, d, hc, hd, rfl⟩ := pk_from t P hP
    have k1 := h1 c (by simp [hc])
    have k2 := h3 d hd
    unfold Le at *
    simp only [List.length_append]
    rcases k1 with k1 | ⟨k1, k1'⟩ <;> rcases k2 with k2 | ⟨k2, k2'⟩ <;> omega
/-- every member of an even row lies in a package that weighs no less and holds more -/
theorem pk_mem : ∀ (r : List It) (x : It), r.length % 2 = 0 → (∀ y ∈ r, 1 ≤ y.s.length ∧ 0 ≤ y.w) → x ∈ r → ∃ P ∈ pk r, x.w ≤ P.w ∧ 2 ≤ P.s.length
  | [], x, _, _, h => by cases h
  | [_], x, h, _, _ => by simp at h
  | a :: b :: t, x, h, hg, hx => by
    have ga := hg a (by simp)
    have gb := hg b (by simp)
    unfold pk
    rcases List.mem_cons.1 hx with rfl | hx
    · exact ⟨_, List.mem_cons_self, by show x.w ≤ x.w + b.w; omega, by simp; omega⟩
    · rcases List.mem_cons.1 hx with rfl | hx
      · exact ⟨_, List.mem_cons_self, by show x.w ≤ a.w + x.w; omega, by simp; omega⟩
      · obtain ⟨P, hP, h1, h2⟩ := pk_mem t x (by simp only [List.length_cons] at h; omega) (fun y hy => hg y (by simp [hy])) hx
        exact ⟨P, List.mem_cons_of_mem _ hP, h1, h2⟩
theorem pk_good {r : List It} (hg : ∀ y ∈ r, 1 ≤ y.s.length ∧ 0 ≤ y.w) : ∀ P ∈ pk r, 2 ≤ P.s.length ∧ 0 ≤ P.w := by
  intro P hP
  obtain ⟨c, d, hc, hd, rfl⟩ := pk_from r P hP
  have := hg c hc
  have := hg d hd
  simp only [List.length_append]
  omega

/-- a stable order of a list -/
structure St (l r : List It) : Prop where
  perm : r.Perm l
  sorted : r.Pairwise Le
  stable : ∀ c : List It, c.Pairwise Le → c.Sublist l → c.Sublist r
def sg (x : It) : Bool := decide (x.s.length = 1)
/-- symbols, ordered -/
structure GL (l : List It) : Prop where
  sorted : l.Pairwise Le
  single : ∀ x ∈ l, x.s.length = 1
  nonneg : ∀ x ∈ l, 0 ≤ x.w
  nodup : (sy l).Nodup
/-- the rows, the deepest first -/
def RowOf (l : List It) : Nat → List It → Prop
  | 0, r => r = l
  | k + 1, r => ∃ r0, RowOf l k r0 ∧ St (l ++ pk r0) r
theorem filter_perm (f : It → Bool) : ∀ l : List It, (l.filter f ++ l.filter (fun x => !f x)).Perm l
  | [] => List.Perm.refl _
  | a :: l => by
    have ih := filter_perm f l
    by_cases h : f a = true
    · rw [List.filter_cons_of_pos h, List.filter_cons_of_neg (by simp [h])]
      exact ih.cons a
    · rw [List.filter_cons_of_neg h, List.filter_cons_of_pos (by simpa using h)]
      exact List.perm_middle.trans (ih.cons a)
theorem st_parts {l q r : List It} (hl : l.Pairwise Le) (hq : q.Pairwise Le) (h1 : ∀ x ∈ l, sg x = true) (h2 : ∀ x ∈ q, sg x = false) (h : St (l ++ q) r) : r.filter sg = l ∧ r.filter (fun x => !sg x) = q := by
  have a1 : l.filter sg = l := List.filter_eq_self.2 h1
  have a2 : q.filter sg = [] := List.filter_eq_nil_iff.2 (fun x hx => by simp [h2 x hx])
  have a3 : l.filter (fun x => !sg x) = [] := List.filter_eq_nil_iff.2 (fun x hx => by simp [h1 x hx])
  have a4 : q.filter (fun x => !sg x) = q := List.filter_eq_self.2 (fun x hx => by simp [h2 x hx])
  constructor
  · have s1 := (h.stable l hl (List.sublist_append_left _ _)).filter sg
    rw [a1] at s1
    have p1 := (h.perm.filter sg).length_eq
    rw [List.filter_append, a1, a2, List.append_nil] at p1
    exact (s1.eq_of_length p1.symm).symm
  · have s1 := (h.stable q hq (List.sublist_append_right _ _)).filter (fun x => !sg x)
    rw [a4] at s1
    have p1 := (h.perm.filter (fun x => !sg x)).length_eq
    rw [List.filter_append, a3, a4, List.nil_append] at p1
    exact (s1.eq_of_length p1.symm).symm
theorem row_facts {l : List It} (hl : GL l) : ∀ (k : Nat) (r : List It), RowOf l k r → r.Pairwise Le ∧ (∀ x ∈ r, 1 ≤ x.s.length ∧ 0 ≤ x.w) ∧ r.filter sg = l
  | 0, r, h => by
    have h : r = l := h
    subst h
    exact ⟨hl.sorted, fun x hx => ⟨by rw [hl.single x hx]; exact Nat.le_refl _, hl.nonneg x hx⟩, List.filter_eq_self.2 (fun x hx => by simp [sg, hl.single x hx])⟩
  | k + 1, r, h => by
    obtain ⟨r0, h0, hs⟩ := h
    obtain ⟨f1, f2, f3⟩ := row_facts hl k r0 h0
    have hp := pk_good f2
    refine ⟨hs.sorted, fun x hx => ?_, (st_parts hl.sorted (pk_sorted r0 f1) (fun x hx => by simp [sg, hl.single x hx]) (fun x hx => by have := (hp x hx).1; unfold sg; exact decide_eq_false (by omega)) hs).1⟩
    rcases List.mem_append.1 (hs.perm.mem_iff.1 hx) with hx | hx
    · exact ⟨by rw [hl.single x hx]; exact Nat.le_refl _, hl.nonneg x hx⟩
    · have := hp x hx
      omega
theorem row_step {l r0 r : List It} (hl : GL l) {k : Nat} (h0 : RowOf l k r0) (hs : St (l ++ pk r0) r) : r.filter sg = l ∧ r.filter (fun x => !sg x) = pk r0 := by
  obtain ⟨f1, f2, _⟩ := row_facts hl k r0 h0
  have hp := pk_good f2
  exact st_parts hl.sorted (pk_sorted r0 f1) (fun x hx => by simp [sg, hl.single x hx]) (fun x hx => by have := (hp x hx).1; unfold sg; exact decide_eq_false (by omega)) hs
theorem take_filter (f : It → Bool) (r : List It) (j : Nat) : (r.take j).filter f = (r.filter f).take ((r.take j).filter f).length :=
  List.prefix_iff_eq_take.1 ((List.take_prefix j r).filter f)
/-- how many of the first j are symbols -/
def cOf (r : List It) (j : Nat) : Nat := ((r.take j).filter sg).length
/-- the levels' widths, the uppermost first -/
def wd : List Nat → Nat
  | [] => 0
  | c :: cs => c * 2 ^ cs.length + wd cs
/-- what the levels hold -/
def wsum (l : List It) (cs : List Nat) : Int := (cs.map (fun c => ws (l.take c))).sum
theorem nested {l r0 r : List It} (hl : GL l) {k : Nat} (h0 : RowOf l k r0) (hs : St (l ++ pk r0) r) (j p : Nat) (hp : ((r.take j).filter (fun x => !sg x)).length = p) (hp2 : 2 * p ≤ r0.length) : cOf r0 (2 * p) ≤ cOf r j := by
  obtain ⟨e1, e2⟩ := row_step hl h0 hs
  obtain ⟨f1, f2, f3⟩ := row_facts hl k r0 h0
  apply Decidable.byContradiction
  intro hn
  have hc : cOf r j < cOf r0 (2 * p) := by omega
  have t0 := take_filter sg r0 (2 * p)
  rw [f3] at t0
  have hle0 : cOf r0 (2 * p) ≤ l.length := by
    have := congrArg List.length t0
    rw [List.length_take] at this
    unfold cOf
    omega
  have hlt : cOf r j < l.length := by omega
  have m0 : l[cOf r j] ∈ r0.take (2 * p) := by
    have : l[cOf r j] ∈ (r0.take (2 * p)).filter sg := by
      rw [t0]
      exact List.mem_take_iff_getElem.2 ⟨cOf r j, by show cOf r j < min (cOf r0 (2 * p)) l.length; omega, rfl⟩
    exact (List.mem_filter.1 this).1
  obtain ⟨P, hP, hw, hP2⟩ := pk_mem (r0.take (2 * p)) l[cOf r j] (by rw [List.length_take]; omega) (fun y hy => f2 y (List.mem_of_mem_take hy)) m0
  rw [← pk_take p r0 hp2, ← e2] at hP
  have t1 := take_filter (fun x => !sg x) r j
  rw [hp] at t1
  rw [← t1] at hP
  have hPr : P ∈ r.take j := (List.mem_filter.1 hP).1
  have hd : l[cOf r j] ∈ r.drop j := by
    have e3 : (r.take j).filter sg ++ (r.drop j).filter sg = l := by rw [← List.filter_append, List.take_append_drop, e1]
    have t2 := take_filter sg r j
    rw [e1] at t2
    have e4 : (r.drop j).filter sg = l.drop (cOf r j) := by
      have h5 : l.take (cOf r j) ++ (r.drop j).filter sg = l.take (cOf r j) ++ l.drop (cOf r j) := by
        rw [List.take_append_drop]
        unfold cOf
        rw [← t2]
        exact e3
      exact List.append_cancel_left h5
    have : l[cOf r j] ∈ (r.drop j).filter sg := by
      rw [e4, List.drop_eq_getElem_cons hlt]
      exact List.mem_cons_self
    exact (List.mem_filter.1 this).1
  have hsr := hs.sorted
  rw [← List.take_append_drop j r, List.pairwise_append] at hsr
  have hle := hsr.2.2 P hPr _ hd
  have h1 := hl.single _ (List.getElem_mem hlt)
  unfold Le at hle
  omega
/-- a row's beginning, level by level -/
theorem levels {l : List It} (hl : GL l) : ∀ (k : Nat) (r : List It), RowOf l k r → ∀ j, j ≤ r.length →
    ∃ cs : List Nat, cs.length = k + 1 ∧ cs.head? = some (cOf r j) ∧ cs.Pairwise (· ≥ ·) ∧ (∀ c ∈ cs, c ≤ l.length) ∧ wd cs = j * 2 ^ k ∧ ws (r.take j) = wsum l cs ∧ (sy (r.take j)).Perm (cs.flatMap fun c => sy (l.take c))
  | 0, r, h, j, hj => by
    have h : r = l := h
    subst h
    have e : (r.take j).filter sg = r.take j := List.filter_eq_self.2 (fun x hx => by simp [sg, hl.single x (List.mem_of_mem_take hx)])
    have hc : cOf r j = j := by unfold cOf; rw [e, List.length_take, Nat.min_eq_left hj]
    refine ⟨[j], rfl, by rw [hc]; rfl, by simp, by simpa using hj, by simp [wd], by simp [wsum], by simp⟩
  | k + 1, r, h, j, hj => by
    obtain ⟨r0, h0, hs⟩ := h
    obtain ⟨e1, e2⟩ := row_step hl h0 hs
    obtain ⟨p, hp⟩ : ∃ p, ((r.take j).filter (fun x => !sg x)).length = p := ⟨_, rfl⟩
    have t1 := take_filter sg r j
    have t2 := take_filter (fun x => !sg x) r j
    rw [e1] at t1
    rw [e2, hp] at t2
    have hpl : p ≤ (pk r0).length := by
      have := congrArg List.length t2
      rw [hp, List.length_take] at this
      omega
    have hp2 : 2 * p ≤ r0.length := by rw [pk_len] at hpl; omega
    have hperm := filter_perm sg (r.take j)
    have hjc : cOf r j + p = j := by
      have := hperm.length_eq
      rw [List.length_append, hp, List.length_take, Nat.min_eq_left hj] at this
      exact this
    obtain ⟨cs, a1, a2, a3, a4, a5, a6, a7⟩ := levels hl k r0 h0 (2 * p) hp2
    have hn := nested hl h0 hs j p hp hp2
    have hcl : cOf r j ≤ l.length := by
      have := congrArg List.length t1
      rw [List.length_take] at this
      unfold cOf
      omega
    have tl : (r.take j).filter sg = l.take (cOf r j) := t1
    have ev : (r0.take (2 * p)).length % 2 = 0 := by rw [List.length_take, Nat.min_eq_left hp2]; omega
    refine ⟨cOf r j :: cs, by simp [a1], rfl, ?_, ?_, ?_, ?_, ?_⟩
    · refine List.pairwise_cons.2 ⟨fun c hc => ?_, a3⟩
      cases cs with
      | nil => cases hc
      | cons c0 ct =>
        have e0 : c0 = cOf r0 (2 * p) := by simpa using a2
        rcases List.mem_cons.1 hc with rfl | hc
        · show cOf r j ≥ c
          omega
        · have := (List.pairwise_cons.1 a3).1 c hc
          show cOf r j ≥ c
          omega
    · intro c hc
      rcases List.mem_cons.1 hc with rfl | hc
      · exact hcl
      · exact a4 c hc
    · show cOf r j * 2 ^ cs.length + wd cs = j * 2 ^ (k + 1)
      have e9 : ∀ c q : Nat, c + q = j → c * 2 ^ (k + 1) + 2 * q * 2 ^ k = j * 2 ^ (k + 1) := by
        intro c q h
        subst h
        rw [Nat.add_mul, Nat.pow_succ, Nat.mul_comm 2 q, Nat.mul_assoc q 2, Nat.mul_comm 2 (2 ^ k)]
      rw [a1, a5]
      exact e9 _ _ hjc
    · rw [← ws_perm hperm, ws_app, tl, t2, pk_take p r0 hp2, ws_pk _ ev, a6]
      simp [wsum]
    · refine (sy_perm hperm).symm.trans ?_
      rw [sy_app, tl, t2, pk_take p r0 hp2, sy_pk _ ev]
      simp only [List.flatMap_cons]
      exact List.Perm.append_left _ a7

end Go.Proofs.YtoppjcmkhhkbmaaGreat.Mg

namespace Go.Proofs.YtoppjcmkhhkbmaaGreat.Mg

/-- sums over the first n numbers -/
def SN : Nat → (Nat → Nat) → Nat
  | 0, _ => 0
  | n + 1, f => SN n f + f n
theorem SN_congr {n : Nat} {f g : Nat → Nat} (h : ∀ i, i < n → f i = g i) : SN n f = SN n g := by
  induction n with
  | zero => rfl
  | succ n ih => simp only [SN]; rw [ih (fun i hi => h i (by omega)), h n (by omega)]
theorem SN_add (n : Nat) (f g : Nat → Nat) : SN n (fun i => f i + g i) = SN n f + SN n g := by
  induction n with
  | zero => rfl
  | succ n ih => simp only [SN]; rw [ih]; omega
theorem SN_lt (c K : Nat) : ∀ n : Nat, c ≤ n → SN n (fun i => if i < c then 0 else K) = (n - c) * K
  | 0, h => by
    have : c = 0 := by omega
    subst this
    simp [SN]
  | n + 1, h => by
    simp only [SN]
    by_cases hn : c ≤ n
    · rw [SN_lt c K n hn, if_neg (by omega), show n + 1 - c = (n - c) + 1 by omega, Nat.succ_mul]
    · have : c = n + 1 := by omega
      subst this
      rw [if_pos (by omega), Nat.sub_self, Nat.zero_mul, Nat.add_zero]
      have : SN n (fun i => if i < n + 1 then 0 else K) = SN n (fun _ => 0) := SN_congr (fun i hi => if_pos (by omega))
      rw [this]
      clear this h hn
      induction n with
      | zero => rfl
      | succ n ih => simp only [SN]; rw [ih]
/-- the length of the i-th symbol -/
def ln (cs : List Nat) (i : Nat) : Nat := (cs.filter fun c => decide (i < c)).length
theorem ln_le (cs : List Nat) (i : Nat) : ln cs i ≤ cs.length := List.length_filter_le _ _
theorem ln_zero {cs : List Nat} {c i : Nat} (h : ∀ x ∈ cs, x ≤ c) (hi : c ≤ i) : ln cs i = 0 := by
  unfold ln
  rw [List.length_eq_zero_iff, List.filter_eq_nil_iff]
  intro x hx
  have := h x hx
  simp
  omega
theorem ln_cons (c : Nat) (cs : List Nat) (i : Nat) : ln (c :: cs) i = (if i < c then 1 else 0) + ln cs i := by
  unfold ln
  by_cases h : i < c
  · rw [List.filter_cons_of_pos (by simpa using h), if_pos h, List.length_cons]; omega
  · rw [List.filter_cons_of_neg (by simpa using h), if_neg h]; omega
theorem kraft : ∀ (cs : List Nat) (n : Nat), cs.Pairwise (· ≥ ·) → (∀ c ∈ cs, c ≤ n) → SN n (fun i => 2 ^ (cs.length - ln cs i)) + wd cs = n * 2 ^ cs.length
  | [], n, _, _ => by
    show SN n (fun _ => 1) + 0 = n * 1
    have : ∀ m, SN m (fun _ => 1) = m := fun m => by induction m with | zero => rfl | succ m ih => simp only [SN]; rw [ih]
    rw [this]; omega
  | c :: cs, n, hp, hn => by
    obtain ⟨h1, h2⟩ := List.pairwise_cons.1 hp
    have ih := kraft cs n h2 (fun x hx => hn x (by simp [hx]))
    have hc := hn c (by simp)
    have e : SN n (fun i => 2 ^ ((c :: cs).length - ln (c :: cs) i)) = SN n (fun i => 2 ^ (cs.length - ln cs i) + (if i < c then 0 else 2 ^ cs.length)) := SN_congr (fun i _ => by
      show 2 ^ ((c :: cs).length - ln (c :: cs) i) = 2 ^ (cs.length - ln cs i) + (if i < c then 0 else 2 ^ cs.length)
      rw [ln_cons, List.length_cons]
      have := ln_le cs i
      by_cases hi : i < c
      · rw [if_pos hi, if_pos hi, show cs.length + 1 - (1 + ln cs i) = cs.length - ln cs i by omega]; omega
      · rw [if_neg hi, if_neg hi, ln_zero (c := c) (fun x hx => h1 x hx) (by omega)]
        rw [show cs.length + 1 - (0 + 0) = cs.length + 1 by omega, Nat.pow_succ, Nat.sub_zero]; omega)
    rw [e, SN_add, SN_lt c _ n hc]
    show _ + (c * 2 ^ cs.length + wd cs) = n * 2 ^ (cs.length + 1)
    have e2 : (n - c) * 2 ^ cs.length + c * 2 ^ cs.length = n * 2 ^ cs.length := by rw [← Nat.add_mul, Nat.sub_add_cancel hc]
    rw [Nat.pow_succ, Nat.mul_comm (2 ^ cs.length) 2, ← Nat.mul_assoc, Nat.mul_comm n 2, Nat.mul_assoc]
    omega
theorem wd_le (b : Nat) : ∀ cs : List Nat, (∀ c ∈ cs, c ≤ b) → wd cs + b ≤ b * 2 ^ cs.length
  | [], _ => by simp [wd]
  | c :: cs, h => by
    have ih := wd_le b cs (fun x hx => h x (by simp [hx]))
    have h1 : c * 2 ^ cs.length ≤ b * 2 ^ cs.length := Nat.mul_le_mul_right _ (h c (by simp))
    show c * 2 ^ cs.length + wd cs + b ≤ b * 2 ^ (cs.length + 1)
    rw [Nat.pow_succ, ← Nat.mul_assoc]
    omega
theorem row_long {l : List It} : ∀ (k : Nat) (r : List It), RowOf l k r → ∀ m, l.length ≤ m * 2 ^ k → 2 * l.length ≤ r.length + m
  | 0, r, h, m, hm => by
    have h : r = l := h
    subst h
    simp at hm
    omega
  | k + 1, r, h, m, hm => by
    obtain ⟨r0, h0, hs⟩ := h
    have ih := row_long k r0 h0 (2 * m) (by rw [Nat.pow_succ] at hm; rw [Nat.mul_comm 2 m, Nat.mul_assoc, Nat.mul_comm 2]; exact hm)
    have := hs.perm.length_eq
    rw [List.length_append, pk_len] at this
    omega
/-- the levels of the whole row -/
theorem whole {l : List It} (hl : GL l) (K : Nat) (r : List It) (h : RowOf l K r) (h2 : 2 ≤ l.length) (hK : l.length ≤ 2 ^ (K + 1)) :
    2 * l.length - 2 ≤ r.length ∧ ∃ cs : List Nat, cs.length = K + 1 ∧ cs.Pairwise (· ≥ ·) ∧ (∀ c ∈ cs, c ≤ l.length) ∧ SN l.length (fun i => 2 ^ (K + 1 - ln cs i)) = 2 ^ (K + 1) ∧ (∀ i, i < l.length → 1 ≤ ln cs i ∧ ln cs i ≤ K + 1) ∧
      ws (r.take (2 * l.length - 2)) = wsum l cs ∧ (sy (r.take (2 * l.length - 2))).Perm (cs.flatMap fun c => sy (l.take c)) := by
  have hlen := row_long K r h 2 (by rw [Nat.pow_succ] at hK; omega)
  have hj : 2 * l.length - 2 ≤ r.length := by omega
  refine ⟨hj, ?_⟩
  obtain ⟨cs, a1, a2, a3, a4, a5, a6, a7⟩ := levels hl K r h _ hj
  have hw : wd cs = (l.length - 1) * 2 ^ (K + 1) := by
    rw [a5, Nat.pow_succ, Nat.mul_comm (2 ^ K) 2, ← Nat.mul_assoc]
    congr 1
    omega
  have hk := kraft cs l.length a3 a4
  rw [a1] at hk
  have e1 : (l.length - 1) * 2 ^ (K + 1) + 2 ^ (K + 1) = l.length * 2 ^ (K + 1) := by
    rw [← Nat.succ_mul]
    congr 1
    omega
  refine ⟨cs, a1, a3, a4, by omega, fun i hi => ⟨?_, by rw [← a1]; exact ln_le cs i⟩, a6, a7⟩
  -- the uppermost level holds all
  have hhead : ∃ c ∈ cs, i < c := by
    apply Decidable.byContradiction
    intro hn
    have hall : ∀ c ∈ cs, c ≤ l.length - 1 := by
      cases cs with
      | nil => simp at a1
      | cons c0 ct =>
        have h0 : c0 ≤ i := by
          apply Decidable.byContradiction
          intro h9
          exact hn ⟨c0, by simp, by omega⟩
        intro c hc
        rcases List.mem_cons.1 hc with rfl | hc
        · omega
        · have := (List.pairwise_cons.1 a3).1 c hc
          have : c ≤ c0 := this
          omega
    have := wd_le (l.length - 1) cs hall
    rw [a1, hw] at this
    omega
  obtain ⟨c, hc, hic⟩ := hhead
  unfold ln
  exact List.length_pos_of_mem (List.mem_filter.2 ⟨hc, by simpa using hic⟩)

/-- a symbol's occurrences -/
theorem cnt_take {l : List It} (hl : GL l) {i s : Nat} (hi : i < l.length) (hs : l[i].s = [s]) (c : Nat) : (sy (l.take c)).count s = if i < c then 1 else 0 := by
  have hall : sy (l.take c) ++ sy (l.drop c) = sy l := by rw [← sy_app, List.take_append_drop]
  have hnd := hl.nodup
  rw [← hall] at hnd
  have h1 := List.nodup_iff_count.1 hnd s
  rw [List.count_append] at h1
  by_cases h : i < c
  · rw [if_pos h]
    have : s ∈ sy (l.take c) := by
      unfold sy
      rw [List.mem_flatMap]
      exact ⟨l[i], List.mem_take_iff_getElem.2 ⟨i, by omega, rfl⟩, by rw [hs]; simp⟩
    have := List.count_pos_iff.2 this
    omega
  · rw [if_neg h]
    have : s ∈ sy (l.drop c) := by
      unfold sy
      rw [List.mem_flatMap]
      refine ⟨l[i], ?_, by rw [hs]; simp⟩
      rw [List.mem_drop_iff_getElem]
      exact ⟨i - c, by omega, by congr 1; omega⟩
    have := List.count_pos_iff.2 this
    omega
theorem cnt_levels {l : List It} (hl : GL l) {i s : Nat} (hi : i < l.length) (hs : l[i].s = [s]) : ∀ cs : List Nat, (cs.flatMap fun c => sy (l.take c)).count s = ln cs i
  | [] => rfl
  | c :: cs => by
    rw [List.flatMap_cons, List.count_append, cnt_take hl hi hs, cnt_levels hl hi hs cs, ln_cons]
theorem cnt_none {l : List It} {s : Nat} (h : s ∉ sy l) : ∀ cs : List Nat, (cs.flatMap fun c => sy (l.take c)).count s = 0
  | [] => rfl
  | c :: cs => by
    rw [List.flatMap_cons, List.count_append, cnt_none h cs]
    have : s ∉ sy (l.take c) := by
      intro hm
      apply h
      unfold sy at *
      rw [List.mem_flatMap] at *
      obtain ⟨x, hx, hs⟩ := hm
      exact ⟨x, List.mem_of_mem_take hx, hs⟩
    rw [List.count_eq_zero.2 this]

theorem ws_nn {l : List It} (h : ∀ x ∈ l, 0 ≤ x.w) : 0 ≤ ws l := by
  induction l with
  | nil => exact Int.le_refl _
  | cons a l ih =>
    rw [ws_cons]
    have := h a (by simp)
    have := ih (fun x hx => h x (by simp [hx]))
    omega
def wt (l : List It) (i : Nat) : Int := (l.getD i ⟨0, []⟩).w
end Go.Proofs.YtoppjcmkhhkbmaaGreat.Mg

namespace Go.Proofs.YtoppjcmkhhkbmaaGreat.Mg

def le (a b : It) : Bool := decide (a.w < b.w) || (decide (a.w = b.w) && decide (a.s.length ≤ b.s.length))
theorem le_iff (a b : It) : le a b = true ↔ Le a b := by
  unfold le Le
  simp
theorem Le.trans {a b c : It} (h : Le a b) (h' : Le b c) : Le a c := by
  unfold Le at *
  omega
theorem Le.total (a b : It) : Le a b ∨ Le b a := by
  unfold Le
  omega
theorem Le.rfl' (a : It) : Le a a := .inr ⟨rfl, Nat.le_refl _⟩
def ev (a b : It) : Bool := le a b && le b a
theorem ev_iff (a b : It) : ev a b = true ↔ Le a b ∧ Le b a := by
  unfold ev
  rw [Bool.and_eq_true, le_iff, le_iff]
def ins (x : It) : List It → List It
  | [] => [x]
  | y :: t => if le x y then x :: y :: t else y :: ins x t
def isort : List It → List It
  | [] => []
  | x :: t => ins x (isort t)
theorem uniq : ∀ r1 r2 : List It, r1.Pairwise Le → r2.Pairwise Le → (∀ x, r1.filter (ev x) = r2.filter (ev x)) → r1 = r2
  | [], [], _, _, _ => rfl
  | [], y :: t, _, _, h => by
    have := h y
    rw [List.filter_cons_of_pos ((ev_iff y y).2 ⟨Le.rfl' y, Le.rfl' y⟩)] at this
    cases this
  | x :: t, [], _, _, h => by
    have := h x
    rw [List.filter_cons_of_pos ((ev_iff x x).2 ⟨Le.rfl' x, Le.rfl' x⟩)] at this
    cases this
  | x :: t1, y :: t2, h1, h2, h => by
    obtain ⟨a1, a2⟩ := List.pairwise_cons.1 h1
    obtain ⟨b1, b2⟩ := List.pairwise_cons.1 h2
    have ex : ev x x = true := (ev_iff x x).2 ⟨Le.rfl' x, Le.rfl' x⟩
    have ey : ev y y = true := (ev_iff y y).2 ⟨Le.rfl' y, Le.rfl' y⟩
    have hx : x ∈ y :: t2 := by
      have : x ∈ (y :: t2).filter (ev x) := by rw [← h x]; exact List.mem_filter.2 ⟨List.mem_cons_self, ex⟩
      exact (List.mem_filter.1 this).1
    have hy : y ∈ x :: t1 := by
      have : y ∈ (x :: t1).filter (ev y) := by rw [h y]; exact List.mem_filter.2 ⟨List.mem_cons_self, ey⟩
      exact (List.mem_filter.1 this).1
    have l1 : Le x y := by
      rcases List.mem_cons.1 hy with e | hy
      · rw [e]; exact Le.rfl' x
      · exact a1 y hy
    have l2 : Le y x := by
      rcases List.mem_cons.1 hx with e | hx
      · rw [e]; exact Le.rfl' y
      · exact b1 x hx
    have e := h x
    rw [List.filter_cons_of_pos ex, List.filter_cons_of_pos ((ev_iff x y).2 ⟨l1, l2⟩)] at e
    injection e with e _
    subst e
    rw [uniq t1 t2 a2 b2 (fun z => by
      have hz := h z
      by_cases c : ev z x = true
      · rw [List.filter_cons_of_pos c, List.filter_cons_of_pos c] at hz
        injection hz
      · rw [List.filter_cons_of_neg c, List.filter_cons_of_neg c] at hz
        exact hz)]
theorem ins_mem (x : It) : ∀ (l : List It) (y : It), y ∈ ins x l → y = x ∨ y ∈ l
  | [], y, h => by
    unfold ins at h
    exact .inl (List.mem_singleton.1 h)
  | z :: t, y, h => by
    unfold ins at h
    split at h
    · rcases List.mem_cons.1 h with rfl | h
      · exact .inl rfl
      · exact .inr h
    · rcases List.mem_cons.1 h with rfl | h
      · exact .inr List.mem_cons_self
      · rcases ins_mem x t y h with rfl | h
        · exact .inl rfl
        · exact .inr (List.mem_cons_of_mem _ h)
theorem ins_sorted (x : It) : ∀ l : List It, l.Pairwise Le → (ins x l).Pairwise Le
  | [], _ => by unfold ins; simp
  | y :: t, h => by
    obtain ⟨h1, h2⟩ := List.pairwise_cons.1 h
    unfold ins
    split
    · rename_i c
      have c := (le_iff x y).1 c
      refine List.pairwise_cons.2 ⟨fun z hz => ?_, h⟩
      rcases List.mem_cons.1 hz with rfl | hz
      · exact c
      · exact c.trans (h1 z hz)
    · rename_i c
      have c : ¬ Le x y := fun hc => c ((le_iff x y).2 hc)
      refine List.pairwise_cons.2 ⟨fun z hz => ?_, ins_sorted x t h2⟩
      rcases ins_mem x t z hz with rfl | hz
      · rcases Le.total y z with h | h
        · exact h
        · exact absurd h c
      · exact h1 z hz
theorem isort_sorted : ∀ l : List It, (isort l).Pairwise Le
  | [] => .nil
  | x :: t => ins_sorted x _ (isort_sorted t)
theorem ins_filter (z x : It) : ∀ l : List It, (ins x l).filter (ev z) = (x :: l).filter (ev z)
  | [] => rfl
  | y :: t => by
    unfold ins
    split
    · rfl
    · rename_i c
      have c : ¬ Le x y := fun hc => c ((le_iff x y).2 hc)
      have ih := ins_filter z x t
      by_cases h1 : ev z x = true
      · have h2 : ¬ ev z y = true := by
          intro h2
          exact c (((ev_iff z x).1 h1).2.trans ((ev_iff z y).1 h2).1)
        rw [List.filter_cons_of_neg h2, ih, List.filter_cons_of_pos h1, List.filter_cons_of_pos h1, List.filter_cons_of_neg h2]
      · rw [List.filter_cons_of_neg h1] at ih
        rw [List.filter_cons_of_neg h1]
        by_cases h2 : ev z y = true
        · rw [List.filter_cons_of_pos h2, List.filter_cons_of_pos h2, ih]
        · rw [List.filter_cons_of_neg h2, List.filter_cons_of_neg h2, ih]
theorem isort_filter (z : It) : ∀ l : List It, (isort l).filter (ev z) = l.filter (ev z)
  | [] => rfl
  | x :: t => by
    have ih := isort_filter z t
    show (ins x (isort t)).filter (ev z) = _
    rw [ins_filter]
    by_cases h : ev z x = true
    · rw [List.filter_cons_of_pos h, List.filter_cons_of_pos h, ih]
    · rw [List.filter_cons_of_neg h, List.filter_cons_of_neg h, ih]
theorem st_isort {a r : List It} (h : St a r) : r = isort a := by
  refine uniq r (isort a) h.sorted (isort_sorted a) (fun z => ?_)
  rw [isort_filter]
  have hs : (a.filter (ev z)).Pairwise Le := by
    refine List.pairwise_of_forall_mem_list (fun x hx y hy => ?_)
    have h1 := (ev_iff z x).1 (List.mem_filter.1 hx).2
    have h2 := (ev_iff z y).1 (List.mem_filter.1 hy).2
    exact h1.2.trans h2.1
  have s1 := (h.stable _ hs List.filter_sublist).filter (ev z)
  rw [List.filter_filter] at s1
  simp only [Bool.and_self] at s1
  exact (s1.eq_of_length ((h.perm.filter (ev z)).length_eq).symm).symm
/-- the rows, reckoned -/
def rowFn (l : List It) : Nat → List It
  | 0 => l
  | k + 1 => isort (l ++ pk (rowFn l k))
theorem row_fn {l : List It} : ∀ (k : Nat) (r : List It), RowOf l k r → r = rowFn l k
  | 0, r, h => h
  | k + 1, r, ⟨r0, h0, hs⟩ => by
    rw [st_isort hs, row_fn k r0 h0]
    rfl
end Go.Proofs.YtoppjcmkhhkbmaaGreat.Mg
