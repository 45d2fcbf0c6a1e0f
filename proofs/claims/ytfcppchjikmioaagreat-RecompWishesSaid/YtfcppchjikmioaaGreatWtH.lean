/-
  Wishes of the law are in form just where their program's wishes are (plain).
-/
import Derived.Test.YtfcppchjikmioaaGreatWtG
import Derived.Test.YtfcppchjikmioaaGreatWtD
import Derived.Test.YtfcppchjikmioaaGreatRpK
namespace Go.Proofs.YtfcppchjikmioaaGreat
open Go.RowKit Go.Lib

/-- the value that a kind says -/
def kvW (w : Wi) : Option WV := if w.kind = 1 then some (.n w.n) else if w.kind = 2 then some (.s w.s) else if w.kind = 3 then some (.t w.b) else none
def toO (w : Wi) : ByteArray × Option WV := (w.nm, kvW w)
theorem enc_toO (w : Wi) : encAw w = encO (toO w) := by
  unfold encAw encO toO valv kvW
  split
  · rfl
  · split
    · rfl
    · split <;> rfl
theorem rows_toO (l : List Wi) : l.flatMap encAw = (l.map toO).flatMap encO := by
  rw [List.flatMap_map]
  congr 1
  funext w
  exact enc_toO w
theorem ru_rn (s : ByteArray) : ∀ (f g pos : Nat), s.size ≤ pos + f → s.size < g + pos → rnW s g pos = true → ruFrom s f pos = rnFrom s g pos
  | 0, g, pos, h1, h2, hw => by
    obtain ⟨g, rfl⟩ | h0 : (∃ k, g = k + 1) ∨ g = 0 := by
      rcases Nat.eq_zero_or_pos g with h | h
      · exact .inr h
      · exact .inl ⟨g - 1, by omega⟩
    · rw [rnFrom, if_neg (fun h => by omega)]; rfl
    · subst h0; rfl
  | f + 1, g, pos, h1, h2, hw => by
    obtain ⟨g, rfl⟩ | h0 : (∃ k, g = k + 1) ∨ g = 0 := by
      rcases Nat.eq_zero_or_pos g with h | h
      · exact .inr h
      · exact .inl ⟨g - 1, by omega⟩
    · rw [rnW] at hw
      rw [ruFrom, rnFrom]
      by_cases hp : pos < s.size
      · rw [if_pos hp] at hw ⊢
        by_cases ho : okAt s pos = true
        · rw [if_pos ho] at hw
          rw [if_pos ⟨hp, ho⟩]
          have hd := dec_pos hp
          rw [ru_rn s f g _ (by omega) (by omega) hw]
        · rw [if_neg ho] at hw; cases hw
      · rw [if_neg hp, if_neg (fun h => hp h.1)]
    · subst h0
      rw [ruFrom, if_neg (by omega)]
      rfl
theorem ru_whole {s : ByteArray} (h : rnWhole s = true) : ruL s = rnL s := ru_rn s s.size (s.size + 1) 0 (by omega) (by omega) h
theorem whole_of (s : ByteArray) : ∀ (f g pos : Nat), s.size ≤ pos + f → s.size < g + pos → (∀ c ∈ ruFrom s f pos, c ≠ 65533) → rnW s g pos = true
  | f, 0, pos, h1, h2, hc => rfl
  | 0, g + 1, pos, h1, h2, hc => by rw [rnW, if_neg (by omega)]
  | f + 1, g + 1, pos, h1, h2, hc => by
    rw [rnW]
    by_cases hp : pos < s.size
    · rw [ruFrom, if_pos hp] at hc
      have h0 := hc _ List.mem_cons_self
      have ho : okAt s pos = true := by
        unfold okAt
        have : (((Utf8.decode s pos).1 : Int) == 65533) = false := by rw [beq_eq_false_iff_ne]; exact h0
        rw [this]
        rfl
      have hd := dec_pos hp
      rw [if_pos hp, if_pos ho]
      exact whole_of s f g _ (by omega) (by omega) (fun c h => hc c (List.mem_cons_of_mem _ h))
    · rw [if_neg hp]
/-- a name's runes are small, so many: a name in form -/
theorem name_iff (x : ByteArray) : gName x ↔ ((1 ≤ (ruL x).length ∧ (ruL x).length ≤ 16) ∧ ∀ c ∈ ruL x, isSm c = true) := by
  constructor
  · rintro ⟨nm, rfl, h1, h2, h3⟩
    obtain ⟨e1, e2⟩ := rn_bytes nm (nm_vr h3)
    rw [ru_whole e2, e1]
    exact ⟨⟨h1, h2⟩, h3⟩
  · rintro ⟨⟨h1, h2⟩, h3⟩
    have hw : rnWhole x = true := whole_of x x.size (x.size + 1) 0 (by omega) (by omega) (fun c hc => by
      have := sm_low (h3 c hc)
      omega)
    rw [ru_whole hw] at h1 h2 h3
    exact ⟨rnL x, (whole_bytes x hw).symm, h1, h2, h3⟩
theorem name_back {x : ByteArray} (h : gName x) : runesBytes (ruL x) = x := by
  obtain ⟨nm, rfl, h1, h2, h3⟩ := h
  obtain ⟨e1, e2⟩ := rn_bytes nm (nm_vr h3)
  rw [ru_whole e2, e1]
theorem known_same : ∀ (P : List Wi) (L : List Wsh) (nm : ByteArray), P.map toO = L.map sm → knownI nm (P.map nrm) = knownP nm L
  | [], [], nm, _ => rfl
  | [], y :: L, nm, h => by cases h
  | x :: P, [], nm, h => by cases h
  | x :: P, y :: L, nm, h => by
    rw [List.map_cons, List.map_cons] at h
    injection h with h1 h2
    have ih := known_same P L nm h2
    unfold knownI knownP at ih ⊢
    rw [List.map_cons, List.any_cons, List.any_cons, ih]
    have e1 : x.nm = y.1 := congrArg Prod.fst h1
    have e2 : (nrm x).nm = x.nm := by
      unfold nrm
      split
      · rfl
      · split
        · rfl
        · split <;> rfl
    rw [e2, e1]
theorem whole_nil : rnWhole ⟨#[]⟩ = true := rfl
/-- one wish: what the reference asks of it, and what its program's wish is -/
theorem GA_iff (P : List Wi) (L : List Wsh) (x : Wi) (h : P.map toO = L.map sm) : GA (P.map nrm) (nrm x) ↔ ∃ v, kvW x = some v ∧ gName x.nm ∧ gVal v ∧ knownP x.nm L = false := by
  obtain ⟨nm, k, z, s, b⟩ := x
  have e2 : (nrm ⟨nm, k, z, s, b⟩).nm = nm := by
    unfold nrm
    split
    · rfl
    · split
      · rfl
      · split <;> rfl
  unfold GA
  rw [e2]
  constructor
  · rintro ⟨⟨h1, h2, h3⟩, h4, h5, h6⟩
    have hn := (name_iff nm).2 ⟨h1, h4⟩
    rw [name_back hn, known_same P L nm h] at h2
    by_cases k1 : k = 1
    · subst k1
      exact ⟨.n z, rfl, hn, h3, h2⟩
    by_cases k2 : k = 2
    · subst k2
      exact ⟨.s s, rfl, hn, h5, h2⟩
    by_cases k3 : k = 3
    · subst k3
      exact ⟨.t b, rfl, hn, trivial, h2⟩
    · exfalso
      unfold nrm at h6
      rw [if_neg k1, if_neg k2, if_neg k3] at h6
      dsimp only at h6
      omega
  · rintro ⟨v, hv, hn, hg, hk⟩
    obtain ⟨h1, h4⟩ := (name_iff nm).1 hn
    rw [name_back hn, known_same P L nm h]
    unfold kvW at hv
    dsimp only at hv hk
    by_cases k1 : k = 1
    · subst k1
      rw [if_pos rfl] at hv
      injection hv with hv
      subst hv
      exact ⟨⟨h1, hk, hg⟩, h4, whole_nil, (show (1 : Int) ≤ 1 by decide), (show (1 : Int) ≤ 3 by decide)⟩
    rw [if_neg k1] at hv
    by_cases k2 : k = 2
    · subst k2
      rw [if_pos rfl] at hv
      injection hv with hv
      subst hv
      exact ⟨⟨h1, hk, (show (-999999999 : Int) ≤ 0 by decide), (show (0 : Int) ≤ 999999999 by decide)⟩, h4, hg, (show (1 : Int) ≤ 2 by decide), (show (2 : Int) ≤ 3 by decide)⟩
    rw [if_neg k2] at hv
    by_cases k3 : k = 3
    · subst k3
      exact ⟨⟨h1, hk, (show (-999999999 : Int) ≤ 0 by decide), (show (0 : Int) ≤ 999999999 by decide)⟩, h4, whole_nil, (show (1 : Int) ≤ 3 by decide), (show (3 : Int) ≤ 3 by decide)⟩
    · rw [if_neg k3] at hv
      cases hv
theorem GoodF_iff : ∀ (l P : List Wi) (Q : List Wsh), P.map toO = Q.map sm → Q.length + l.length ≤ 16 → (GoodF (P.map nrm) (l.map nrm) ↔ ∃ L, l.map toO = L.map sm ∧ goodF Q L)
  | [], P, Q, h, h16 => ⟨fun _ => ⟨[], rfl, trivial⟩, fun _ => trivial⟩
  | x :: l, P, Q, h, h16 => by
    rw [List.length_cons] at h16
    rw [List.map_cons, GoodF, GA_iff P Q x h]
    have ih : ∀ v, kvW x = some v → (GoodF (P.map nrm ++ [nrm x]) (l.map nrm) ↔ ∃ L, l.map toO = L.map sm ∧ goodF (Q ++ [(x.nm, v)]) L) := fun v hv => by
      have := GoodF_iff l (P ++ [x]) (Q ++ [(x.nm, v)]) (by rw [List.map_append, List.map_append, h]; show _ ++ [toO x] = _ ++ [sm (x.nm, v)]; unfold toO sm; rw [hv]) (by rw [List.length_append]; simp; omega)
      rw [List.map_append] at this
      exact this
    constructor
    · rintro ⟨⟨v, hv, h1, h2, h3⟩, h4⟩
      obtain ⟨L, hL, hg⟩ := (ih v hv).1 h4
      refine ⟨(x.nm, v) :: L, ?_, ⟨h1, h2, h3, by omega⟩, hg⟩
      rw [List.map_cons, List.map_cons, hL]
      unfold toO sm
      rw [hv]
    · rintro ⟨L, hL, hg⟩
      match L, hL, hg with
      | [], hL, _ => cases hL
      | y :: L, hL, hg =>
        rw [List.map_cons, List.map_cons] at hL
        injection hL with hL1 hL2
        have e1 : x.nm = y.1 := congrArg Prod.fst hL1
        have e2 : kvW x = some y.2 := congrArg Prod.snd hL1
        refine ⟨⟨y.2, e2, by rw [e1]; exact hg.1.1, hg.1.2.1, by rw [e1]; exact hg.1.2.2.1⟩, (ih y.2 e2).2 ⟨L, hL2, ?_⟩⟩
        rw [e1]
        exact hg.2
theorem GoodP_iff (l : List Wi) : GoodP (l.map nrm) ↔ ∃ L, l.map toO = L.map sm ∧ goodF [] L := by
  unfold GoodP
  rw [List.length_map]
  constructor
  · rintro ⟨h1, h2⟩
    exact (GoodF_iff l [] [] rfl (by simpa using h1)).1 h2
  · rintro ⟨L, hL, hg⟩
    have h1 : l.length ≤ 16 := by
      have := congrArg List.length hL
      rw [List.length_map, List.length_map] at this
      have := goodF_len hg
      omega
    exact ⟨h1, (GoodF_iff l [] [] rfl (by simpa using h1)).2 ⟨L, hL, hg⟩⟩
/-- the text of few wishes is short -/
theorem join_len : ∀ (xs : List (List UInt8)) (m : Nat), (∀ x ∈ xs, x.length ≤ m) → (Lib.join xs [44]).length ≤ xs.length * (m + 1)
  | [], m, _ => by simp [Lib.join_nil]
  | x :: xs, m, h => by
    rw [Lib.join_cons, List.length_append]
    have h0 := h x List.mem_cons_self
    have ht : ∀ (ys : List (List UInt8)), (∀ y ∈ ys, y.length ≤ m) → (Lib.joinTail [44] ys).length ≤ ys.length * (m + 1) := by
      intro ys
      induction ys with
      | nil => intro _; simp [Lib.joinTail]
      | cons y ys ih =>
        intro hy
        have h1 := hy y List.mem_cons_self
        have h2 := ih (fun z hz => hy z (List.mem_cons_of_mem _ hz))
        unfold Lib.joinTail at h2 ⊢
        rw [List.map_cons, List.flatten_cons, List.length_append, List.length_append, List.length_cons]
        simp only [List.length_cons, List.length_nil]
        have e : (ys.length + 1) * (m + 1) = ys.length * (m + 1) + (m + 1) := by rw [Nat.add_mul]; omega
        omega
    have h2 := ht xs (fun z hz => h z (List.mem_cons_of_mem _ hz))
    rw [List.length_cons]
    have e : (xs.length + 1) * (m + 1) = xs.length * (m + 1) + (m + 1) := by rw [Nat.add_mul]; omega
    omega
end Go.Proofs.YtfcppchjikmioaaGreat
