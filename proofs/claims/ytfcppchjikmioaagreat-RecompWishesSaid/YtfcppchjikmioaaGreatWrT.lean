/-
  scratch
-/
import Derived.Test.YtfcppchjikmioaaGreatWrA
import Derived.Test.YtfcppchjikmioaaGreatRpK
namespace Go.Proofs.YtfcppchjikmioaaGreat
open Go.RowKit Go.Lib
theorem ne_bne (a b : Int) : decide (a ≠ b) = (a != b) := by
  by_cases h : a = b
  · have : (a != b) = false := by rw [h]; simp
    rw [this]
    exact decide_eq_false (fun q => q h)
  · rw [decide_eq_true h]
    exact (bne_iff_ne.2 h).symm
theorem hcc_t (o : Od) (j : Nat) (hj : o.t = (j : Int)) (vv : ByteArray) (hv : turnsW.getD o.t.toNat ⟨#[]⟩ = vv) : (wCand o)[0]? = some ((j : Int) != 0, (⟨#[116, 117, 114, 110]⟩, WV.s vv)) := by
  have e : (wCand o)[0]? = some (decide (o.t ≠ 0), (nmB 0, .s (turnsW.getD o.t.toNat ⟨#[]⟩))) := rfl
  rw [e, hv, ne_bne, hj]
  rfl
theorem hcc_f (o : Od) (j : Nat) (hj : o.fo = (j : Int)) (vv : ByteArray) (hv : formsW.getD o.fo.toNat ⟨#[]⟩ = vv) : (wCand o)[7]? = some ((j : Int) != 0, (⟨#[102, 111, 114, 109]⟩, WV.s vv)) := by
  have e : (wCand o)[7]? = some (decide (o.fo ≠ 0), (nmB 7, .s (formsW.getD o.fo.toNat ⟨#[]⟩))) := rfl
  rw [e, hv, ne_bne, hj]
  rfl
theorem hcc_l (o : Od) (vv : ByteArray) (hv : lacesW.getD (o.la + 1).toNat ⟨#[]⟩ = vv) : (wCand o)[9]? = some (o.la != -1, (⟨#[108, 97, 99, 101]⟩, WV.s vv)) := by
  have e : (wCand o)[9]? = some (decide (o.la ≠ -1), (nmB 9, .s (lacesW.getD (o.la + 1).toNat ⟨#[]⟩))) := rfl
  rw [e, hv, ne_bne]
  rfl
theorem text_yes {L : List Wsh} {e : Ending} (hg : goodF [] L) (h : (∃ M, L.map sm = M.map sm ∧ goodF [] M ∧ e = .returned (.tuple #[.string (runesBytes (txF true M)), .nilIface])) ∨ ((∀ M, L.map sm = M.map sm → ¬ goodF [] M) ∧ e = .returned (.tuple #[.string ⟨#[]⟩, .iface 34 (.int .i64 6)]))) :
    e = .returned (.tuple #[.string (runesBytes (txF true L)), .nilIface]) := by
  rcases h with ⟨M, hM, _, he⟩ | ⟨hno, _⟩
  · rw [sm_inj hM]
    exact he
  · exact absurd hg (hno L rfl)
theorem wmem : ∀ (b : Bool) (L : List Wsh) (x : Wsh), x ∈ L → bl (rnL x.1) + bl (txV x.2) ≤ bl (txF b L)
  | b, y :: t, x, h => by
    rw [txF, bl_app, bl_app, bl_app]
    rcases List.mem_cons.1 h with rfl | h
    · omega
    · have := wmem false t x h
      omega
theorem wsizes {L : List Wsh} (h : goodF [] L) : ∀ x ∈ L, x.1.size ≤ bl (txF true L) ∧ ∀ y, x.2 = .s y → y.size ≤ bl (txF true L) := by
  intro x hx
  have h1 := wmem true L x hx
  obtain ⟨k, hk, rfl⟩ := List.getElem_of_mem hx
  have hgm : ∀ (P L : List Wsh) (k : Nat) (hk : k < L.length), goodF P L → gName L[k].1 ∧ gVal L[k].2 := by
    intro P L
    induction L generalizing P with
    | nil => intro k hk _; simp at hk
    | cons y t ih =>
      intro k hk h
      cases k with
      | zero => exact ⟨h.1.1, h.1.2.1⟩
      | succ k => exact ih _ k (by simpa using hk) h.2
  obtain ⟨h2, h3⟩ := hgm [] L k hk h
  obtain ⟨nm, e, hn⟩ := h2
  have e2 := rn_bytes nm (nm_vr hn.2.2)
  constructor
  · have : L[k].1.size = bl (rnL L[k].1) := size_bl (by rw [e]; exact e2.2)
    omega
  · intro y hy
    rw [hy] at h3 h1
    have : y.size = bl (rnL y) := size_bl h3
    have h4 : bl (rnL y) ≤ bl (txV (.s y)) := by
      rw [txV_s]
      have := bl_til (rnL y)
      split
      · rw [bl_cons]; omega
      · rw [bl_cons, bl_cons 34, bl_app]; omega
    omega
theorem wcand_small (o : Od) : ∀ x ∈ pick (wCand o), (paB x).length ≤ 100 := by
  have hp : ∀ (C : List (Bool × Wsh)) x, x ∈ pick C → ∃ b, (b, x) ∈ C := by
    intro C
    induction C with
    | nil => intro x hx; cases hx
    | cons c C ih =>
      intro x hx
      obtain ⟨b, y⟩ := c
      rw [pick_cons] at hx
      rcases List.mem_append.1 hx with hx | hx
      · split at hx
        · rcases List.mem_singleton.1 hx with rfl
          exact ⟨b, List.mem_cons_self⟩
        · cases hx
      · obtain ⟨b2, h⟩ := ih x hx
        exact ⟨b2, List.mem_cons_of_mem _ h⟩
  have hw : ∀ (ws : List ByteArray) (k : Nat), (∀ w ∈ ws, w.size ≤ 10) → (ws.getD k ⟨#[]⟩).size ≤ 10 := by
    intro ws k h
    rw [List.getD_eq_getElem?_getD]
    cases hk : ws[k]? with
    | none => exact Nat.zero_le _
    | some w => exact h w (List.mem_of_getElem? hk)
  intro x hx
  obtain ⟨b, hb⟩ := hp _ x hx
  have hn : ∀ k, k < 10 → (nmB k).data.toList.length ≤ 10 := by
    intro k hk
    rcases (show k = 0 ∨ k = 1 ∨ k = 2 ∨ k = 3 ∨ k = 4 ∨ k = 5 ∨ k = 6 ∨ k = 7 ∨ k = 8 ∨ k = 9 by omega) with rfl | rfl | rfl | rfl | rfl | rfl | rfl | rfl | rfl | rfl <;> decide
  have hs : ∀ (v : WV), (∀ y, v = .s y → y.size ≤ 10) → (shB v).length ≤ 31 := fun v h => by have := shB_len v 10 h; omega
  unfold wCand at hb
  simp only [List.mem_cons, List.not_mem_nil, or_false, Prod.mk.injEq] at hb
  unfold paB
  rw [List.length_append]
  rcases hb with ⟨_, rfl⟩ | ⟨_, rfl⟩ | ⟨_, rfl⟩ | ⟨_, rfl⟩ | ⟨_, rfl⟩ | ⟨_, rfl⟩ | ⟨_, rfl⟩ | ⟨_, rfl⟩ | ⟨_, rfl⟩ | ⟨_, rfl⟩
  · have := hn 0 (by decide); have := hs (.s (turnsW.getD o.t.toNat ⟨#[]⟩)) (fun y e => by injection e with e; rw [← e]; exact hw _ _ (by decide)); dsimp only; omega
  · have := hn 1 (by decide); have := hs (.t true) (fun y e => by cases e); dsimp only; omega
  · have := hn 2 (by decide); have := hs (.t true) (fun y e => by cases e); dsimp only; omega
  · have := hn 3 (by decide); have := hs (.n o.x) (fun y e => by cases e); dsimp only; omega
  · have := hn 4 (by decide); have := hs (.n o.y) (fun y e => by cases e); dsimp only; omega
  · have := hn 5 (by decide); have := hs (.n o.w) (fun y e => by cases e); dsimp only; omega
  · have := hn 6 (by decide); have := hs (.n o.h) (fun y e => by cases e); dsimp only; omega
  · have := hn 7 (by decide); have := hs (.s (formsW.getD o.fo.toNat ⟨#[]⟩)) (fun y e => by injection e with e; rw [← e]; exact hw _ _ (by decide)); dsimp only; omega
  · have := hn 8 (by decide); have := hs (.n o.re) (fun y e => by cases e); dsimp only; omega
  · have := hn 9 (by decide); have := hs (.s (lacesW.getD (o.la + 1).toNat ⟨#[]⟩)) (fun y e => by injection e with e; rw [← e]; exact hw _ _ (by decide)); dsimp only; omega
theorem wish_short (o : Od) (h : FineO o) : bl (txF true (pick (wCand o))) ≤ 1000000 := by
  have hg := wishes_good o h
  have hl := goodF_len hg
  have h1 := join_len ((pick (wCand o)).map paB) 100 (fun x hx => by
    obtain ⟨y, hy, rfl⟩ := List.mem_map.1 hx
    exact wcand_small o y hy)
  have h2 := pText_eq hg
  have h3 : (pText (pick (wCand o))).length = bl (txF true (pick (wCand o))) := by rw [h2]; rfl
  rw [← h3]
  unfold pText
  rw [List.length_map] at h1
  have : (pick (wCand o)).length * (100 + 1) ≤ 16 * 101 := Nat.mul_le_mul_right _ hl
  omega
end Go.Proofs.YtfcppchjikmioaaGreat
