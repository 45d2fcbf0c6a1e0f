/-
  A region that draws its order, with operations that turn the world in no order of their own: the state goes by which of them have come up.
-/
import Derived.Test.YtphhoihhmphbdaaReg
namespace Go.Proofs.Ytphhoihhmphbdaa
open Go.RowKit

section
variable {P : Program}
def none2 : Nat → Bool := fun _ => false
/-- what an operation's value hangs on, of those that turn the world: each lies behind an edge -/
def depS (L : List Oper) (dep : Nat → List Nat) : Bool :=
  (List.range L.length).all fun i => (dep i).all fun d => match L[i]? with | some o => edgeB o d || (List.range i).any (fun j => edgeB o j && (dep j).contains d) | none => true
theorem dep_all {L : List Oper} {dep : Nat → List Nat} {listed : Array Bool} (hd : depS L dep = true) (h : InvR L none2 listed) : ∀ (i : Nat) (o : Oper), L[i]? = some o → (∀ e ∈ o.after, Region.binds .any e = true → listed.getD e.on false = true) → ∀ d, d ∈ dep i → listed.getD d false = true := by
  intro i
  induction i using Nat.strongRecOn with
  | ind i ih =>
    intro o ho hall d hdi
    have hil := (List.getElem?_eq_some_iff.1 ho).1
    have hd2 := hd
    unfold depS at hd2
    rw [List.all_eq_true] at hd2
    have h1 := hd2 i (List.mem_range.2 hil)
    rw [List.all_eq_true] at h1
    have h2 := h1 d hdi
    rw [ho] at h2
    simp only [Bool.or_eq_true, List.any_eq_true, List.mem_range, Bool.and_eq_true] at h2
    rcases h2 with h2 | ⟨j, hj, he, hc⟩
    · exact edge_listed h2 hall
    · have hjl := edge_listed he hall
      have hjL : j < L.length := by omega
      exact ih j hj L[j] (List.getElem?_eq_getElem hjL) (fun e he2 hb => h.down j L[j] (List.getElem?_eq_getElem hjL) hjl e he2 hb) d (List.contains_iff_mem.1 hc)
/-- a step, where these have come up -/
def StepS (P : Program) {S : Type} (val : S → Nat → Value) (wd : S → World) (R : (Nat → Bool) → S → Prop) (dep : Nat → List Nat) (N : Nat) (s : Nat → Bool) (x : S) (m : Bool) (i : Nat) (o : Oper) (ρ : Operand → Value) : Prop :=
  match m with
  | true => s i = false → (∀ d, d ∈ dep i → s d = true) → TurnY P o ρ (wd x) fun v w' => ∃ y, R (fun k => s k || k == i) y ∧ wd y = w' ∧ val y i = v ∧ ∀ j, j < N → (dep j).contains i = false → j ≠ i → val y j = val x j
  | false => s i = false → (∀ d, d ∈ dep i → s d = true) → Yl P o ρ (wd x) (val x i) (wd x)
theorem set_core {S : Type} {L : List Oper} {mem : Nat → Bool} {val : S → Nat → Value} {wd : S → World} {R : (Nat → Bool) → S → Prop} {dep : Nat → List Nat} {Q : Exit → Act → World → Prop} {a : Act} (W : Nat → (Act → World → Prop) → Act → World → Prop)
    (hW1 : ∀ i o a w w' v K, L[i]? = some o → Yl P o (Act.eval a) w v w' → K (a.put o.dst v) w' → W i K a w)
    (hW2 : ∀ i o a w G K, L[i]? = some o → TurnY P o (Act.eval a) w G → (∀ v w', G v w' → K (a.put o.dst v) w') → W i K a w)
    (ok : OkR2 L none2 none2 none2) (hdep : depS L dep = true) (hRm : ∀ s s' x, (∀ k, mem k = true → s k = s' k) → R s x → R s' x)
    (hy : ∀ s x, R s x → ∀ i o, L[i]? = some o → StepS P val wd R dep L.length s x (mem i) i o (actOf L (val x) (fun _ => true) a L.length).eval)
    (hQ : ∀ x, R (fun _ => true) x → Q .normal (actOf L (val x) (fun _ => true) a L.length) (wd x))
    (hmL : ∀ k, mem k = true → k < L.length)
    (hne : ∀ listed : Array Bool, InvR L none2 listed → Region.ready .any L.toArray listed = [] → ∀ i, i < L.length → listed.getD i false = true)
    (wA : Nat → Array Bool → Act → World → Prop)
    (hA0 : ∀ listed a w, Region.ready .any L.toArray listed = [] → Q .normal a w → wA 0 listed a w)
    (hA1 : ∀ fuel listed a w, (Region.ready .any L.toArray listed = [] → Q .normal a w) → (∀ i ∈ Region.ready .any L.toArray listed, W i (wA fuel (listed.setIfInBounds i true)) a w) → wA (fuel + 1) listed a w) :
    ∀ (fuel : Nat) (listed : Array Bool) (x : S), InvR L none2 listed → R (fun k => listed.getD k false) x → ((∃ i, i < L.length ∧ listed.getD i false = false) → 0 < fuel) → (L.length - rankM (fun _ => true) (fun k => listed.getD k false) L.length ≤ fuel) →
      wA fuel listed (actOf L (val x) (fun k => listed.getD k false) a L.length) (wd x) := by
  have fin : ∀ (listed : Array Bool) (x : S), R (fun k => listed.getD k false) x → (∀ i, i < L.length → listed.getD i false = true) → Q .normal (actOf L (val x) (fun k => listed.getD k false) a L.length) (wd x) := fun listed x hR hall => by
    rw [actOf_same L (val x) (fun k => listed.getD k false) (fun _ => true) a L.length (fun j hj => hall j hj)]
    exact hQ x (hRm _ _ x (fun k hk => hall k (hmL k hk)) hR)
  intro fuel
  induction fuel with
  | zero =>
    intro listed x inv hR hpos _
    have hall : ∀ i, i < L.length → listed.getD i false = true := fun i hi => by
      cases hb : listed.getD i false
      · exact absurd (hpos ⟨i, hi, hb⟩) (by omega)
      · rfl
    refine hA0 _ _ _ ?_ (fin listed x hR hall)
    refine List.eq_nil_iff_forall_not_mem.2 fun m hm => ?_
    obtain ⟨h1, o, ho, _⟩ := mem_ready.1 hm
    rw [List.getElem?_toArray] at ho
    have hml := (List.getElem?_eq_some_iff.1 ho).1
    have h2 := hall m hml
    have hs : m < listed.size := by rw [inv.size]; exact hml
    simp [hs] at h1 h2
    rw [h1] at h2
    cases h2
  | succ fuel ih =>
    intro listed x inv hR _ hfu
    refine hA1 _ _ _ _ (fun h0 => fin listed x hR (hne listed inv h0)) fun i hi => ?_
    obtain ⟨h1, o, ho, hall⟩ := mem_ready.1 hi
    rw [List.getElem?_toArray] at ho
    have hil := (List.getElem?_eq_some_iff.1 ho).1
    have hs : i < listed.size := by rw [inv.size]; exact hil
    have hif : listed.getD i false = false := by simp [hs] at h1 ⊢; exact h1
    have inv2 := inv.add (mem := none2) hi
    have hoL := List.mem_of_getElem? ho
    have hdst : dstAt L i = o.dst := by unfold dstAt; rw [ho]; rfl
    have hcong : execOp (actOf L (val x) (fun k => listed.getD k false) a L.length).eval o = execOp (actOf L (val x) (fun _ => true) a L.length).eval o := by
      refine execOp_congr o (ok.sel o hoL) fun z hz => actOf_eval L (val x) _ _ a z L.length fun k hk hne d hd e => ?_
      subst e
      have := ok.reads i o k d ho hk hd (by simpa using hz)
      rw [if_neg (by intro h; cases h.1)] at this
      exact hne (edge_listed this hall)
    have hlt : rankM (fun _ => true) (fun k => (listed.setIfInBounds i true).getD k false) L.length = rankM (fun _ => true) (fun k => listed.getD k false) L.length + 1 := by
      rw [listed_upd hs, rankM_add (fun _ => true) _ i hif L.length hil]
      rfl
    have hfuel : ∀ (j : Nat), j < L.length → (listed.setIfInBounds i true).getD j false = false → 0 < fuel := by
      intro j hj hjf
      have key : ∀ (s : Nat → Bool) n, j < n → s j = false → rankM (fun _ => true) s n < n := by
        intro s n
        induction n with
        | zero => intro h; omega
        | succ n ihn =>
          intro h hsj
          unfold rankM
          by_cases e : j = n
          · subst e
            rw [hsj]
            have : ∀ m, rankM (fun _ => true) s m ≤ m := by
              intro m
              induction m with
              | zero => exact Nat.le_refl _
              | succ m ihm => unfold rankM; split <;> omega
            have := this j
            simp
            omega
          · have := ihn (by omega) hsj
            split <;> omega
      have := key (fun k => (listed.setIfInBounds i true).getD k false) L.length hj hjf
      omega
    have hst := hy _ x hR i o ho
    have hdl := dep_all hdep inv i o ho hall
    have hup : ∀ k, (listed.setIfInBounds i true).getD k false = (listed.getD k false || k == i) := fun k => by
      simp only [Array.getD_eq_getD_getElem?, Array.getElem?_setIfInBounds]
      by_cases e : i = k
      · subst e
        rw [if_pos rfl, if_pos hs]
        simp
      · rw [if_neg e]
        have : (k == i) = false := beq_eq_false_iff_ne.2 (fun h => e h.symm)
        rw [this, Bool.or_false]
    cases hm : mem i
    · rw [hm] at hst
      have hyl : Yl P o (actOf L (val x) (fun k => listed.getD k false) a L.length).eval (wd x) (val x i) (wd x) := by
        have h2 : Yl P o (actOf L (val x) (fun _ => true) a L.length).eval (wd x) (val x i) (wd x) := hst hif hdl
        unfold Yl at h2 ⊢
        rw [hcong]
        exact h2
      refine hW1 i o _ _ _ _ _ ho hyl ?_
      have e4 : (actOf L (val x) (fun k => listed.getD k false) a L.length).put o.dst (val x i) = actOf L (val x) (fun k => (listed.setIfInBounds i true).getD k false) a L.length := by
        rw [listed_upd hs, actOf_add L (val x) _ a i hif (fun k hk => ok.dist i k hk) L.length hil, hdst]
      rw [e4]
      exact ih _ x inv2 (hRm _ _ x (fun k hk => by
        rw [hup k]
        have : (k == i) = false := beq_eq_false_iff_ne.2 (fun e => by rw [e, hm] at hk; cases hk)
        rw [this, Bool.or_false]) hR) (fun ⟨j, hj, hjf⟩ => hfuel j hj hjf) (by omega)
    · rw [hm] at hst
      have ht : TurnY P o (actOf L (val x) (fun _ => true) a L.length).eval (wd x) _ := hst hif hdl
      have ht2 : TurnY P o (actOf L (val x) (fun k => listed.getD k false) a L.length).eval (wd x) (fun v w' => ∃ y, R (fun k => listed.getD k false || k == i) y ∧ wd y = w' ∧ val y i = v ∧ ∀ j, j < L.length → (dep j).contains i = false → j ≠ i → val y j = val x j) := by
        unfold TurnY at ht ⊢
        rw [hcong]
        exact ht
      refine hW2 i o _ _ _ _ ho ht2 ?_
      rintro v w' ⟨y, hR2, rfl, rfl, hag⟩
      have e6 : actOf L (val x) (fun k => listed.getD k false) a L.length = actOf L (val y) (fun k => listed.getD k false) a L.length := by
        refine actOf_val L _ _ _ a L.length fun j hj hl => (hag j hj ?_ ?_).symm
        · cases hc : (dep j).contains i
          · rfl
          · have := dep_all hdep inv j L[j] (List.getElem?_eq_getElem hj) (fun e he hb => inv.down j L[j] (List.getElem?_eq_getElem hj) hl e he hb) i (List.contains_iff_mem.1 hc)
            rw [hif] at this
            cases this
        · intro e; subst e; rw [hif] at hl; cases hl
      have e4 : (actOf L (val x) (fun k => listed.getD k false) a L.length).put o.dst (val y i) = actOf L (val y) (fun k => (listed.setIfInBounds i true).getD k false) a L.length := by
        rw [e6, listed_upd hs, actOf_add L (val y) _ a i hif (fun k hk => ok.dist i k hk) L.length hil, hdst]
      rw [e4]
      exact ih _ y inv2 (hRm _ _ y (fun k _ => (hup k).symm) hR2) (fun ⟨j, hj, hjf⟩ => hfuel j hj hjf) (by omega)
/-- **a drawn region of a function**: ms: which operations turn the world; dep: on which of them an operation's value hangs -/
theorem set_lit {id : Nat} {Q : Exit → Act → World → Prop} {a : Act} {w : World} {L : List Oper} {S : Type} (ms : List Nat) (val : S → Nat → Value) (wd : S → World) (R : List Bool → S → Prop) (dep : Nat → List Nat) (af : S → Act) (x0 : S) (hm : P.follows .mixedOrders = true) (hok : okR2 L none2 none2 none2 = true) (hdep : depS L dep = true)
    (hlow : lowB L = true) (hms : (ms.all fun k => decide (k < L.length)) = true) (h0 : wd x0 = w.drew) (hR0 : R (ms.map fun _ => false) x0) (haf : ∀ x, actOf L (val x) (fun _ => true) a L.length = af x)
    (hy : ∀ s x, R (ms.map s) x → AllY (fun i o => StepS P val wd (fun s => R (ms.map s)) dep L.length s x (ms.contains i) i o (af x).eval) 0 L) (hQ : ∀ x, R (ms.map fun _ => true) x → Q .normal (af x) (wd x)) :
    (Code.region id L.toArray true).wp P Q a w := by
  have ok := okR2_of hok
  refine wp_region_any hm ?_
  obtain ⟨e1, e2⟩ := none_listed L none2 (val x0) a
  have hms2 : ∀ k, ms.contains k = true → k < L.length := fun k hk => of_decide_eq_true (List.all_eq_true.1 hms k (List.contains_iff_mem.1 hk))
  have h := set_core (P := P) (mem := fun k => ms.contains k) (val := val) (wd := wd) (R := fun s => R (ms.map s)) (dep := dep) (Q := Q) (a := a) (fun i K a w => wpOp P L.toArray Q i K a w)
    (fun i o a w w' v K ho hy hK => wpOp_yl ho (ok.guard o (List.mem_of_getElem? ho)) hy hK)
    (fun i o a w G K ho hy hK => wpOp_turn ho (ok.guard o (List.mem_of_getElem? ho)) hy hK) ok hdep
    (fun s s' x he hR => by
      have : ms.map s = ms.map s' := List.map_congr_left fun k hk => he k (List.contains_iff_mem.2 hk)
      rw [← this]; exact hR)
    (fun s x hR i o ho => by
      have h := allY_at L 0 (hy s x hR) i o ho
      rw [Nat.zero_add] at h
      rw [haf]
      exact h) (fun x hR => by rw [haf]; exact hQ x hR) hms2 (ready_all hlow) (fun fuel listed a w => wpAny P .any L.toArray Q fuel listed a w) (fun _ _ _ h1 h2 => ⟨h1, h2⟩) (fun _ _ _ _ h1 h2 => ⟨h1, h2⟩)
    L.toArray.size (Array.replicate L.toArray.size false) x0 (inv_none L none2) (by
      have hz : ms.map (fun k => (Array.replicate L.toArray.size false).getD k false) = ms.map (fun _ => false) := List.map_congr_left fun k hk => by
        have := hms2 k (List.contains_iff_mem.2 hk)
        simp [this]
      show R _ x0
      rw [hz]; exact hR0) (fun ⟨i, hi, _⟩ => by simp; omega) (by simp)
  rw [e1, h0] at h
  exact h
end
end Go.Proofs.Ytphhoihhmphbdaa
