/-
  A region of a round that draws its order: every operation has one value, some operations (a chain) turn the world from one known world to the next, all others leave it: then every order comes to the same end.
-/
import Derived.Test.YtphhoihhmphbdaaBase
import Derived.OrdersIn
import Derived.RangeFuncCalls
import Derived.TacticsIn
namespace Go.Proofs.Ytphhoihhmphbdaa
open Go.RowKit

section
variable {P : Program}
def dstAt (L : List Oper) (k : Nat) : Option Tmp := (L[k]?).bind (·.dst)
/-- what an operation comes to -/
def Yl (P : Program) (o : Oper) (ρ : Operand → Value) (w : World) (v : Value) (w' : World) : Prop :=
  (execOp ρ o).run P w = .ok (.value v) w' ∨ ((execOp ρ o).run P w = .ok .skip w' ∧ o.dst = none) ∨ ∃ f args w1, (execOp ρ o).run P w = .ok (.enter f args) w1 ∧ Calls P f args w1 fun e w'' => e = .returned v ∧ w'' = w'
/-- the frame behind the operations that have come up -/
def actOf (L : List Oper) (val : Nat → Value) (s : Nat → Bool) (a : Act) : Nat → Act
  | 0 => a
  | k + 1 => if s k then (actOf L val s a k).put (dstAt L k) (val k) else actOf L val s a k
def upd (s : Nat → Bool) (i : Nat) : Nat → Bool := fun k => (k == i) || s k
theorem put_size (a : Act) (d : Option Tmp) (v : Value) : (a.put d v).tmps.size = a.tmps.size := by
  cases d with
  | none => rfl
  | some t => simp [Act.put]
theorem actOf_size (L : List Oper) (val : Nat → Value) (s : Nat → Bool) (a : Act) : ∀ k, (actOf L val s a k).tmps.size = a.tmps.size
  | 0 => rfl
  | k + 1 => by
    unfold actOf
    split
    · rw [put_size, actOf_size L val s a k]
    · exact actOf_size L val s a k
theorem actOf_same (L : List Oper) (val : Nat → Value) (s s' : Nat → Bool) (a : Act) : ∀ k, (∀ j, j < k → s j = s' j) → actOf L val s a k = actOf L val s' a k
  | 0, _ => rfl
  | k + 1, h => by
    unfold actOf
    rw [actOf_same L val s s' a k (fun j hj => h j (by omega)), h k (by omega)]
theorem put_eval_same (a b : Act) (d : Option Tmp) (v : Value) (x : Operand) (hs : a.tmps.size = b.tmps.size) (h : a.eval x = b.eval x) : (a.put d v).eval x = (b.put d v).eval x := by
  cases d with
  | none => exact h
  | some t =>
    cases x with
    | tmp u =>
      simp only [Act.eval, Act.put, Array.getD_eq_getD_getElem?] at h ⊢
      by_cases e : t = u
      · subst e
        simp only [Array.getElem?_setIfInBounds_self, hs]
      · rw [Array.getElem?_setIfInBounds_ne e, Array.getElem?_setIfInBounds_ne e]
        exact h
    | _ => rfl
theorem actOf_eval (L : List Oper) (val : Nat → Value) (s s' : Nat → Bool) (a : Act) (x : Operand) : ∀ n, (∀ k, k < n → s k ≠ s' k → ∀ d, dstAt L k = some d → x ≠ .tmp d) → (actOf L val s a n).eval x = (actOf L val s' a n).eval x
  | 0, _ => rfl
  | n + 1, h => by
    have ih := actOf_eval L val s s' a x n (fun k hk => h k (by omega))
    have hs : (actOf L val s a n).tmps.size = (actOf L val s' a n).tmps.size := by rw [actOf_size, actOf_size]
    have hn := h n (by omega)
    unfold actOf
    cases e1 : s n <;> cases e2 : s' n
    · simpa using ih
    · simp only [Bool.false_eq_true, if_false, if_true]
      rw [Act.eval_put (hn (by rw [e1, e2]; decide))]
      exact ih
    · simp only [Bool.false_eq_true, if_false, if_true]
      rw [Act.eval_put (hn (by rw [e1, e2]; decide))]
      exact ih
    · simp only [if_true]
      exact put_eval_same _ _ _ _ _ hs ih
theorem actOf_add (L : List Oper) (val : Nat → Value) (s : Nat → Bool) (a : Act) (i : Nat) (hi : s i = false) (hd : ∀ k, i < k → ∀ d, dstAt L i = some d → dstAt L k ≠ some d) : ∀ n, i < n → actOf L val (upd s i) a n = (actOf L val s a n).put (dstAt L i) (val i)
  | 0, h => absurd h (by omega)
  | n + 1, h => by
    unfold actOf
    by_cases e : i = n
    · subst e
      have h1 : upd s i i = true := by simp [upd]
      rw [h1, hi]
      simp only [if_true, Bool.false_eq_true, if_false]
      rw [actOf_same L val (upd s i) s a i (fun j hj => by simp [upd]; omega)]
    · have h1 : upd s i n = s n := by simp [upd]; intro h; omega
      rw [h1, actOf_add L val s a i hi hd n (by omega)]
      cases s n
      · simp
      · simp only [if_true]
        exact Act.put_comm _ _ _ (hd n (by omega))
/-- how many of the operations that turn the world stand ahead of one -/
def rankM (mem : Nat → Bool) (s : Nat → Bool) : Nat → Nat
  | 0 => 0
  | k + 1 => rankM mem s k + (if mem k && s k then 1 else 0)
theorem rankM_same (mem s s' : Nat → Bool) : ∀ n, (∀ k, k < n → mem k = true → s k = s' k) → rankM mem s n = rankM mem s' n
  | 0, _ => rfl
  | n + 1, h => by
    unfold rankM
    rw [rankM_same mem s s' n (fun k hk => h k (by omega))]
    cases e : mem n
    · rfl
    · rw [h n (by omega) e]
theorem rankM_add (mem s : Nat → Bool) (i : Nat) (hi : s i = false) : ∀ n, i < n → rankM mem (upd s i) n = rankM mem s n + (if mem i then 1 else 0)
  | 0, h => absurd h (by omega)
  | n + 1, h => by
    unfold rankM
    by_cases e : i = n
    · subst e
      rw [rankM_same mem (upd s i) s i (fun j hj _ => by simp [upd]; omega)]
      simp [upd, hi]
    · rw [rankM_add mem s i hi n (by omega), show upd s i n = s n by simp [upd]; intro h; omega]
      omega
theorem rankM_low (mem s : Nat → Bool) (i : Nat) : ∀ n, i ≤ n → (∀ k, i ≤ k → k < n → mem k = true → s k = false) → rankM mem s n = rankM mem s i
  | 0, h, _ => by rw [Nat.le_zero.1 h]
  | n + 1, h, hk => by
    by_cases e : i = n + 1
    · rw [e]
    · show rankM mem s n + (if mem n && s n then 1 else 0) = rankM mem s i
      rw [rankM_low mem s i n (by omega) (fun k h1 h2 => hk k h1 (by omega))]
      cases hm : mem n
      · rfl
      · rw [hk n (by omega) (by omega) hm]
        rfl
def edgeB (o : Oper) (j : Nat) : Bool := o.after.any fun e => Region.binds .any e && e.on == j
/-- the operations' text, as the law wants it -/
def okR (L : List Oper) (mem : Nat → Bool) : Bool :=
  (L.all fun o => o.guard.isNone && (match o.op with | .defer _ => false | .select _ _ => false | _ => true)) &&
  ((List.range L.length).all fun k => (List.range k).all fun i => match dstAt L i with | none => true | some d => dstAt L k != some d) &&
  ((List.range L.length).all fun i => (List.range L.length).all fun j => match L[i]?, dstAt L j with
    | some o, some d => !(o.op.operands.toList.any fun x => match x with | .tmp t => t == d | _ => false) || edgeB o j
    | _, _ => true) &&
  ((List.range L.length).all fun i => !mem i || (List.range i).all fun j => !mem j || ((List.range i).any fun k => decide (j < k) && mem k) || (match L[i]? with | some o => edgeB o j | none => false))
structure OkR (L : List Oper) (mem : Nat → Bool) : Prop where
  guard : ∀ o ∈ L, o.guard = none
  defer : ∀ o ∈ L, ∀ c, o.op ≠ .defer c
  sel : ∀ o ∈ L, ∀ cs b, o.op ≠ .select cs b
  dist : ∀ (i k : Nat), i < k → ∀ d, dstAt L i = some d → dstAt L k ≠ some d
  reads : ∀ (i : Nat) (o : Oper) (j : Nat) (d : Tmp), L[i]? = some o → j < L.length → dstAt L j = some d → .tmp d ∈ o.op.operands.toList → edgeB o j = true
  chain : ∀ (i : Nat) (o : Oper) (j : Nat), L[i]? = some o → mem i = true → j < i → mem j = true → (∀ k, j < k → k < i → mem k = false) → edgeB o j = true
theorem dstAt_none {L : List Oper} {k : Nat} (h : L.length ≤ k) : dstAt L k = none := by unfold dstAt; rw [List.getElem?_eq_none h]; rfl
theorem okR_of {L : List Oper} {mem : Nat → Bool} (h : okR L mem = true) : OkR L mem := by
  unfold okR at h
  simp only [Bool.and_eq_true, List.all_eq_true, List.mem_range] at h
  obtain ⟨⟨⟨h1, h2⟩, h3⟩, h4⟩ := h
  refine ⟨fun o ho => Option.isNone_iff_eq_none.1 (h1 o ho).1, fun o ho c hc => ?_, fun o ho cs b hc => ?_, fun i k hik d hd => ?_, fun i o j d ho hj hd hx => ?_, fun i o j ho hm hj hmj hk => ?_⟩
  · have := (h1 o ho).2
    rw [hc] at this
    cases this
  · have := (h1 o ho).2
    rw [hc] at this
    cases this
  · rcases Nat.lt_or_ge k L.length with hk | hk
    · have := h2 k hk i hik
      rw [hd] at this
      simpa using this
    · rw [dstAt_none hk]
      intro e; cases e
  · have hi : i < L.length := (List.getElem?_eq_some_iff.1 ho).1
    have := h3 i hi j hj
    rw [ho, hd] at this
    simp only [Bool.or_eq_true, Bool.not_eq_true'] at this
    rcases this with h | h
    · rw [List.any_eq_false] at h
      exact absurd (by simp) (h _ hx)
    · exact h
  · have hi : i < L.length := (List.getElem?_eq_some_iff.1 ho).1
    have := h4 i hi
    rw [hm] at this
    simp only [Bool.not_true, Bool.false_or, List.all_eq_true, List.mem_range] at this
    have := this j hj
    rw [hmj, ho] at this
    simp only [Bool.not_true, Bool.false_or, Bool.or_eq_true, List.any_eq_true, List.mem_range, Bool.and_eq_true, decide_eq_true_eq] at this
    rcases this with ⟨k, h1, h2, h3⟩ | h
    · rw [hk k h2 h1] at h3
      cases h3
    · exact h
theorem edge_listed {o : Oper} {j : Nat} {listed : Array Bool} (h : edgeB o j = true) (hl : ∀ e ∈ o.after, Region.binds .any e = true → listed.getD e.on false = true) : listed.getD j false = true := by
  unfold edgeB at h
  rw [Array.any_eq_true'] at h
  obtain ⟨e, he, hb⟩ := h
  rw [Bool.and_eq_true] at hb
  have := hl e he hb.1
  rw [show e.on = j by simpa using hb.2] at this
  exact this
/-- what holds of the operations that have come up -/
structure InvR (L : List Oper) (mem : Nat → Bool) (listed : Array Bool) : Prop where
  size : listed.size = L.length
  down : ∀ (i : Nat) (x : Oper), L[i]? = some x → listed.getD i false = true → ∀ e ∈ x.after, Region.binds .any e = true → listed.getD e.on false = true
theorem InvR.add {L : List Oper} {mem : Nat → Bool} {listed : Array Bool} (h : InvR L mem listed) {i : Nat} (hr : i ∈ Region.ready .any L.toArray listed) : InvR L mem (listed.setIfInBounds i true) := by
  refine ⟨by rw [Array.size_setIfInBounds]; exact h.size, fun k x hx hk e he hb => ?_⟩
  by_cases hki : i = k
  · subst hki
    obtain ⟨_, x2, hx2, hall⟩ := mem_ready.1 hr
    rw [List.getElem?_toArray, hx] at hx2
    injection hx2 with hx2
    subst hx2
    exact getD_set_true (hall e he hb)
  · rw [getD_set_ne false hki] at hk
    exact getD_set_true (h.down k x hx hk e he hb)
theorem listed_upd {listed : Array Bool} {i : Nat} (hi : i < listed.size) : (fun k => (listed.setIfInBounds i true).getD k false) = upd (fun k => listed.getD k false) i := by
  funext k
  unfold upd
  by_cases e : i = k
  · subst e
    simp [hi]
  · rw [getD_set_ne false e]
    simp [show (k == i) = false from beq_eq_false_iff_ne.2 (fun h => e h.symm)]
/-- where one has not come up none behind it has -/
theorem mem_above {L : List Oper} {mem : Nat → Bool} {listed : Array Bool} (ok : OkR L mem) (h : InvR L mem listed) {i : Nat} (hm : mem i = true) (hni : listed.getD i false = false) :
    ∀ k, i ≤ k → k < L.length → mem k = true → listed.getD k false = false := by
  intro k hk hkL hmk
  cases hb : listed.getD k false
  · rfl
  · exfalso
    have key : ∀ d k, k = i + d → k < L.length → mem k = true → listed.getD k false = true → False := by
      intro d
      induction d using Nat.strongRecOn with
      | ind d ih =>
        intro k hk hkL hmk hb
        by_cases e : k = i
        · rw [e, hni] at hb; cases hb
        · have hlo : ∀ m, (∃ j, i ≤ j ∧ j < k ∧ mem j = true ∧ k ≤ j + m) → ∃ j, i ≤ j ∧ j < k ∧ mem j = true ∧ ∀ q, j < q → q < k → mem q = false := by
            intro m
            induction m with
            | zero => rintro ⟨j, _, h2, _, h4⟩; omega
            | succ m ihm =>
              rintro ⟨j, h1, h2, h3, h4⟩
              by_cases hs : ∃ q, i ≤ q ∧ q < k ∧ mem q = true ∧ k ≤ q + m
              · exact ihm hs
              · refine ⟨j, h1, h2, h3, fun q hq1 hq2 => ?_⟩
                cases hb : mem q
                · rfl
                · exact absurd ⟨q, by omega, hq2, hb, by omega⟩ hs
          obtain ⟨j, h1, h2, h3, h4⟩ := hlo (k - i) ⟨i, Nat.le_refl _, by omega, hm, by omega⟩
          have hjl := edge_listed (ok.chain k L[k] j (List.getElem?_eq_getElem hkL) hmk h2 h3 h4) (h.down k L[k] (List.getElem?_eq_getElem hkL) hb)
          exact ih (j - i) (by omega) j (by omega) (by omega) h3 hjl
    exact key (k - i) k (by omega) hkL hmk hb
/-- of the operations that turn the world just those ahead of one have come up, where it may come up -/
theorem mem_prefix {L : List Oper} {mem : Nat → Bool} {listed : Array Bool} (ok : OkR L mem) (h : InvR L mem listed) {i : Nat} {o : Oper} (ho : L[i]? = some o) (hm : mem i = true) (hl : ∀ e ∈ o.after, Region.binds .any e = true → listed.getD e.on false = true) (hni : listed.getD i false = false) :
    (∀ k, k < i → mem k = true → listed.getD k false = true) ∧ (∀ k, i ≤ k → k < L.length → mem k = true → listed.getD k false = false) := by
  constructor
  · intro k hk hmk
    have key : ∀ d k, i = k + 1 + d → mem k = true → listed.getD k false = true := by
      intro d
      induction d using Nat.strongRecOn with
      | ind d ih =>
        intro k hk hmk
        by_cases hx : ∃ j, k < j ∧ j < i ∧ mem j = true
        · have hlo : ∀ m, (∃ j, k < j ∧ j < i ∧ mem j = true ∧ j < m) → ∃ j, k < j ∧ j < i ∧ mem j = true ∧ ∀ q, k < q → q < j → mem q = false := by
            intro m
            induction m with
            | zero => rintro ⟨j, _, _, _, hj⟩; omega
            | succ m ihm =>
              rintro ⟨j, h1, h2, h3, h4⟩
              by_cases hs : ∃ q, k < q ∧ q < i ∧ mem q = true ∧ q < m
              · exact ihm hs
              · refine ⟨j, h1, h2, h3, fun q hq1 hq2 => ?_⟩
                cases hb : mem q
                · rfl
                · exact absurd ⟨q, hq1, by omega, hb, by omega⟩ hs
          obtain ⟨j0, hj0⟩ := hx
          obtain ⟨j, h1, h2, h3, h4⟩ := hlo (j0 + 1) ⟨j0, hj0.1, hj0.2.1, hj0.2.2, by omega⟩
          have hjl := ih (i - j - 1) (by omega) j (by omega) h3
          have hjL : j < L.length := by have := (List.getElem?_eq_some_iff.1 ho).1; omega
          exact edge_listed (ok.chain j L[j] k (List.getElem?_eq_getElem hjL) h3 h1 hmk h4) (h.down j L[j] (List.getElem?_eq_getElem hjL) hjl)
        · exact edge_listed (ok.chain i o k ho hm (by omega) hmk (fun q h1 h2 => by
            cases hb : mem q
            · rfl
            · exact absurd ⟨q, h1, h2, hb⟩ hx)) hl
    exact key (i - k - 1) k (by omega) hmk
  · exact mem_above ok h hm hni
theorem wpOpIn_yl {lp n : Nat} {L : List Oper} {i : Nat} {o : Oper} {a : Act} {w w' : World} {v : Value} {K : Act → World → Prop} {Q : Exit → Act → World → Prop} (hi : L[i]? = some o) (hg : o.guard = none) (hnd : ∀ c, o.op ≠ .defer c)
    (hy : Yl P o a.eval w v w') (hK : K (a.put o.dst v) w') : wpOpIn (Fence.wide.inRound lp) n P L.toArray Q i K a w := by
  unfold wpOpIn
  simp only [List.getElem?_toArray, hi]
  rw [if_pos (by simp [Region.wanted, hg])]
  unfold Oper.wpIn
  refine ⟨fun _ _ => trivial, ?_⟩
  rw [Oper.semAt_eq _ _ _ hnd]
  rcases hy with h | ⟨h, hd⟩ | ⟨f, args, w1, h, hc⟩
  · rw [h]; exact hK
  · rw [h]
    show K (a.put o.dst undef) w'
    rw [hd] at hK ⊢
    exact hK
  · rw [h]
    refine ⟨fun hd => (by cases hd), CallsIn.inRound lp (callsIn_wide.2 (hc.mono fun e w'' ⟨he, hw''⟩ => ?_))⟩
    subst he hw''
    exact hK
def limB (L : List Oper) (mem : Nat → Bool) (lim : Nat → Nat) : Bool :=
  (List.range L.length).all fun i => mem i || decide (rankM mem (fun _ => true) L.length ≤ lim i) || ((List.range L.length).any fun k => mem k && decide (rankM mem (fun _ => true) k ≤ lim i) && (match L[k]? with | some o => edgeB o i | none => false))
theorem rankM_le (mem s : Nat → Bool) : ∀ n, rankM mem s n ≤ rankM mem (fun _ => true) n
  | 0 => Nat.le_refl _
  | n + 1 => by
    have ih := rankM_le mem s n
    unfold rankM
    cases mem n <;> cases s n <;> simp <;> omega
theorem lim_of {L : List Oper} {mem : Nat → Bool} {lim : Nat → Nat} {listed : Array Bool} (hl : limB L mem lim = true) (ok : OkR L mem) (h : InvR L mem listed) {i : Nat} (hi : i < L.length) (hm : mem i = false) (hni : listed.getD i false = false) : rankM mem (fun k => listed.getD k false) L.length ≤ lim i := by
  unfold limB at hl
  rw [List.all_eq_true] at hl
  have := hl i (List.mem_range.2 hi)
  rw [hm] at this
  simp only [Bool.false_or, Bool.or_eq_true, decide_eq_true_eq, List.any_eq_true, List.mem_range, Bool.and_eq_true] at this
  rcases this with h1 | ⟨k, hk, ⟨h1, h2⟩, h3⟩
  · exact Nat.le_trans (rankM_le mem _ _) h1
  · rw [List.getElem?_eq_getElem hk] at h3
    have hkn : listed.getD k false = false := by
      cases hb : listed.getD k false
      · rfl
      · have := edge_listed h3 (h.down k L[k] (List.getElem?_eq_getElem hk) hb)
        rw [hni] at this
        cases this
    rw [rankM_low mem _ k L.length (by omega) (mem_above ok h h1 hkn)]
    exact Nat.le_trans (rankM_le mem _ _) h2
theorem fixed_any {lp n : Nat} {L : List Oper} {mem : Nat → Bool} {val : Nat → Value} {wd : Nat → World} {lim : Nat → Nat} {Q : Exit → Act → World → Prop} {a : Act} (ok : OkR L mem) (hlim : limB L mem lim = true)
    (hy : ∀ i o, L[i]? = some o → (mem i = true → Yl P o (actOf L val (fun _ => true) a L.length).eval (wd (rankM mem (fun _ => true) i)) (val i) (wd (rankM mem (fun _ => true) i + 1))) ∧ (mem i = false → ∀ s, s ≤ lim i → Yl P o (actOf L val (fun _ => true) a L.length).eval (wd s) (val i) (wd s)))
    (hQ : Q .normal (actOf L val (fun _ => true) a L.length) (wd (rankM mem (fun _ => true) L.length))) (hne : ∀ listed : Array Bool, InvR L mem listed → Region.ready .any L.toArray listed = [] → ∀ i, i < L.length → listed.getD i false = true) :
    ∀ (fuel : Nat) (listed : Array Bool), InvR L mem listed → ((∃ i, i < L.length ∧ listed.getD i false = false) → 0 < fuel) → (L.length - rankM (fun _ => true) (fun k => listed.getD k false) L.length ≤ fuel) →
      wpAnyIn (Fence.wide.inRound lp) n P .any L.toArray Q fuel listed (actOf L val (fun k => listed.getD k false) a L.length) (wd (rankM mem (fun k => listed.getD k false) L.length)) := by
  have fin : ∀ listed : Array Bool, (∀ i, i < L.length → listed.getD i false = true) → Q .normal (actOf L val (fun k => listed.getD k false) a L.length) (wd (rankM mem (fun k => listed.getD k false) L.length)) := fun listed hall => by
    rw [actOf_same L val (fun k => listed.getD k false) (fun _ => true) a L.length (fun j hj => hall j hj), rankM_same mem (fun k => listed.getD k false) (fun _ => true) L.length (fun j hj _ => hall j hj)]
    exact hQ
  intro fuel
  induction fuel with
  | zero =>
    intro listed inv hpos _
    have hall : ∀ i, i < L.length → listed.getD i false = true := fun i hi => by
      cases hb : listed.getD i false
      · exact absurd (hpos ⟨i, hi, hb⟩) (by omega)
      · rfl
    refine ⟨?_, fin listed hall⟩
    refine List.eq_nil_iff_forall_not_mem.2 fun m hm => ?_
    obtain ⟨h1, x, hx, _⟩ := mem_ready.1 hm
    rw [List.getElem?_toArray] at hx
    have hml := (List.getElem?_eq_some_iff.1 hx).1
    have h2 := hall m hml
    have hs : m < listed.size := by rw [inv.size]; exact hml
    simp [hs] at h1 h2
    rw [h1] at h2
    cases h2
  | succ fuel ih =>
    intro listed inv _ hfu
    refine ⟨fun h0 => fin listed (hne listed inv h0), fun i hi => ?_⟩
    obtain ⟨h1, o, ho, hall⟩ := mem_ready.1 hi
    rw [List.getElem?_toArray] at ho
    have hil := (List.getElem?_eq_some_iff.1 ho).1
    have hs : i < listed.size := by rw [inv.size]; exact hil
    have hif : listed.getD i false = false := by simp [hs] at h1 ⊢; exact h1
    have inv2 := inv.add (mem := mem) hi
    have hoL := List.mem_of_getElem? ho
    have hdst : dstAt L i = o.dst := by unfold dstAt; rw [ho]; rfl
    have hcong : execOp (actOf L val (fun k => listed.getD k false) a L.length).eval o = execOp (actOf L val (fun _ => true) a L.length).eval o := by
      refine execOp_congr o (ok.sel o hoL) fun x hx => actOf_eval L val _ _ a x L.length fun k hk hne d hd e => ?_
      subst e
      have := edge_listed (ok.reads i o k d ho hk hd (by simpa using hx)) hall
      exact hne this
    have hyl : Yl P o (actOf L val (fun k => listed.getD k false) a L.length).eval (wd (rankM mem (fun k => listed.getD k false) L.length)) (val i) (wd (rankM mem (fun k => (listed.setIfInBounds i true).getD k false) L.length)) := by
      have e2 := listed_upd hs
      rw [e2, rankM_add mem _ i hif L.length hil]
      unfold Yl
      rw [hcong]
      cases hm : mem i
      · simp only [Bool.false_eq_true, if_false, Nat.add_zero]
        exact (hy i o ho).2 hm _ (lim_of hlim ok inv hil hm hif)
      · simp only [if_true]
        obtain ⟨p1, p2⟩ := mem_prefix ok inv ho hm hall hif
        have e3 : rankM mem (fun k => listed.getD k false) L.length = rankM mem (fun _ => true) i := by
          rw [rankM_low mem _ i L.length (by omega) (fun k h1 h2 h3 => p2 k h1 h2 h3)]
          exact rankM_same mem _ _ i (fun k hk hmk => p1 k hk hmk)
        rw [e3]
        exact (hy i o ho).1 hm
    refine wpOpIn_yl ho (ok.guard o hoL) (ok.defer o hoL) hyl ?_
    have e4 : (actOf L val (fun k => listed.getD k false) a L.length).put o.dst (val i) = actOf L val (fun k => (listed.setIfInBounds i true).getD k false) a L.length := by
      rw [listed_upd hs, actOf_add L val _ a i hif (fun k hk => ok.dist i k hk) L.length hil, hdst]
    rw [e4]
    have e5 : rankM (fun _ => true) (fun k => (listed.setIfInBounds i true).getD k false) L.length = rankM (fun _ => true) (fun k => listed.getD k false) L.length + 1 := by
      rw [listed_upd hs, rankM_add (fun _ => true) _ i hif L.length hil]
      rfl
    refine ih _ inv2 (fun ⟨j, hj, hjf⟩ => ?_) (by omega)
    have hlt : rankM (fun _ => true) (fun k => (listed.setIfInBounds i true).getD k false) L.length < L.length := by
      have key : ∀ (s : Nat → Bool) n, j < n → s j = false → rankM (fun _ => true) s n < n := by
        intro s n
        induction n with
        | zero => intro h; omega
        | succ n ihn =>
          intro h hsj
          unfold rankM
          by_cases e : j = n
          · subst e
            rw [hsj]
            have : ∀ m, rankM (fun _ => true) s m ≤ m := by
              intro m
              induction m with
              | zero => exact Nat.le_refl _
              | succ m ihm => unfold rankM; split <;> omega
            have := this j
            simp
            omega
          · have := ihn (by omega) hsj
            split <;> omega
      exact key _ _ hj hjf
    omega
/-- **a drawn region of a round at known worlds** -/
theorem fixed_round {lp n id : Nat} {Q : Exit → Act → World → Prop} {a : Act} {w : World} (L : List Oper) (mem : Nat → Bool) (val : Nat → Value) (wd : Nat → World) (lim : Nat → Nat) (hm : P.follows .mixedOrders = true) (hok : okR L mem = true) (hlim : limB L mem lim = true)
    (hlow : ((List.range L.length).all fun i => ((L[i]?).map fun (x : Oper) => x.after.all fun e => decide (e.on < i)).getD true) = true) (h0 : wd 0 = w.drew)
    (hy : ∀ i o, L[i]? = some o → (mem i = true → Yl P o (actOf L val (fun _ => true) a L.length).eval (wd (rankM mem (fun _ => true) i)) (val i) (wd (rankM mem (fun _ => true) i + 1))) ∧ (mem i = false → ∀ s, s ≤ lim i → Yl P o (actOf L val (fun _ => true) a L.length).eval (wd s) (val i) (wd s)))
    (hQ : Q .normal (actOf L val (fun _ => true) a L.length) (wd (rankM mem (fun _ => true) L.length))) :
    (Code.region id L.toArray true).wpIn (Fence.wide.inRound lp) n P Q a w := by
  have ok := okR_of hok
  refine wpIn_region_any hm ?_
  have hne : ∀ listed : Array Bool, InvR L mem listed → Region.ready .any L.toArray listed = [] → ∀ i, i < L.length → listed.getD i false = true := by
    intro listed inv hr i
    induction i using Nat.strongRecOn with
    | ind i ih =>
      intro hi
      cases hb : listed.getD i false
      · exfalso
        have hs : i < listed.size := by rw [inv.size]; exact hi
        have : i ∈ Region.ready .any L.toArray listed := mem_ready.2 ⟨by simp [hs] at hb ⊢; exact hb, L[i], by rw [List.getElem?_toArray]; exact List.getElem?_eq_getElem hi, fun e he _ => by
          rw [List.all_eq_true] at hlow
          have h1 := hlow i (List.mem_range.2 hi)
          rw [List.getElem?_eq_getElem hi] at h1
          simp only [Option.map_some, Option.getD_some, Array.all_eq_true_iff_forall_mem, decide_eq_true_eq] at h1
          have h2 := h1 e he
          exact ih e.on h2 (by omega)⟩
        rw [hr] at this
        cases this
      · rfl
  have hf : ∀ (s : Nat → Bool) k, (∀ j, j < k → s j = false) → actOf L val s a k = a ∧ rankM mem s k = 0 := by
    intro s k
    induction k with
    | zero => intro _; exact ⟨rfl, rfl⟩
    | succ k ih =>
      intro h
      obtain ⟨h1, h2⟩ := ih (fun j hj => h j (by omega))
      unfold actOf rankM
      rw [h k (by omega), h1, h2]
      simp
  have hz : ∀ j, (Array.replicate L.toArray.size false).getD j false = false := fun j => by
    by_cases hj : j < L.length
    · simp [hj]
    · simp [hj]
  obtain ⟨e1, e2⟩ := hf (fun k => (Array.replicate L.toArray.size false).getD k false) L.length (fun j _ => hz j)
  have h := fixed_any (lp := lp) (n := n) ok hlim hy hQ hne L.toArray.size (Array.replicate L.toArray.size false) ⟨by simp, fun i x _ hl => by rw [hz] at hl; cases hl⟩ (fun ⟨i, hi, _⟩ => by simp; omega) (by simp)
  rw [e1, e2, h0] at h
  exact h
theorem yl_append {o : Oper} {ρ : Operand → Value} {w w' : World} {v S X : Value} {s x : Operand} {t : TypeId} (ho : o.op = .call { callee := .builtin .append, args := #[s, x], argTypes := #[t, t] }) (hs : ρ s = S) (hx : ρ x = X) (hrun : (Builtin.append_ #[t, t] o.type #[S, X]).run P w = .ok v w') : Yl P o ρ w v w' := by
  left
  unfold execOp
  simp only [ho, resolve, invoke, builtin, Sem.run_bind, Sem.run_pure, Result.andThen_ok, List.map_toArray, List.map_cons, List.map_nil, hs, hx, hrun]
def AllY (f : Nat → Oper → Prop) : Nat → List Oper → Prop
  | _, [] => True
  | k, o :: r => f k o ∧ AllY f (k + 1) r
theorem allY_at {f : Nat → Oper → Prop} : ∀ (l : List Oper) (k : Nat), AllY f k l → ∀ i o, l[i]? = some o → f (k + i) o
  | [], _, _, i, o, h => by simp at h
  | x :: r, k, h, i, o, ho => by
    cases i with
    | zero => simp at ho; subst ho; exact h.1
    | succ i =>
      have := allY_at r (k + 1) h.2 i o (by simpa using ho)
      rw [show k + (i + 1) = k + 1 + i by omega]
      exact this
def MemY (P : Program) (C : Nat → World → Prop) (wd : Nat → World) (lim rk : Nat) (m : Bool) (o : Oper) (ρ : Operand → Value) (v : Value) : Prop :=
  match m with
  | true => Yl P o ρ (wd rk) v (wd (rk + 1))
  | false => ∀ w', C lim w' → Yl P o ρ w' v w'
/-- the same, the facts laid one by one -/
theorem fixed_lit {lp n id : Nat} {Q : Exit → Act → World → Prop} {a : Act} {w : World} {L : List Oper} (mem : Nat → Bool) (val : Nat → Value) (wd : Nat → World) (lim : Nat → Nat) (C : Nat → World → Prop) (af : Act) (tot : Nat) (hm : P.follows .mixedOrders = true) (hok : okR L mem = true) (hlim : limB L mem lim = true)
    (hlow : ((List.range L.length).all fun i => ((L[i]?).map fun (x : Oper) => x.after.all fun e => decide (e.on < i)).getD true) = true) (h0 : wd 0 = w.drew) (haf : actOf L val (fun _ => true) a L.length = af) (htot : rankM mem (fun _ => true) L.length = tot) (hC : ∀ i s, i < L.length → s ≤ lim i → C (lim i) (wd s))
    (hy : AllY (fun i o => MemY P C wd (lim i) (rankM mem (fun _ => true) i) (mem i) o af.eval (val i)) 0 L) (hQ : Q .normal af (wd tot)) :
    (Code.region id L.toArray true).wpIn (Fence.wide.inRound lp) n P Q a w := by
  refine fixed_round L mem val wd lim hm hok hlim hlow h0 (fun i o ho => ?_) (by rw [haf, htot]; exact hQ)
  have h := allY_at L 0 hy i o ho
  rw [Nat.zero_add] at h
  rw [haf]
  constructor
  · intro hmi
    rw [hmi] at h
    exact h
  · intro hmi s hs
    rw [hmi] at h
    exact h _ (hC i s (List.getElem?_eq_some_iff.1 ho).1 hs)
end
end Go.Proofs.Ytphhoihhmphbdaa
