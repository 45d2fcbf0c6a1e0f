/-
  A region of a round that draws its order: every operation has one value, some operations (a chain) turn the world from one known world to the next, all others leave it: then every order comes to the same end.
  A region that draws its order: some operations (a chain) turn the world, each to whatever its contract allows; all others leave it and have one value before and behind what they do not depend on. Then one walk of the operations serves every order.
  A region that draws its order, with operations that turn the world in no order of their own: the state goes by which of them have come up.
-/
import Derived.Test.YtoppjcmkhhkbmaaGreatSqueezePlainx1
import Derived.OrdersIn
import Derived.RangeFuncCalls
import Derived.TacticsIn
import Derived.Orders
namespace Go.Proofs.YtoppjcmkhhkbmaaGreat
open Go.RowKit

section
variable {P : Program}
def dstAt (L : List Oper) (k : Nat) : Option Tmp := (L[k]?).bind (·.dst)
/-- what an operation comes to -/
def Yl (P : Program) (o : Oper) (ρ : Operand → Value) (w : World) (v : Value) (w' : World) : Prop :=
  (execOp ρ o).run P w = .ok (.value v) w' ∨ ((execOp ρ o).run P w = .ok .skip w' ∧ o.dst = none) ∨ ∃ f args w1, (execOp ρ o).run P w = .ok (.enter f args) w1 ∧ Calls P f args w1 fun e w'' => e = .returned v ∧ w'' = w'
/-- the frame behind the operations that have come up -/
def actOf (L : List Oper) (val : Nat → Value) (s : Nat → Bool) (a : Act) : Nat → Act
  | 0 => a
  | k + 1 => if s k then (actOf L val s a k).put (dstAt L k) (val k) else actOf L val s a k
def upd (s : Nat → Bool) (i : Nat) : Nat → Bool := fun k => (k == i) || s k
theorem put_size (a : Act) (d : Option Tmp) (v : Value) : (a.put d v).tmps.size = a.tmps.size := by
  cases d with
  | none => rfl
  | some t => simp [Act.put]
theorem actOf_size (L : List Oper) (val : Nat → Value) (s : Nat → Bool) (a : Act) : ∀ k, (actOf L val s a k).tmps.size = a.tmps.size
  | 0 => rfl
  | k + 1 => by
    unfold actOf
    split
    · rw [put_size, actOf_size L val s a k]
    · exact actOf_size L val s a k
theorem actOf_same (L : List Oper) (val : Nat → Value) (s s' : Nat → Bool) (a : Act) : ∀ k, (∀ j, j < k → s j = s' j) → actOf L val s a k = actOf L val s' a k
  | 0, _ => rfl
  | k + 1, h => by
    unfold actOf
    rw [actOf_same L val s s' a k (fun j hj => h j (by omega)), h k (by omega)]
theorem put_eval_same (a b : Act) (d : Option Tmp) (v : Value) (x : Operand) (hs : a.tmps.size = b.tmps.size) (h : a.eval x = b.eval x) : (a.put d v).eval x = (b.put d v).eval x := by
  cases d with
  | none => exact h
  | some t =>
    cases x with
    | tmp u =>
      simp only [Act.eval, Act.put, Array.getD_eq_getD_getElem?] at h ⊢
      by_cases e : t = u
      · subst e
        simp only [Array.getElem?_setIfInBounds_self, hs]
      · rw [Array.getElem?_setIfInBounds_ne e, Array.getElem?_setIfInBounds_ne e]
        exact h
    | _ => rfl
theorem actOf_eval (L : List Oper) (val : Nat → Value) (s s' : Nat → Bool) (a : Act) (x : Operand) : ∀ n, (∀ k, k < n → s k ≠ s' k → ∀ d, dstAt L k = some d → x ≠ .tmp d) → (actOf L val s a n).eval x = (actOf L val s' a n).eval x
  | 0, _ => rfl
  | n + 1, h => by
    have ih := actOf_eval L val s s' a x n (fun k hk => h k (by omega))
    have hs : (actOf L val s a n).tmps.size = (actOf L val s' a n).tmps.size := by rw [actOf_size, actOf_size]
    have hn := h n (by omega)
    unfold actOf
    cases e1 : s n <;> cases e2 : s' n
    · simpa using ih
    · simp only [Bool.false_eq_true, if_false, if_true]
      rw [Act.eval_put (hn (by rw [e1, e2]; decide))]
      exact ih
    · simp only [Bool.false_eq_true, if_false, if_true]
      rw [Act.eval_put (hn (by rw [e1, e2]; decide))]
      exact ih
    · simp only [if_true]
      exact put_eval_same _ _ _ _ _ hs ih
theorem actOf_add (L : List Oper) (val : Nat → Value) (s : Nat → Bool) (a : Act) (i : Nat) (hi : s i = false) (hd : ∀ k, i < k → ∀ d, dstAt L i = some d → dstAt L k ≠ some d) : ∀ n, i < n → actOf L val (upd s i) a n = (actOf L val s a n).put (dstAt L i) (val i)
  | 0, h => absurd h (by omega)
  | n + 1, h => by
    unfold actOf
    by_cases e : i = n
    · subst e
      have h1 : upd s i i = true := by simp [upd]
      rw [h1, hi]
      simp only [if_true, Bool.false_eq_true, if_false]
      rw [actOf_same L val (upd s i) s a i (fun j hj => by simp [upd]; omega)]
    · have h1 : upd s i n = s n := by simp [upd]; intro h; omega
      rw [h1, actOf_add L val s a i hi hd n (by omega)]
      cases s n
      · simp
      · simp only [if_true]
        exact Act.put_comm _ _ _ (hd n (by omega))
/-- how many of the operations that turn the world stand ahead of one -/
def rankM (mem : Nat → Bool) (s : Nat → Bool) : Nat → Nat
  | 0 => 0
  | k + 1 => rankM mem s k + (if mem k && s k then 1 else 0)
theorem rankM_same (mem s s' : Nat → Bool) : ∀ n, (∀ k, k < n → mem k = true → s k = s' k) → rankM mem s n = rankM mem s' n
  | 0, _ => rfl
  | n + 1, h => by
    unfold rankM
    rw [rankM_same mem s s' n (fun k hk => h k (by omega))]
    cases e : mem n
    · rfl
    · rw [h n (by omega) e]
theorem rankM_add (mem s : Nat → Bool) (i : Nat) (hi : s i = false) : ∀ n, i < n → rankM mem (upd s i) n = rankM mem s n + (if mem i then 1 else 0)
  | 0, h => absurd h (by omega)
  | n + 1, h => by
    unfold rankM
    by_cases e : i = n
    · subst e
      rw [rankM_same mem (upd s i) s i (fun j hj _ => by simp [upd]; omega)]
      simp [upd, hi]
    · rw [rankM_add mem s i hi n (by omega), show upd s i n = s n by simp [upd]; intro h; omega]
      omega
theorem rankM_low (mem s : Nat → Bool) (i : Nat) : ∀ n, i ≤ n → (∀ k, i ≤ k → k < n → mem k = true → s k = false) → rankM mem s n = rankM mem s i
  | 0, h, _ => by rw [Nat.le_zero.1 h]
  | n + 1, h, hk => by
    by_cases e : i = n + 1
    · rw [e]
    · show rankM mem s n + (if mem n && s n then 1 else 0) = rankM mem s i
      rw [rankM_low mem s i n (by omega) (fun k h1 h2 => hk k h1 (by omega))]
      cases hm : mem n
      · rfl
      · rw [hk n (by omega) (by omega) hm]
        rfl
def edgeB (o : Oper) (j : Nat) : Bool := o.after.any fun e => Region.binds .any e && e.on == j
theorem dstAt_none {L : List Oper} {k : Nat} (h : L.length ≤ k) : dstAt L k = none := by unfold dstAt; rw [List.getElem?_eq_none h]; rfl
theorem edge_listed {o : Oper} {j : Nat} {listed : Array Bool} (h : edgeB o j = true) (hl : ∀ e ∈ o.after, Region.binds .any e = true → listed.getD e.on false = true) : listed.getD j false = true := by
  unfold edgeB at h
  rw [Array.any_eq_true'] at h
  obtain ⟨e, he, hb⟩ := h
  rw [Bool.and_eq_true] at hb
  have := hl e he hb.1
  rw [show e.on = j by simpa using hb.2] at this
  exact this
/-- what holds of the operations that have come up -/
structure InvR (L : List Oper) (mem : Nat → Bool) (listed : Array Bool) : Prop where
  size : listed.size = L.length
  down : ∀ (i : Nat) (x : Oper), L[i]? = some x → listed.getD i false = true → ∀ e ∈ x.after, Region.binds .any e = true → listed.getD e.on false = true
theorem InvR.add {L : List Oper} {mem : Nat → Bool} {listed : Array Bool} (h : InvR L mem listed) {i : Nat} (hr : i ∈ Region.ready .any L.toArray listed) : InvR L mem (listed.setIfInBounds i true) := by
  refine ⟨by rw [Array.size_setIfInBounds]; exact h.size, fun k x hx hk e he hb => ?_⟩
  by_cases hki : i = k
  · subst hki
    obtain ⟨_, x2, hx2, hall⟩ := mem_ready.1 hr
    rw [List.getElem?_toArray, hx] at hx2
    injection hx2 with hx2
    subst hx2
    exact getD_set_true (hall e he hb)
  · rw [getD_set_ne false hki] at hk
    exact getD_set_true (h.down k x hx hk e he hb)
theorem listed_upd {listed : Array Bool} {i : Nat} (hi : i < listed.size) : (fun k => (listed.setIfInBounds i true).getD k false) = upd (fun k => listed.getD k false) i := by
  funext k
  unfold upd
  by_cases e : i = k
  · subst e
    simp [hi]
  · rw [getD_set_ne false e]
    simp [show (k == i) = false from beq_eq_false_iff_ne.2 (fun h => e h.symm)]
theorem wpOpIn_yl {lp n : Nat} {L : List Oper} {i : Nat} {o : Oper} {a : Act} {w w' : World} {v : Value} {K : Act → World → Prop} {Q : Exit → Act → World → Prop} (hi : L[i]? = some o) (hg : o.guard = none) (hnd : ∀ c, o.op ≠ .defer c)
    (hy : Yl P o a.eval w v w') (hK : K (a.put o.dst v) w') : wpOpIn (Fence.wide.inRound lp) n P L.toArray Q i K a w := by
  unfold wpOpIn
  simp only [List.getElem?_toArray, hi]
  rw [if_pos (by simp [Region.wanted, hg])]
  unfold Oper.wpIn
  refine ⟨fun _ _ => trivial, ?_⟩
  rw [Oper.semAt_eq _ _ _ hnd]
  rcases hy with h | ⟨h, hd⟩ | ⟨f, args, w1, h, hc⟩
  · rw [h]; exact hK
  · rw [h]
    show K (a.put o.dst undef) w'
    rw [hd] at hK ⊢
    exact hK
  · rw [h]
    refine ⟨fun hd => (by cases hd), CallsIn.inRound lp (callsIn_wide.2 (hc.mono fun e w'' ⟨he, hw''⟩ => ?_))⟩
    subst he hw''
    exact hK
def limB (L : List Oper) (mem : Nat → Bool) (lim : Nat → Nat) : Bool :=
  (List.range L.length).all fun i => mem i || decide (rankM mem (fun _ => true) L.length ≤ lim i) || ((List.range L.length).any fun k => mem k && decide (rankM mem (fun _ => true) k ≤ lim i) && (match L[k]? with | some o => edgeB o i | none => false))
theorem rankM_le (mem s : Nat → Bool) : ∀ n, rankM mem s n ≤ rankM mem (fun _ => true) n
  | 0 => Nat.le_refl _
  | n + 1 => by
    have ih := rankM_le mem s n
    unfold rankM
    cases mem n <;> cases s n <;> simp <;> omega
def AllY (f : Nat → Oper → Prop) : Nat → List Oper → Prop
  | _, [] => True
  | k, o :: r => f k o ∧ AllY f (k + 1) r
theorem allY_at {f : Nat → Oper → Prop} : ∀ (l : List Oper) (k : Nat), AllY f k l → ∀ i o, l[i]? = some o → f (k + i) o
  | [], _, _, i, o, h => by simp at h
  | x :: r, k, h, i, o, ho => by
    cases i with
    | zero => simp at ho; subst ho; exact h.1
    | succ i =>
      have := allY_at r (k + 1) h.2 i o (by simpa using ho)
      rw [show k + (i + 1) = k + 1 + i by omega]
      exact this
end
end Go.Proofs.YtoppjcmkhhkbmaaGreat

namespace Go.Proofs.YtoppjcmkhhkbmaaGreat
open Go.RowKit

section
variable {P : Program}
/-- an operation that turns the world: whatever it comes to is allowed -/
def TurnY (P : Program) (o : Oper) (ρ : Operand → Value) (w : World) (G : Value → World → Prop) : Prop :=
  (∃ v w', (execOp ρ o).run P w = .ok (.value v) w' ∧ G v w') ∨ (∃ w', (execOp ρ o).run P w = .ok .skip w' ∧ o.dst = none ∧ G undef w') ∨ ∃ f args w1, (execOp ρ o).run P w = .ok (.enter f args) w1 ∧ Calls P f args w1 fun e w'' => ∃ v, e = .returned v ∧ G v w''
theorem TurnY.mono {o : Oper} {ρ : Operand → Value} {w : World} {G G' : Value → World → Prop} (h : TurnY P o ρ w G) (hG : ∀ v w', G v w' → G' v w') : TurnY P o ρ w G' := by
  rcases h with ⟨v, w', h1, h2⟩ | ⟨w', h1, h2, h3⟩ | ⟨f, args, w1, h1, h2⟩
  · exact .inl ⟨v, w', h1, hG _ _ h2⟩
  · exact .inr (.inl ⟨w', h1, h2, hG _ _ h3⟩)
  · exact .inr (.inr ⟨f, args, w1, h1, h2.mono fun e w'' ⟨v, h3, h4⟩ => ⟨v, h3, hG _ _ h4⟩⟩)
/-- append as an operation that turns the world -/
theorem turn_app {o : Oper} {ρ : Operand → Value} {w : World} {G : Value → World → Prop} (s x : Operand) (t : TypeId)
    (ho : o.op = .call { callee := .builtin .append, args := #[s, x], argTypes := #[t, t] })
    (base : Nat) (e : TypeId) (i : TypeInfo) (z : Value) (size bytes : Nat) (ht : P.underlying t = some (.slice e)) (hi : P.info? e = some i) (hz : i.zero = some z)
    (hsize : i.size = size) (hby : i.bytes = bytes) (hzs : z.cells.size = size) (hsz : 0 < size)
    (A : Option Addr) (n c : Nat) (xs : List Value) (hs : ρ s = .slice A n c) (hown : w.ownsRow base e size (.slice A n c) n xs)
    (B : Nat) (X : Option Addr) (m d : Nat) (news : List Value) (hx : ρ x = .slice X m d) (hr : Rd w B size X m news) (hnil : X = none → m = 0) (h1 : ∀ u ∈ news, u.oneCell' = true)
    (h63 : n + m ≤ maxLen) (hbytes : (n + m) * bytes ≤ 140737488355328) (hbase : base ≤ w.heap.size)
    (h : ∀ A' c' w', Apped w base e size A n c xs m news A' c' w' → G (.slice A' (n + m) c') w') : TurnY P o ρ w G := by
  obtain ⟨v', w', hrun, h2, h3, h4⟩ := run_append_any (P := P) w base t o.type e i z size bytes ht hi hz hsize hby hzs hsz _ n xs hown B X m d news hr hnil h1 h63 hbytes hbase
  obtain ⟨A', c', rfl, _⟩ := own_form h2
  have hb : Below base w w' := (Below.refl base w).grown h3 hbase (fun k hk => (hown.lt k hk).1)
  refine .inl ⟨.slice A' (n + m) c', w', ?_, h A' c' w' ⟨h2, h3, hb, h4⟩⟩
  unfold execOp
  simp only [ho, resolve, invoke, builtin, Sem.run_bind, Sem.run_pure, Result.andThen_ok, List.map_toArray, List.map_cons, List.map_nil, hs, hx, hrun]
/-- the operations' text, as the law wants it; anti: which operations read what a later one (of ph) writes -/
def okR2 (L : List Oper) (mem anti ph : Nat → Bool) : Bool :=
  (L.all fun o => o.guard.isNone && (match o.op with | .defer _ => false | .select _ _ => false | _ => true)) &&
  ((List.range L.length).all fun k => (List.range k).all fun i => match dstAt L i with | none => true | some d => dstAt L k != some d) &&
  ((List.range L.length).all fun i => (List.range L.length).all fun j => match L[i]?, dstAt L j with
    | some o, some d => !(o.op.operands.toList.any fun x => match x with | .tmp t => t == d | _ => false) || (if anti i && ph j then (match L[j]? with | some oj => edgeB oj i | none => false) else edgeB o j)
    | _, _ => true) &&
  ((List.range L.length).all fun i => !mem i || (List.range i).all fun j => !mem j || ((List.range i).any fun k => decide (j < k) && mem k) || (match L[i]? with | some o => edgeB o j | none => false))
structure OkR2 (L : List Oper) (mem anti ph : Nat → Bool) : Prop where
  guard : ∀ o ∈ L, o.guard = none
  defer : ∀ o ∈ L, ∀ c, o.op ≠ .defer c
  sel : ∀ o ∈ L, ∀ cs b, o.op ≠ .select cs b
  dist : ∀ (i k : Nat), i < k → ∀ d, dstAt L i = some d → dstAt L k ≠ some d
  reads : ∀ (i : Nat) (o : Oper) (j : Nat) (d : Tmp), L[i]? = some o → j < L.length → dstAt L j = some d → .tmp d ∈ o.op.operands.toList → if anti i = true ∧ ph j = true then ∃ oj, L[j]? = some oj ∧ edgeB oj i = true else edgeB o j = true
  chain : ∀ (i : Nat) (o : Oper) (j : Nat), L[i]? = some o → mem i = true → j < i → mem j = true → (∀ k, j < k → k < i → mem k = false) → edgeB o j = true
theorem okR2_of {L : List Oper} {mem anti ph : Nat → Bool} (h : okR2 L mem anti ph = true) : OkR2 L mem anti ph := by
  unfold okR2 at h
  simp only [Bool.and_eq_true, List.all_eq_true, List.mem_range] at h
  obtain ⟨⟨⟨h1, h2⟩, h3⟩, h4⟩ := h
  refine ⟨fun o ho => Option.isNone_iff_eq_none.1 (h1 o ho).1, fun o ho c hc => ?_, fun o ho cs b hc => ?_, fun i k hik d hd => ?_, fun i o j d ho hj hd hx => ?_, fun i o j ho hm hj hmj hk => ?_⟩
  · have := (h1 o ho).2
    rw [hc] at this
    cases this
  · have := (h1 o ho).2
    rw [hc] at this
    cases this
  · rcases Nat.lt_or_ge k L.length with hk | hk
    · have := h2 k hk i hik
      rw [hd] at this
      simpa using this
    · rw [dstAt_none hk]
      intro e; cases e
  · have hi : i < L.length := (List.getElem?_eq_some_iff.1 ho).1
    have := h3 i hi j hj
    rw [ho, hd] at this
    simp only [Bool.or_eq_true, Bool.not_eq_true'] at this
    rcases this with h | h
    · rw [List.any_eq_false] at h
      exact absurd (by simp) (h _ hx)
    · by_cases hc : anti i = true ∧ ph j = true
      · rw [if_pos hc]
        rw [if_pos hc, List.getElem?_eq_getElem hj] at h
        exact ⟨L[j], List.getElem?_eq_getElem hj, h⟩
      · rw [if_neg hc]
        rw [if_neg hc] at h
        exact h
  · have hi : i < L.length := (List.getElem?_eq_some_iff.1 ho).1
    have := h4 i hi
    rw [hm] at this
    simp only [Bool.not_true, Bool.false_or, List.all_eq_true, List.mem_range] at this
    have := this j hj
    rw [hmj, ho] at this
    simp only [Bool.not_true, Bool.false_or, Bool.or_eq_true, List.any_eq_true, List.mem_range, Bool.and_eq_true, decide_eq_true_eq] at this
    rcases this with ⟨k, h1, h2, h3⟩ | h
    · rw [hk k h2 h1] at h3
      cases h3
    · exact h
/-- where one has not come up none behind it has -/
theorem mem_above2 {L : List Oper} {mem anti ph : Nat → Bool} {listed : Array Bool} (ok : OkR2 L mem anti ph) (h : InvR L mem listed) {i : Nat} (hm : mem i = true) (hni : listed.getD i false = false) :
    ∀ k, i ≤ k → k < L.length → mem k = true → listed.getD k false = false := by
  intro k hk hkL hmk
  cases hb : listed.getD k false
  · rfl
  · exfalso
    have key : ∀ d k, k = i + d → k < L.length → mem k = true → listed.getD k false = true → False := by
      intro d
      induction d using Nat.strongRecOn with
      | ind d ih =>
        intro k hk hkL hmk hb
        by_cases e : k = i
        · rw [e, hni] at hb; cases hb
        · have hlo : ∀ m, (∃ j, i ≤ j ∧ j < k ∧ mem j = true ∧ k ≤ j + m) → ∃ j, i ≤ j ∧ j < k ∧ mem j = true ∧ ∀ q, j < q → q < k → mem q = false := by
            intro m
            induction m with
            | zero => rintro ⟨j, _, h2, _, h4⟩; omega
            | succ m ihm =>
              rintro ⟨j, h1, h2, h3, h4⟩
              by_cases hs : ∃ q, i ≤ q ∧ q < k ∧ mem q = true ∧ k ≤ q + m
              · exact ihm hs
              · refine ⟨j, h1, h2, h3, fun q hq1 hq2 => ?_⟩
                cases hb : mem q
                · rfl
                · exact absurd ⟨q, by omega, hq2, hb, by omega⟩ hs
          obtain ⟨j, h1, h2, h3, h4⟩ := hlo (k - i) ⟨i, Nat.le_refl _, by omega, hm, by omega⟩
          have hjl := edge_listed (ok.chain k L[k] j (List.getElem?_eq_getElem hkL) hmk h2 h3 h4) (h.down k L[k] (List.getElem?_eq_getElem hkL) hb)
          exact ih (j - i) (by omega) j (by omega) (by omega) h3 hjl
    exact key (k - i) k (by omega) hkL hmk hb
/-- of the operations that turn the world just those ahead of one have come up, where it may come up -/
theorem mem_prefix2 {L : List Oper} {mem anti ph : Nat → Bool} {listed : Array Bool} (ok : OkR2 L mem anti ph) (h : InvR L mem listed) {i : Nat} {o : Oper} (ho : L[i]? = some o) (hm : mem i = true) (hl : ∀ e ∈ o.after, Region.binds .any e = true → listed.getD e.on false = true) (hni : listed.getD i false = false) :
    (∀ k, k < i → mem k = true → listed.getD k false = true) ∧ (∀ k, i ≤ k → k < L.length → mem k = true → listed.getD k false = false) := by
  constructor
  · intro k hk hmk
    have key : ∀ d k, i = k + 1 + d → mem k = true → listed.getD k false = true := by
      intro d
      induction d using Nat.strongRecOn with
      | ind d ih =>
        intro k hk hmk
        by_cases hx : ∃ j, k < j ∧ j < i ∧ mem j = true
        · have hlo : ∀ m, (∃ j, k < j ∧ j < i ∧ mem j = true ∧ j < m) → ∃ j, k < j ∧ j < i ∧ mem j = true ∧ ∀ q, k < q → q < j → mem q = false := by
            intro m
            induction m with
            | zero => rintro ⟨j, _, _, _, hj⟩; omega
            | succ m ihm =>
              rintro ⟨j, h1, h2, h3, h4⟩
              by_cases hs : ∃ q, k < q ∧ q < i ∧ mem q = true ∧ q < m
              · exact ihm hs
              · refine ⟨j, h1, h2, h3, fun q hq1 hq2 => ?_⟩
                cases hb : mem q
                · rfl
                · exact absurd ⟨q, hq1, by omega, hb, by omega⟩ hs
          obtain ⟨j0, hj0⟩ := hx
          obtain ⟨j, h1, h2, h3, h4⟩ := hlo (j0 + 1) ⟨j0, hj0.1, hj0.2.1, hj0.2.2, by omega⟩
          have hjl := ih (i - j - 1) (by omega) j (by omega) h3
          have hjL : j < L.length := by have := (List.getElem?_eq_some_iff.1 ho).1; omega
          exact edge_listed (ok.chain j L[j] k (List.getElem?_eq_getElem hjL) h3 h1 hmk h4) (h.down j L[j] (List.getElem?_eq_getElem hjL) hjl)
        · exact edge_listed (ok.chain i o k ho hm (by omega) hmk (fun q h1 h2 => by
            cases hb : mem q
            · rfl
            · exact absurd ⟨q, h1, h2, hb⟩ hx)) hl
    exact key (i - k - 1) k (by omega) hmk
  · exact mem_above2 ok h hm hni
theorem lim_of2 {L : List Oper} {mem anti ph : Nat → Bool} {lim : Nat → Nat} {listed : Array Bool} (hl : limB L mem lim = true) (ok : OkR2 L mem anti ph) (h : InvR L mem listed) {i : Nat} (hi : i < L.length) (hm : mem i = false) (hni : listed.getD i false = false) : rankM mem (fun k => listed.getD k false) L.length ≤ lim i := by
  unfold limB at hl
  rw [List.all_eq_true] at hl
  have := hl i (List.mem_range.2 hi)
  rw [hm] at this
  simp only [Bool.false_or, Bool.or_eq_true, decide_eq_true_eq, List.any_eq_true, List.mem_range, Bool.and_eq_true] at this
  rcases this with h1 | ⟨k, hk, ⟨h1, h2⟩, h3⟩
  · exact Nat.le_trans (rankM_le mem _ _) h1
  · rw [List.getElem?_eq_getElem hk] at h3
    have hkn : listed.getD k false = false := by
      cases hb : listed.getD k false
      · rfl
      · have := edge_listed h3 (h.down k L[k] (List.getElem?_eq_getElem hk) hb)
        rw [hni] at this
        cases this
    rw [rankM_low mem _ k L.length (by omega) (mem_above2 ok h h1 hkn)]
    exact Nat.le_trans (rankM_le mem _ _) h2
/-- at which stage an operation may come up: as many as turn the world ahead of it -/
def depB (L : List Oper) (mem : Nat → Bool) (dep : Nat → Nat) : Bool :=
  (List.range L.length).all fun i => (dep i == 0 || (List.range i).any fun j => (match L[i]? with | some o => edgeB o j | none => false) && decide (dep i ≤ if mem j then rankM mem (fun _ => true) j + 1 else dep j))
theorem rankM_up (mem s : Nat → Bool) (m : Nat) : ∀ n, m ≤ n → rankM mem s m ≤ rankM mem s n
  | 0, h => by rw [Nat.le_zero.1 h]; exact Nat.le_refl _
  | n + 1, h => by
    by_cases e : m = n + 1
    · rw [e]; exact Nat.le_refl _
    · exact Nat.le_trans (rankM_up mem s m n (by omega)) (Nat.le_add_right _ _)
theorem dep_le {L : List Oper} {mem anti ph : Nat → Bool} {dep : Nat → Nat} {listed : Array Bool} (hd : depB L mem dep = true) (ok : OkR2 L mem anti ph) (h : InvR L mem listed) : ∀ (i : Nat) (o : Oper), L[i]? = some o → (∀ e ∈ o.after, Region.binds .any e = true → listed.getD e.on false = true) → dep i ≤ rankM mem (fun k => listed.getD k false) L.length := by
  intro i
  induction i using Nat.strongRecOn with
  | ind i ih =>
    intro o ho hall
    have hil := (List.getElem?_eq_some_iff.1 ho).1
    unfold depB at hd
    have hd2 := hd
    rw [List.all_eq_true] at hd2
    have h1 := hd2 i (List.mem_range.2 hil)
    rw [ho] at h1
    simp only [Bool.or_eq_true, beq_iff_eq, List.any_eq_true, List.mem_range, Bool.and_eq_true, decide_eq_true_eq] at h1
    rcases h1 with h1 | ⟨j, hj, he, hle⟩
    · omega
    · have hjl := edge_listed he hall
      have hjL : j < L.length := by omega
      cases hm : mem j
      · rw [hm] at hle
        simp only [Bool.false_eq_true, if_false] at hle
        exact Nat.le_trans hle (ih j hj L[j] (List.getElem?_eq_getElem hjL) (fun e he2 hb => h.down j L[j] (List.getElem?_eq_getElem hjL) hjl e he2 hb))
      · rw [hm] at hle
        simp only [if_true] at hle
        have hlow : ∀ k, k < j + 1 → mem k = true → listed.getD k false = true := by
          intro k hk hmk
          cases hb : listed.getD k false
          · have := mem_above2 ok h hmk hb j (by omega) hjL hm
            rw [this] at hjl
            cases hjl
          · rfl
        have e1 : rankM mem (fun k => listed.getD k false) (j + 1) = rankM mem (fun _ => true) (j + 1) := rankM_same mem _ _ _ (fun k hk hmk => hlow k hk hmk)
        have e2 : rankM mem (fun _ => true) (j + 1) = rankM mem (fun _ => true) j + 1 := by
          show rankM mem (fun _ => true) j + (if mem j && true then 1 else 0) = _
          rw [hm]; rfl
        have e3 := rankM_up mem (fun k => listed.getD k false) (j + 1) L.length (by omega)
        omega
theorem actOf_val (L : List Oper) (val val' : Nat → Value) (s : Nat → Bool) (a : Act) : ∀ n, (∀ k, k < n → s k = true → val k = val' k) → actOf L val s a n = actOf L val' s a n
  | 0, _ => rfl
  | n + 1, h => by
    unfold actOf
    rw [actOf_val L val val' s a n (fun k hk hs => h k (by omega) hs)]
    cases e : s n
    · rfl
    · rw [h n (by omega) e]
theorem wpOp_yl {L : List Oper} {i : Nat} {o : Oper} {a : Act} {w w' : World} {v : Value} {K : Act → World → Prop} {Q : Exit → Act → World → Prop} (hi : L[i]? = some o) (hg : o.guard = none)
    (hy : Yl P o a.eval w v w') (hK : K (a.put o.dst v) w') : wpOp P L.toArray Q i K a w := by
  unfold wpOp
  simp only [List.getElem?_toArray, hi]
  rw [if_pos (by simp [Region.wanted, hg])]
  refine .inl ?_
  unfold Oper.wp
  rcases hy with h | ⟨h, hd⟩ | ⟨f, args, w1, h, hc⟩
  · rw [h]; exact hK
  · rw [h]
    show K (a.put o.dst undef) w'
    rw [hd] at hK ⊢
    exact hK
  · rw [h, Oper.upon_enter]
    refine hc.mono fun e w'' ⟨he, hw''⟩ => ?_
    subst he hw''
    exact hK
theorem wpOp_turn {L : List Oper} {i : Nat} {o : Oper} {a : Act} {w : World} {G : Value → World → Prop} {K : Act → World → Prop} {Q : Exit → Act → World → Prop} (hi : L[i]? = some o) (hg : o.guard = none)
    (hy : TurnY P o a.eval w G) (hK : ∀ v w', G v w' → K (a.put o.dst v) w') : wpOp P L.toArray Q i K a w := by
  unfold wpOp
  simp only [List.getElem?_toArray, hi]
  rw [if_pos (by simp [Region.wanted, hg])]
  refine .inl ?_
  unfold Oper.wp
  rcases hy with ⟨v, w', h, hG⟩ | ⟨w', h, hd, hG⟩ | ⟨f, args, w1, h, hc⟩
  · rw [h]; exact hK _ _ hG
  · rw [h]
    exact hK _ _ hG
  · rw [h, Oper.upon_enter]
    refine hc.mono fun e w'' ⟨v, he, hG⟩ => ?_
    subst he
    exact hK _ _ hG
theorem wpOpIn_turn {lp n : Nat} {L : List Oper} {i : Nat} {o : Oper} {a : Act} {w : World} {G : Value → World → Prop} {K : Act → World → Prop} {Q : Exit → Act → World → Prop} (hi : L[i]? = some o) (hg : o.guard = none) (hnd : ∀ c, o.op ≠ .defer c)
    (hy : TurnY P o a.eval w G) (hK : ∀ v w', G v w' → K (a.put o.dst v) w') : wpOpIn (Fence.wide.inRound lp) n P L.toArray Q i K a w := by
  unfold wpOpIn
  simp only [List.getElem?_toArray, hi]
  rw [if_pos (by simp [Region.wanted, hg])]
  unfold Oper.wpIn
  refine ⟨fun _ _ => trivial, ?_⟩
  rw [Oper.semAt_eq _ _ _ hnd]
  rcases hy with ⟨v, w', h, hG⟩ | ⟨w', h, hd, hG⟩ | ⟨f, args, w1, h, hc⟩
  · rw [h]; exact hK _ _ hG
  · rw [h]; exact hK _ _ hG
  · rw [h]
    refine ⟨fun hd => (by cases hd), CallsIn.inRound lp (callsIn_wide.2 (hc.mono fun e w'' ⟨v, he, hG⟩ => ?_))⟩
    subst he
    exact hK _ _ hG
/-- what is asked of an operation at a stage -/
def StepY (P : Program) {S : Type} (val : S → Nat → Value) (wd : S → World) (R : Nat → S → Prop) (dep lim : Nat → Nat) (N k : Nat) (x : S) (m : Bool) (i : Nat) (o : Oper) (ρ : Operand → Value) : Prop :=
  match m with
  | true => k = dep i → TurnY P o ρ (wd x) fun v w' => ∃ y, R (k + 1) y ∧ wd y = w' ∧ val y i = v ∧ ∀ j, j < N → dep j ≤ k → j ≠ i → val y j = val x j
  | false => dep i ≤ k → k ≤ lim i → Yl P o ρ (wd x) (val x i) (wd x)
/-- the orders, whatever a step of the machine is (W i K a w: operation i, then K) -/
theorem free_core {S : Type} {L : List Oper} {mem anti ph : Nat → Bool} {val : S → Nat → Value} {wd : S → World} {R : Nat → S → Prop} {dep lim : Nat → Nat} {Q : Exit → Act → World → Prop} {a : Act} (W : Nat → (Act → World → Prop) → Act → World → Prop)
    (hW1 : ∀ i o a w w' v K, L[i]? = some o → Yl P o (Act.eval a) w v w' → K (a.put o.dst v) w' → W i K a w)
    (hW2 : ∀ i o a w G K, L[i]? = some o → TurnY P o (Act.eval a) w G → (∀ v w', G v w' → K (a.put o.dst v) w') → W i K a w)
    (ok : OkR2 L mem anti ph) (hlim : limB L mem lim = true) (hdep : depB L mem dep = true) (hrk : ∀ i, i < L.length → mem i = true → dep i = rankM mem (fun _ => true) i)
    (hy : ∀ k x, R k x → ∀ i o, L[i]? = some o → StepY P val wd R dep lim L.length k x (mem i) i o (match anti i with | true => (actOf L (val x) (fun k => !ph k) a L.length).eval | false => (actOf L (val x) (fun _ => true) a L.length).eval))
    (hQ : ∀ x, R (rankM mem (fun _ => true) L.length) x → Q .normal (actOf L (val x) (fun _ => true) a L.length) (wd x))
    (hne : ∀ listed : Array Bool, InvR L mem listed → Region.ready .any L.toArray listed = [] → ∀ i, i < L.length → listed.getD i false = true)
    (wA : Nat → Array Bool → Act → World → Prop)
    (hA0 : ∀ listed a w, Region.ready .any L.toArray listed = [] → Q .normal a w → wA 0 listed a w)
    (hA1 : ∀ fuel listed a w, (Region.ready .any L.toArray listed = [] → Q .normal a w) → (∀ i ∈ Region.ready .any L.toArray listed, W i (wA fuel (listed.setIfInBounds i true)) a w) → wA (fuel + 1) listed a w) :
    ∀ (fuel : Nat) (listed : Array Bool) (x : S), InvR L mem listed → R (rankM mem (fun k => listed.getD k false) L.length) x → ((∃ i, i < L.length ∧ listed.getD i false = false) → 0 < fuel) → (L.length - rankM (fun _ => true) (fun k => listed.getD k false) L.length ≤ fuel) →
      wA fuel listed (actOf L (val x) (fun k => listed.getD k false) a L.length) (wd x) := by
  have fin : ∀ (listed : Array Bool) (x : S), R (rankM mem (fun k => listed.getD k false) L.length) x → (∀ i, i < L.length → listed.getD i false = true) → Q .normal (actOf L (val x) (fun k => listed.getD k false) a L.length) (wd x) := fun listed x hR hall => by
    rw [rankM_same mem (fun k => listed.getD k false) (fun _ => true) L.length (fun j hj _ => hall j hj)] at hR
    rw [actOf_same L (val x) (fun k => listed.getD k false) (fun _ => true) a L.length (fun j hj => hall j hj)]
    exact hQ x hR
  intro fuel
  induction fuel with
  | zero =>
    intro listed x inv hR hpos _
    have hall : ∀ i, i < L.length → listed.getD i false = true := fun i hi => by
      cases hb : listed.getD i false
      · exact absurd (hpos ⟨i, hi, hb⟩) (by omega)
      · rfl
    refine hA0 _ _ _ ?_ (fin listed x hR hall)
    refine List.eq_nil_iff_forall_not_mem.2 fun m hm => ?_
    obtain ⟨h1, o, ho, _⟩ := mem_ready.1 hm
    rw [List.getElem?_toArray] at ho
    have hml := (List.getElem?_eq_some_iff.1 ho).1
    have h2 := hall m hml
    have hs : m < listed.size := by rw [inv.size]; exact hml
    simp [hs] at h1 h2
    rw [h1] at h2
    cases h2
  | succ fuel ih =>
    intro listed x inv hR _ hfu
    refine hA1 _ _ _ _ (fun h0 => fin listed x hR (hne listed inv h0)) fun i hi => ?_
    obtain ⟨h1, o, ho, hall⟩ := mem_ready.1 hi
    rw [List.getElem?_toArray] at ho
    have hil := (List.getElem?_eq_some_iff.1 ho).1
    have hs : i < listed.size := by rw [inv.size]; exact hil
    have hif : listed.getD i false = false := by simp [hs] at h1 ⊢; exact h1
    have inv2 := inv.add (mem := mem) hi
    have hoL := List.mem_of_getElem? ho
    have hdst : dstAt L i = o.dst := by unfold dstAt; rw [ho]; rfl
    have hcong : execOp (actOf L (val x) (fun k => listed.getD k false) a L.length).eval o = execOp (match anti i with | true => (actOf L (val x) (fun k => !ph k) a L.length).eval | false => (actOf L (val x) (fun _ => true) a L.length).eval) o := by
      cases ha : anti i
      · refine execOp_congr o (ok.sel o hoL) fun z hz => actOf_eval L (val x) _ _ a z L.length fun k hk hne d hd e => ?_
        subst e
        have := ok.reads i o k d ho hk hd (by simpa using hz)
        rw [if_neg (by rw [ha]; intro h; cases h.1)] at this
        exact hne (edge_listed this hall)
      · refine execOp_congr o (ok.sel o hoL) fun z hz => actOf_eval L (val x) _ _ a z L.length fun k hk hne d hd e => ?_
        subst e
        have := ok.reads i o k d ho hk hd (by simpa using hz)
        cases hp : ph k
        · rw [if_neg (by rw [hp]; intro h; cases h.2)] at this
          rw [hp] at hne
          exact hne (edge_listed this hall)
        · rw [if_pos ⟨ha, hp⟩] at this
          obtain ⟨oj, hoj, hej⟩ := this
          rw [hp] at hne
          cases hb : listed.getD k false
          · exact hne (by rw [hb]; rfl)
          · have := edge_listed hej (inv.down k oj hoj hb)
            rw [this] at hif
            cases hif
    have hlt : rankM (fun _ => true) (fun k => (listed.setIfInBounds i true).getD k false) L.length = rankM (fun _ => true) (fun k => listed.getD k false) L.length + 1 := by
      rw [listed_upd hs, rankM_add (fun _ => true) _ i hif L.length hil]
      rfl
    have hfuel : ∀ (j : Nat), j < L.length → (listed.setIfInBounds i true).getD j false = false → 0 < fuel := by
      intro j hj hjf
      have key : ∀ (s : Nat → Bool) n, j < n → s j = false → rankM (fun _ => true) s n < n := by
        intro s n
        induction n with
        | zero => intro h; omega
        | succ n ihn =>
          intro h hsj
          unfold rankM
          by_cases e : j = n
          · subst e
            rw [hsj]
            have : ∀ m, rankM (fun _ => true) s m ≤ m := by
              intro m
              induction m with
              | zero => exact Nat.le_refl _
              | succ m ihm => unfold rankM; split <;> omega
            have := this j
            simp
            omega
          · have := ihn (by omega) hsj
            split <;> omega
      have := key (fun k => (listed.setIfInBounds i true).getD k false) L.length hj hjf
      omega
    have hst := hy _ x hR i o ho
    have hdl := dep_le hdep ok inv i o ho hall
    cases hm : mem i
    · rw [hm] at hst
      have hyl : Yl P o (actOf L (val x) (fun k => listed.getD k false) a L.length).eval (wd x) (val x i) (wd x) := by
        have h2 : Yl P o (match anti i with | true => (actOf L (val x) (fun k => !ph k) a L.length).eval | false => (actOf L (val x) (fun _ => true) a L.length).eval) (wd x) (val x i) (wd x) := hst hdl (lim_of2 hlim ok inv hil hm hif)
        unfold Yl at h2 ⊢
        rw [hcong]
        exact h2
      refine hW1 i o _ _ _ _ _ ho hyl ?_
      have e4 : (actOf L (val x) (fun k => listed.getD k false) a L.length).put o.dst (val x i) = actOf L (val x) (fun k => (listed.setIfInBounds i true).getD k false) a L.length := by
        rw [listed_upd hs, actOf_add L (val x) _ a i hif (fun k hk => ok.dist i k hk) L.length hil, hdst]
      rw [e4]
      have e5 : rankM mem (fun k => (listed.setIfInBounds i true).getD k false) L.length = rankM mem (fun k => listed.getD k false) L.length := by
        rw [listed_upd hs, rankM_add mem _ i hif L.length hil, hm]
        rfl
      exact ih _ x inv2 (by rw [e5]; exact hR) (fun ⟨j, hj, hjf⟩ => hfuel j hj hjf) (by omega)
    · rw [hm] at hst
      obtain ⟨p1, p2⟩ := mem_prefix2 ok inv ho hm hall hif
      have e3 : rankM mem (fun k => listed.getD k false) L.length = rankM mem (fun _ => true) i := by
        rw [rankM_low mem _ i L.length (by omega) (fun k h1 h2 h3 => p2 k h1 h2 h3)]
        exact rankM_same mem _ _ i (fun k hk hmk => p1 k hk hmk)
      have ht : TurnY P o (match anti i with | true => (actOf L (val x) (fun k => !ph k) a L.length).eval | false => (actOf L (val x) (fun _ => true) a L.length).eval) (wd x) _ := hst (by rw [e3, hrk i hil hm])
      have ht2 : TurnY P o (actOf L (val x) (fun k => listed.getD k false) a L.length).eval (wd x) (fun v w' => ∃ y, R (rankM mem (fun k => listed.getD k false) L.length + 1) y ∧ wd y = w' ∧ val y i = v ∧ ∀ j, j < L.length → dep j ≤ rankM mem (fun k => listed.getD k false) L.length → j ≠ i → val y j = val x j) := by
        unfold TurnY at ht ⊢
        rw [hcong]
        exact ht
      refine hW2 i o _ _ _ _ ho ht2 ?_
      rintro v w' ⟨y, hR2, rfl, rfl, hag⟩
      have e6 : actOf L (val x) (fun k => listed.getD k false) a L.length = actOf L (val y) (fun k => listed.getD k false) a L.length := by
        refine actOf_val L _ _ _ a L.length fun j hj hl => (hag j hj ?_ ?_).symm
        · exact dep_le hdep ok inv j L[j] (List.getElem?_eq_getElem hj) (fun e he hb => inv.down j L[j] (List.getElem?_eq_getElem hj) hl e he hb)
        · intro e; subst e; rw [hif] at hl; cases hl
      have e4 : (actOf L (val x) (fun k => listed.getD k false) a L.length).put o.dst (val y i) = actOf L (val y) (fun k => (listed.setIfInBounds i true).getD k false) a L.length := by
        rw [e6, listed_upd hs, actOf_add L (val y) _ a i hif (fun k hk => ok.dist i k hk) L.length hil, hdst]
      rw [e4]
      have e5 : rankM mem (fun k => (listed.setIfInBounds i true).getD k false) L.length = rankM mem (fun k => listed.getD k false) L.length + 1 := by
        rw [listed_upd hs, rankM_add mem _ i hif L.length hil, hm]
        rfl
      exact ih _ y inv2 (by rw [e5]; exact hR2) (fun ⟨j, hj, hjf⟩ => hfuel j hj hjf) (by omega)
/-- what binds an operation stands ahead of it -/
def lowB (L : List Oper) : Bool := (List.range L.length).all fun i => ((L[i]?).map fun (x : Oper) => x.after.all fun e => !Region.binds .any e || decide (e.on < i)).getD true
theorem ready_all {L : List Oper} {mem : Nat → Bool} (hlow : lowB L = true) :
    ∀ listed : Array Bool, InvR L mem listed → Region.ready .any L.toArray listed = [] → ∀ i, i < L.length → listed.getD i false = true := by
  intro listed inv hr i
  induction i using Nat.strongRecOn with
  | ind i ih =>
    intro hi
    cases hb : listed.getD i false
    · exfalso
      have hs : i < listed.size := by rw [inv.size]; exact hi
      have : i ∈ Region.ready .any L.toArray listed := mem_ready.2 ⟨by simp [hs] at hb ⊢; exact hb, L[i], by rw [List.getElem?_toArray]; exact List.getElem?_eq_getElem hi, fun e he hbn => by
        unfold lowB at hlow
        rw [List.all_eq_true] at hlow
        have h1 := hlow i (List.mem_range.2 hi)
        rw [List.getElem?_eq_getElem hi] at h1
        simp only [Option.map_some, Option.getD_some, Array.all_eq_true_iff_forall_mem] at h1
        have h2 := h1 e he
        rw [hbn] at h2
        have h3 : e.on < i := by simpa using h2
        exact ih e.on h3 (by omega)⟩
      rw [hr] at this
      cases this
    · rfl
def rkB (L : List Oper) (mem : Nat → Bool) (dep : Nat → Nat) : Bool := (List.range L.length).all fun i => !mem i || dep i == rankM mem (fun _ => true) i
theorem none_listed (L : List Oper) (mem : Nat → Bool) (v : Nat → Value) (a : Act) : actOf L v (fun k => (Array.replicate L.toArray.size false).getD k false) a L.length = a ∧ rankM mem (fun k => (Array.replicate L.toArray.size false).getD k false) L.length = 0 := by
  have hz : ∀ j, (Array.replicate L.toArray.size false).getD j false = false := fun j => by
    by_cases hj : j < L.length
    · simp [hj]
    · simp [hj]
  have hf : ∀ (s : Nat → Bool) k, (∀ j, j < k → s j = false) → actOf L v s a k = a ∧ rankM mem s k = 0 := by
    intro s k
    induction k with
    | zero => intro _; exact ⟨rfl, rfl⟩
    | succ k ih =>
      intro h
      obtain ⟨h1, h2⟩ := ih (fun j hj => h j (by omega))
      unfold actOf rankM
      rw [h k (by omega), h1, h2]
      simp
  exact hf _ _ (fun j _ => hz j)
theorem rkB_of {L : List Oper} {mem : Nat → Bool} {dep : Nat → Nat} (h : rkB L mem dep = true) : ∀ i, i < L.length → mem i = true → dep i = rankM mem (fun _ => true) i := by
  intro i hi hm
  unfold rkB at h
  rw [List.all_eq_true] at h
  have := h i (List.mem_range.2 hi)
  rw [hm] at this
  simpa using this
theorem inv_none (L : List Oper) (mem : Nat → Bool) : InvR L mem (Array.replicate L.toArray.size false) := by
  refine ⟨by simp, fun i x _ hl => ?_⟩
  by_cases hj : i < L.length
  · simp [hj] at hl
  · simp [hj] at hl
/-- **a drawn region of a function**: mem: which operations turn the world; dep: behind how many of them an operation comes; lim: ahead of which one it must have come (as many as there are: none); val, wd: the values and the world of a state; R: which states there may be at a stage -/
theorem free_lit {id : Nat} {Q : Exit → Act → World → Prop} {a : Act} {w : World} {L : List Oper} {S : Type} (mem : Nat → Bool) (val : S → Nat → Value) (wd : S → World) (R : Nat → S → Prop) (dep lim : Nat → Nat) (anti ph : Nat → Bool) (af ab : S → Act) (tot : Nat) (x0 : S) (hm : P.follows .mixedOrders = true) (hok : okR2 L mem anti ph = true) (hlim : limB L mem lim = true) (hdep : depB L mem dep = true) (hrk : rkB L mem dep = true)
    (hlow : lowB L = true) (htot : rankM mem (fun _ => true) L.length = tot) (h0 : wd x0 = w.drew) (hR0 : R 0 x0) (haf : ∀ x, actOf L (val x) (fun _ => true) a L.length = af x) (hab : ∀ x, actOf L (val x) (fun k => !ph k) a L.length = ab x)
    (hy : ∀ k x, R k x → AllY (fun i o => StepY P val wd R dep lim L.length k x (mem i) i o (match anti i with | true => (ab x).eval | false => (af x).eval)) 0 L) (hQ : ∀ x, R tot x → Q .normal (af x) (wd x)) :
    (Code.region id L.toArray true).wp P Q a w := by
  have ok := okR2_of hok
  refine wp_region_any hm ?_
  obtain ⟨e1, e2⟩ := none_listed L mem (val x0) a
  have h := free_core (P := P) (mem := mem) (anti := anti) (ph := ph) (val := val) (wd := wd) (R := R) (dep := dep) (lim := lim) (Q := Q) (a := a) (fun i K a w => wpOp P L.toArray Q i K a w)
    (fun i o a w w' v K ho hy hK => wpOp_yl ho (ok.guard o (List.mem_of_getElem? ho)) hy hK)
    (fun i o a w G K ho hy hK => wpOp_turn ho (ok.guard o (List.mem_of_getElem? ho)) hy hK) ok hlim hdep (rkB_of hrk)
    (fun k x hR i o ho => by
      have h := allY_at L 0 (hy k x hR) i o ho
      rw [Nat.zero_add] at h
      rw [haf, hab]
      exact h) (fun x hR => by rw [haf]; exact hQ x (by rw [← htot]; exact hR)) (ready_all hlow) (fun fuel listed a w => wpAny P .any L.toArray Q fuel listed a w) (fun _ _ _ h1 h2 => ⟨h1, h2⟩) (fun _ _ _ _ h1 h2 => ⟨h1, h2⟩)
    L.toArray.size (Array.replicate L.toArray.size false) x0 (inv_none L mem) (by rw [e2]; exact hR0) (fun ⟨i, hi, _⟩ => by simp; omega) (by simp)
  rw [e1, h0] at h
  exact h
end
end Go.Proofs.YtoppjcmkhhkbmaaGreat

namespace Go.Proofs.YtoppjcmkhhkbmaaGreat
open Go.RowKit

section
variable {P : Program}
def none2 : Nat → Bool := fun _ => false
/-- what an operation's value hangs on, of those that turn the world: each lies behind an edge -/
def depS (L : List Oper) (dep : Nat → List Nat) : Bool :=
  (List.range L.length).all fun i => (dep i).all fun d => match L[i]? with | some o => edgeB o d || (List.range i).any (fun j => edgeB o j && (dep j).contains d) | none => true
theorem dep_all {L : List Oper} {dep : Nat → List Nat} {listed : Array Bool} (hd : depS L dep = true) (h : InvR L none2 listed) : ∀ (i : Nat) (o : Oper), L[i]? = some o → (∀ e ∈ o.after, Region.binds .any e = true → listed.getD e.on false = true) → ∀ d, d ∈ dep i → listed.getD d false = true := by
  intro i
  induction i using Nat.strongRecOn with
  | ind i ih =>
    intro o ho hall d hdi
    have hil := (List.getElem?_eq_some_iff.1 ho).1
    have hd2 := hd
    unfold depS at hd2
    rw [List.all_eq_true] at hd2
    have h1 := hd2 i (List.mem_range.2 hil)
    rw [List.all_eq_true] at h1
    have h2 := h1 d hdi
    rw [ho] at h2
    simp only [Bool.or_eq_true, List.any_eq_true, List.mem_range, Bool.and_eq_true] at h2
    rcases h2 with h2 | ⟨j, hj, he, hc⟩
    · exact edge_listed h2 hall
    · have hjl := edge_listed he hall
      have hjL : j < L.length := by omega
      exact ih j hj L[j] (List.getElem?_eq_getElem hjL) (fun e he2 hb => h.down j L[j] (List.getElem?_eq_getElem hjL) hjl e he2 hb) d (List.contains_iff_mem.1 hc)
/-- a step, where these have come up -/
def StepS (P : Program) {S : Type} (val : S → Nat → Value) (wd : S → World) (R : (Nat → Bool) → S → Prop) (dep : Nat → List Nat) (N : Nat) (s : Nat → Bool) (x : S) (m : Bool) (i : Nat) (o : Oper) (ρ : Operand → Value) : Prop :=
  match m with
  | true => s i = false → (∀ d, d ∈ dep i → s d = true) → TurnY P o ρ (wd x) fun v w' => ∃ y, R (fun k => s k || k == i) y ∧ wd y = w' ∧ val y i = v ∧ ∀ j, j < N → (dep j).contains i = false → j ≠ i → val y j = val x j
  | false => s i = false → (∀ d, d ∈ dep i → s d = true) → Yl P o ρ (wd x) (val x i) (wd x)
theorem set_core {S : Type} {L : List Oper} {mem : Nat → Bool} {val : S → Nat → Value} {wd : S → World} {R : (Nat → Bool) → S → Prop} {dep : Nat → List Nat} {Q : Exit → Act → World → Prop} {a : Act} (W : Nat → (Act → World → Prop) → Act → World → Prop)
    (hW1 : ∀ i o a w w' v K, L[i]? = some o → Yl P o (Act.eval a) w v w' → K (a.put o.dst v) w' → W i K a w)
    (hW2 : ∀ i o a w G K, L[i]? = some o → TurnY P o (Act.eval a) w G → (∀ v w', G v w' → K (a.put o.dst v) w') → W i K a w)
    (ok : OkR2 L none2 none2 none2) (hdep : depS L dep = true) (hRm : ∀ s s' x, (∀ k, mem k = true → s k = s' k) → R s x → R s' x)
    (hy : ∀ s x, R s x → ∀ i o, L[i]? = some o → StepS P val wd R dep L.length s x (mem i) i o (actOf L (val x) (fun _ => true) a L.length).eval)
    (hQ : ∀ x, R (fun _ => true) x → Q .normal (actOf L (val x) (fun _ => true) a L.length) (wd x))
    (hmL : ∀ k, mem k = true → k < L.length)
    (hne : ∀ listed : Array Bool, InvR L none2 listed → Region.ready .any L.toArray listed = [] → ∀ i, i < L.length → listed.getD i false = true)
    (wA : Nat → Array Bool → Act → World → Prop)
    (hA0 : ∀ listed a w, Region.ready .any L.toArray listed = [] → Q .normal a w → wA 0 listed a w)
    (hA1 : ∀ fuel listed a w, (Region.ready .any L.toArray listed = [] → Q .normal a w) → (∀ i ∈ Region.ready .any L.toArray listed, W i (wA fuel (listed.setIfInBounds i true)) a w) → wA (fuel + 1) listed a w) :
    ∀ (fuel : Nat) (listed : Array Bool) (x : S), InvR L none2 listed → R (fun k => listed.getD k false) x → ((∃ i, i < L.length ∧ listed.getD i false = false) → 0 < fuel) → (L.length - rankM (fun _ => true) (fun k => listed.getD k false) L.length ≤ fuel) →
      wA fuel listed (actOf L (val x) (fun k => listed.getD k false) a L.length) (wd x) := by
  have fin : ∀ (listed : Array Bool) (x : S), R (fun k => listed.getD k false) x → (∀ i, i < L.length → listed.getD i false = true) → Q .normal (actOf L (val x) (fun k => listed.getD k false) a L.length) (wd x) := fun listed x hR hall => by
    rw [actOf_same L (val x) (fun k => listed.getD k false) (fun _ => true) a L.length (fun j hj => hall j hj)]
    exact hQ x (hRm _ _ x (fun k hk => hall k (hmL k hk)) hR)
  intro fuel
  induction fuel with
  | zero =>
    intro listed x inv hR hpos _
    have hall : ∀ i, i < L.length → listed.getD i false = true := fun i hi => by
      cases hb : listed.getD i false
      · exact absurd (hpos ⟨i, hi, hb⟩) (by omega)
      · rfl
    refine hA0 _ _ _ ?_ (fin listed x hR hall)
    refine List.eq_nil_iff_forall_not_mem.2 fun m hm => ?_
    obtain ⟨h1, o, ho, _⟩ := mem_ready.1 hm
    rw [List.getElem?_toArray] at ho
    have hml := (List.getElem?_eq_some_iff.1 ho).1
    have h2 := hall m hml
    have hs : m < listed.size := by rw [inv.size]; exact hml
    simp [hs] at h1 h2
    rw [h1] at h2
    cases h2
  | succ fuel ih =>
    intro listed x inv hR _ hfu
    refine hA1 _ _ _ _ (fun h0 => fin listed x hR (hne listed inv h0)) fun i hi => ?_
    obtain ⟨h1, o, ho, hall⟩ := mem_ready.1 hi
    rw [List.getElem?_toArray] at ho
    have hil := (List.getElem?_eq_some_iff.1 ho).1
    have hs : i < listed.size := by rw [inv.size]; exact hil
    have hif : listed.getD i false = false := by simp [hs] at h1 ⊢; exact h1
    have inv2 := inv.add (mem := none2) hi
    have hoL := List.mem_of_getElem? ho
    have hdst : dstAt L i = o.dst := by unfold dstAt; rw [ho]; rfl
    have hcong : execOp (actOf L (val x) (fun k => listed.getD k false) a L.length).eval o = execOp (actOf L (val x) (fun _ => true) a L.length).eval o := by
      refine execOp_congr o (ok.sel o hoL) fun z hz => actOf_eval L (val x) _ _ a z L.length fun k hk hne d hd e => ?_
      subst e
      have := ok.reads i o k d ho hk hd (by simpa using hz)
      rw [if_neg (by intro h; cases h.1)] at this
      exact hne (edge_listed this hall)
    have hlt : rankM (fun _ => true) (fun k => (listed.setIfInBounds i true).getD k false) L.length = rankM (fun _ => true) (fun k => listed.getD k false) L.length + 1 := by
      rw [listed_upd hs, rankM_add (fun _ => true) _ i hif L.length hil]
      rfl
    have hfuel : ∀ (j : Nat), j < L.length → (listed.setIfInBounds i true).getD j false = false → 0 < fuel := by
      intro j hj hjf
      have key : ∀ (s : Nat → Bool) n, j < n → s j = false → rankM (fun _ => true) s n < n := by
        intro s n
        induction n with
        | zero => intro h; omega
        | succ n ihn =>
          intro h hsj
          unfold rankM
          by_cases e : j = n
          · subst e
            rw [hsj]
            have : ∀ m, rankM (fun _ => true) s m ≤ m := by
              intro m
              induction m with
              | zero => exact Nat.le_refl _
              | succ m ihm => unfold rankM; split <;> omega
            have := this j
            simp
            omega
          · have := ihn (by omega) hsj
            split <;> omega
      have := key (fun k => (listed.setIfInBounds i true).getD k false) L.length hj hjf
      omega
    have hst := hy _ x hR i o ho
    have hdl := dep_all hdep inv i o ho hall
    have hup : ∀ k, (listed.setIfInBounds i true).getD k false = (listed.getD k false || k == i) := fun k => by
      simp only [Array.getD_eq_getD_getElem?, Array.getElem?_setIfInBounds]
      by_cases e : i = k
      · subst e
        rw [if_pos rfl, if_pos hs]
        simp
      · rw [if_neg e]
        have : (k == i) = false := beq_eq_false_iff_ne.2 (fun h => e h.symm)
        rw [this, Bool.or_false]
    cases hm : mem i
    · rw [hm] at hst
      have hyl : Yl P o (actOf L (val x) (fun k => listed.getD k false) a L.length).eval (wd x) (val x i) (wd x) := by
        have h2 : Yl P o (actOf L (val x) (fun _ => true) a L.length).eval (wd x) (val x i) (wd x) := hst hif hdl
        unfold Yl at h2 ⊢
        rw [hcong]
        exact h2
      refine hW1 i o _ _ _ _ _ ho hyl ?_
      have e4 : (actOf L (val x) (fun k => listed.getD k false) a L.length).put o.dst (val x i) = actOf L (val x) (fun k => (listed.setIfInBounds i true).getD k false) a L.length := by
        rw [listed_upd hs, actOf_add L (val x) _ a i hif (fun k hk => ok.dist i k hk) L.length hil, hdst]
      rw [e4]
      exact ih _ x inv2 (hRm _ _ x (fun k hk => by
        rw [hup k]
        have : (k == i) = false := beq_eq_false_iff_ne.2 (fun e => by rw [e, hm] at hk; cases hk)
        rw [this, Bool.or_false]) hR) (fun ⟨j, hj, hjf⟩ => hfuel j hj hjf) (by omega)
    · rw [hm] at hst
      have ht : TurnY P o (actOf L (val x) (fun _ => true) a L.length).eval (wd x) _ := hst hif hdl
      have ht2 : TurnY P o (actOf L (val x) (fun k => listed.getD k false) a L.length).eval (wd x) (fun v w' => ∃ y, R (fun k => listed.getD k false || k == i) y ∧ wd y = w' ∧ val y i = v ∧ ∀ j, j < L.length → (dep j).contains i = false → j ≠ i → val y j = val x j) := by
        unfold TurnY at ht ⊢
        rw [hcong]
        exact ht
      refine hW2 i o _ _ _ _ ho ht2 ?_
      rintro v w' ⟨y, hR2, rfl, rfl, hag⟩
      have e6 : actOf L (val x) (fun k => listed.getD k false) a L.length = actOf L (val y) (fun k => listed.getD k false) a L.length := by
        refine actOf_val L _ _ _ a L.length fun j hj hl => (hag j hj ?_ ?_).symm
        · cases hc : (dep j).contains i
          · rfl
          · have := dep_all hdep inv j L[j] (List.getElem?_eq_getElem hj) (fun e he hb => inv.down j L[j] (List.getElem?_eq_getElem hj) hl e he hb) i (List.contains_iff_mem.1 hc)
            rw [hif] at this
            cases this
        · intro e; subst e; rw [hif] at hl; cases hl
      have e4 : (actOf L (val x) (fun k => listed.getD k false) a L.length).put o.dst (val y i) = actOf L (val y) (fun k => (listed.setIfInBounds i true).getD k false) a L.length := by
        rw [e6, listed_upd hs, actOf_add L (val y) _ a i hif (fun k hk => ok.dist i k hk) L.length hil, hdst]
      rw [e4]
      exact ih _ y inv2 (hRm _ _ y (fun k _ => (hup k).symm) hR2) (fun ⟨j, hj, hjf⟩ => hfuel j hj hjf) (by omega)
/-- **a drawn region of a function**: ms: which operations turn the world; dep: on which of them an operation's value hangs -/
theorem set_lit {id : Nat} {Q : Exit → Act → World → Prop} {a : Act} {w : World} {L : List Oper} {S : Type} (ms : List Nat) (val : S → Nat → Value) (wd : S → World) (R : List Bool → S → Prop) (dep : Nat → List Nat) (af : S → Act) (x0 : S) (hm : P.follows .mixedOrders = true) (hok : okR2 L none2 none2 none2 = true) (hdep : depS L dep = true)
    (hlow : lowB L = true) (hms : (ms.all fun k => decide (k < L.length)) = true) (h0 : wd x0 = w.drew) (hR0 : R (ms.map fun _ => false) x0) (haf : ∀ x, actOf L (val x) (fun _ => true) a L.length = af x)
    (hy : ∀ s x, R (ms.map s) x → AllY (fun i o => StepS P val wd (fun s => R (ms.map s)) dep L.length s x (ms.contains i) i o (af x).eval) 0 L) (hQ : ∀ x, R (ms.map fun _ => true) x → Q .normal (af x) (wd x)) :
    (Code.region id L.toArray true).wp P Q a w := by
  have ok := okR2_of hok
  refine wp_region_any hm ?_
  obtain ⟨e1, e2⟩ := none_listed L none2 (val x0) a
  have hms2 : ∀ k, ms.contains k = true → k < L.length := fun k hk => of_decide_eq_true (List.all_eq_true.1 hms k (List.contains_iff_mem.1 hk))
  have h := set_core (P := P) (mem := fun k => ms.contains k) (val := val) (wd := wd) (R := fun s => R (ms.map s)) (dep := dep) (Q := Q) (a := a) (fun i K a w => wpOp P L.toArray Q i K a w)
    (fun i o a w w' v K ho hy hK => wpOp_yl ho (ok.guard o (List.mem_of_getElem? ho)) hy hK)
    (fun i o a w G K ho hy hK => wpOp_turn ho (ok.guard o (List.mem_of_getElem? ho)) hy hK) ok hdep
    (fun s s' x he hR => by
      have : ms.map s = ms.map s' := List.map_congr_left fun k hk => he k (List.contains_iff_mem.2 hk)
      rw [← this]; exact hR)
    (fun s x hR i o ho => by
      have h := allY_at L 0 (hy s x hR) i o ho
      rw [Nat.zero_add] at h
      rw [haf]
      exact h) (fun x hR => by rw [haf]; exact hQ x hR) hms2 (ready_all hlow) (fun fuel listed a w => wpAny P .any L.toArray Q fuel listed a w) (fun _ _ _ h1 h2 => ⟨h1, h2⟩) (fun _ _ _ _ h1 h2 => ⟨h1, h2⟩)
    L.toArray.size (Array.replicate L.toArray.size false) x0 (inv_none L none2) (by
      have hz : ms.map (fun k => (Array.replicate L.toArray.size false).getD k false) = ms.map (fun _ => false) := List.map_congr_left fun k hk => by
        have := hms2 k (List.contains_iff_mem.2 hk)
        simp [this]
      show R _ x0
      rw [hz]; exact hR0) (fun ⟨i, hi, _⟩ => by simp; omega) (by simp)
  rw [e1, h0] at h
  exact h
end
end Go.Proofs.YtoppjcmkhhkbmaaGreat
