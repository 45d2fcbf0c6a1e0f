/-
  For burnishnum.Apart: rows of bytes, each its own; what a store or an append does to them.
-/
import Derived.Test.YtegmbjkpjglgpaaBv
namespace Go.Proofs.Ytegmbjkpjglgpaa
open Go.RowKit

/-- a slice value's parts -/
abbrev SlU := Option Addr × Nat × Nat
def slvU (s : SlU) : Value := .slice s.1 s.2.1 s.2.2
def mk (k j : Nat) : Int := (((29 * k + 5 * j + 3) % 256 : Nat) : Int)
def marks (k n : Nat) : List Value := (List.range n).map fun j => .int .u8 (mk k j)
theorem marks_length (k n : Nat) : (marks k n).length = n := by simp [marks]
theorem marks_succ (k n : Nat) : marks k (n + 1) = marks k n ++ [.int .u8 (mk k n)] := by simp [marks, List.range_succ]
theorem marks_at (k n j : Nat) (h : j < n) : (marks k n)[j]? = some (.int .u8 (mk k j)) := by simp [marks, h]
theorem marks_set (k j : Nat) (xs : List Value) (h : j < xs.length) : (marks k j ++ xs.drop j).set j (.int .u8 (mk k j)) = marks k (j + 1) ++ xs.drop (j + 1) := by
  rw [marks_succ, List.append_assoc, List.set_append_right j _ (by rw [marks_length]; exact Nat.le_refl _), marks_length, Nat.sub_self, List.drop_eq_getElem_cons h]
  rfl

/-- rows of bytes of the call's own -/
def BRows (w : World) (base : Nat) (R : List SlU) (X : Nat → List Value) : Prop := ∀ (k : Nat) (s : SlU), R[k]? = some s → w.ownsRow base 5 1 (slvU s) s.2.1 (X k)
/-- each in a block of its own -/
def Dist (R : List SlU) : Prop := ∀ (i j : Nat) (s t : SlU), R[i]? = some s → R[j]? = some t → i ≠ j → ∀ g, (slvU s).ownBlock = some g → (slvU t).ownBlock ≠ some g

section
variable {w w' : World} {base : Nat} {R : List SlU} {X Y : Nat → List Value}
theorem BRows.kept (h : BRows w base R X) {row : Option Nat} (hg : w.grownBy w' row) (hne : ∀ (k : Nat) (s : SlU), R[k]? = some s → (slvU s).ownBlock = none ∨ (slvU s).ownBlock ≠ row) : BRows w' base R X :=
  fun k s hs => (h k s hs).kept hg (hne k s hs)
theorem BRows.to (h : BRows w base R X) (hxy : ∀ (k : Nat) (s : SlU), R[k]? = some s → X k = Y k) : BRows w base R Y := fun k s hs => by rw [← hxy k s hs]; exact h k s hs
theorem BRows.store (h : BRows w base R X) (hd : Dist R) {k g n c j : Nat} (hk : R[k]? = some (some ⟨g, 0, none⟩, n, c)) (u : Value) :
    BRows (w.setCell ⟨g, j, none⟩ u) base R (fun i => if i = k then (X k).set j u else X i) := by
  intro i s hs
  by_cases hi : i = k
  · subst hi
    rw [hk] at hs
    injection hs with hs
    subst hs
    simp only [if_pos]
    exact ((h i _ hk).stored (g := g) j u).1
  · simp only [if_neg hi]
    have hst := ((h k _ hk).stored (g := g) j u).2
    refine (h i s hs).kept hst ?_
    cases hb : (slvU s).ownBlock with
    | none => exact .inl rfl
    | some b => exact .inr fun he => hd i k s _ hs hk hi b hb (by rw [he]; rfl)
end

/-- an append of one element, with what becomes of the blocks -/
def App1 (w : World) (base : Nat) (e : TypeId) (A : Option Addr) (n c : Nat) (xs : List Value) (u : Value) (A' : Option Addr) (c' : Nat) (w' : World) : Prop :=
  Apped w base e 1 A n c xs 1 [u] A' c' w' ∧ ((Value.slice A' (n + 1) c').ownBlock = (Value.slice A n c).ownBlock ∨ ((Value.slice A' (n + 1) c').ownBlock = some w.heap.size ∧ w.grownBy w' none))

section
variable {P : Program} (w : World)
theorem run_app1 (base : Nat) (t ty e : TypeId) (i : TypeInfo) (z : Value) (bytes : Nat) (ht : P.underlying t = some (.slice e)) (hi : P.info? e = some i) (hz : i.zero = some z)
    (hsize : i.size = 1) (hby : i.bytes = bytes) (hzs : z.cells.size = 1)
    (A : Option Addr) (n c : Nat) (xs : List Value) (hown : w.ownsRow base e 1 (.slice A n c) n xs)
    (p d : Nat) (u : Value) (hp : w.cell? ⟨p, 0, none⟩ = some u) (h1 : u.oneCell' = true)
    (h63 : n + 1 ≤ maxLen) (hbytes : (n + 1) * bytes ≤ 140737488355328) (hbase : base ≤ w.heap.size) :
    ∃ A' c' w', (Builtin.append_ #[t, t] ty #[.slice A n c, .slice (some ⟨p, 0, none⟩) 1 d]).run P w = .ok (.slice A' (n + 1) c') w' ∧ App1 w base e A n c xs u A' c' w' := by
  have hcells : ∀ j v, [u][j]? = some v → w.cell? ((⟨p, 0, none⟩ : Addr).add j) = some v := by
    intro j v hv
    have hj : j = 0 := by
      rcases Nat.eq_zero_or_pos j with h | h
      · exact h
      · rw [List.getElem?_eq_none (by simp; omega)] at hv; cases hv
    subst hj
    simp at hv
    subst hv
    exact hp
  have hu1 : ∀ v ∈ [u], v.oneCell' = true := by intro v hv; simp at hv; subst hv; exact h1
  obtain ⟨v', w', hrun, h2, h3, _, h5⟩ := run_append_own_at (P := P) w base t ty e i z 1 bytes ht hi hz hsize hby hzs (by omega) _ n xs hown ⟨p, 0, none⟩ 1 d [u] rfl hcells hu1 h63 hbytes hbase
  obtain ⟨A', c', rfl, _⟩ := own_form h2
  refine ⟨A', c', w', hrun, ⟨h2, h3, (Below.refl base w).grown h3 hbase (fun k hk => (hown.lt k hk).1), h5⟩, ?_⟩
  rcases hown.2 with ⟨hv, rfl⟩ | ⟨g, cap, cur, hv, hbg, hg, hnc, hcm, hcs, htake⟩
  · rcases h5 with h5 | h5
    · exact .inl h5
    · refine .inr ⟨h5, ?_⟩
      rw [hv] at h3
      exact h3
  · injection hv with e1 e2 e3
    subst e1 e3
    by_cases hroom : n + 1 ≤ c
    · have hr := run_append_room (P := P) w t ty e i ht hi g n c cur hg ⟨p, 0, none⟩ 1 d [u] (by rw [hsize]; rfl) hcells hu1 hroom (by rw [hsize]; simp; omega)
      rw [hrun] at hr
      injection hr with hr _
      rw [hr]
      exact .inl rfl
    · have holds : ∀ j v, xs[j]? = some v → w.cell? ((⟨g, 0, none⟩ : Addr).add j) = some v := hown.cells (g := g) rfl
      obtain ⟨v2, w2, hr, ho2, hg2⟩ := run_append_arg_grows (P := P) w t ty e i z 1 bytes ht hi hz hsize hby hzs (by omega) ⟨g, 0, none⟩ n c xs hown.1 holds ⟨p, 0, none⟩ 1 d [u] rfl hcells (by omega) h63 hbytes
      rw [hrun] at hr
      injection hr with hr hw
      subst hw
      refine .inr ⟨?_, hg2⟩
      rcases h5 with h5 | h5
      · exfalso
        have hb := ho2.lt g (by rw [← hr, h5]; rfl)
        have := (Array.getElem?_eq_some_iff.1 hg).1
        omega
      · exact h5

theorem wp_app1 {o : Oper} {a : Act} {K : Act → World → Prop} {Q : Exit → Act → World → Prop} (s x : Operand) (t : TypeId)
    (ho : o.op = .call { callee := .builtin .append, args := #[s, x], argTypes := #[t, t] })
    (base : Nat) (e : TypeId) (i : TypeInfo) (z : Value) (bytes : Nat) (ht : P.underlying t = some (.slice e)) (hi : P.info? e = some i) (hz : i.zero = some z)
    (hsize : i.size = 1) (hby : i.bytes = bytes) (hzs : z.cells.size = 1)
    (A : Option Addr) (n c : Nat) (xs : List Value) (hs : a.eval s = .slice A n c) (hown : w.ownsRow base e 1 (.slice A n c) n xs)
    (p d : Nat) (u : Value) (hx : a.eval x = .slice (some ⟨p, 0, none⟩) 1 d) (hp : w.cell? ⟨p, 0, none⟩ = some u) (h1 : u.oneCell' = true)
    (h63 : n + 1 ≤ maxLen) (hbytes : (n + 1) * bytes ≤ 140737488355328) (hbase : base ≤ w.heap.size)
    (h : ∀ A' c' w', App1 w base e A n c xs u A' c' w' → K (a.put o.dst (.slice A' (n + 1) c')) w') : o.wp P a w K Q := by
  obtain ⟨A', c', w', hrun, h2⟩ := run_app1 (P := P) w base t o.type e i z bytes ht hi hz hsize hby hzs A n c xs hown p d u hp h1 h63 hbytes hbase
  unfold Oper.wp execOp
  simp only [ho, resolve, invoke, builtin, Sem.run_bind, Sem.run_pure, Result.andThen_ok, List.map_toArray, List.map_cons, List.map_nil, hs, hx, hrun]
  exact h A' c' w' h2

theorem wpList_app1 {ops : Array Oper} {rest : List Oper} {o : Oper} {a : Act} {Q : Exit → Act → World → Prop} (hgd : o.guard = none) (s x : Operand) (t : TypeId)
    (ho : o.op = .call { callee := .builtin .append, args := #[s, x], argTypes := #[t, t] })
    (base : Nat) (e : TypeId) (i : TypeInfo) (z : Value) (bytes : Nat) (ht : P.underlying t = some (.slice e)) (hi : P.info? e = some i) (hz : i.zero = some z)
    (hsize : i.size = 1) (hby : i.bytes = bytes) (hzs : z.cells.size = 1)
    (A : Option Addr) (n c : Nat) (xs : List Value) (hs : a.eval s = .slice A n c) (hown : w.ownsRow base e 1 (.slice A n c) n xs)
    (p d : Nat) (u : Value) (hx : a.eval x = .slice (some ⟨p, 0, none⟩) 1 d) (hp : w.cell? ⟨p, 0, none⟩ = some u) (h1 : u.oneCell' = true)
    (h63 : n + 1 ≤ maxLen) (hbytes : (n + 1) * bytes ≤ 140737488355328) (hbase : base ≤ w.heap.size)
    (h : ∀ A' c' w', App1 w base e A n c xs u A' c' w' → wpList P ops Q rest (a.put o.dst (.slice A' (n + 1) c')) w') : wpList P ops Q (o :: rest) a w :=
  wpList_plain hgd fun _ hK => wp_app1 w s x t ho base e i z bytes ht hi hz hsize hby hzs A n c xs hs hown p d u hx hp h1 h63 hbytes hbase fun A' c' w' h2 => hK _ _ (h A' c' w' h2)
end

/-- while row k is marked -/
def mid (X : Nat → List Value) (k j : Nat) : Nat → List Value := fun i => if i = k then marks k j ++ (X k).drop j else if i < k then marks i (X i).length else X i
def ahead (X : Nat → List Value) (k : Nat) : Nat → List Value := fun i => if i < k then marks i (X i).length else X i
section
variable {w : World} {base : Nat} {R : List SlU} {X : Nat → List Value} {k j n c g : Nat} {A : Option Addr}
theorem rows_start (h : BRows w base R (ahead X k)) : BRows w base R (mid X k 0) :=
  h.to fun i s _ => by
    unfold ahead mid
    by_cases hi : i = k
    · subst hi
      rw [if_neg (by omega), if_pos rfl]
      rfl
    · rw [if_neg hi]
theorem rows_len (h : BRows w base R (mid X k j)) (hk : R[k]? = some (A, n, c)) (hj : j < n) : (X k).length = n := by
  have := (h k _ hk).1
  unfold mid at this
  rw [if_pos rfl, List.length_append, marks_length, List.length_drop, Nat.mul_one] at this
  simp only at this
  omega
theorem rows_step (h : BRows w base R (mid X k j)) (hd : Dist R) (hk : R[k]? = some (some ⟨g, 0, none⟩, n, c)) (hj : j < n) : BRows (w.setCell ⟨g, j, none⟩ (.int .u8 (mk k j))) base R (mid X k (j + 1)) := by
  have hl := rows_len h hk hj
  refine (h.store hd hk (.int .u8 (mk k j))).to fun i s _ => ?_
  by_cases hi : i = k
  · subst hi
    unfold mid
    simp only [if_pos]
    exact marks_set i j (X i) (by omega)
  · unfold mid
    simp only [if_neg hi]
theorem rows_end (h : BRows w base R (mid X k n)) (hk : R[k]? = some (A, n, c)) (hl : (X k).length = n) : BRows w base R (ahead X (k + 1)) :=
  h.to fun i s _ => by
    unfold ahead mid
    by_cases hi : i = k
    · subst hi
      rw [if_pos rfl, if_pos (by omega), hl, List.drop_eq_nil_of_le (by omega), List.append_nil]
    · rw [if_neg hi]
      by_cases h2 : i < k
      · rw [if_pos h2, if_pos (by omega)]
      · rw [if_neg h2, if_neg (by omega)]
end

/-- rows of different elements lie in different blocks -/
theorem own_own_neU {w : World} {b b' : Nat} {e e' : TypeId} {size size' n n' : Nat} {v v' : Value} {xs xs' : List Value} (h : w.ownsRow b e size v n xs) (h' : w.ownsRow b' e' size' v' n' xs') (hne : e ≠ e') :
    v.ownBlock = none ∨ v.ownBlock ≠ v'.ownBlock := by
  rcases h.2 with ⟨rfl, _⟩ | ⟨g, cap, cur, rfl, _, hh, _⟩
  · exact .inl rfl
  · right
    intro he
    rcases h'.2 with ⟨rfl, _⟩ | ⟨g', cap', cur', rfl, _, hh', _⟩
    · simp [Value.ownBlock] at he
    · have : g = g' := by simpa [Value.ownBlock] using he
      subst this
      rw [hh] at hh'
      injection hh' with hh'
      injection hh' with _ ht
      exact hne ht

/-- the rows that a list of slices holds -/
def Lists (w : World) (gl : Nat) (R : List SlU) : Prop := Blk w gl 42 (R.map slvU).toArray
/-- one row while it grows -/
def Grow1 (wk w : World) (base k : Nat) (s : SlU) (A : Option Addr) (c t : Nat) : Prop :=
  wk.grownBy w (slvU s).ownBlock ∧ w.ownsRow base 5 1 (.slice A (s.2.1 + t) c) (s.2.1 + t) (marks k (s.2.1 + t)) ∧
    ((Value.slice A (s.2.1 + t) c).ownBlock = (slvU s).ownBlock ∨ ∃ b, (Value.slice A (s.2.1 + t) c).ownBlock = some b ∧ wk.heap.size ≤ b) ∧
    (∀ g, (slvU s).ownBlock = some g → ∀ j, j < s.2.1 → w.cell? ⟨g, j, none⟩ = some (.int .u8 (mk k j))) ∧ Below base wk w
theorem own_mark {w : World} {base k n c g j : Nat} {A : Option Addr} (h : w.ownsRow base 5 1 (.slice A n c) n (marks k n)) (hg : (Value.slice A n c).ownBlock = some g) (hj : j < n) : w.cell? ⟨g, j, none⟩ = some (.int .u8 (mk k j)) := by
  obtain ⟨g', u, rfl, _, _, hu, hc⟩ := own_cell h hj
  have : g' = g := by simpa [Value.ownBlock] using hg
  subst this
  rw [hc, ← hu, marks_at k n j hj]

theorem grown_trans {a b c : World} {row row' : Option Nat} (h : a.grownBy b row) (h' : b.grownBy c row') (hr : row' = row ∨ row' = none ∨ ∃ k, row' = some k ∧ a.heap.size ≤ k) : a.grownBy c row := by
  refine ⟨h'.1.trans h.1, h'.2.trans h.2, h'.3.trans h.3, Nat.le_trans h.4 h'.4, fun k hk hne => ?_⟩
  have h1 := h.block k hk hne
  have h2 := h'.block k (Nat.lt_of_lt_of_le hk h.4) (by
    rcases hr with e | e | ⟨b, e, hb⟩
    · rw [e]; exact hne
    · rw [e]; simp
    · rw [e]; intro e2; injection e2 with e2; omega)
  exact h2.trans h1

section
variable {wk w w' : World} {base k : Nat} {s : SlU} {A A' : Option Addr} {c c' t : Nat}
theorem grow1_start (hown : wk.ownsRow base 5 1 (slvU s) s.2.1 (marks k s.2.1)) : Grow1 wk wk base k s s.1 s.2.2 0 :=
  ⟨World.grownBy.refl wk _, hown, .inl rfl, fun _ hg _ hj => own_mark hown hg hj, Below.refl _ _⟩
theorem grow1_step (h : Grow1 wk w base k s A c t) (hb : base ≤ wk.heap.size) (o : Obj) (ha : App1 (w.alloc o) base 5 A (s.2.1 + t) c (marks k (s.2.1 + t)) (.int .u8 (mk k (s.2.1 + t))) A' c' w') : Grow1 wk w' base k s A' c' (t + 1) := by
  obtain ⟨h1, h2, h3, h4, h5⟩ := h
  obtain ⟨⟨a1, a2, a3, a4⟩, a5⟩ := ha
  rw [← marks_succ] at a1
  have hbw : base ≤ w.heap.size := Nat.le_trans hb h5.size
  have hgr : wk.grownBy w' (slvU s).ownBlock := grown_trans (grown_trans h1 (World.grownBy_alloc w o none) (.inr (.inl rfl))) a2 (by
    rcases h3 with h3 | ⟨b, h3, hb⟩
    · exact .inl h3
    · exact .inr (.inr ⟨b, h3, hb⟩))
  refine ⟨hgr, a1, ?_, ?_, (h5.alloc hbw o).trans a3⟩
  · rcases a5 with a5 | ⟨a5, _⟩
    · rw [show s.2.1 + (t + 1) = s.2.1 + t + 1 from rfl, a5]; exact h3
    · exact .inr ⟨_, a5, by rw [World.size_alloc]; have := h1.4; omega⟩
  · intro g hg j hj
    have hold := h4 g hg j hj
    have hgw : g < w.heap.size := by
      rcases Nat.lt_or_ge g w.heap.size with hlt | hge
      · exact hlt
      · simp [World.cell?, Array.getElem?_eq_none hge] at hold
    have hold2 : (w.alloc o).cell? ⟨g, j, none⟩ = some (.int .u8 (mk k j)) := by rw [World.cell?_alloc_lt w o ⟨g, j, none⟩ hgw]; exact hold
    rcases a5 with a5 | ⟨a5, a6⟩
    · by_cases he : (Value.slice A (s.2.1 + t) c).ownBlock = some g
      · exact own_mark a1 (a5.trans he) (by omega)
      · exact a2.cell hold2 (fun e => he e.symm)
    · exact a6.cell hold2 (by simp)
end

/-- all rows while they grow: those behind are grown, those ahead wait -/
def Grow (W0 w : World) (base gl : Nat) (R R' : List SlU) (k : Nat) (G : Option Addr) (gc : Nat) : Prop :=
  (Lists w gl R ∧ R'.length = k ∧ w.ownsRow W0.heap.size 42 1 (.slice G k gc) k (R'.map slvU)) ∧
  (∀ (i : Nat) (s' : SlU), R'[i]? = some s' → ∃ s, R[i]? = some s ∧ s'.2.1 = s.2.1 + 10 ∧ w.ownsRow base 5 1 (slvU s') s'.2.1 (marks i s'.2.1) ∧ ((slvU s').ownBlock = (slvU s).ownBlock ∨ ∃ b, (slvU s').ownBlock = some b ∧ W0.heap.size ≤ b)) ∧
  Dist R' ∧
  (∀ (i : Nat) (s : SlU), R[i]? = some s → k ≤ i → w.ownsRow base 5 1 (slvU s) s.2.1 (marks i s.2.1)) ∧
  (∀ (i : Nat) (s : SlU) (g : Nat), R[i]? = some s → (slvU s).ownBlock = some g → ∀ j, j < s.2.1 → w.cell? ⟨g, j, none⟩ = some (.int .u8 (mk i j))) ∧
  Below base W0 w

section
variable {W0 wk w w' : World} {base gl k : Nat} {R R' : List SlU} {s : SlU} {A G G' : Option Addr} {c gc gc' : Nat}
theorem grow_start (hl : Lists W0 gl R) (hr : ∀ (i : Nat) (s : SlU), R[i]? = some s → W0.ownsRow base 5 1 (slvU s) s.2.1 (marks i s.2.1)) (hb : base ≤ W0.heap.size) : Grow W0 (W0.alloc (.cells #[] 42)) base gl R [] 0 (some ⟨W0.heap.size, 0, none⟩) 0 :=
  ⟨⟨hl.alloc _, rfl, ⟨rfl, .inr ⟨W0.heap.size, 0, #[], rfl, Nat.le_refl _, Blk.new W0 _ #[], Nat.le_refl _, by simp [maxLen], rfl, rfl⟩⟩⟩,
    fun i s' h => by simp at h, fun i j s t h => by simp at h, fun i s h _ => (hr i s h).alloc _,
    fun i s g h hg j hj => by
      have hc := own_mark (hr i s h) hg hj
      have hlt : g < W0.heap.size := ((hr i s h).lt g hg).2
      rw [World.cell?_alloc_lt W0 _ ⟨g, j, none⟩ hlt]
      exact hc,
    (Below.refl _ _).alloc hb _⟩
/-- the list of the grown rows, while one more row grows -/
theorem grow_own (h : Grow W0 wk base gl R R' k G gc) (hlt : ∀ g, (slvU s).ownBlock = some g → g < W0.heap.size) (h1 : Grow1 wk w base k s A c 10) : w.ownsRow W0.heap.size 42 1 (.slice G k gc) k (R'.map slvU) := by
  refine h.1.2.2.kept h1.1 ?_
  cases hb : (Value.slice G k gc).ownBlock with
  | none => exact .inl rfl
  | some b =>
    right
    intro he
    have := (h.1.2.2.lt b hb).1
    have := hlt b he.symm
    omega
theorem grow_step (hd : Dist R) (hlt : ∀ (i : Nat) (s : SlU) (g : Nat), R[i]? = some s → (slvU s).ownBlock = some g → g < W0.heap.size) (hgl : gl < W0.heap.size) (hb : base ≤ W0.heap.size)
    (h : Grow W0 wk base gl R R' k G gc) (hs : R[k]? = some s) (h1 : Grow1 wk w base k s A c 10) (o : Obj)
    (ha : Apped (w.alloc o) W0.heap.size 42 1 G k gc (R'.map slvU) 1 [slvU (A, s.2.1 + 10, c)] G' gc' w') : Grow W0 w' base gl R (R' ++ [(A, s.2.1 + 10, c)]) (k + 1) G' gc' := by
  have hG := grow_own h (hlt k s · hs) h1
  obtain ⟨⟨g1, g2, g3⟩, g4, g5, g6, g7, g8⟩ := h
  obtain ⟨q1, q2, q3, q4, q5⟩ := h1
  obtain ⟨a1, a2, a3, a4⟩ := ha
  have hw0 : W0.heap.size ≤ wk.heap.size := g8.size
  have hww : wk.heap.size ≤ w.heap.size := q1.4
  have hGw : ∀ {v : Value} {n : Nat} {xs : List Value}, w.ownsRow base 5 1 v n xs → w'.ownsRow base 5 1 v n xs := fun hv =>
    (hv.alloc o).kept a2 (own_own_neU (hv.alloc o) (hG.alloc o) (by decide))
  have hlow : ∀ {b j : Nat} {u : Value}, b < W0.heap.size → w.cell? ⟨b, j, none⟩ = some u → w'.cell? ⟨b, j, none⟩ = some u := fun {b j u} hb1 hc =>
    a2.cell (a := ⟨b, j, none⟩) (by rw [World.cell?_alloc_lt w o ⟨b, j, none⟩ (by show b < w.heap.size; omega)]; exact hc) (fun e => by
      have := (hG.lt b e.symm).1
      omega)
  have hother : ∀ (i : Nat) (t : SlU), R[i]? = some t → i ≠ k → (slvU t).ownBlock = none ∨ (slvU t).ownBlock ≠ (slvU s).ownBlock := fun i t ht hi => by
    cases hbt : (slvU t).ownBlock with
    | none => exact .inl rfl
    | some b => exact .inr fun e => hd i k t s ht hs hi b hbt e.symm
  have hprev : ∀ (i : Nat) (s' : SlU), R'[i]? = some s' → (slvU s').ownBlock = none ∨ (slvU s').ownBlock ≠ (slvU s).ownBlock := fun i s' hi => by
    obtain ⟨t, ht, _, _, hf⟩ := g4 i s' hi
    have hik : i ≠ k := by have := (List.getElem?_eq_some_iff.1 hi).1; omega
    rcases hf with hf | ⟨b, hf, hbb⟩
    · rw [hf]; exact hother i t ht hik
    · right
      rw [hf]
      intro e
      have := hlt k s b hs e.symm
      omega
  refine ⟨⟨?_, by simp [g2], by simpa using a1⟩, ?_, ?_, ?_, ?_, ?_⟩
  · have l1 : Lists w gl R := g1.grown q1 (fun e => by
      have ho := g6 k s hs (Nat.le_refl _)
      exact own_blk_ne ho g1 (by decide) e)
    exact (l1.alloc o).grown a2 (fun e => by have := (hG.lt gl e.symm).1; omega)
  · intro i s' hi
    by_cases hik : i < R'.length
    · rw [List.getElem?_append_left hik] at hi
      obtain ⟨t, ht, hn, hown, hf⟩ := g4 i s' hi
      exact ⟨t, ht, hn, hGw (hown.kept q1 (hprev i s' hi)), hf⟩
    · have hi2 : i = k := by
        have := (List.getElem?_eq_some_iff.1 hi).1
        simp at this; omega
      subst hi2
      rw [List.getElem?_append_right (by omega), g2, Nat.sub_self] at hi
      simp at hi
      subst hi
      refine ⟨s, hs, rfl, hGw q2, ?_⟩
      rcases q3 with q3 | ⟨b, q3, hb3⟩
      · exact .inl q3
      · exact .inr ⟨b, q3, by omega⟩
  · intro i j u v hu hv hij g hg
    by_cases hik : i < R'.length
    · rw [List.getElem?_append_left hik] at hu
      by_cases hjk : j < R'.length
      · rw [List.getElem?_append_left hjk] at hv
        exact g5 i j u v hu hv hij g hg
      · have hj2 : j = k := by
          have := (List.getElem?_eq_some_iff.1 hv).1
          simp at this; omega
        subst hj2
        rw [List.getElem?_append_right (by omega), g2, Nat.sub_self] at hv
        simp at hv
        subst hv
        obtain ⟨t, ht, _, hown, _⟩ := g4 i u hu
        have hgw := (hown.lt g hg).2
        rcases q3 with q3 | ⟨b, q3, hb3⟩
        · intro e
          rcases hprev i u hu with h0 | h0
          · rw [h0] at hg; cases hg
          · exact h0 (by rw [hg, ← q3]; exact e.symm)
        · intro e
          have : some b = some g := q3.symm.trans e
          injection this with this
          omega
    · have hi2 : i = k := by
        have := (List.getElem?_eq_some_iff.1 hu).1
        simp at this; omega
      subst hi2
      rw [List.getElem?_append_right (by omega), g2, Nat.sub_self] at hu
      simp at hu
      subst hu
      by_cases hjk : j < R'.length
      · rw [List.getElem?_append_left hjk] at hv
        obtain ⟨t, ht, _, hown, _⟩ := g4 j v hv
        intro e
        have hgw := (hown.lt g e).2
        rcases q3 with q3 | ⟨b, q3, hb3⟩
        · rcases hprev j v hv with h0 | h0
          · rw [h0] at e; cases e
          · exact h0 (by rw [e, ← q3]; exact hg.symm)
        · have : some b = some g := q3.symm.trans hg
          injection this with this
          omega
      · exfalso
        have := (List.getElem?_eq_some_iff.1 hv).1
        simp at this; omega
  · intro i t ht hki
    exact hGw ((g6 i t ht (by omega)).kept q1 (hother i t ht (by omega)))
  · intro i t g ht hg j hj
    refine hlow (hlt i t g ht hg) ?_
    by_cases hik : i = k
    · subst hik
      rw [hs] at ht
      injection ht with ht
      subst ht
      exact q4 g hg j hj
    · refine q1.cell (a := ⟨g, j, none⟩) (g7 i t g ht hg j hj) ?_
      rcases hother i t ht hik with h0 | h0
      · rw [h0] at hg; cases hg
      · exact fun e => h0 (by rw [hg]; exact e)
  · exact ((g8.trans q5).alloc (by omega) o).trans (a3.mono hb)
end

end Go.Proofs.Ytegmbjkpjglgpaa
