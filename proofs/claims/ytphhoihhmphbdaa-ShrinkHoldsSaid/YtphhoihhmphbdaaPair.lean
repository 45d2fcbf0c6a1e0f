/-
  Two rows of a call's own that are appended to in one statement, in whatever order.
-/
import Derived.Test.YtphhoihhmphbdaaBase
import Derived.Deep.RegionHeld3
namespace Go.Proofs.Ytphhoihhmphbdaa
open Go.RowKit

/-- two rows of the call's own, in blocks of their own -/
def Two (W w : World) (e : TypeId) (size : Nat) (A : Option Addr) (n c : Nat) (xs : List Value) (B : Option Addr) (m d : Nat) (ys : List Value) : Prop :=
  w.ownsRow W.heap.size e size (.slice A n c) n xs ∧ w.ownsRow W.heap.size e size (.slice B m d) m ys ∧ (∀ g, (Value.slice A n c).ownBlock = some g → (Value.slice B m d).ownBlock ≠ some g) ∧ Below W.heap.size W w
/-- a new element in a block of its own -/
def Pend (w : World) (t : TypeId) (va vb : Value) (p : Nat) (us : List Value) : Prop := Blk w p t us.toArray ∧ va.ownBlock ≠ some p ∧ vb.ownBlock ≠ some p

section
variable {W w w' : World} {e t : TypeId} {size : Nat} {A B : Option Addr} {n c m d p : Nat} {xs ys us : List Value} {va vb : Value}
theorem Two.alloc (h : Two W w e size A n c xs B m d ys) (o : Obj) : Two W (w.alloc o) e size A n c xs B m d ys :=
  ⟨h.1.alloc o, h.2.1.alloc o, h.2.2.1, h.2.2.2.alloc h.2.2.2.size o⟩
theorem Two.drewN (h : Two W w e size A n c xs B m d ys) (k : Nat) : Two W (w.drewN k) e size A n c xs B m d ys := ⟨own_drewN h.1 k, own_drewN h.2.1 k, h.2.2.1, below_drewN h.2.2.2 k⟩
theorem Two.drew (h : Two W w e size A n c xs B m d ys) : Two W w.drew e size A n c xs B m d ys := h.drewN 1
theorem Two.swap (h : Two W w e size A n c xs B m d ys) : Two W w e size B m d ys A n c xs := ⟨h.2.1, h.1, fun g h1 h2 => h.2.2.1 g h2 h1, h.2.2.2⟩
theorem Pend.swap (h : Pend w t va vb p us) : Pend w t vb va p us := ⟨h.1, h.2.2, h.2.1⟩
theorem Pend.alloc (h : Pend w t va vb p us) (o : Obj) : Pend (w.alloc o) t va vb p us := ⟨h.1.alloc o, h.2⟩
theorem Pend.new (h : Two W w e size A n c xs B m d ys) (t : TypeId) (us : List Value) : Pend (w.alloc (.cells us.toArray t)) t (.slice A n c) (.slice B m d) w.heap.size us :=
  ⟨Blk.new w t _, fun h1 => absurd (h.1.lt _ h1).2 (by omega), fun h1 => absurd (h.2.1.lt _ h1).2 (by omega)⟩
theorem Pend.drewN (h : Pend w t va vb p us) (k : Nat) : Pend (w.drewN k) t va vb p us := h
theorem Pend.drew (h : Pend w t va vb p us) : Pend w.drew t va vb p us := h
theorem Pend.newp (h : Two W w e size A n c xs B m d ys) (t : TypeId) (us : List Value) {p : Nat} (hp : p = w.heap.size) : Pend (w.alloc (.cells us.toArray t)) t (.slice A n c) (.slice B m d) p us := by
  subst hp; exact Pend.new h t us
theorem Two.app {A' : Option Addr} {c' k : Nat} {news : List Value} (h : Two W w e size A n c xs B m d ys) (ha : Apped w W.heap.size e size A n c xs k news A' c' w') :
    Two W w' e size A' (n + k) c' (xs ++ news) B m d ys ∧ ∀ t p us, Pend w t (.slice A n c) (.slice B m d) p us → Pend w' t (.slice A' (n + k) c') (.slice B m d) p us := by
  obtain ⟨h1, h2, h3, h4⟩ := h
  obtain ⟨a1, a2, a3, a4⟩ := ha
  refine ⟨⟨a1, h2.kept a2 ?_, ?_, h4.trans a3⟩, fun t p us hp => ⟨hp.1.grown a2 (Ne.symm hp.2.1), ?_, hp.2.2⟩⟩
  · cases hb : (Value.slice B m d).ownBlock with
    | none => exact .inl rfl
    | some g => exact .inr (fun he => h3 g he.symm hb)
  · intro g hg hb
    rcases a4 with e1 | e1
    · exact h3 g (e1 ▸ hg) hb
    · rw [hg] at e1
      injection e1 with e1
      have := (h2.lt g hb).2
      omega
  · intro he
    rcases a4 with e1 | e1
    · exact hp.2.1 (e1 ▸ he)
    · rw [he] at e1
      injection e1 with e1
      have := hp.1.lt
      omega
theorem two_empty (W : World) (e : TypeId) (size : Nat) : Two W ((W.alloc (.cells #[] e)).alloc (.cells #[] e)) e size (some ⟨W.heap.size, 0, none⟩) 0 0 [] (some ⟨W.heap.size + 1, 0, none⟩) 0 0 [] := by
  refine ⟨⟨by simp, .inr ⟨W.heap.size, 0, #[], rfl, Nat.le_refl _, (Blk.new W e #[]).alloc _, Nat.le_refl _, by simp [maxLen], by simp, by simp⟩⟩, ⟨by simp, .inr ⟨W.heap.size + 1, 0, #[], rfl, Nat.le_succ _, ?_, Nat.le_refl _, by simp [maxLen], by simp, by simp⟩⟩, ?_, ((Below.refl _ _).alloc (Nat.le_refl _) _).alloc (by simp) _⟩
  · have h := Blk.new (W.alloc (.cells #[] e)) e #[]
    rw [World.size_alloc] at h
    exact h
  · intro g h1 h2
    simp [Value.ownBlock] at h1 h2
    omega

variable {P : Program}
theorem step_two {ops : Array Oper} {o : Oper} {a : Act} {K : Act → World → Prop} {Q : Exit → Act → World → Prop} {E : Prop} (hgd : o.guard = none) (s x : Operand) (t : TypeId)
    (ho : o.op = .call { callee := .builtin .append, args := #[s, x], argTypes := #[t, t] })
    (i : TypeInfo) (z : Value) (bytes : Nat) (ht : P.underlying t = some (.slice e)) (hi : P.info? e = some i) (hz : i.zero = some z)
    (hsize : i.size = size) (hby : i.bytes = bytes) (hzs : z.cells.size = size) (hsz : 0 < size)
    (hs : a.eval s = .slice A n c) (h : Two W w e size A n c xs B m d ys)
    (q : Nat) (hx : a.eval x = .slice (some ⟨p, 0, none⟩) 1 q) (hp : Pend w e (.slice A n c) (.slice B m d) p us) (hus : us.length = size) (h1 : ∀ u ∈ us, u.oneCell' = true)
    (h63 : n + 1 ≤ maxLen) (hbytes : (n + 1) * bytes ≤ 140737488355328)
    (hK : ∀ A' c' w', Two W w' e size A' (n + 1) c' (xs ++ us) B m d ys → (∀ t p us, Pend w t (.slice A n c) (.slice B m d) p us → Pend w' t (.slice A' (n + 1) c') (.slice B m d) p us) → w.grownBy w' (Value.slice A n c).ownBlock → K (a.put o.dst (.slice A' (n + 1) c')) w') :
    if Region.wanted o (yielded ops a.tmps) = true then Oper.wp P o a w K Q else E := by
  have hrd : Rd w w.heap.size size (some ⟨p, 0, none⟩) 1 us := by have h := rd_one w p e us hp.1; rw [hus] at h; exact h
  refine step_app w hgd s x t ho W.heap.size e i z size bytes ht hi hz hsize hby hzs hsz A n c xs hs h.1 w.heap.size (some ⟨p, 0, none⟩) 1 q us hx hrd (by simp) h1 h63 hbytes h.2.2.2.size ?_
  intro A' c' w' ha
  exact hK A' c' w' (h.app ha).1 (h.app ha).2 ha.2.1
end

end Go.Proofs.Ytphhoihhmphbdaa
