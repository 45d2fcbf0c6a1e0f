/-
  Append where there is room, onto a block that is known whole: as a step of the walk.
-/
import Derived.Test.YtbpdkpphhjmalaaOwn
import Derived.Laws.MakeOwn
import Derived.Laws.CopyOwn
namespace Go.Proofs.Ytbpdkpphhjmalaa
open Go.RowKit

section
variable {P : Program} (w : World)

/-- what is known behind an append into spare room -/
def Roomed (w : World) (g : Nat) (e : TypeId) (n : Nat) (cur : Array Value) (news : List Value) (w' : World) : Prop :=
  Blk w' g e (cur.toList.take n ++ news ++ cur.toList.drop (n + news.length)).toArray ∧ w.grownBy w' (some g) ∧ Below g w w'

theorem run_append_blk (t ty e : TypeId) (i : TypeInfo) (ht : P.underlying t = some (.slice e)) (hi : P.info? e = some i) (hsize : i.size = 1)
    (g n cap : Nat) (cur : Array Value) (hg : Blk w g e cur) (hcur : cur.size = cap)
    (B : Nat) (X : Option Addr) (m d : Nat) (news : List Value) (hr : Rd w B 1 X m news) (hnil : X = none → m = 0) (h1 : ∀ u ∈ news, u.oneCell' = true) (hroom : n + m ≤ cap) :
    ∃ w', (Builtin.append_ #[t, t] ty #[.slice (some ⟨g, 0, none⟩) n cap, .slice X m d]).run P w = .ok (.slice (some ⟨g, 0, none⟩) (n + m) cap) w' ∧ Roomed w g e n cur news w' := by
  have hl : news.length = m := by simpa using hr.1
  rcases X with _ | ad
  · obtain rfl := hnil rfl
    obtain rfl := List.eq_nil_of_length_eq_zero hl
    refine ⟨w, ?_, ?_, World.grownBy.refl w _, Below.refl _ _⟩
    · simp [Builtin.append_, run_underlying ht, sizeOf, typeInfo, hi, Builtin.lenOf, Builtin.firstCells, (show n ≤ cap by omega), storeCells]
    · simpa using hg
  · have hcells : ∀ j u, news[j]? = some u → w.cell? (ad.add j) = some u := by
      intro j u hu
      obtain ⟨b, off, h, _, hc⟩ := hr.2 (by have := (List.getElem?_eq_some_iff.1 hu).1; omega)
      injection h with h
      subst h
      have := hc j u hu
      unfold Addr.add
      split
      · rename_i hj; subst hj; simpa using this
      · exact this
    have hrun := run_append_room (P := P) w t ty e i ht hi g n cap cur hg ad m d news (by rw [hsize]; omega) hcells h1 hroom (by rw [hsize]; omega)
    rw [hsize] at hrun
    simp only [Nat.mul_one] at hrun
    refine ⟨_, hrun, ?_, ⟨rfl, rfl, rfl, by simp, fun k _ hk => setRow_other w g k _ (fun e => hk (by rw [e]))⟩, below_setRow (Below.refl _ _) (Nat.le_refl _) _⟩
    exact setRow_heap w g cur _ e (0, 0) hg

theorem wp_room {o : Oper} {a : Act} {K : Act → World → Prop} {Q : Exit → Act → World → Prop} (s x : Operand) (t : TypeId)
    (ho : o.op = .call { callee := .builtin .append, args := #[s, x], argTypes := #[t, t] }) (e : TypeId) (i : TypeInfo) (ht : P.underlying t = some (.slice e)) (hi : P.info? e = some i) (hsize : i.size = 1)
    (g n cap : Nat) (cur : Array Value) (hs : a.eval s = .slice (some ⟨g, 0, none⟩) n cap) (hg : Blk w g e cur) (hcur : cur.size = cap)
    (B : Nat) (X : Option Addr) (m d : Nat) (news : List Value) (hx : a.eval x = .slice X m d) (hr : Rd w B 1 X m news) (hnil : X = none → m = 0) (h1 : ∀ u ∈ news, u.oneCell' = true) (hroom : n + m ≤ cap)
    (h : ∀ w', Roomed w g e n cur news w' → K (a.put o.dst (.slice (some ⟨g, 0, none⟩) (n + m) cap)) w') : o.wp P a w K Q := by
  obtain ⟨w', hrun, h2⟩ := run_append_blk (P := P) w t o.type e i ht hi hsize g n cap cur hg hcur B X m d news hr hnil h1 hroom
  unfold Oper.wp execOp
  simp only [ho, resolve, invoke, builtin, Sem.run_bind, Sem.run_pure, Result.andThen_ok, List.map_toArray, List.map_cons, List.map_nil, hs, hx, hrun]
  exact h w' h2

theorem wpList_room {ops : Array Oper} {rest : List Oper} {o : Oper} {a : Act} {Q : Exit → Act → World → Prop} (hgd : o.guard = none) (s x : Operand) (t : TypeId)
    (ho : o.op = .call { callee := .builtin .append, args := #[s, x], argTypes := #[t, t] }) (e : TypeId) (i : TypeInfo) (ht : P.underlying t = some (.slice e)) (hi : P.info? e = some i) (hsize : i.size = 1)
    (g n cap : Nat) (cur : Array Value) (hs : a.eval s = .slice (some ⟨g, 0, none⟩) n cap) (hg : Blk w g e cur) (hcur : cur.size = cap)
    (B : Nat) (X : Option Addr) (m d : Nat) (news : List Value) (hx : a.eval x = .slice X m d) (hr : Rd w B 1 X m news) (hnil : X = none → m = 0) (h1 : ∀ u ∈ news, u.oneCell' = true) (hroom : n + m ≤ cap)
    (h : ∀ w', Roomed w g e n cur news w' → wpList P ops Q rest (a.put o.dst (.slice (some ⟨g, 0, none⟩) (n + m) cap)) w') : wpList P ops Q (o :: rest) a w :=
  wpList_plain hgd fun _ hK => wp_room w s x t ho e i ht hi hsize g n cap cur hs hg hcur B X m d news hx hr hnil h1 hroom fun w' h2 => hK _ _ (h w' h2)
end

theorem own_base {w : World} {b b' : Nat} {e : TypeId} {size n : Nat} {v : Value} {xs : List Value} (h : w.ownsRow b' e size v n xs) (hb : b ≤ b') : w.ownsRow b e size v n xs := by
  refine ⟨h.1, ?_⟩
  rcases h.2 with hn | ⟨g, cap, cur, rfl, hg, rest⟩
  · exact .inl hn
  · exact .inr ⟨g, cap, cur, rfl, by omega, rest⟩
theorem Rd.grown {w w' : World} {B size n : Nat} {A : Option Addr} {xs : List Value} {row : Option Nat} (h : Rd w B size A n xs) (hg : w.grownBy w' row) (hB : B ≤ w.heap.size) (hr : ∀ g, row = some g → B ≤ g) : Rd w' B size A n xs :=
  h.keep fun b o hb => World.cell?_of_block (hg.block b (by omega) (fun e => by have := hr b e.symm; omega))
/-- cells made for a row, all the same -/
theorem made_list (v : Value) (n : Nat) (h : v.cells = #[v]) : madeCells v.cells (n * 1) = (List.replicate n v).toArray := by
  rw [h]
  apply Array.ext'
  apply List.ext_getElem
  · simp [madeCells]
  · intro i h1 h2
    simp [madeCells, Nat.mod_one]

theorem rd_two (w : World) (t : TypeId) (a b : Value) : Rd (w.alloc (.cells #[a, b] t)) (w.heap.size + 1) 1 (some ⟨w.heap.size, 0, none⟩) 2 [a, b] :=
  ⟨rfl, fun _ => ⟨w.heap.size, 0, rfl, Nat.lt_succ_self _, fun j u hu => by rw [(Blk.new w t #[a, b]).cell (0 + j), Nat.zero_add, ← hu, List.getElem?_toArray]⟩⟩
/-- a row that is made, filled, and filled to its end -/
theorem copied_blk {W w1 w2 : World} {e : TypeId} {Z Y : Obj} {n k : Nat} {z : Value} {xs ys : List Value} {cur : Array Value} (hx : xs.length = n) (hy : ys.length = k)
    (h1 : Roomed (W.alloc Z) W.heap.size e 0 (List.replicate (n + k) z).toArray xs w1)
    (hcur : cur = (List.take 0 (List.replicate (n + k) z) ++ xs ++ List.drop (0 + xs.length) (List.replicate (n + k) z)).toArray)
    (h2 : Roomed (w1.alloc Y) W.heap.size e n cur ys w2) : Blk w2 W.heap.size e (xs ++ ys).toArray ∧ Below W.heap.size W w2 := by
  refine ⟨?_, ?_⟩
  · have h := h2.1
    rw [hcur] at h
    have e1 : List.drop (n + ys.length) (xs ++ List.drop xs.length (List.replicate (n + k) z)) = [] := List.drop_eq_nil_of_le (by simp; omega)
    have e2 : List.take n (xs ++ List.drop xs.length (List.replicate (n + k) z)) = xs := by rw [← hx]; simp
    simp only [List.take_zero, List.nil_append, Nat.zero_add, e1, e2, List.append_nil] at h
    exact h
  · have b1 : Below W.heap.size W w1 := ((Below.refl _ _).alloc (Nat.le_refl _) _).trans h1.2.2
    exact (b1.alloc b1.size _).trans h2.2.2

end Go.Proofs.Ytbpdkpphhjmalaa
