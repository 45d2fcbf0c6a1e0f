/-
  merge.items: the symbols that stand, as items, in a stable order.
-/
import Derived.Test.YtlekobompjehdaaSrtI
namespace Go.Proofs.Ytlekobompjehdaa
open Go.RowKit Mg

theorem mit_info : (Try.prog.info? 92).map (fun i => (i.zero, i.size, i.bytes)) = some (some (.agg #[.int .i64 0, .slice none 0 0]), 2, 32) := by kernel_rfl
/-- rows of different elements lie in different blocks -/
theorem own_two_ne {w : World} {b b' : Nat} {e e' : TypeId} {size size' n n' : Nat} {v v' : Value} {xs xs' : List Value} (h : w.ownsRow b e size v n xs) (h' : w.ownsRow b' e' size' v' n' xs') (hne : e ≠ e') :
    v.ownBlock = none ∨ v.ownBlock ≠ v'.ownBlock := by
  rcases h.2 with ⟨rfl, _⟩ | ⟨g, cap, cur, rfl, _, hh, _⟩
  · exact .inl rfl
  · right
    intro he
    rcases h'.2 with ⟨rfl, _⟩ | ⟨g', cap', cur', rfl, _, hh', _⟩
    · simp [Value.ownBlock] at he
    · have : g = g' := by simpa [Value.ownBlock] using he
      subst this
      rw [hh] at hh'
      injection hh' with hh'
      injection hh' with _ ht
      exact hne ht
theorem grown_below {w w' : World} {base n size : Nat} {e : TypeId} {v : Value} {xs : List Value} (hg : w.grownBy w' v.ownBlock) (ho : w.ownsRow base e size v n xs) (hb : base ≤ w.heap.size) : Below base w w' := by
  refine ⟨hg.os, hg.tape, hg.output, hg.size, fun k hk => hg.block k (by omega) ?_⟩
  rcases ho.2 with ⟨rfl, _⟩ | ⟨g, cap, cur, rfl, hgb, _⟩
  · simp [Value.ownBlock]
  · simp [Value.ownBlock]
    omega
/-- an item's symbols lie in a row of their own -/
def SOwn (w : World) (base : Nat) (x : IR) : Prop := w.ownsRow base 3 1 (.slice x.A x.it.s.length x.c) x.it.s.length (intsV (x.it.s.map (fun i : Nat => (i : Int))))
theorem SOwn.below {w w' : World} {base : Nat} {x : IR} (h : SOwn w base x) {C : Nat} (hb : Below C w w') (hC : w.heap.size ≤ C) : SOwn w' base x := own_below h hb hC
theorem SOwn.rgrown {w w' : World} {base b n : Nat} {x : IR} {v : Value} {xs : List Value} (h : SOwn w base x) (ho : w.ownsRow b 92 2 v n xs) (hg : w.grownBy w' v.ownBlock) : SOwn w' base x := h.kept hg (own_two_ne h ho (by decide))
/-- own items, with own symbols -/
structure IOwn (w W : World) (A : Option Addr) (c : Nat) (X : List IR) : Prop where
  row : IRow w W.heap.size A c X
  sym : ∀ x ∈ X, SOwn w W.heap.size x
  old : Below W.heap.size W w
theorem IOwn.below {w w' W : World} {A : Option Addr} {c : Nat} {X : List IR} (h : IOwn w W A c X) (hb : Below w.heap.size w w') : IOwn w' W A c X :=
  ⟨own_below h.row hb (Nat.le_refl _), fun x hx => (h.sym x hx).below hb (Nat.le_refl _), h.old.trans (hb.mono h.old.size)⟩
theorem IOwn.alloc {w W : World} {A : Option Addr} {c : Nat} {X : List IR} (h : IOwn w W A c X) (o : Obj) : IOwn (w.alloc o) W A c X := h.below ((Below.refl _ _).alloc (Nat.le_refl _) o)
theorem IOwn.app {w w3 W : World} {A A3 : Option Addr} {c c3 : Nat} {X : List IR} {x : IR} (h : IOwn w W A c X) (hx : SOwn w W.heap.size x) (ha : Apped w W.heap.size 92 2 A X.length c (fl X) 1 (encR x) A3 c3 w3) : IOwn w3 W A3 c3 (X ++ [x]) := by
  refine ⟨?_, fun y hy => ?_, h.old.trans ha.2.2.1⟩
  · have h7 := ha.1
    unfold IRow
    rw [List.length_append, fl_app]
    simpa [fl] using h7
  · rcases List.mem_append.1 hy with hy | hy
    · exact (h.sym y hy).rgrown h.row ha.2.1
    · rw [List.mem_singleton.1 hy]
      exact hx.rgrown h.row ha.2.1
theorem own_lit {w : World} {base g : Nat} (i : Nat) (hg : Blk w g 3 #[.int .i64 (i : Int)]) (hb : base ≤ g) (v : Int) : SOwn w base ⟨⟨v, [i]⟩, some ⟨g, 0, none⟩, 1⟩ :=
  ⟨rfl, .inr ⟨g, 1, #[.int .i64 (i : Int)], rfl, hb, hg, Nat.le_refl _, by simp [maxLen], rfl, rfl⟩⟩
/-- the items of the first j counts -/
def itemsTo (l : List Int) : Nat → List It
  | 0 => []
  | j + 1 => if 0 < l.getD j 0 then itemsTo l j ++ [⟨l.getD j 0, [j]⟩] else itemsTo l j
theorem itemsTo_len (l : List Int) : ∀ j, (itemsTo l j).length ≤ j
  | 0 => Nat.le_refl _
  | j + 1 => by
    have := itemsTo_len l j
    unfold itemsTo
    split
    · simp; exact this
    · omega
def ItemsEnd (l : List Int) (W : World) (e : Ending) (w' : World) : Prop := ∃ A' c' X, e = .returned (.slice A' X.length c') ∧ St (itemsTo l l.length) (X.map (·.it)) ∧ IOwn w' W A' c' X
set_option maxRecDepth 100000 in
set_option maxHeartbeats 2000000 in
theorem items_any (A : Option Addr) (c : Nat) (l : List Int) (W : World) (h : RdI W W.heap.size A l) (hm : l.length ≤ 100000) :
    Calls Try.prog 47 #[.slice A l.length c] W (ItemsEnd l W) := by
  obtain ⟨i0, hi0, hz0, hz1, hz2⟩ := info_parts mit_info
  have Hi0 := hid hi0
  have Hz0 := hid hz0
  have Hz1 := hid hz1
  have Hz2 := hid hz2
  have H := hid h
  clear h hi0 hz0 hz1 hz2
  go_enter Try.func47, Try.ntmps47
  go_upto_region 3 with (fail)
  go_loopw [3, 8] (fun o i wr => ∃ (j : Nat) (A' : Option Addr) (c' : Nat) (X : List IR), j ≤ l.length ∧ i = .int .i64 j ∧ o = .slice A' X.length c' ∧ X.map (·.it) = itemsTo l j ∧ IOwn wr W A' c' X) (fun _ i _ => l.length - (intOf i).toNat)
  case atStart => exact ⟨0, none, 0, [], by omega, rfl, rfl, rfl, ⟨⟨rfl, .inl ⟨rfl, rfl⟩⟩, fun _ h => (by cases h), Below.refl _ _⟩⟩
  case round =>
    obtain ⟨j, A', c', X, hj, rfl, rfl, hX, hO⟩ := hrel
    have HX := hid hX
    have O := hid hO
    have hXl : X.length ≤ 100000 := by
      have h1 := itemsTo_len l j
      rw [← hX, List.length_map] at h1
      omega
    clear hX hO
    by_cases hlt : j < l.length
    · have d1 : decide (j < l.length) = true := decide_eq_true hlt
      obtain ⟨b, off, rfl, hb, x0⟩ := int_at (RdI.below H.out O.out.old (Nat.le_refl _)) hlt
      have hs := O.out.old.size
      obtain ⟨v, hv⟩ : ∃ v, l[j] = v := ⟨_, rfl⟩
      have Hv := hid (show l.getD j 0 = v by rw [List.getD_eq_getElem?_getD, List.getElem?_eq_getElem hlt]; exact hv)
      rw [hv] at x0
      have hbs : b < wr.heap.size := by omega
      have Hlt := hid hlt
      clear hv hlt
      by_cases hp : 0 < v
      · have d2 : decide (0 < v) = true := decide_eq_true hp
        have Hst := hid (show itemsTo l (j + 1) = itemsTo l j ++ [⟨v, [j]⟩] by show (if _ then _ else _) = _; rw [Hv.out, if_pos hp])
        have P := hid (own_lit j (Blk.new wr 3 #[.int .i64 (j : Int)]) O.out.old.size v)
        clear hp
        have P2 := hid (P.out.below ((Below.refl _ _).alloc (Nat.le_refl _) (.cells #[.int .i64 v, .slice (some ⟨wr.heap.size, 0, none⟩) 1 1] 92)) (Nat.le_refl _))
        have O2 := hid (O.out.alloc (.cells #[.int .i64 (j : Int)] 3))
        have HB := hid (show Blk ((wr.alloc (.cells #[.int .i64 (j : Int)] 3)).alloc (.cells #[.int .i64 v, .slice (some ⟨wr.heap.size, 0, none⟩) 1 1] 92)) (wr.heap.size + 1) 92 #[.int .i64 v, .slice (some ⟨wr.heap.size, 0, none⟩) 1 1] by
          have h := Blk.new (wr.alloc (.cells #[.int .i64 (j : Int)] 3)) 92 #[.int .i64 v, .slice (some ⟨wr.heap.size, 0, none⟩) 1 1]
          rwa [World.size_alloc] at h)
        go_wp2_with (at_builtin; refine wpList_app _ rfl _ _ _ rfl W.heap.size 92 i0 (.agg #[.int .i64 0, .slice none 0 0]) 2 32 Try.underlying86 Hi0.out Hz0.out Hz1.out Hz2.out rfl (by omega) A' X.length c' _ rfl (O2.out.alloc _).row _ _ 1 1 (encR ⟨⟨v, [j]⟩, some ⟨wr.heap.size, 0, none⟩, 1⟩) rfl (rd_one _ _ _ _ HB.out) (by simp) (by simp [encR, Value.oneCell']) (by simp only [maxLen]; omega) (by omega) (by simp; omega) ?_; intro A3 c3 w3 ha3; have Ha3 := hid ha3; clear ha3)
        go_roundw
        case rel => exact ⟨j + 1, A3, c3, X ++ [⟨⟨v, [j]⟩, some ⟨wr.heap.size, 0, none⟩, 1⟩], by have := Hlt.out; omega, by go_num, by rw [List.length_append, List.length_singleton], by rw [List.map_append, HX.out, Hst.out]; rfl, (O2.out.alloc _).app P2.out Ha3.out⟩
        case measure => have := Hlt.out; simp [intOf]; omega
      · have d2 : decide (0 < v) = false := decide_eq_false hp
        have Hst := hid (show itemsTo l (j + 1) = itemsTo l j by show (if _ then _ else _) = _; rw [Hv.out, if_neg hp])
        clear hp
        go_wp2
        go_roundw
        case rel => exact ⟨j + 1, A', c', X, by have := Hlt.out; omega, by go_num, rfl, by rw [Hst.out]; exact HX.out, O.out⟩
        case measure => have := Hlt.out; simp [intOf]; omega
    · obtain rfl : l.length = j := by omega
      go_wp2_with fail
      refine (sort_any W.heap.size A' c' X _ O.out.row (by omega)).mono ?_
      rintro e w1 ⟨rfl, X', h1, h2, h3, h4⟩
      have R := hid (show ItemsEnd l W (.returned (.slice A' X.length c')) w1 from ⟨A', c', X', by rw [h1.len], by rw [← HX.out]; exact h1.st h2, ⟨h3, fun x hx => (O.out.sym x (h1.perm.mem_iff.1 hx)).rgrown O.out.row h4, O.out.old.trans (grown_below h4 O.out.row O.out.old.size)⟩⟩)
      clear h1 h2 h3 h4
      go_wp2
      go_ret
      exact R.out
end Go.Proofs.Ytlekobompjehdaa
