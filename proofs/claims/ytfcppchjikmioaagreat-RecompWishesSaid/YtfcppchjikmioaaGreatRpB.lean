/-
  (*strings.Replacer).build of the two pairs.
-/
import Derived.Test.YtfcppchjikmioaaGreatRpA
import Derived.Deep.WholeRow
import Derived.Laws.IdiomStrings
import Derived.Laws.BytesArg
import Derived.Deep.DeepCutAuto
import Derived.Deep.CutRange
namespace Go.Proofs.YtfcppchjikmioaaGreat
open Go.RowKit

def nilB : Value := .slice none 0 0
def bsC (p34 p126 t : Value) : Array Value := Array.ofFn (n := 257) fun i => if i.val = 34 then p34 else if i.val = 126 then p126 else if i.val = 256 then t else nilB
theorem bsC_size (p34 p126 t : Value) : (bsC p34 p126 t).size = 257 := by simp [bsC]
theorem bsC_at (p34 p126 t : Value) (i : Nat) (hi : i < 257) : (bsC p34 p126 t)[i]? = some (if i = 34 then p34 else if i = 126 then p126 else if i = 256 then t else nilB) := by
  rw [Array.getElem?_eq_getElem (by rw [bsC_size]; exact hi)]
  simp [bsC]
theorem bsC_set34 (p34 p126 t u : Value) : (bsC p34 p126 t).setIfInBounds 34 u = bsC u p126 t := by
  apply Array.ext_getElem?
  intro i
  rw [Array.getElem?_setIfInBounds, bsC_size]
  by_cases hi : i < 257
  · rw [bsC_at _ _ _ i hi, bsC_at _ _ _ i hi]
    by_cases h : 34 = i
    · subst h
      simp
    · rw [if_neg h]
      have h2 : ¬ i = 34 := fun e => h e.symm
      simp [h2]
  · rw [Array.getElem?_eq_none (by rw [bsC_size]; omega), Array.getElem?_eq_none (by rw [bsC_size]; omega), if_neg (by omega)]
theorem bsC_set126 (p34 p126 t u : Value) : (bsC p34 p126 t).setIfInBounds 126 u = bsC p34 u t := by
  apply Array.ext_getElem?
  intro i
  rw [Array.getElem?_setIfInBounds, bsC_size]
  by_cases hi : i < 257
  · rw [bsC_at _ _ _ i hi, bsC_at _ _ _ i hi]
    by_cases h : 126 = i
    · subst h
      simp
    · rw [if_neg h]
      have h2 : ¬ i = 126 := fun e => h e.symm
      simp [h2]
  · rw [Array.getElem?_eq_none (by rw [bsC_size]; omega), Array.getElem?_eq_none (by rw [bsC_size]; omega), if_neg (by omega)]
theorem bsC_set256 (p34 p126 t u : Value) : (bsC p34 p126 t).setIfInBounds 256 u = bsC p34 p126 u := by
  apply Array.ext_getElem?
  intro i
  rw [Array.getElem?_setIfInBounds, bsC_size]
  by_cases hi : i < 257
  · rw [bsC_at _ _ _ i hi, bsC_at _ _ _ i hi]
    by_cases h : 256 = i
    · subst h
      simp
    · rw [if_neg h]
      have h2 : ¬ i = 256 := fun e => h e.symm
      simp [h2]
  · rw [Array.getElem?_eq_none (by rw [bsC_size]; omega), Array.getElem?_eq_none (by rw [bsC_size]; omega), if_neg (by omega)]
theorem rep_info : (Tryz.prog.info? 148).map (fun i => i.size) = some 257 := by kernel_rfl
theorem zero_bs : Tryz.zeroCells148 = bsC nilB nilB nilB := by kernel_rfl
theorem bsC_all (v : Value) (hv : v.oneCell' = true) : (bsC nilB nilB v).all (·.oneCell') = true := by
  rw [Array.all_eq_true]
  intro i hi
  rw [bsC_size] at hi
  have := bsC_at nilB nilB v i hi
  rw [Array.getElem?_eq_getElem (by rw [bsC_size]; exact hi)] at this
  rw [Option.some.inj this]
  split
  · rfl
  · split
    · rfl
    · split
      · exact hv
      · rfl
theorem rep_storeZ (zc : Array Value) (hz : zc = bsC nilB nilB nilB) (w : World) (v : Value) (hv : v.oneCell' = true) : (storeCells ⟨w.heap.size, 0, none⟩ (zc.toList.set 256 v) 0).run Tryz.prog (w.alloc (.cells zc 148)) = .ok () (w.alloc (.cells (bsC nilB nilB v) 148)) := by
  have h := run_storeCells_new (P := Tryz.prog) w 148 zc (bsC nilB nilB v) (by rw [rep_info, bsC_size]) (by rw [hz, bsC_size, bsC_size]) (bsC_all v hv)
  have e : zc.toList.set 256 v = (bsC nilB nilB v).toList := by rw [hz, ← bsC_set256 nilB nilB nilB v, Array.toList_setIfInBounds]
  rw [e]
  exact h
theorem rep_store (w : World) (v : Value) (hv : v.oneCell' = true) : (storeCells ⟨w.heap.size, 0, none⟩ (Tryz.zeroCells148.toList.set 256 v) 0).run Tryz.prog (w.alloc (.cells Tryz.zeroCells148 148)) = .ok () (w.alloc (.cells (bsC nilB nilB v) 148)) :=
  rep_storeZ _ zero_bs w v hv
/-- bytes of the replacer's own -/
def Byt (w : World) (b : Nat) (p : Value) (l : List Int) : Prop := ∃ g c cs fr, p = .slice (some ⟨g, 0, none⟩) l.length c ∧ b < g ∧ w.heap[g]? = some (.cells cs 5 fr) ∧ ∀ j (h : j < l.length), cs[j]? = some (.int .u8 l[j])
theorem Byt.below {w w' : World} {b : Nat} {p : Value} {l : List Int} (h : Byt w b p l) (hb : Below w.heap.size w w') : Byt w' b p l := by
  obtain ⟨g, c, cs, fr, e, h1, h2, h3⟩ := h
  exact ⟨g, c, cs, fr, e, h1, (hb.block g (Array.getElem?_eq_some_iff.1 h2).1).trans h2, h3⟩
theorem Byt.set {w : World} {b i : Nat} {p u : Value} {l : List Int} (h : Byt w b p l) : Byt (w.setCell ⟨b, i, none⟩ u) b p l := by
  obtain ⟨g, c, cs, fr, e, h1, h2, h3⟩ := h
  exact ⟨g, c, cs, fr, e, h1, (Below.heap_setCell w ⟨b, i, none⟩ u g (by show g ≠ b; omega)).trans h2, h3⟩
theorem Byt.at_ {w : World} {b : Nat} {p : Value} {l : List Int} (h : Byt w b p l) : ∃ g c, p = .slice (some ⟨g, 0, none⟩) l.length c ∧ b < g ∧ g < w.heap.size ∧ ∀ j (h : j < l.length), w.cell? ⟨g, j, none⟩ = some (.int .u8 l[j]) := by
  obtain ⟨g, c, cs, fr, e, h1, h2, h3⟩ := h
  exact ⟨g, c, e, h1, (Array.getElem?_eq_some_iff.1 h2).1, fun j hj => by rw [cell_of_row _ _ j _ _ _ h2]; exact h3 j hj⟩
theorem blk_new2 (w : World) (o : Obj) (t : TypeId) (cs : Array Value) : Blk ((w.alloc o).alloc (.cells cs t)) (w.heap.size + 1) t cs := by
  have := Blk.new (w.alloc o) t cs
  rwa [World.size_alloc] at this
theorem own_own_neR {w : World} {b b' : Nat} {e e' : TypeId} {size size' n n' : Nat} {v v' : Value} {xs xs' : List Value} (h : w.ownsRow b e size v n xs) (h' : w.ownsRow b' e' size' v' n' xs') (hne : e ≠ e') :
    v.ownBlock = none ∨ v.ownBlock ≠ v'.ownBlock := by
  rcases h.2 with ⟨rfl, _⟩ | ⟨g, cap, cur, rfl, _, hh, _⟩
  · exact .inl rfl
  · right
    intro he
    rcases h'.2 with ⟨rfl, _⟩ | ⟨g', cap', cur', rfl, _, hh', _⟩
    · simp [Value.ownBlock] at he
    · have : g = g' := by simpa [Value.ownBlock] using he
      subst this
      rw [hh] at hh'
      injection hh' with hh'
      injection hh' with _ ht
      exact hne ht
theorem str_info : (Tryz.prog.info? 9).map (fun i => (i.zero, i.size, i.bytes)) = some (some (.string ⟨#[]⟩), 1, 16) := by kernel_rfl
theorem one_str (w : World) (x : UInt8) : (Go.convert 75 9 (.slice (some ⟨w.heap.size, 0, none⟩) 1 1)).run Tryz.prog (w.alloc (.cells #[.int .u8 (x.toNat : Int)] 5)) = .ok (.string ⟨#[x]⟩) (w.alloc (.cells #[.int .u8 (x.toNat : Int)] 5)) := by
  refine run_convert_bytes_back _ 75 9 5 ⟨w.heap.size, 0, none⟩ 1 [x] Tryz.underlying75 Tryz.underlying5 Tryz.underlying9 (fun j hj => ?_)
  have : j = 0 := by simpa using hj
  subst this
  simp [Addr.add]
/-- a replacer that is built: what stands in its block -/
structure Bst (W wr : World) (b : Nat) (p34 p126 t : Value) : Prop where
  lt : W.heap.size < b
  bl : Below W.heap.size W wr
  blk : Blk wr b 148 (bsC p34 p126 t)
theorem Bst.cells {W wr : World} {b : Nat} {p34 p126 t : Value} (h : Bst W wr b p34 p126 t) : wr.cell? ⟨b, 34, none⟩ = some p34 ∧ wr.cell? ⟨b, 126, none⟩ = some p126 ∧ wr.cell? ⟨b, 256, none⟩ = some t ∧ (∀ i, wr.frozen? ⟨b, i, none⟩ = false) ∧ b < wr.heap.size := by
  refine ⟨?_, ?_, ?_, h.blk.frozen, h.blk.lt⟩
  · rw [h.blk.cell 34, bsC_at _ _ _ 34 (by decide)] <;> rfl
  · rw [h.blk.cell 126, bsC_at _ _ _ 126 (by decide)] <;> rfl
  · rw [h.blk.cell 256, bsC_at _ _ _ 256 (by decide)] <;> rfl
theorem bytes_new (w : World) (b : Nat) (x y : UInt8) (hb : b < w.heap.size) : Byt (w.drew.alloc (.cells (bytesRow ⟨#[x, y]⟩ (grownCap w 2 0 5)) 5 ((bytesRow ⟨#[x, y]⟩ (grownCap w 2 0 5)).size, (bytesRow ⟨#[x, y]⟩ (grownCap w 2 0 5)).size + 1))) b (.slice (some ⟨w.heap.size, 0, none⟩) 2 (grownCap w 2 0 5)) [(x.toNat : Int), (y.toNat : Int)] := by
  refine ⟨w.heap.size, _, _, _, rfl, hb, heap_alloc_last w.drew _, fun j hj => ?_⟩
  have : j = 0 ∨ j = 1 := by simp at hj; omega
  rcases this with rfl | rfl
  · unfold bytesRow; rw [Array.getElem?_append_left (by simp)]; simp
  · unfold bytesRow; rw [Array.getElem?_append_left (by simp)]; simp
theorem own_far {w : World} {base size n : Nat} {e : TypeId} {v : Value} {xs : List Value} (h : w.ownsRow base e size v n xs) {p : Addr} (hp : some p.block ≠ v.ownBlock) (u : Value) : (w.setCell p u).ownsRow base e size v n xs := by
  refine ⟨h.1, ?_⟩
  rcases h.2 with hn | ⟨g, cap, cur, rfl, hg, hgg, rest⟩
  · exact .inl hn
  · exact .inr ⟨g, cap, cur, rfl, hg, (Below.heap_setCell w p u g (fun e => hp (by rw [← e]; rfl))).trans hgg, rest⟩
theorem bytes_conv (w : World) (b : Nat) (x y : UInt8) (hb : b < w.heap.size) : ∃ g c5 w', (Go.convert 9 75 (.string ⟨#[x, y]⟩)).run Tryz.prog w = .ok (.slice (some ⟨g, 0, none⟩) 2 c5) w' ∧ Byt w' b (.slice (some ⟨g, 0, none⟩) 2 c5) [(x.toNat : Int), (y.toNat : Int)] ∧ Below w.heap.size w w' :=
  ⟨_, _, _, run_bytes_of_string w 9 75 5 ⟨#[x, y]⟩ Tryz.underlying9 Tryz.underlying75 Tryz.underlying5, bytes_new w b x y hb, ((Below.refl _ w).drew).alloc (Nat.le_refl _) _⟩
/-- behind the store of the list and the conversion of the new text -/
theorem Bst.conv {W wr : World} {b n c : Nat} {p34 p126 t : Value} {A : Option Addr} {xs : List Value} (x y : UInt8) (h : Bst W wr b p34 p126 t) (hT : wr.ownsRow W.heap.size 9 1 (.slice A n c) n xs) :
    ∃ g c5 w5, (Go.convert 9 75 (.string ⟨#[x, y]⟩)).run Tryz.prog (wr.setCell ⟨b, 256, none⟩ (.slice A n c)) = .ok (.slice (some ⟨g, 0, none⟩) 2 c5) w5 ∧ Bst W w5 b p34 p126 (.slice A n c) ∧ w5.ownsRow W.heap.size 9 1 (.slice A n c) n xs ∧ Byt w5 b (.slice (some ⟨g, 0, none⟩) 2 c5) [(x.toNat : Int), (y.toNat : Int)] ∧ (∀ q l, Byt wr b q l → Byt w5 b q l) := by
  have hlt : b < (wr.setCell ⟨b, 256, none⟩ (.slice A n c)).heap.size := by simp [h.blk.lt]
  obtain ⟨g, c5, w5, e, y5, b5⟩ := bytes_conv (wr.setCell ⟨b, 256, none⟩ (.slice A n c)) b x y hlt
  have hne := own_blk_ne hT h.blk (by decide)
  have hb0 : W.heap.size ≤ b := Nat.le_of_lt h.lt
  have k1 := h.blk.set_ 256 (.slice A n c)
  rw [bsC_set256] at k1
  have B1 : Below W.heap.size W (wr.setCell ⟨b, 256, none⟩ (.slice A n c)) := h.bl.setCell hb0 _
  refine ⟨g, c5, w5, e, ⟨h.lt, B1.trans (b5.mono B1.size), k1.below b5 k1.lt⟩, ?_, y5, fun q l hq => (hq.set).below b5⟩
  exact own_below (own_far hT hne _) b5 (Nat.le_refl _)
theorem Bst.set126 {W wr : World} {b n c : Nat} {p34 p126 p t : Value} {A : Option Addr} {xs : List Value} (h : Bst W wr b p34 p126 t) (hT : wr.ownsRow W.heap.size 9 1 (.slice A n c) n xs) :
    Bst W (wr.setCell ⟨b, 126, none⟩ p) b p34 p t ∧ (wr.setCell ⟨b, 126, none⟩ p).ownsRow W.heap.size 9 1 (.slice A n c) n xs := by
  have hne := own_blk_ne hT h.blk (by decide)
  have hb0 : W.heap.size ≤ b := Nat.le_of_lt h.lt
  have k1 := h.blk.set_ 126 p
  rw [bsC_set126] at k1
  exact ⟨⟨h.lt, h.bl.setCell hb0 _, k1⟩, own_far hT hne _⟩
theorem Bst.set34 {W wr : World} {b n c : Nat} {p34 p126 p t : Value} {A : Option Addr} {xs : List Value} (h : Bst W wr b p34 p126 t) (hT : wr.ownsRow W.heap.size 9 1 (.slice A n c) n xs) :
    Bst W (wr.setCell ⟨b, 34, none⟩ p) b p p126 t ∧ (wr.setCell ⟨b, 34, none⟩ p).ownsRow W.heap.size 9 1 (.slice A n c) n xs := by
  have hne := own_blk_ne hT h.blk (by decide)
  have hb0 : W.heap.size ≤ b := Nat.le_of_lt h.lt
  have k1 := h.blk.set_ 34 p
  rw [bsC_set34] at k1
  exact ⟨⟨h.lt, h.bl.setCell hb0 _, k1⟩, own_far hT hne _⟩
/-- behind an append of one text to the list -/
theorem Bst.app {W wr w4 : World} {b n c c4 : Nat} {p34 p126 v : Value} {A A4 : Option Addr} {xs : List Value} {o1 o2 : Obj} (h : Bst W wr b p34 p126 (.slice A n c)) (hT : wr.ownsRow W.heap.size 9 1 (.slice A n c) n xs)
    (ha : Apped ((wr.alloc o1).alloc o2) W.heap.size 9 1 A n c xs 1 [v] A4 c4 w4) : Bst W w4 b p34 p126 (.slice A n c) ∧ w4.ownsRow W.heap.size 9 1 (.slice A4 (n + 1) c4) (n + 1) (xs ++ [v]) ∧ ∀ p l, Byt wr b p l → Byt w4 b p l := by
  obtain ⟨o4, g4, b4, _⟩ := ha
  have hb2 : Below wr.heap.size wr ((wr.alloc o1).alloc o2) := ((Below.refl _ _).alloc (Nat.le_refl _) _).alloc (by simp) _
  have T2 := own_below hT hb2 (Nat.le_refl _)
  have K2 := h.blk.below hb2 h.blk.lt
  have hne := own_blk_ne T2 K2 (by decide)
  refine ⟨⟨h.lt, (h.bl.trans (hb2.mono h.bl.size)).trans b4, ?_⟩, o4, fun p l hp => ?_⟩
  · exact (g4.block b K2.lt hne).trans K2
  · obtain ⟨g, c, cs, fr, e, h1, h2, h3⟩ := hp.below hb2
    refine ⟨g, c, cs, fr, e, h1, (g4.block g (Array.getElem?_eq_some_iff.1 h2).1 ?_).trans h2, h3⟩
    intro he
    rcases T2.2 with ⟨e1, _⟩ | ⟨g', cap, cur, e1, _, hh, _⟩
    · rw [e1] at he; cases he
    · rw [e1] at he
      have : g' = g := by have : some g' = some g := he.symm; injection this
      rw [this, h2] at hh
      injection hh with hh
      injection hh with _ ht
      exact absurd ht (by decide)
set_option maxRecDepth 100000 in
set_option maxHeartbeats 4000000 in
theorem build_any (R g4 c4 : Nat) (x0 x1 x2 : Value) (W : World) (hR : Blk W R 121 #[x0, x1, x2, .nilIface, .slice (some ⟨g4, 0, none⟩) 4 c4])
    (s0 : W.cell? ⟨g4, 0, none⟩ = some (.string ⟨#[34]⟩)) (s1 : W.cell? ⟨g4, 1, none⟩ = some (.string ⟨#[126, 34]⟩)) (s2 : W.cell? ⟨g4, 2, none⟩ = some (.string ⟨#[126]⟩)) (s3 : W.cell? ⟨g4, 3, none⟩ = some (.string ⟨#[126, 126]⟩)) (hg : g4 < W.heap.size) :
    Calls Tryz.prog 85 #[.pointer (some ⟨R, 0, none⟩)] W fun e w' => ∃ b p34 p126 A c, e = .returned (.iface 149 (.pointer (some ⟨b, 0, none⟩))) ∧ Bst W w' b p34 p126 (.slice A 2 c) ∧ Byt w' b p34 [126, 34] ∧ Byt w' b p126 [126, 126] ∧ w'.ownsRow W.heap.size 9 1 (.slice A 2 c) 2 [.string ⟨#[126]⟩, .string ⟨#[34]⟩] := by
  have r0 := hR.cell 0
  have r1 := hR.cell 1
  have r2 := hR.cell 2
  have r3 := hR.cell 3
  have r4 := hR.cell 4
  simp only [List.getElem?_toArray, List.getElem?_cons_zero, List.getElem?_cons_succ] at r0 r1 r2 r3 r4
  have hRw := hR.lt
  clear hR
  go_enter Tryz.func85, Tryz.ntmps85
  go_upto_region 5 with (fail)
  go_wp2_with fail
  go_loop [4, 5] (fun a i => (i = .int .i64 0 ∧ a = .bool true) ∨ (i = .int .i64 2 ∧ a = .bool false) ∨ (i = .int .i64 4 ∧ a = .bool false)) (fun _ i => 6 - (intOf i).toNat)
  case atStart => exact .inl ⟨rfl, rfl⟩
  case round =>
    rcases hrel with ⟨rfl, rfl⟩ | ⟨rfl, rfl⟩ | ⟨rfl, rfl⟩
    · go_wp2
      go_round
      case rel => exact .inr (.inl ⟨rfl, rfl⟩)
      case measure => simp [intOf]
    · go_wp2
      go_round
      case rel => exact .inr (.inr ⟨rfl, rfl⟩)
      case measure => simp [intOf]
    · have hmk : ∀ w : World, (Instr.makeSlice 58 (.int .i64 0) (.int .i64 2)).run Tryz.prog w = .ok (.slice (some ⟨w.heap.size, 0, none⟩) 0 2) (w.alloc (.cells #[.string ⟨#[]⟩, .string ⟨#[]⟩] 9)) := fun w => by kernel_rfl
      have hst := rep_store (W.alloc (.cells #[.string ⟨#[]⟩, .string ⟨#[]⟩] 9)) (.slice (some ⟨W.heap.size, 0, none⟩) 0 2) rfl
      rw [show (W.alloc (.cells #[.string ⟨#[]⟩, .string ⟨#[]⟩] 9)).heap.size = W.heap.size + 1 from by simp] at hst
      obtain ⟨w2, hw2⟩ : ∃ w2, w2 = (W.alloc (.cells #[.string ⟨#[]⟩, .string ⟨#[]⟩] 9)).alloc (.cells (bsC nilB nilB (.slice (some ⟨W.heap.size, 0, none⟩) 0 2)) 148) := ⟨_, rfl⟩
      rw [← hw2] at hst
      obtain ⟨b, hb⟩ : ∃ b, b = W.heap.size + 1 := ⟨_, rfl⟩
      have hbW : W.heap.size < b := by omega
      have K2 := hid (show Blk w2 b 148 (bsC nilB nilB (.slice (some ⟨W.heap.size, 0, none⟩) 0 2)) from by
        rw [hw2, hb]
        have := Blk.new (W.alloc (.cells #[.string ⟨#[]⟩, .string ⟨#[]⟩] 9)) 148 (bsC nilB nilB (.slice (some ⟨W.heap.size, 0, none⟩) 0 2))
        rwa [World.size_alloc] at this)
      have T2 := hid (show w2.ownsRow W.heap.size 9 1 (.slice (some ⟨W.heap.size, 0, none⟩) 0 2) 0 [] from ⟨rfl, .inr ⟨W.heap.size, 2, #[.string ⟨#[]⟩, .string ⟨#[]⟩], rfl, Nat.le_refl _, by
        rw [hw2]
        exact (Blk.new W 9 #[.string ⟨#[]⟩, .string ⟨#[]⟩]).below ((Below.refl _ _).alloc (Nat.le_refl _) _) (by simp), Nat.zero_le _, by decide, rfl, rfl⟩⟩)
      have B2 := hid (show Below W.heap.size W w2 from by rw [hw2]; exact ((Below.refl _ _).alloc (Nat.le_refl _) _).alloc (by simp) _)
      have hz2 : w2.heap.size = W.heap.size + 2 := by rw [hw2]; simp
      have hsz : ((W.alloc (.cells #[.string ⟨#[]⟩, .string ⟨#[]⟩] 9))).heap.size = W.heap.size + 1 := by simp
      clear hw2
      go_upto_region 27 with (fail)
      rw [← hb]
      have HB := hid hb
      have hbz : b < w2.heap.size := by omega
      clear hmk hst hsz hb hz2
      have hen := fun w => Lib.run_eql_slice_nil (P := Tryz.prog) w 75 5 none 0 0 0 0 Tryz.underlying75
      have i126 : ∀ h, ((⟨#[126]⟩ : ByteArray)[0]'h).toNat = 126 := fun _ => rfl
      have i34 : ∀ h, ((⟨#[34]⟩ : ByteArray)[0]'h).toNat = 34 := fun _ => rfl
      go_wp2_with fail
      obtain ⟨A0, hA0⟩ : ∃ A0 : Option Addr, A0 = some ⟨W.heap.size, 0, none⟩ := ⟨_, rfl⟩
      have Q2 := hid (show Bst W w2 b nilB nilB (.slice A0 0 2) from ⟨hbW, B2.out, by rw [hA0]; exact K2.out⟩)
      have T2' := hid (show w2.ownsRow W.heap.size 9 1 (.slice A0 0 2) 0 [] from by rw [hA0]; exact T2.out)
      obtain ⟨i0, hi0, hz0, hz1, hz2⟩ := info_parts str_info
      have Hi0 := hid hi0
      have Hz0 := hid hz0
      have Hz1 := hid hz1
      have Hz2 := hid hz2
      clear hi0 hz0 hz1 hz2 K2 B2 hbW HB T2 hA0
      go_loopw [12] (fun i wr => (i = .int .i64 2 ∧ w2 = wr) ∨ (i = .int .i64 0 ∧ ∃ p126 A c, Hid (Bst W wr b nilB p126 (.slice A 1 c)) ∧ Hid (Byt wr b p126 [126, 126]) ∧ Hid (wr.ownsRow W.heap.size 9 1 (.slice A 1 c) 1 [.string ⟨#[126]⟩])) ∨ (i = .int .i64 (-2) ∧ ∃ p34 p126 A c, Hid (Bst W wr b p34 p126 (.slice A 2 c)) ∧ Hid (Byt wr b p34 [126, 34]) ∧ Hid (Byt wr b p126 [126, 126]) ∧ Hid (wr.ownsRow W.heap.size 9 1 (.slice A 2 c) 2 [.string ⟨#[126]⟩, .string ⟨#[34]⟩]))) (fun i _ => (intOf i + 2).toNat)
      case atStart => exact .inl ⟨rfl, rfl⟩
      case round =>
        rcases hrel with ⟨rfl, rfl⟩ | ⟨rfl, p126, A, c, Q, Y, T⟩ | ⟨rfl, p34, p126, A, c, Q, X, Y, T⟩
        · have t2 := Q2.out.bl.cell (p := ⟨g4, 2, none⟩) hg
          have t3 := Q2.out.bl.cell (p := ⟨g4, 3, none⟩) hg
          rw [s2] at t2
          rw [s3] at t3
          have hg2 : g4 < w2.heap.size := Nat.lt_of_lt_of_le hg Q2.out.bl.size
          have c126 : w2.cell? ⟨b, 126, none⟩ = some (.slice none 0 0) := by rw [Q2.out.blk.cell 126, bsC_at _ _ _ 126 (by decide)]; rfl
          have c256 : w2.cell? ⟨b, 256, none⟩ = some (.slice A0 0 2) := by rw [Q2.out.blk.cell 256, bsC_at _ _ _ 256 (by decide)]; rfl
          have fzb : ∀ i, w2.frozen? ⟨b, i, none⟩ = false := Q2.out.blk.frozen
          have k1 := one_str w2 126
          have k126 : ((126 : UInt8).toNat : Int) = 126 := rfl
          rw [k126] at k1
          clear s0 s1 s2 s3
          go_wp2_with (at_builtin; ((refine wpList_app _ rfl _ _ _ rfl W.heap.size 9 i0 (.string ⟨#[]⟩) 1 16 Tryz.underlying58 Hi0.out Hz0.out Hz1.out Hz2.out rfl (by omega) A0 0 2 [] rfl (own_below T2'.out (((Below.refl _ _).alloc (Nat.le_refl _) (.cells #[.int .u8 126] 5)).alloc (by simp) _) (Nat.le_refl _)) _ _ 1 1 [.string ⟨#[126]⟩] rfl (rd_one _ _ _ _ (blk_new2 _ _ _ _)) (by simp) (by simp [Value.oneCell']) (by decide) (by decide) (by have := Q2.out.bl.size; simp <;> omega) ?_; intro A4 c4 w4 ha4; obtain ⟨hq4, ht4, _⟩ := Q2.out.app T2'.out ha4; have Q4 := hid hq4; have T4 := hid ht4; obtain ⟨c4h, c4g, c4f, fz4, hb4⟩ := hq4.cells; obtain ⟨g5, k5, w5, hr5, q5, t5, y5, _⟩ := hq4.conv 126 126 ht4; obtain ⟨c5h, c5g, c5f, fz5, hb5⟩ := q5.cells; obtain ⟨q6, t6⟩ := q5.set126 (p := .slice (some ⟨g5, 0, none⟩) 2 k5) t5; have Y6 := hid (y5.set (i := 126) (u := .slice (some ⟨g5, 0, none⟩) 2 k5)); have Q6 := hid q6; have T6 := hid t6; clear q5 t5 y5 q6 t6; clear ha4 hq4 ht4)))
          exact ⟨.inr (.inl ⟨rfl, _, _, _, Q6, Y6, T6⟩), by simp [intOf]⟩
        · have t2 := Q.out.bl.cell (p := ⟨g4, 0, none⟩) hg
          have t3 := Q.out.bl.cell (p := ⟨g4, 1, none⟩) hg
          rw [s0] at t2
          rw [s1] at t3
          have hg2 : g4 < wr.heap.size := Nat.lt_of_lt_of_le hg Q.out.bl.size
          obtain ⟨c34, c126, c256, fzb, hbr⟩ := Q.out.cells
          replace c34 : wr.cell? ⟨b, 34, none⟩ = some (.slice none 0 0) := c34
          have k1 := one_str wr 34
          have k126 : ((34 : UInt8).toNat : Int) = 34 := rfl
          rw [k126] at k1
          clear s0 s1 s2 s3
          go_wp2_with (at_builtin; ((refine wpList_app _ rfl _ _ _ rfl W.heap.size 9 i0 (.string ⟨#[]⟩) 1 16 Tryz.underlying58 Hi0.out Hz0.out Hz1.out Hz2.out rfl (by omega) A 1 c [.string ⟨#[126]⟩] rfl (own_below T.out (((Below.refl _ _).alloc (Nat.le_refl _) (.cells #[.int .u8 34] 5)).alloc (by simp) _) (Nat.le_refl _)) _ _ 1 1 [.string ⟨#[34]⟩] rfl (rd_one _ _ _ _ (blk_new2 _ _ _ _)) (by simp) (by simp [Value.oneCell']) (by decide) (by decide) (by have := Q.out.bl.size; simp <;> omega) ?_; intro A4 c4 w4 ha4; obtain ⟨hq4, ht4, hy4⟩ := Q.out.app T.out ha4; have Q4 := hid hq4; have T4 := hid ht4; obtain ⟨c4h, c4g, c4f, fz4, hb4⟩ := hq4.cells; obtain ⟨g5, k5, w5, hr5, q5, t5, y5, z5⟩ := hq4.conv 126 34 ht4; obtain ⟨c5h, c5g, c5f, fz5, hb5⟩ := q5.cells; obtain ⟨q6, t6⟩ := q5.set34 (p := .slice (some ⟨g5, 0, none⟩) 2 k5) t5; have X6 := hid (y5.set (i := 34) (u := .slice (some ⟨g5, 0, none⟩) 2 k5)); have Y6 := hid ((z5 _ _ (hy4 _ _ Y.out)).set (i := 34) (u := .slice (some ⟨g5, 0, none⟩) 2 k5)); have Q6 := hid q6; have T6 := hid t6; clear q5 t5 y5 z5 hy4 q6 t6; clear ha4 hq4 ht4)))
          exact ⟨.inr (.inr ⟨rfl, _, _, _, _, Q6, X6, Y6, T6⟩), by simp [intOf]⟩
        · go_wp2_with fail
          exact bodyPost_ret (v := .iface 149 (.pointer (some ⟨b, 0, none⟩))) (by simp [results, Tryz.results85, go_sem]) rfl ⟨b, p34, p126, A, c, rfl, Q.out, X.out, Y.out, T.out⟩
end Go.Proofs.YtfcppchjikmioaaGreat
