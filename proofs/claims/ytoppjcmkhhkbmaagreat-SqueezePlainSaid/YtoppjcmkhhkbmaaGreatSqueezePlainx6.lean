/-
  cmp.Compare, cmp.Or, merge.byWeight: which of two items stands first; items in a row of memory.
  Items in a row of memory: exchanged, two ranges exchanged, two neighbours' ranges turned (slices.swapRangeCmpFunc, rotateCmpFunc).
  Neighbours out of order exchanged, one pair after the other: what stays true (Bub); slices.rotateCmpFunc.
  slices.insertionSortCmpFunc over items.
  slices.symMergeCmpFunc over items: a row's two stretches become one; the cases in which one of them holds one item.
  slices.symMergeCmpFunc over items: the second stretch holds one item.
  slices.symMergeCmpFunc over items: the general case, and the whole.
  slices.stableCmpFunc and SortStableFunc over items: a stable order.
  slices.SortStableFunc over items: an own row comes to a stable order.
  merge.items: the symbols that stand, as items, in a stable order.
-/
import Derived.Test.YtoppjcmkhhkbmaaGreatSqueezePlainx1
import Derived.Test.YtoppjcmkhhkbmaaGreatSqueezePlainx5
import Derived.Deep.RegionHeld3
import Derived.Deep.RegionWith
import Derived.Deep.DeepCutAuto
import Derived.IntWalk
import Derived.BigRegion
import Derived.Lib.QuietBelow
import Derived.BigQuiet
namespace Go.Proofs.YtoppjcmkhhkbmaaGreat
open Go.RowKit Mg

def cmpI (x y : Int) : Int := if x < y then -1 else if y < x then 1 else 0
theorem isnan_any (x : Int) (W : World) : Calls Tryz.prog 201 #[.int .i64 x] W fun e w' => e = .returned (.bool false) ∧ W = w' := by
  go_enter Tryz.func201, Tryz.ntmps201
  go_wp2
  go_ret
  exact ⟨by simp, rfl⟩
theorem compare_any (x y : Int) (W : World) : Calls Tryz.prog 193 #[.int .i64 x, .int .i64 y] W fun e w' => e = .returned (.int .i64 (cmpI x y)) ∧ W = w' := by
  by_cases h1 : x < y
  · have Hc := hid (show cmpI x y = -1 from if_pos h1)
    have d1 : decide (x < y) = true := decide_eq_true h1
    clear h1
    go_enter Tryz.func193, Tryz.ntmps193
    go_wp2_with (first | (go_at_call 201; refine (isnan_any _ _).mono ?_; rintro e w' ⟨rfl, rfl⟩))
    go_ret
    exact ⟨by rw [Hc.out]; first | done | rfl, rfl⟩
  · by_cases h2 : y < x
    · have Hc := hid (show cmpI x y = 1 from (if_neg h1).trans (if_pos h2))
      have d1 : decide (x < y) = false := decide_eq_false h1
      have d2 : decide (y < x) = true := decide_eq_true h2
      clear h1 h2
      go_enter Tryz.func193, Tryz.ntmps193
      go_wp2_with (first | (go_at_call 201; refine (isnan_any _ _).mono ?_; rintro e w' ⟨rfl, rfl⟩))
      go_ret
      exact ⟨by rw [Hc.out]; first | done | rfl, rfl⟩
    · have Hc := hid (show cmpI x y = 0 from (if_neg h1).trans (if_neg h2))
      have d1 : decide (x < y) = false := decide_eq_false h1
      have d2 : decide (y < x) = false := decide_eq_false h2
      clear h1 h2
      go_enter Tryz.func193, Tryz.ntmps193
      go_wp2_with (first | (go_at_call 201; refine (isnan_any _ _).mono ?_; rintro e w' ⟨rfl, rfl⟩))
      go_ret
      exact ⟨by rw [Hc.out]; first | done | rfl, rfl⟩
def orI (a b : Int) : Int := if a = 0 then b else a
theorem or_any (a b : Int) (g c B : Nat) (W : World) (h : RdI W B (some ⟨g, 0, none⟩) [a, b]) : Calls Tryz.prog 192 #[.slice (some ⟨g, 0, none⟩) 2 c] W fun e w' => e = .returned (.int .i64 (orI a b)) ∧ W = w' := by
  obtain ⟨b1, o1, hA, _, x0⟩ := int_at h (j := 0) (by simp)
  simp only [Option.some.injEq, Addr.mk.injEq] at hA
  obtain ⟨rfl, rfl, _⟩ := hA
  obtain ⟨b1, o1, hA, _, x1⟩ := int_at h (j := 1) (by simp)
  simp only [Option.some.injEq, Addr.mk.injEq] at hA
  obtain ⟨rfl, rfl, _⟩ := hA
  simp only [Nat.zero_add, List.getElem_cons_zero, List.getElem_cons_succ] at x0 x1
  clear h
  go_enter Tryz.func192, Tryz.ntmps192
  go_upto_region 3 with (fail)
  go_loop [8] (fun i => i = .int .i64 0 ∨ (i = .int .i64 1 ∧ a = 0) ∨ (i = .int .i64 2 ∧ a = 0 ∧ b = 0)) (fun i => 2 - (intOf i).toNat)
  case atStart => exact .inl rfl
  case round =>
    rcases hrel with rfl | ⟨rfl, ha⟩ | ⟨rfl, ha, hb⟩
    · by_cases ha : a = 0
      · have d1 : (a != 0) = false := by rw [bne_eq_false_iff_eq]; exact ha
        have Ha := hid ha
        clear ha
        go_wp2
        go_round
        case rel => exact .inr (.inl ⟨rfl, Ha.out⟩)
        case measure => simp [intOf]
      · have d1 : (a != 0) = true := bne_iff_ne.2 ha
        have Ho := hid (show orI a b = a from if_neg ha)
        clear ha
        go_wp2
        go_ret
        exact ⟨by rw [Ho.out]; first | done | rfl, rfl⟩
    · have Ho := hid (show orI a b = b from if_pos ha)
      have Ha := hid ha
      clear ha
      by_cases hb : b = 0
      · have d1 : (b != 0) = false := by rw [bne_eq_false_iff_eq]; exact hb
        have Hb := hid hb
        clear hb
        go_wp2
        go_round
        case rel => exact .inr (.inr ⟨rfl, Ha.out, Hb.out⟩)
        case measure => simp [intOf]
      · have d1 : (b != 0) = true := bne_iff_ne.2 hb
        clear hb
        go_wp2
        go_ret
        exact ⟨by rw [Ho.out]; first | done | rfl, rfl⟩
    · have Ho := hid (show orI a b = 0 by rw [ha, hb]; rfl)
      clear ha hb
      go_wp2
      go_ret
      exact ⟨by rw [Ho.out]; first | done | rfl, rfl⟩
/-- an item in memory: what it says, and where its symbols lie -/
structure IR where
  it : It
  A : Option Addr
  c : Nat
deriving Inhabited
def encR (x : IR) : List Value := [.int .i64 x.it.w, .slice x.A x.it.s.length x.c]
def cfR (x y : IR) : Int := orI (cmpI x.it.w y.it.w) (cmpI (x.it.s.length : Int) (y.it.s.length : Int))
theorem cfR_lt (x y : IR) : cfR x y < 0 ↔ ¬ Le y.it x.it := by
  unfold cfR orI cmpI Le
  by_cases h1 : x.it.w < y.it.w
  · rw [if_pos h1]; simp; omega
  · rw [if_neg h1]
    by_cases h2 : y.it.w < x.it.w
    · rw [if_pos h2]; simp; omega
    · rw [if_neg h2, if_pos rfl]
      by_cases h3 : (x.it.s.length : Int) < (y.it.s.length : Int)
      · rw [if_pos h3]; omega
      · rw [if_neg h3]
        by_cases h4 : (y.it.s.length : Int) < (x.it.s.length : Int)
        · rw [if_pos h4]; omega
        · rw [if_neg h4]; omega

set_option maxRecDepth 100000 in
set_option maxHeartbeats 4000000 in
theorem byWeight_any (x y : IR) (W : World) :
    Calls Tryz.prog 172 #[.agg #[.int .i64 x.it.w, .slice x.A x.it.s.length x.c], .agg #[.int .i64 y.it.w, .slice y.A y.it.s.length y.c]] W fun e w' => e = .returned (.int .i64 (cfR x y)) ∧ Below W.heap.size W w' := by
  obtain ⟨⟨xw, xs⟩, XA, xc⟩ := x
  obtain ⟨⟨yw, ys⟩, YA, yc⟩ := y
  have Hc : Hid (cfR ⟨⟨xw, xs⟩, XA, xc⟩ ⟨⟨yw, ys⟩, YA, yc⟩ = orI (cmpI xw yw) (cmpI (xs.length : Int) (ys.length : Int))) := rfl
  have hb1 := Blk.new (W.alloc (.cells #[.int .i64 xw, .slice XA xs.length xc] 238)) 238 #[.int .i64 yw, .slice YA ys.length yc]
  rw [World.size_alloc] at hb1
  have H0 := hid ((Blk.new W 238 #[.int .i64 xw, .slice XA xs.length xc]).alloc (.cells #[.int .i64 yw, .slice YA ys.length yc] 238))
  have H1 := hid hb1
  have Hb := hid (((Below.refl W.heap.size W).alloc (Nat.le_refl _) (.cells #[.int .i64 xw, .slice XA xs.length xc] 238)).alloc (by simp) (.cells #[.int .i64 yw, .slice YA ys.length yc] 238))
  clear hb1
  rw [Hc.out]
  clear Hc
  simp only
  generalize xs.length = xn at *
  generalize ys.length = yn at *
  go_enter Tryz.func172, Tryz.ntmps172
  go_upto_region 1 with (fail)
  generalize (W.alloc (.cells #[.int .i64 xw, .slice XA xn xc] 238)).alloc (.cells #[.int .i64 yw, .slice YA yn yc] 238) = w0 at *
  have q0 := H0.out.cell 0
  have q1 := H0.out.cell 1
  have r0 := H1.out.cell 0
  have r1 := H1.out.cell 1
  simp only [List.getElem?_toArray, List.getElem?_cons_zero, List.getElem?_cons_succ] at q0 q1 r0 r1
  first | go_region_held3 (fun w' => w'.cell? ⟨W.heap.size, 0, none⟩ = some (.int .i64 xw) ∧ w'.cell? ⟨W.heap.size, 1, none⟩ = some (.slice XA xn xc) ∧ w'.cell? ⟨W.heap.size + 1, 0, none⟩ = some (.int .i64 yw) ∧ w'.cell? ⟨W.heap.size + 1, 1, none⟩ = some (.slice YA yn yc)) (first | go_keep | exact ⟨q0, q1, r0, r1⟩) (first
    | (go_at_call 193; refine (compare_any _ _ _).mono ?_; rintro e w' ⟨rfl, rfl⟩)
    | (go_at_call 192; refine (or_any _ _ _ 2 _ _ (by have h := RdI.new (w := w0.drew) (t := 3) (l := [cmpI xw yw, cmpI (xn : Int) (yn : Int)]) rfl; exact h)).mono ?_; rintro e w' ⟨rfl, rfl⟩)) | fail
  all_goals
    go_wp2
    go_ret
    exact ⟨rfl, Hb.out.drew.alloc Hb.out.size _⟩

end Go.Proofs.YtoppjcmkhhkbmaaGreat

namespace Go.Proofs.YtoppjcmkhhkbmaaGreat
open Go.RowKit Mg

def fl (l : List IR) : List Value := l.flatMap encR
theorem fl_app (a b : List IR) : fl (a ++ b) = fl a ++ fl b := by simp [fl]
theorem fl_len (l : List IR) : (fl l).length = l.length * 2 := flat_length encR 2 l (fun _ _ => rfl)
/-- the row in block g holds the items l, and tl behind them; nothing else of w0 has turned -/
def SW (w w0 : World) (g : Nat) (l : List IR) (tl : List Value) : Prop := Blk w g 238 (fl l ++ tl).toArray ∧ w0.grownBy w (some g)
theorem grown_tr2 {w w0 : World} {g : Nat} (h : w0.grownBy w (some g)) (i j : Nat) (u v : Value) : w0.grownBy ((w.setCell ⟨g, i, none⟩ u).setCell ⟨g, j, none⟩ v) (some g) :=
  ⟨h.os, h.tape, h.output, by simpa using h.size, fun k hk hr => ((Below.heap_setCell _ ⟨g, j, none⟩ v k (fun e => hr (by rw [e]))).trans (Below.heap_setCell w ⟨g, i, none⟩ u k (fun e => hr (by rw [e])))).trans (h.block k hk hr)⟩
theorem fl_set : ∀ (l : List IR) (i : Nat) (y : IR) (tl : List Value), i < l.length → ((fl l ++ tl).set (i * 2) (.int .i64 y.it.w)).set (i * 2 + 1) (.slice y.A y.it.s.length y.c) = fl (l.set i y) ++ tl
  | [], _, _, _, h => by simp at h
  | a :: t, 0, y, tl, _ => by simp [fl, encR]
  | a :: t, i + 1, y, tl, h => by
    have ih := fl_set t i y tl (by simpa using h)
    rw [show (i + 1) * 2 = i * 2 + 1 + 1 by omega]
    simp only [fl, encR, List.flatMap_cons, List.cons_append, List.nil_append, List.set_cons_succ] at ih ⊢
    rw [ih]
theorem fl_setA (l : List IR) (i : Nat) (y : IR) (tl : List Value) (h : i < l.length) : ((fl l ++ tl).toArray.setIfInBounds (i * 2) (.int .i64 y.it.w)).setIfInBounds (i * 2 + 1) (.slice y.A y.it.s.length y.c) = (fl (l.set i y) ++ tl).toArray := by
  rw [List.setIfInBounds_toArray, List.setIfInBounds_toArray, fl_set l i y tl h]
section
variable {w w0 : World} {g : Nat} {l : List IR} {tl : List Value}
theorem SW.at_ (h : SW w w0 g l tl) {i : Nat} (hi : i < l.length) : w.cell? ⟨g, i * 2, none⟩ = some (.int .i64 l[i].it.w) ∧ w.cell? ⟨g, i * 2 + 1, none⟩ = some (.slice l[i].A l[i].it.s.length l[i].c) := by
  have f := fun (o : Nat) (ho : o < 2) (u : Value) (hu : (encR l[i])[o]? = some u) => show w.cell? ⟨g, i * 2 + o, none⟩ = some u by
    rw [h.1.cell, List.getElem?_toArray, List.getElem?_append_left (by rw [fl_len]; omega)]
    exact (flat_at encR 2 l (fun _ _ => rfl) i o l[i] (List.getElem?_eq_getElem hi) ho).trans hu
  exact ⟨f 0 (by omega) _ rfl, f 1 (by omega) _ rfl⟩
theorem SW.size (h : SW w w0 g l tl) : w0.heap.size ≤ w.heap.size := h.2.size
theorem SW.drew (h : SW w w0 g l tl) : SW w.drew w0 g l tl := ⟨h.1.drew, ⟨h.2.os, h.2.tape, h.2.output, h.2.size, h.2.block⟩⟩
theorem SW.below {w' : World} (h : SW w w0 g l tl) (hb : Below w.heap.size w w') : SW w' w0 g l tl :=
  ⟨h.1.below hb h.1.lt, ⟨hb.os.trans h.2.os, hb.tape.trans h.2.tape, hb.output.trans h.2.output, Nat.le_trans h.2.size hb.size, fun k hk hr => (hb.block k (by have := h.2.size; omega)).trans (h.2.block k hk hr)⟩⟩
theorem SW.put (h : SW w w0 g l tl) {i : Nat} (hi : i < l.length) (y : IR) : SW ((w.setCell ⟨g, i * 2, none⟩ (.int .i64 y.it.w)).setCell ⟨g, i * 2 + 1, none⟩ (.slice y.A y.it.s.length y.c)) w0 g (l.set i y) tl := by
  refine ⟨?_, grown_tr2 h.2 _ _ _ _⟩
  have h1 := (h.1.set_ (i * 2) (.int .i64 y.it.w)).set_ (i * 2 + 1) (.slice y.A y.it.s.length y.c)
  rw [fl_setA l i y tl hi] at h1
  exact h1
end
/-- two items exchanged -/
def exch (l : List IR) (i j : Nat) : List IR := (l.set i (l.getD j default)).set j (l.getD i default)
theorem exch_len (l : List IR) (i j : Nat) : (exch l i j).length = l.length := by simp [exch]
theorem exch_split (u v z : List IR) (x y : IR) : exch (u ++ x :: (v ++ y :: z)) u.length (u.length + 1 + v.length) = u ++ y :: (v ++ x :: z) := by
  have e1 : (u ++ x :: (v ++ y :: z)).getD u.length default = x := by simp [List.getD]
  have e2 : (u ++ x :: (v ++ y :: z)).getD (u.length + 1 + v.length) default = y := by
    rw [List.getD_eq_getElem?_getD, List.getElem?_append_right (by omega), show u.length + 1 + v.length - u.length = v.length + 1 by omega, List.getElem?_cons_succ, List.getElem?_append_right (by omega)]
    simp
  unfold exch
  rw [e1, e2, List.set_append_right _ _ (by omega), Nat.sub_self, List.set_cons_zero, List.set_append_right _ _ (by omega), show u.length + 1 + v.length - u.length = v.length + 1 by omega, List.set_cons_succ, List.set_append_right _ _ (by omega), Nat.sub_self, List.set_cons_zero]
/-- two ranges exchanged -/
def swr (l : List IR) (a b : Nat) : Nat → List IR
  | 0 => l
  | n + 1 => exch (swr l a b n) (a + n) (b + n)
theorem swr_len (l : List IR) (a b : Nat) : ∀ n, (swr l a b n).length = l.length
  | 0 => rfl
  | n + 1 => by unfold swr; rw [exch_len, swr_len l a b n]
theorem swr_part (p X M Y q : List IR) (h : X.length = Y.length) : ∀ k, k ≤ X.length → swr (p ++ X ++ M ++ Y ++ q) p.length (p.length + X.length + M.length) k = p ++ (Y.take k ++ X.drop k) ++ M ++ (X.take k ++ Y.drop k) ++ q
  | 0, _ => by simp [swr]
  | k + 1, hk => by
    have ih := swr_part p X M Y q h k (by omega)
    unfold swr
    rw [ih]
    have hx := List.drop_eq_getElem_cons (l := X) (i := k) (by omega)
    have hy := List.drop_eq_getElem_cons (l := Y) (i := k) (by omega)
    have e := exch_split (p ++ Y.take k) (X.drop (k + 1) ++ M ++ X.take k) (Y.drop (k + 1) ++ q) X[k] Y[k]
    have l1 : (p ++ Y.take k).length = p.length + k := by rw [List.length_append, List.length_take, Nat.min_eq_left (by omega)]
    have l2 : (p ++ Y.take k).length + 1 + (X.drop (k + 1) ++ M ++ X.take k).length = p.length + X.length + M.length + k := by
      rw [l1, List.length_append, List.length_append, List.length_drop, List.length_take, Nat.min_eq_left (by omega)]
      omega
    rw [l2, l1] at e
    have e1 : p ++ (Y.take k ++ X.drop k) ++ M ++ (X.take k ++ Y.drop k) ++ q = p ++ Y.take k ++ X[k] :: (X.drop (k + 1) ++ M ++ X.take k ++ Y[k] :: (Y.drop (k + 1) ++ q)) := by
      rw [hx, hy]; simp only [List.append_assoc, List.cons_append]
    have e2 : p ++ (Y.take (k + 1) ++ X.drop (k + 1)) ++ M ++ (X.take (k + 1) ++ Y.drop (k + 1)) ++ q = p ++ Y.take k ++ Y[k] :: (X.drop (k + 1) ++ M ++ X.take k ++ X[k] :: (Y.drop (k + 1) ++ q)) := by
      rw [List.take_succ_eq_append_getElem (l := X) (i := k) (by omega), List.take_succ_eq_append_getElem (l := Y) (i := k) (by omega)]; simp only [List.append_assoc, List.cons_append, List.nil_append]
    rw [e1, e2]
    exact e
theorem swr_all (p X M Y q : List IR) (h : X.length = Y.length) : swr (p ++ X ++ M ++ Y ++ q) p.length (p.length + X.length + M.length) X.length = p ++ Y ++ M ++ X ++ q := by
  have := swr_part p X M Y q h X.length (Nat.le_refl _)
  rw [this, List.drop_length, List.take_length, h, List.drop_length, List.take_length]
  simp

def RowEnd (l' : List IR) (w0 : World) (g : Nat) (tl : List Value) (e : Ending) (w' : World) : Prop := e = .returned (.tuple #[]) ∧ SW w' w0 g l' tl
set_option maxRecDepth 100000 in
set_option maxHeartbeats 8000000 in
theorem swapRange_any (g cap a b n : Nat) (l : List IR) (tl : List Value) (w0 W : World) (h : SW W w0 g l tl) (hab : a + n ≤ b) (hb : b + n ≤ l.length) (hm : l.length ≤ 1000000) (fv : Value) :
    Calls Tryz.prog 203 #[.slice (some ⟨g, 0, none⟩) l.length cap, .int .i64 (a : Nat), .int .i64 (b : Nat), .int .i64 (n : Nat), fv] W (RowEnd (swr l a b n) w0 g tl) := by
  have H := hid h
  clear h
  go_enter Tryz.func203, Tryz.ntmps203
  go_upto_region 1 with (fail)
  go_loopw [10] (fun i wr => ∃ k : Nat, k ≤ n ∧ i = .int .i64 k ∧ SW wr w0 g (swr l a b k) tl) (fun i _ => n - (intOf i).toNat)
  case atStart => exact ⟨0, by omega, rfl, H.out⟩
  case round =>
    obtain ⟨k, hk, rfl, hs⟩ := hrel
    have S := hid hs
    clear hs
    by_cases hlt : k < n
    · have hd : decide (k < n) = true := decide_eq_true hlt
      have hl := swr_len l a b k
      have hia : a + k < (swr l a b k).length := by omega
      have hib : b + k < (swr l a b k).length := by omega
      obtain ⟨x0, x1⟩ := S.out.at_ hia
      obtain ⟨y0, y1⟩ := S.out.at_ hib
      have eX : (swr l a b k).getD (a + k) default = (swr l a b k)[a + k] := by rw [List.getD_eq_getElem?_getD, List.getElem?_eq_getElem hia]; rfl
      have eY : (swr l a b k).getD (b + k) default = (swr l a b k)[b + k] := by rw [List.getD_eq_getElem?_getD, List.getElem?_eq_getElem hib]; rfl
      have Hn : Hid (swr l a b (k + 1) = ((swr l a b k).set (a + k) (swr l a b k)[b + k]).set (b + k) (swr l a b k)[a + k]) := hid (by show exch _ _ _ = _; unfold exch; rw [eX, eY])
      have R1 := hid (((S.out.drew.put hia (swr l a b k)[b + k]).put (i := b + k) (by simpa using hib) (swr l a b k)[a + k]))
      have R2 := hid (((S.out.drew.put hib (swr l a b k)[a + k]).put (i := a + k) (by simpa using hia) (swr l a b k)[b + k]))
      rw [← Hn.out] at R1
      rw [List.set_comm _ _ (by omega), ← Hn.out] at R2
      have fz := fun i => S.out.1.frozen i
      generalize (swr l a b k)[a + k] = x at *
      generalize (swr l a b k)[b + k] = y at *
      clear eX eY Hn hl hia hib
      have sa : IntKind.i64.wrap ((a : Int) + (k : Int)) = (a : Int) + (k : Int) := IntWalk.i64_in _ (by omega)
      have sb : IntKind.i64.wrap ((b : Int) + (k : Int)) = (b : Int) + (k : Int) := IntWalk.i64_in _ (by omega)
      have ta : ((a : Int) + (k : Int)).toNat = a + k := by omega
      have tb : ((b : Int) + (k : Int)).toNat = b + k := by omega
      have pa : (0 : Int) ≤ (a : Int) + (k : Int) := by omega
      have pb : (0 : Int) ≤ (b : Int) + (k : Int) := by omega
      have la : (a : Int) + (k : Int) < (l.length : Int) := by omega
      have lb : (b : Int) + (k : Int) < (l.length : Int) := by omega
      go_upto_region 3 with (fail)
      go_region
      all_goals (go_wp2; go_roundw)
      case rel => first
        | exact ⟨k + 1, by omega, rfl, R1.out⟩
        | exact ⟨k + 1, by omega, rfl, R2.out⟩
      case measure => simp [intOf]; omega
    · obtain rfl : n = k := by omega
      go_wp2
      go_end0
      exact ⟨rfl, S.out⟩

end Go.Proofs.YtoppjcmkhhkbmaaGreat

namespace Go.Proofs.YtoppjcmkhhkbmaaGreat
open Go.RowKit Mg

def LeR (a b : IR) : Prop := Le a.it b.it
theorem LeR.tr {a b c : IR} (h : LeR a b) (k : LeR b c) : LeR a c := by
  unfold LeR Le at *
  omega
theorem LeR.tot (a b : IR) : LeR a b ∨ LeR b a := by
  unfold LeR Le
  omega
/-- l' is l, with neighbours exchanged that stood out of order -/
inductive Bub : List IR → List IR → Prop
  | refl (l) : Bub l l
  | step {l u v x y} : Bub l (u ++ x :: y :: v) → ¬ LeR x y → Bub l (u ++ y :: x :: v)
theorem Bub.tr {a b c : List IR} (h : Bub a b) (k : Bub b c) : Bub a c := by
  induction k with
  | refl => exact h
  | step _ hx ih => exact .step ih hx
theorem Bub.len {a b : List IR} (h : Bub a b) : b.length = a.length := by
  induction h with
  | refl => rfl
  | step _ _ ih => rw [← ih]; simp
theorem Bub.ctx {a b : List IR} (p q : List IR) (h : Bub a b) : Bub (p ++ a ++ q) (p ++ b ++ q) := by
  induction h with
  | refl => exact .refl _
  | @step u v x y _ hx ih =>
    have e := @Bub.step _ (p ++ u) (v ++ q) x y (by simpa using ih) hx
    simpa using e
theorem Bub.both {a b c d : List IR} (h : Bub a b) (k : Bub c d) : Bub (a ++ c) (b ++ d) := by
  have h1 := h.ctx [] c
  have h2 := k.ctx b []
  simp only [List.nil_append, List.append_nil] at h1 h2
  exact h1.tr h2
theorem Bub.one (x : IR) : ∀ Y : List IR, (∀ y ∈ Y, ¬ LeR x y) → Bub (x :: Y) (Y ++ [x])
  | [], _ => .refl _
  | y :: Y, h => by
    have h1 : Bub (x :: y :: Y) (y :: x :: Y) := @Bub.step _ [] Y x y (.refl _) (h y (by simp))
    have h2 := (Bub.one x Y (fun z hz => h z (List.mem_cons_of_mem _ hz))).ctx [y] []
    simp only [List.cons_append, List.nil_append, List.append_nil] at h2
    exact h1.tr h2
theorem Bub.turn : ∀ (X Y : List IR), (∀ x ∈ X, ∀ y ∈ Y, ¬ LeR x y) → Bub (X ++ Y) (Y ++ X)
  | [], Y, _ => by rw [List.append_nil]; exact .refl _
  | x :: X, Y, h => by
    have h1 := (Bub.turn X Y (fun z hz => h z (List.mem_cons_of_mem _ hz))).ctx [x] []
    have h2 := (Bub.one x Y (h x (by simp))).ctx [] X
    simp only [List.cons_append, List.nil_append, List.append_nil, List.append_assoc] at h1 h2 ⊢
    exact h1.tr h2
theorem Bub.perm {a b : List IR} (h : Bub a b) : b.Perm a := by
  induction h with
  | refl => exact .refl _
  | @step u v x y _ _ ih => exact (List.Perm.append_left _ (List.Perm.swap x y v)).trans ih
/-- what stood in order stands in order -/
theorem Bub.stable {a b : List IR} (h : Bub a b) : ∀ c : List It, c.Pairwise Le → c.Sublist (a.map (·.it)) → c.Sublist (b.map (·.it)) := by
  induction h with
  | refl => exact fun c _ h => h
  | @step u v x y _ hx ih =>
    intro c hc hs
    have hs := ih c hc hs
    simp only [List.map_append, List.map_cons] at hs ⊢
    obtain ⟨c1, c2, rfl, s1, s2⟩ := List.sublist_append_iff.1 hs
    refine s1.append ?_
    rcases s2 with _ | s2 | s2
    · rename_i s2
      cases s2 with
      | cons _ s3 => exact (s3.cons _).cons _
      | cons_cons _ s3 => exact (s3.cons _).cons_cons _
    · rename_i c3 s2
      cases s2 with
      | cons _ s3 => exact (s3.cons_cons _).cons _
      | cons_cons _ s3 =>
        have := (List.pairwise_append.1 hc).2.1
        exact absurd ((List.pairwise_cons.1 this).1 _ (by simp)) hx
theorem Bub.st {a b : List IR} (h : Bub a b) (hs : b.Pairwise LeR) : St (a.map (·.it)) (b.map (·.it)) :=
  ⟨h.perm.map _, List.pairwise_map.2 hs, h.stable⟩

set_option maxRecDepth 100000 in
theorem swapRange_at (g cap N a b n : Nat) (p X M Y q : List IR) (tl : List Value) (w0 W : World) (h : SW W w0 g (p ++ X ++ M ++ Y ++ q) tl) (hx : X.length = n) (hy : Y.length = n) (ha : a = p.length) (hb : b = p.length + X.length + M.length) (hN : N = (p ++ X ++ M ++ Y ++ q).length) (hm : N ≤ 1000000) (fv : Value) :
    Calls Tryz.prog 203 #[.slice (some ⟨g, 0, none⟩) N cap, .int .i64 (a : Nat), .int .i64 (b : Nat), .int .i64 (n : Nat), fv] W (RowEnd (p ++ Y ++ M ++ X ++ q) w0 g tl) := by
  have e := swr_all p X M Y q (hx.trans hy.symm)
  rw [← hb, ← ha, hx] at e
  rw [← e, hN]
  simp only [List.length_append] at hN
  exact swapRange_any g cap a b n _ tl w0 W h (by omega) (by simp only [List.length_append]; omega) (by simp only [List.length_append]; omega) fv

set_option maxRecDepth 100000 in
set_option maxHeartbeats 8000000 in
theorem rotate_any (g cap N a m b : Nat) (p X Y q : List IR) (tl : List Value) (w0 W : World) (h : SW W w0 g (p ++ X ++ Y ++ q) tl) (hx : X.length ≠ 0) (hy : Y.length ≠ 0) (ha : a = p.length) (hm : m = a + X.length) (hb : b = m + Y.length) (hN : N = (p ++ X ++ Y ++ q).length) (hN2 : N ≤ 1000000) (fv : Value) :
    Calls Tryz.prog 202 #[.slice (some ⟨g, 0, none⟩) N cap, .int .i64 (a : Nat), .int .i64 (m : Nat), .int .i64 (b : Nat), fv] W (RowEnd (p ++ Y ++ X ++ q) w0 g tl) := by
  have H := hid h
  have HN := hid hN
  clear h
  have s1 : IntKind.i64.wrap ((m : Int) - (a : Int)) = (X.length : Int) := (IntWalk.i64_in _ (by simp only [List.length_append] at hN; omega)).trans (by omega)
  have s2 : IntKind.i64.wrap ((b : Int) - (m : Int)) = (Y.length : Int) := (IntWalk.i64_in _ (by simp only [List.length_append] at hN; omega)).trans (by omega)
  have hma : m = p.length + X.length := by omega
  have hm2 : m ≤ 1000000 := by simp only [List.length_append] at hN; omega
  have Hma := hid hma
  clear hN hma ha hm hb
  go_enter Tryz.func202, Tryz.ntmps202
  go_upto_region 2 with (fail)
  generalize hi : X.length = i0 at *
  generalize hj : Y.length = j0 at *
  go_loopw [10, 11] (fun iv jv wr => ∃ (i j : Nat) (p' X' Y' q' : List IR), iv = .int .i64 i ∧ jv = .int .i64 j ∧ X'.length = i ∧ Y'.length = j ∧ i ≠ 0 ∧ j ≠ 0 ∧ m = p'.length + i ∧ p' ++ Y' ++ X' ++ q' = p ++ Y ++ X ++ q ∧ N = (p' ++ X' ++ Y' ++ q').length ∧ SW wr w0 g (p' ++ X' ++ Y' ++ q') tl) (fun iv jv _ => (intOf iv).toNat + (intOf jv).toNat)
  case atStart => exact ⟨i0, j0, p, X, Y, q, rfl, rfl, hi, hj, hx, hy, (by have := Hma.out; omega), rfl, HN.out, H.out⟩
  case round =>
    obtain ⟨i, j, p', X', Y', q', rfl, rfl, hX, hY, hi0, hj0, hm', he, hN', hs⟩ := hrel
    have S := hid hs
    have HN' := hid hN'
    have He := hid he
    have HX := hid hX
    have HY := hid hY
    simp only [List.length_append] at hN'
    clear hs he
    have t1 : IntKind.i64.wrap ((m : Int) - (i : Int)) = (p'.length : Int) := (IntWalk.i64_in _ (by omega)).trans (by omega)
    rcases Nat.lt_trichotomy i j with hlt | heq | hgt
    · have d1 : ((i : Int) != (j : Int)) = true := bne_iff_ne.2 (by omega)
      have d2 : decide ((j : Int) < (i : Int)) = false := decide_eq_false (by omega)
      have t2 : IntKind.i64.wrap ((m : Int) + (j : Int)) = (m : Int) + (j : Int) := IntWalk.i64_in _ (by omega)
      obtain ⟨k, hk⟩ : ∃ k, k = j - i := ⟨_, rfl⟩
      obtain ⟨r, hr⟩ : ∃ r, r = m + k := ⟨_, rfl⟩
      have t3 : IntKind.i64.wrap ((m : Int) + (j : Int) - (i : Int)) = (r : Int) := (IntWalk.i64_in _ (by omega)).trans (by omega)
      have t4 : IntKind.i64.wrap ((j : Int) - (i : Int)) = (k : Int) := (IntWalk.i64_in _ (by omega)).trans (by omega)
      have e1 : (Y'.take k).length = k := by rw [List.length_take, Nat.min_eq_left (by omega)]
      have e2 : (Y'.drop k).length = i := by rw [List.length_drop]; omega
      have S2 := hid (show SW wr w0 g (p' ++ X' ++ Y'.take k ++ Y'.drop k ++ q') tl by rw [List.append_assoc (p' ++ X'), List.take_append_drop]; exact S.out)
      have Hn := hid (show N = (p' ++ X' ++ Y'.take k ++ Y'.drop k ++ q').length by rw [List.append_assoc (p' ++ X'), List.take_append_drop]; exact HN'.out)
      have hq : r = p'.length + X'.length + (Y'.take k).length := by omega
      have Hk := hid hk
      clear hN' hX hY hk hr d2
      have d2 : decide ((j : Int) < (i : Int)) = false := decide_eq_false (by omega)
      have Hq := hid hq
      have E1 := hid e1
      have E2 := hid e2
      have Hm := hid hm'
      clear hq e1 e2 hm'
      go_wp2_with fail
      refine (swapRange_at g cap N p'.length r i p' X' (Y'.take k) (Y'.drop k) q' tl w0 _ (by first | exact S2.out | exact S2.out.drew) HX.out E2.out rfl Hq.out Hn.out hN2 fv).mono ?_
      rintro e w1 ⟨rfl, R⟩
      have R := hid R
      go_wp2
      go_round
      case rel => exact ⟨i, k, p', Y'.drop k, Y'.take k, X' ++ q', rfl, rfl, E2.out, E1.out, hi0, by have := Hk.out; omega, by have := Hm.out; omega, by rw [← He.out, ← List.append_assoc, List.append_assoc p', List.take_append_drop], by rw [Hn.out]; simp only [List.length_append]; omega, by rw [← List.append_assoc]; exact R.out⟩
      case measure => have := Hk.out; simp [intOf]; omega
    · subst heq
      have d1 : ((i : Int) != (i : Int)) = false := bne_self_eq_false _
      clear hN' hX hY
      have S2 := hid (show SW wr w0 g (p' ++ X' ++ [] ++ Y' ++ q') tl by rw [List.append_nil]; exact S.out)
      have Hn := hid (show N = (p' ++ X' ++ [] ++ Y' ++ q').length by rw [List.append_nil]; exact HN'.out)
      have hq := hid (show m = p'.length + X'.length + ([] : List IR).length by rw [HX.out]; exact hm')
      clear hm'
      go_wp2_with fail
      refine (swapRange_at g cap N p'.length m i p' X' [] Y' q' tl w0 _ (by first | exact S2.out | exact S2.out.drew) HX.out HY.out rfl hq.out Hn.out hN2 fv).mono ?_
      rintro e w1 ⟨rfl, R⟩
      have R := hid R
      go_wp2
      go_end0
      exact ⟨rfl, by have R := R.out; rw [List.append_nil, He.out] at R; exact R⟩
    · have d1 : ((i : Int) != (j : Int)) = true := bne_iff_ne.2 (by omega)
      have d2 : decide ((j : Int) < (i : Int)) = true := decide_eq_true (by omega)
      obtain ⟨k, hk⟩ : ∃ k, k = i - j := ⟨_, rfl⟩
      have t4 : IntKind.i64.wrap ((i : Int) - (j : Int)) = (k : Int) := (IntWalk.i64_in _ (by omega)).trans (by omega)
      have e1 : (X'.take j).length = j := by rw [List.length_take, Nat.min_eq_left (by omega)]
      have e2 : (X'.drop j).length = k := by rw [List.length_drop]; omega
      have S2 := hid (show SW wr w0 g (p' ++ X'.take j ++ X'.drop j ++ Y' ++ q') tl by rw [List.append_assoc p', List.take_append_drop]; exact S.out)
      have Hn := hid (show N = (p' ++ X'.take j ++ X'.drop j ++ Y' ++ q').length by rw [List.append_assoc p', List.take_append_drop]; exact HN'.out)
      have hq : m = p'.length + (X'.take j).length + (X'.drop j).length := by omega
      have Hk := hid hk
      have Hq := hid hq
      have E1 := hid e1
      have E2 := hid e2
      have Hm := hid hm'
      clear hN' hX hY hk hq e1 e2 hm'
      go_wp2_with fail
      refine (swapRange_at g cap N p'.length m j p' (X'.take j) (X'.drop j) Y' q' tl w0 _ (by first | exact S2.out | exact S2.out.drew) E1.out HY.out rfl Hq.out Hn.out hN2 fv).mono ?_
      rintro e w1 ⟨rfl, R⟩
      have R := hid R
      go_wp2
      go_round
      case rel => exact ⟨k, j, p' ++ Y', X'.drop j, X'.take j, q', rfl, rfl, E2.out, E1.out, by have := Hk.out; omega, hj0, by have := Hm.out; have := Hk.out; rw [List.length_append, HY.out]; omega, by rw [← He.out, List.append_assoc (p' ++ Y'), List.take_append_drop], by rw [Hn.out]; simp only [List.length_append]; omega, R.out⟩
      case measure => have := Hk.out; simp [intOf]; omega

end Go.Proofs.YtoppjcmkhhkbmaaGreat

namespace Go.Proofs.YtoppjcmkhhkbmaaGreat
open Go.RowKit Mg

/-- a stretch of the row comes to order -/
def SEnd (p X q : List IR) (tl : List Value) (w0 : World) (g : Nat) (e : Ending) (w' : World) : Prop := e = .returned (.tuple #[]) ∧ ∃ X', Bub X X' ∧ X'.Pairwise LeR ∧ SW w' w0 g (p ++ X' ++ q) tl
section
variable {w w0 : World} {g : Nat} {tl : List Value} {u v : List IR} {x y : IR} {i j : Nat}
theorem SW.mid (h : SW w w0 g (u ++ x :: v) tl) (hi : i = u.length) : w.cell? ⟨g, i * 2, none⟩ = some (.int .i64 x.it.w) ∧ w.cell? ⟨g, i * 2 + 1, none⟩ = some (.slice x.A x.it.s.length x.c) := by
  have e := h.at_ (i := i) (by simp; omega)
  have ex : (u ++ x :: v)[i]'(by simp; omega) = x := by simp [hi]
  rwa [ex] at e
theorem SW.exch (h : SW w w0 g (u ++ y :: x :: v) tl) (hi : i = u.length) (hj : j = i + 1) : SW ((((w.setCell ⟨g, j * 2, none⟩ (.int .i64 y.it.w)).setCell ⟨g, j * 2 + 1, none⟩ (.slice y.A y.it.s.length y.c)).setCell ⟨g, i * 2, none⟩ (.int .i64 x.it.w)).setCell ⟨g, i * 2 + 1, none⟩ (.slice x.A x.it.s.length x.c)) w0 g (u ++ x :: y :: v) tl := by
  have h1 := (h.put (i := j) (by simp; omega) y).put (i := i) (by simp; omega) x
  have e : ((u ++ y :: x :: v).set j y).set i x = u ++ x :: y :: v := by
    rw [List.set_append_right _ _ (by omega), show j - u.length = 1 by omega, List.set_append_right _ _ (by omega), show i - u.length = 0 by omega]
    rfl
  rwa [e] at h1
theorem SW.exch' (h : SW w w0 g (u ++ y :: x :: v) tl) (hi : i = u.length) (hj : j = i + 1) : SW ((((w.setCell ⟨g, i * 2, none⟩ (.int .i64 x.it.w)).setCell ⟨g, i * 2 + 1, none⟩ (.slice x.A x.it.s.length x.c)).setCell ⟨g, j * 2, none⟩ (.int .i64 y.it.w)).setCell ⟨g, j * 2 + 1, none⟩ (.slice y.A y.it.s.length y.c)) w0 g (u ++ x :: y :: v) tl := by
  have h1 := (h.put (i := i) (by simp; omega) x).put (i := j) (by simp; omega) y
  have e : ((u ++ y :: x :: v).set i x).set j y = u ++ x :: y :: v := by
    rw [List.set_append_right _ _ (by omega), show i - u.length = 0 by omega, List.set_append_right _ _ (by omega), show j - u.length = 1 by omega]
    rfl
  rwa [e] at h1
end
theorem SW.drewN {w w0 : World} {g : Nat} {l : List IR} {tl : List Value} (h : SW w w0 g l tl) (n : Nat) : SW (w.drewN n) w0 g l tl := ⟨h.1.drewN n, ⟨h.2.os, h.2.tape, h.2.output, h.2.size, h.2.block⟩⟩
theorem ins_sorted {S1 S2 : List IR} {x : IR} (h : (S1 ++ S2).Pairwise LeR) (h1 : ∀ s ∈ S1, LeR s x) (h2 : ∀ s ∈ S2, ¬ LeR s x) : (S1 ++ x :: S2).Pairwise LeR := by
  obtain ⟨a, b, c⟩ := List.pairwise_append.1 h
  refine List.pairwise_append.2 ⟨a, List.pairwise_cons.2 ⟨fun s hs => (LeR.tot x s).resolve_right (h2 s hs), b⟩, fun s hs t ht => ?_⟩
  rcases List.mem_cons.1 ht with rfl | ht
  · exact h1 s hs
  · exact c s hs t ht
theorem ins_bub {X S S1 S2 : List IR} {x : IR} {k : Nat} (hx : X[k]? = some x) (hb : Bub (X.take k) S) (e : S1 ++ S2 = S) (h2 : ∀ s ∈ S2, ¬ LeR s x) : Bub (X.take (k + 1)) (S1 ++ x :: S2) := by
  rw [List.take_add_one, hx]
  have h1 := hb.ctx [] [x]
  have h3 := (Bub.turn S2 [x] (fun s hs z hz => by rw [List.mem_singleton.1 hz]; exact h2 s hs)).ctx S1 []
  subst e
  simp only [List.nil_append, List.append_assoc, List.append_nil, List.cons_append] at h1 h3 ⊢
  exact h1.tr h3
set_option maxRecDepth 100000 in
set_option maxHeartbeats 8000000 in
theorem insertion_any (g cap N a b : Nat) (p X q : List IR) (tl : List Value) (w0 W : World) (h : SW W w0 g (p ++ X ++ q) tl) (ha : a = p.length) (hb : b = a + X.length) (hN : N = (p ++ X ++ q).length) (hm : N ≤ 1000000) :
    Calls Tryz.prog 199 #[.slice (some ⟨g, 0, none⟩) N cap, .int .i64 (a : Nat), .int .i64 (b : Nat), .func (.func 172) #[] #[]] W (SEnd p X q tl w0 g) := by
  have H := hid h
  have Ha := hid ha
  have Hb := hid hb
  simp only [List.length_append] at hN
  obtain ⟨i1, hi1⟩ : ∃ i1, i1 = a + 1 := ⟨_, rfl⟩
  have s0 : IntKind.i64.wrap ((a : Int) + 1) = (i1 : Int) := (IntWalk.i64_in _ (by omega)).trans (by omega)
  have Hi1 := hid hi1
  have HN := hid hN
  clear h ha hb hi1 hN
  go_enter Tryz.func199, Tryz.ntmps199
  go_upto_region 1 with (fail)
  go_loopw [8] (fun iv wr => ∃ (ik k : Nat) (S : List IR), iv = .int .i64 ik ∧ ik = a + k ∧ 1 ≤ k ∧ (k ≤ X.length ∨ k = 1) ∧ Bub (X.take k) S ∧ S.Pairwise LeR ∧ SW wr w0 g (p ++ S ++ X.drop k ++ q) tl) (fun iv _ => b + 1 - (intOf iv).toNat)
  case atStart =>
    refine ⟨i1, 1, X.take 1, rfl, Hi1.out, Nat.le_refl _, .inr rfl, .refl _, ?_, ?_⟩
    · cases X with
      | nil => exact .nil
      | cons x t => exact List.pairwise_singleton _ _
    · rw [List.append_assoc p, List.take_append_drop]
      exact H.out
  case round =>
    obtain ⟨ik, k, S, rfl, hik, hk1, hk2, hbub, hso, hs⟩ := hrel
    have Hik := hid hik
    have Hbub := hid hbub
    have Hso := hid hso
    have Hk1 := hid hk1
    have Hk2 := hid hk2
    have HS := hid hs
    have hb' := Hb.out
    clear hs hbub hso
    by_cases hlt : k < X.length
    · have d1 : decide (ik < b) = true := decide_eq_true (by omega)
      have hlen : S.length = k := by rw [Hbub.out.len, List.length_take]; omega
      have hdrop := List.drop_eq_getElem_cons hlt
      obtain ⟨x, hx⟩ : ∃ x, X[k] = x := ⟨_, rfl⟩
      rw [hx] at hdrop
      have Hx : Hid (X[k]? = some x) := hid (by rw [List.getElem?_eq_getElem hlt, hx])
      have S0 := hid (show SW wr w0 g (p ++ S ++ x :: ([] ++ X.drop (k + 1) ++ q)) tl by
        have := HS.out
        rw [hdrop] at this
        simpa using this)
      have Hlt := hid hlt
      have Hlen := hid hlen
      have iks : IntKind.i64.wrap ((ik : Int) + 1) = ((ik + 1 : Nat) : Int) := (IntWalk.i64_in _ (by have := HN.out; have := Ha.out; omega)).trans (by omega)
      clear hx hdrop hlen hlt hik hk1 hk2 hb'
      go_upto_region 4 with (fail)
      go_loopw [9] (fun jv wi => ∃ (j : Nat) (S1 S2 : List IR), jv = .int .i64 j ∧ j = a + S1.length ∧ S1 ++ S2 = S ∧ (∀ s ∈ S2, ¬ LeR s x) ∧ SW wi w0 g (p ++ S1 ++ x :: (S2 ++ X.drop (k + 1) ++ q)) tl) (fun jv _ => (intOf jv).toNat)
      case atStart => exact ⟨ik, S, [], rfl, by rw [Hlen.out]; exact Hik.out, by simp, by simp, S0.out⟩
      case round =>
        obtain ⟨j, S1, S2, rfl, hj, he, h2, hs⟩ := hrel
        have Hj := hid hj
        have He := hid he
        have H2 := hid h2
        have T := hid hs
        have hjb : j ≤ 1000000 := by
          have := HN.out
          have := congrArg List.length he
          rw [List.length_append, Hlen.out] at this
          have := Hlt.out
          have := Ha.out
          omega
        clear hs he h2
        rcases List.eq_nil_or_concat S1 with rfl | ⟨S1', y, rfl⟩
        · have d2 : decide (a < j) = false := decide_eq_false (by simp at hj; omega)
          clear hj
          go_upto_region 4 with (fail)
          go_quiet (fail)
          go_wp2
          go_roundw
          case rel =>
            refine ⟨ik + 1, k + 1, [] ++ x :: S2, by go_num, by have := Hik.out; omega, by omega, .inl Hlt.out, ?_, ?_, ?_⟩
            · exact ins_bub Hx.out Hbub.out He.out H2.out
            · exact ins_sorted (by rw [He.out]; exact Hso.out) (fun _ h => by cases h) H2.out
            · have := T.out
              refine SW.drewN ?_ _
              simpa using this
          case measure => have := Hik.out; have := Hlt.out; have := Hb.out; simp [intOf]; omega
        · obtain ⟨j1, hj1⟩ : ∃ j1, j1 = a + S1'.length := ⟨_, rfl⟩
          have hjj : j = j1 + 1 := by simp at hj; omega
          have d2 : decide (a < j) = true := decide_eq_true (by omega)
          have sj : IntKind.i64.wrap ((j : Int) - 1) = (j1 : Int) := (IntWalk.i64_in _ (by omega)).trans (by omega)
          have tj : (j : Int) < (N : Int) := by
            have := HN.out
            have h := congrArg List.length He.out
            rw [List.length_append, List.concat_eq_append, List.length_append, Hlen.out, List.length_singleton] at h
            have := Hlt.out
            have := Ha.out
            omega
          have tj1 : (j1 : Int) < (N : Int) := by omega
          have Hj1 := hid hj1
          have Hjj := hid hjj
          have T2 := hid (show SW wr w0 g ((p ++ S1') ++ y :: x :: (S2 ++ X.drop (k + 1) ++ q)) tl by have := T.out; rw [List.concat_eq_append] at this; simpa using this)
          have T3 := hid (show SW wr w0 g ((p ++ S1' ++ [y]) ++ x :: (S2 ++ X.drop (k + 1) ++ q)) tl by have := T2.out; simpa using this)
          have u1 : j1 = (p ++ S1').length := by rw [List.length_append, ← Ha.out]; exact hj1
          have u2 : j = (p ++ S1' ++ [y]).length := by rw [List.length_append, ← u1]; exact hjj
          obtain ⟨y0, y1⟩ := T2.out.mid u1
          obtain ⟨x0, x1⟩ := T3.out.mid u2
          have U1 := hid u1
          clear hj hjj hj1 u1 u2
          have k0 := cell_regrown x0
          have k1 := cell_regrown x1
          have m0 := cell_regrown y0
          have m1 := cell_regrown y1
          have cS : ∀ d' os, Calls Tryz.prog 172 #[.agg #[.int .i64 x.it.w, .slice x.A x.it.s.length x.c], .agg #[.int .i64 y.it.w, .slice y.A y.it.s.length y.c]] (Sort.grow (redrawn wr d') os) fun e w'' => e = .returned (.int .i64 (cfR x y)) ∧ ∃ p : Regrown, w'' = Sort.grow (redrawn wr p.d) p.os := fun d' os => Calls.regrown_of (byWeight_any x y _)
          go_upto_region 4 with (fail)
          refine wp_region_quiet_below (by kernel_rfl) (by kernel_rfl) ?_
          repeat (go_big_quiet_step (with_reducible exact cS _ _))
          refine wpQuiet_nil ?_
          intro w5 hw5
          obtain ⟨⟨dq, osq⟩, hw5⟩ := hw5
          have hb5 : Below wr.heap.size wr w5 := by rw [hw5]; exact below_regrown wr dq osq
          have V2 := hid (T2.out.below hb5)
          have V3 := hid (T3.out.below hb5)
          clear hw5 hb5 k0 k1 m0 m1 cS x0 x1 y0 y1
          by_cases hc : cfR x y < 0
          · rw [show decide (cfR x y < 0) = true from decide_eq_true hc]
            have Hc := hid ((cfR_lt x y).1 hc)
            clear hc
            go_wp2_with fail
            clear V3
            obtain ⟨y0, y1⟩ := V2.out.mid U1.out
            have V4 := hid (show SW w5 w0 g ((p ++ S1' ++ [y]) ++ x :: (S2 ++ X.drop (k + 1) ++ q)) tl by have := V2.out; simpa using this)
            obtain ⟨x0, x1⟩ := V4.out.mid (i := j) (by rw [List.length_append, ← U1.out]; exact Hjj.out)
            have R1 := hid (V2.out.drew.exch U1.out Hjj.out)
            have R2 := hid (V2.out.drew.exch' U1.out Hjj.out)
            have fz := fun i => V2.out.1.frozen i
            have jl : j1 < j := by have := Hjj.out; omega
            clear V4 V2
            go_region
            all_goals (go_wp2; go_roundw)
            case rel =>
              refine ⟨j1, S1', y :: S2, by go_num, Hj1.out, by rw [← He.out, List.concat_eq_append]; simp, ?_, ?_⟩
              · intro s hs
                rcases List.mem_cons.1 hs with rfl | hs
                · exact Hc.out
                · exact H2.out s hs
              · first
                | exact R1.out
                | exact R2.out
            case measure => have := Hjj.out; simp [intOf]; omega
          · rw [show decide (cfR x y < 0) = false from decide_eq_false hc]
            have Hc := hid (show LeR y x from Classical.byContradiction fun h => hc ((cfR_lt x y).2 h))
            clear hc
            go_wp2
            go_roundw
            case rel =>
              refine ⟨ik + 1, k + 1, S1'.concat y ++ x :: S2, by go_num, by have := Hik.out; omega, by omega, .inl Hlt.out, ?_, ?_, ?_⟩
              · exact ins_bub Hx.out Hbub.out He.out H2.out
              · refine ins_sorted (by rw [He.out]; exact Hso.out) (fun s hs => ?_) H2.out
                have := Hso.out
                rw [← He.out, List.concat_eq_append] at this
                rw [List.concat_eq_append] at hs
                rcases List.mem_append.1 hs with hs | hs
                · exact ((List.pairwise_append.1 (List.pairwise_append.1 this).1).2.2 s hs y (by simp)).tr Hc.out
                · rw [List.mem_singleton.1 hs]; exact Hc.out
              · have := V2.out
                rw [List.concat_eq_append]
                simpa using this
            case measure => have := Hik.out; have := Hlt.out; have := Hb.out; simp [intOf]; omega
    · have d1 : decide (ik < b) = false := decide_eq_false (by omega)
      have hX : X.take k = X ∧ X.drop k = [] := ⟨List.take_of_length_le (by omega), List.drop_of_length_le (by omega)⟩
      go_wp2
      go_end0
      refine ⟨rfl, S, ?_, Hso.out, ?_⟩
      · have := Hbub.out; rwa [hX.1] at this
      · have := HS.out; rwa [hX.2, List.append_nil] at this
end Go.Proofs.YtoppjcmkhhkbmaaGreat

namespace Go.Proofs.YtoppjcmkhhkbmaaGreat
open Go.RowKit Mg

/-- a search by halves: below i no, from j on yes -/
structure Srch (f : Nat → Prop) (hi i j : Nat) : Prop where
  le : i ≤ j
  top : j ≤ hi
  no : ∀ t, t < i → ¬ f t
  yes : ∀ t, j ≤ t → t < hi → f t
theorem Srch.start (f : Nat → Prop) (hi : Nat) : Srch f hi 0 hi := ⟨Nat.zero_le _, Nat.le_refl _, fun t h => by omega, fun t h1 h2 => by omega⟩
theorem Srch.up {f : Nat → Prop} {hi i j h : Nat} (s : Srch f hi i j) (hm : ∀ s t, s ≤ t → t < hi → f s → f t) (h2 : h < j) (hf : ¬ f h) : Srch f hi (h + 1) j :=
  ⟨h2, s.top, fun t ht hft => hf (hm t h (by omega) (by have := s.top; omega) hft), s.yes⟩
theorem Srch.down {f : Nat → Prop} {hi i j h : Nat} (s : Srch f hi i j) (hm : ∀ s t, s ≤ t → t < hi → f s → f t) (h1 : i ≤ h) (h2 : h < j) (hf : f h) : Srch f hi i h :=
  ⟨h1, by have := s.top; omega, s.no, fun t ht hh => hm h t ht hh hf⟩
theorem LeR_of_not {x y : IR} (h : ¬ LeR x y) : LeR y x := (LeR.tot x y).resolve_left h
theorem sorted_getD {Y : List IR} (h : Y.Pairwise LeR) {s t : Nat} (hst : s ≤ t) (ht : t < Y.length) : LeR (Y.getD s default) (Y.getD t default) := by
  rcases Nat.lt_or_eq_of_le hst with h1 | rfl
  · rw [List.getD_eq_getElem?_getD, List.getD_eq_getElem?_getD, List.getElem?_eq_getElem (by omega), List.getElem?_eq_getElem ht]
    exact List.pairwise_iff_getElem.1 h s t (by omega) ht h1
  · exact (LeR.tot _ _).elim id id
theorem split_getD (Y : List IR) {t : Nat} (h : t < Y.length) : Y = Y.take t ++ Y.getD t default :: Y.drop (t + 1) := by
  rw [List.getD_eq_getElem?_getD, List.getElem?_eq_getElem h]
  show _ = _ ++ Y[t] :: _
  rw [← List.drop_eq_getElem_cons h, List.take_append_drop]
theorem mem_take_getD {Y : List IR} {k : Nat} (hk : k ≤ Y.length) {y : IR} (h : y ∈ Y.take k) : ∃ t, t < k ∧ Y.getD t default = y := by
  obtain ⟨t, ht, rfl⟩ := List.mem_take_iff_getElem.1 h
  exact ⟨t, by omega, by rw [List.getD_eq_getElem?_getD, List.getElem?_eq_getElem (by omega)]; rfl⟩
theorem mem_drop_getD {Y : List IR} {k : Nat} {y : IR} (h : y ∈ Y.drop k) : ∃ t, k ≤ t ∧ t < Y.length ∧ Y.getD t default = y := by
  obtain ⟨t, ht, rfl⟩ := List.mem_drop_iff_getElem.1 h
  exact ⟨k + t, by omega, by omega, by rw [List.getD_eq_getElem?_getD, List.getElem?_eq_getElem (by omega)]; rfl⟩

set_option maxRecDepth 100000 in
set_option maxHeartbeats 8000000 in
theorem symA_any (g cap N a m b : Nat) (p Y q : List IR) (x : IR) (tl : List Value) (w0 W : World) (h : SW W w0 g (p ++ x :: (Y ++ q)) tl) (ha : a = p.length) (hm : m = a + 1) (hb : b = m + Y.length) (hN : N = p.length + 1 + Y.length + q.length) (hN2 : N ≤ 1000000) (hy : Y.Pairwise LeR) :
    Calls Tryz.prog 200 #[.slice (some ⟨g, 0, none⟩) N cap, .int .i64 (a : Nat), .int .i64 (m : Nat), .int .i64 (b : Nat), .func (.func 172) #[] #[]] W (SEnd p (x :: Y) q tl w0 g) := by
  have H := hid h
  have Ha := hid ha
  have Hm := hid hm
  have Hb := hid hb
  have HN := hid hN
  have Hy := hid hy
  have s1 : IntKind.i64.wrap ((m : Int) - (a : Int)) = 1 := (IntWalk.i64_in _ (by omega)).trans (by omega)
  have Hmono := hid (show ∀ s t, s ≤ t → t < Y.length → LeR x (Y.getD s default) → LeR x (Y.getD t default) from fun s t h1 h2 h3 => h3.tr (sorted_getD hy h1 h2))
  clear h ha hm hb hN hy
  go_enter Tryz.func200, Tryz.ntmps200
  go_upto_region 3 with (fail)
  go_loopw [10, 11] (fun iv jv wr => ∃ (i j i' j' : Nat), iv = .int .i64 i ∧ jv = .int .i64 j ∧ i = m + i' ∧ j = m + j' ∧ Srch (fun t => LeR x (Y.getD t default)) Y.length i' j' ∧ SW wr w0 g (p ++ x :: (Y ++ q)) tl) (fun iv jv _ => (intOf jv).toNat - (intOf iv).toNat)
  case atStart => exact ⟨m, b, 0, Y.length, rfl, rfl, rfl, Hb.out, .start _ _, H.out⟩
  case round =>
    obtain ⟨i, j, i', j', rfl, rfl, hi, hj, hs, hsw⟩ := hrel
    have S := hid hsw
    have Hs := hid hs
    have hle := hs.le
    have htop := hs.top
    clear hsw hs
    by_cases hlt : i' < j'
    · have d1 : decide (i < j) = true := decide_eq_true (by omega)
      obtain ⟨h, hh⟩ : ∃ h, h = (i + j) / 2 := ⟨_, rfl⟩
      obtain ⟨h', hh'⟩ : ∃ h', h' = (i' + j') / 2 := ⟨_, rfl⟩
      have e1 : h = m + h' := by omega
      have hhl : h' < Y.length := by omega
      have hb1 : i + j ≤ 4000000 := by have := HN.out; have := Ha.out; have := Hm.out; omega
      have t1 : IntKind.i64.wrap ((i : Int) + (j : Int)) = (i : Int) + (j : Int) := IntWalk.i64_in _ (by omega)
      have t2 : IntKind.i64.wrap ((h : Int) + 1) = ((h + 1 : Nat) : Int) := (IntWalk.i64_in _ (by omega)).trans (by omega)
      have th : (h : Int) < (N : Int) := by have := HN.out; have := Ha.out; have := Hm.out; omega
      have ta : (a : Int) < (N : Int) := by have := HN.out; have := Ha.out; omega
      have eh : ((i : Int) + (j : Int)) / 2 = (h : Int) := by omega
      have He1 := hid e1
      have Hhl := hid hhl
      have Hi := hid hi
      have Hj := hid hj
      have Hhh := hid (show i' ≤ h' ∧ h' < j' by omega)
      obtain ⟨x0, x1⟩ := S.out.mid Ha.out
      obtain ⟨y, hy⟩ : ∃ y, Y.getD h' default = y := ⟨_, rfl⟩
      have S1 := hid (show SW wr w0 g ((p ++ x :: Y.take h') ++ y :: (Y.drop (h' + 1) ++ q)) tl by
        have := S.out
        rw [split_getD Y hhl, hy] at this
        simpa using this)
      obtain ⟨y0, y1⟩ := S1.out.mid (i := h) (by have := Ha.out; have := Hm.out; simp; omega)
      have HY := hid hy
      clear hh hh' e1 hhl hi hj hy hle htop S1
      go_upto_region 5 with (fail)
      have k0 := cell_regrown x0
      have k1 := cell_regrown x1
      have m0 := cell_regrown y0
      have m1 := cell_regrown y1
      have cS : ∀ d' os, Calls Tryz.prog 172 #[.agg #[.int .i64 y.it.w, .slice y.A y.it.s.length y.c], .agg #[.int .i64 x.it.w, .slice x.A x.it.s.length x.c]] (Sort.grow (redrawn wr d') os) fun e w'' => e = .returned (.int .i64 (cfR y x)) ∧ ∃ p : Regrown, w'' = Sort.grow (redrawn wr p.d) p.os := fun d' os => Calls.regrown_of (byWeight_any y x _)
      refine wp_region_quiet_below (by kernel_rfl) (by kernel_rfl) ?_
      repeat (go_big_quiet_step (with_reducible exact cS _ _))
      refine wpQuiet_nil ?_
      intro w5 hw5
      obtain ⟨⟨dq, osq⟩, hw5⟩ := hw5
      have hb5 : Below wr.heap.size wr w5 := by rw [hw5]; exact below_regrown wr dq osq
      clear hw5 k0 k1 m0 m1 cS x0 x1 y0 y1
      have S5 := hid (S.out.below hb5)
      clear hb5 S eh
      by_cases hc : cfR y x < 0
      · rw [show decide (cfR y x < 0) = true from decide_eq_true hc]
        have Hc := hid ((cfR_lt y x).1 hc)
        clear hc
        go_wp2
        go_roundw
        case rel => exact ⟨h + 1, j, h' + 1, j', by go_num, rfl, by have := He1.out; omega, Hj.out, Hs.out.up Hmono.out Hhh.out.2 (by show ¬ LeR x (Y.getD h' default); rw [HY.out]; exact Hc.out), S5.out⟩
        case measure => have := Hhh.out; have := Hi.out; have := Hj.out; have := He1.out; simp [intOf]; omega
      · rw [show decide (cfR y x < 0) = false from decide_eq_false hc]
        have Hc := hid (show LeR x y from Classical.byContradiction fun h => hc ((cfR_lt y x).2 h))
        clear hc
        go_wp2
        go_roundw
        case rel => exact ⟨i, h, i', h', rfl, rfl, Hi.out, He1.out, Hs.out.down Hmono.out Hhh.out.1 Hhh.out.2 (by show LeR x (Y.getD h' default); rw [HY.out]; exact Hc.out), S5.out⟩
        case measure => have := Hhh.out; have := Hi.out; have := Hj.out; have := He1.out; simp [intOf]; omega
    · obtain rfl : i' = j' := by omega
      have d1 : decide (i < j) = false := decide_eq_false (by omega)
      obtain ⟨r, hr⟩ : ∃ r, r = a + i' := ⟨_, rfl⟩
      have t3 : IntKind.i64.wrap ((i : Int) - 1) = (r : Int) := (IntWalk.i64_in _ (by have := HN.out; have := Ha.out; have := Hm.out; omega)).trans (by have := Hm.out; omega)
      have Hr := hid hr
      have hrb : r ≤ 1000000 := by have := HN.out; have := Ha.out; omega
      have Htop := hid htop
      clear hi hj hr hle htop
      go_upto_region 9 with (fail)
      go_loopw [13] (fun kv wi => ∃ (k k' : Nat), kv = .int .i64 k ∧ k = a + k' ∧ k' ≤ i' ∧ SW wi w0 g ((p ++ Y.take k') ++ x :: (Y.drop k' ++ q)) tl) (fun kv _ => r - (intOf kv).toNat)
      case atStart => exact ⟨a, 0, rfl, rfl, Nat.zero_le _, by have := S.out; simpa using this⟩
      case round =>
        obtain ⟨k, k', rfl, hk, hk', hsw⟩ := hrel
        have T := hid hsw
        have Hk := hid hk
        clear hsw
        by_cases hlt : k' < i'
        · have d2 : decide (k < r) = true := decide_eq_true (by have := Hr.out; omega)
          obtain ⟨k1, hk1⟩ : ∃ k1, k1 = k + 1 := ⟨_, rfl⟩
          have t4 : IntKind.i64.wrap ((k : Int) + 1) = (k1 : Int) := (IntWalk.i64_in _ (by have := Hr.out; omega)).trans (by omega)
          have jl : k < k1 := by omega
          have tk1 : (k1 : Int) < (N : Int) := by have := HN.out; have := Ha.out; have := Htop.out; omega
          have tk : (k : Int) < (N : Int) := by omega
          have hkl : k' < Y.length := by have := Htop.out; omega
          have u1 : k = (p ++ Y.take k').length := by have := Ha.out; simp; omega
          obtain ⟨y, hy⟩ : ∃ y, Y.getD k' default = y := ⟨_, rfl⟩
          have ed : Y.drop k' = y :: Y.drop (k' + 1) := by
            have := List.drop_eq_getElem_cons hkl
            rwa [show Y[k'] = y by rw [← hy, List.getD_eq_getElem?_getD, List.getElem?_eq_getElem hkl]; rfl] at this
          have et : Y.take (k' + 1) = Y.take k' ++ [y] := by
            rw [List.take_succ_eq_append_getElem hkl, show Y[k'] = y by rw [← hy, List.getD_eq_getElem?_getD, List.getElem?_eq_getElem hkl]; rfl]
          have T1 := hid (show SW wr w0 g ((p ++ Y.take k') ++ x :: y :: (Y.drop (k' + 1) ++ q)) tl by have := T.out; rw [ed] at this; exact this)
          have T2 := hid (show SW wr w0 g ((p ++ Y.take k' ++ [x]) ++ y :: (Y.drop (k' + 1) ++ q)) tl by have := T1.out; simpa using this)
          obtain ⟨x0, x1⟩ := T1.out.mid u1
          obtain ⟨y0, y1⟩ := T2.out.mid (i := k1) (by rw [List.length_append, ← u1]; exact hk1)
          have R1 := hid (T1.out.drew.exch u1 hk1)
          have R2 := hid (T1.out.drew.exch' u1 hk1)
          have fz := fun i => T1.out.1.frozen i
          have Hk1 := hid hk1
          have Het := hid et
          have Hlt := hid hlt
          clear T T1 T2 hk hk' hk1 hkl u1 hy ed et hlt
          go_upto_region 11 with (fail)
          go_region
          all_goals (go_wp2; go_roundw)
          case rel =>
            refine ⟨k1, k' + 1, by go_num, by have := Hk.out; have := Hk1.out; omega, Hlt.out, ?_⟩
            rw [Het.out, ← List.append_assoc, List.append_assoc (p ++ Y.take k')]
            first
            | exact R1.out
            | exact R2.out
          case measure => have := Hlt.out; have := Hk.out; have := Hr.out; simp [intOf]; omega
        · obtain rfl : k' = i' := by omega
          have d2 : decide (k < r) = false := decide_eq_false (by have := Hr.out; omega)
          clear hk
          go_wp2
          go_end0
          have hs := Hs.out
          refine ⟨rfl, Y.take k' ++ x :: Y.drop k', ?_, ?_, by have := T.out; simpa using this⟩
          · have := (Bub.one x (Y.take k') (fun y hy => by obtain ⟨t, ht, rfl⟩ := mem_take_getD Htop.out hy; exact hs.no t ht)).ctx [] (Y.drop k')
            simpa using this
          · refine List.pairwise_append.2 ⟨Hy.out.sublist (List.take_sublist _ _), List.pairwise_cons.2 ⟨fun z hz => by obtain ⟨t, h1, h2, rfl⟩ := mem_drop_getD hz; exact hs.yes t h1 h2, Hy.out.sublist (List.drop_sublist _ _)⟩, fun s hs1 z hz => ?_⟩
            have hsx : LeR s x := by obtain ⟨t, ht, rfl⟩ := mem_take_getD Htop.out hs1; exact LeR_of_not (hs.no t ht)
            rcases List.mem_cons.1 hz with rfl | hz
            · exact hsx
            · obtain ⟨t, h1, h2, rfl⟩ := mem_drop_getD hz
              exact hsx.tr (hs.yes t h1 h2)
end Go.Proofs.YtoppjcmkhhkbmaaGreat

namespace Go.Proofs.YtoppjcmkhhkbmaaGreat
open Go.RowKit Mg

set_option maxRecDepth 100000 in
set_option maxHeartbeats 8000000 in
theorem symB_any (g cap N a m b : Nat) (p X q : List IR) (y : IR) (tl : List Value) (w0 W : World) (h : SW W w0 g (p ++ (X ++ y :: q)) tl) (ha : a = p.length) (hm : m = a + X.length) (hb : b = m + 1) (hN : N = p.length + X.length + 1 + q.length) (hN2 : N ≤ 1000000) (hx : X.Pairwise LeR) (hx2 : X.length ≠ 1) :
    Calls Tryz.prog 200 #[.slice (some ⟨g, 0, none⟩) N cap, .int .i64 (a : Nat), .int .i64 (m : Nat), .int .i64 (b : Nat), .func (.func 172) #[] #[]] W (SEnd p (X ++ [y]) q tl w0 g) := by
  have H := hid h
  have Ha := hid ha
  have Hm := hid hm
  have Hb := hid hb
  have HN := hid hN
  have Hx := hid hx
  obtain ⟨xn, hxn⟩ : ∃ xn, xn = X.length := ⟨_, rfl⟩
  have s1 : IntKind.i64.wrap ((m : Int) - (a : Int)) = (xn : Int) := (IntWalk.i64_in _ (by omega)).trans (by omega)
  have s2 : IntKind.i64.wrap ((b : Int) - (m : Int)) = 1 := (IntWalk.i64_in _ (by omega)).trans (by omega)
  have s3 : ((xn : Int) == 1) = false := by rw [beq_eq_false_iff_ne]; omega
  have Hmono := hid (show ∀ s t, s ≤ t → t < X.length → ¬ LeR (X.getD s default) y → ¬ LeR (X.getD t default) y from fun s t h1 h2 h3 h4 => h3 ((sorted_getD hx h1 h2).tr h4))
  clear h ha hm hb hN hx hxn
  go_enter Tryz.func200, Tryz.ntmps200
  go_upto_region 15 with (fail)
  go_loopw [14, 15] (fun iv jv wr => ∃ (i j i' j' : Nat), iv = .int .i64 i ∧ jv = .int .i64 j ∧ i = a + i' ∧ j = a + j' ∧ Srch (fun t => ¬ LeR (X.getD t default) y) X.length i' j' ∧ SW wr w0 g (p ++ (X ++ y :: q)) tl) (fun iv jv _ => (intOf jv).toNat - (intOf iv).toNat)
  case atStart => exact ⟨a, m, 0, X.length, rfl, rfl, rfl, Hm.out, .start _ _, H.out⟩
  case round =>
    obtain ⟨i, j, i', j', rfl, rfl, hi, hj, hs, hsw⟩ := hrel
    have S := hid hsw
    have Hs := hid hs
    have hle := hs.le
    have htop := hs.top
    clear hsw hs
    by_cases hlt : i' < j'
    · have d1 : decide (i < j) = true := decide_eq_true (by omega)
      obtain ⟨h, hh⟩ : ∃ h, h = (i + j) / 2 := ⟨_, rfl⟩
      obtain ⟨h', hh'⟩ : ∃ h', h' = (i' + j') / 2 := ⟨_, rfl⟩
      have e1 : h = a + h' := by omega
      have hhl : h' < X.length := by omega
      have hb1 : i + j ≤ 4000000 := by have := HN.out; have := Ha.out; have := Hm.out; omega
      have t1 : IntKind.i64.wrap ((i : Int) + (j : Int)) = (i : Int) + (j : Int) := IntWalk.i64_in _ (by omega)
      have t2 : IntKind.i64.wrap ((h : Int) + 1) = ((h + 1 : Nat) : Int) := (IntWalk.i64_in _ (by omega)).trans (by omega)
      have th : (h : Int) < (N : Int) := by have := HN.out; have := Ha.out; have := Hm.out; omega
      have ta : (m : Int) < (N : Int) := by have := HN.out; have := Ha.out; have := Hm.out; omega
      have eh : ((i : Int) + (j : Int)) / 2 = (h : Int) := by omega
      have He1 := hid e1
      have Hhl := hid hhl
      have Hi := hid hi
      have Hj := hid hj
      have Hhh := hid (show i' ≤ h' ∧ h' < j' by omega)
      have S0 := hid (show SW wr w0 g ((p ++ X) ++ y :: q) tl by have := S.out; simpa using this)
      obtain ⟨x0, x1⟩ := S0.out.mid (i := m) (by have := Ha.out; have := Hm.out; simp; omega)
      obtain ⟨x, hx⟩ : ∃ x, X.getD h' default = x := ⟨_, rfl⟩
      have S1 := hid (show SW wr w0 g ((p ++ X.take h') ++ x :: (X.drop (h' + 1) ++ y :: q)) tl by
        have := S.out
        rw [split_getD X hhl, hx] at this
        simpa using this)
      obtain ⟨y0, y1⟩ := S1.out.mid (i := h) (by have := Ha.out; have := Hm.out; simp; omega)
      have HX := hid hx
      clear hh hh' e1 hhl hi hj hx hle htop S1 S0
      go_upto_region 17 with (fail)
      have k0 := cell_regrown x0
      have k1 := cell_regrown x1
      have m0 := cell_regrown y0
      have m1 := cell_regrown y1
      have cS : ∀ d' os, Calls Tryz.prog 172 #[.agg #[.int .i64 y.it.w, .slice y.A y.it.s.length y.c], .agg #[.int .i64 x.it.w, .slice x.A x.it.s.length x.c]] (Sort.grow (redrawn wr d') os) fun e w'' => e = .returned (.int .i64 (cfR y x)) ∧ ∃ p : Regrown, w'' = Sort.grow (redrawn wr p.d) p.os := fun d' os => Calls.regrown_of (byWeight_any y x _)
      refine wp_region_quiet_below (by kernel_rfl) (by kernel_rfl) ?_
      repeat (go_big_quiet_step (with_reducible exact cS _ _))
      refine wpQuiet_nil ?_
      intro w5 hw5
      obtain ⟨⟨dq, osq⟩, hw5⟩ := hw5
      have hb5 : Below wr.heap.size wr w5 := by rw [hw5]; exact below_regrown wr dq osq
      clear hw5 k0 k1 m0 m1 cS x0 x1 y0 y1
      have S5 := hid (S.out.below hb5)
      clear hb5 S eh
      by_cases hc : cfR y x < 0
      · rw [show decide (cfR y x < 0) = true from decide_eq_true hc]
        have Hc := hid ((cfR_lt y x).1 hc)
        clear hc
        go_wp2
        go_roundw
        case rel => exact ⟨i, h, i', h', rfl, rfl, Hi.out, He1.out, Hs.out.down Hmono.out Hhh.out.1 Hhh.out.2 (by show ¬ LeR (X.getD h' default) y; rw [HX.out]; exact Hc.out), S5.out⟩
        case measure => have := Hhh.out; have := Hi.out; have := Hj.out; have := He1.out; simp [intOf]; omega
      · rw [show decide (cfR y x < 0) = false from decide_eq_false hc]
        have Hc := hid (show LeR x y from Classical.byContradiction fun h => hc ((cfR_lt y x).2 h))
        clear hc
        go_wp2
        go_roundw
        case rel => exact ⟨h + 1, j, h' + 1, j', by go_num, rfl, by have := He1.out; omega, Hj.out, Hs.out.up Hmono.out Hhh.out.2 (by show ¬ ¬ LeR (X.getD h' default) y; rw [HX.out]; exact fun h => h Hc.out), S5.out⟩
        case measure => have := Hhh.out; have := Hi.out; have := Hj.out; have := He1.out; simp [intOf]; omega
    · obtain rfl : i' = j' := by omega
      have d1 : decide (i < j) = false := decide_eq_false (by omega)
      have Hi := hid hi
      have Htop := hid htop
      have him : i ≤ 1000000 := by have := HN.out; have := Ha.out; omega
      clear hi hj hle htop
      go_upto_region 21 with (fail)
      go_loopw [17] (fun kv wi => ∃ (k k' : Nat), kv = .int .i64 k ∧ k = a + k' ∧ i' ≤ k' ∧ k' ≤ X.length ∧ SW wi w0 g ((p ++ X.take k') ++ y :: (X.drop k' ++ q)) tl) (fun kv _ => (intOf kv).toNat)
      case atStart => exact ⟨m, X.length, rfl, Hm.out, Htop.out, Nat.le_refl _, by have := S.out; simpa using this⟩
      case round =>
        obtain ⟨k, k', rfl, hk, hk', hkt, hsw⟩ := hrel
        have T := hid hsw
        have Hk := hid hk
        clear hsw
        by_cases hlt : i' < k'
        · have d2 : decide (i < k) = true := decide_eq_true (by have := Hi.out; omega)
          obtain ⟨k2, hk2⟩ : ∃ k2, k' = k2 + 1 := ⟨k' - 1, by omega⟩
          subst hk2
          obtain ⟨k1, hk1⟩ : ∃ k1, k1 = a + k2 := ⟨_, rfl⟩
          have hkb : k ≤ 1000000 := by have := HN.out; have := Ha.out; omega
          have t4 : IntKind.i64.wrap ((k : Int) - 1) = (k1 : Int) := (IntWalk.i64_in _ (by omega)).trans (by omega)
          have jl : k1 < k := by omega
          have tk : (k : Int) < (N : Int) := by have := HN.out; have := Ha.out; omega
          have tk1 : (k1 : Int) < (N : Int) := by omega
          have hkl : k2 < X.length := by omega
          have u1 : k1 = (p ++ X.take k2).length := by have := Ha.out; simp; omega
          have hk3 : k = k1 + 1 := by omega
          obtain ⟨x, hx⟩ : ∃ x, X.getD k2 default = x := ⟨_, rfl⟩
          have ed : X.drop k2 = x :: X.drop (k2 + 1) := by
            have := List.drop_eq_getElem_cons hkl
            rwa [show X[k2] = x by rw [← hx, List.getD_eq_getElem?_getD, List.getElem?_eq_getElem hkl]; rfl] at this
          have et : X.take (k2 + 1) = X.take k2 ++ [x] := by
            rw [List.take_succ_eq_append_getElem hkl, show X[k2] = x by rw [← hx, List.getD_eq_getElem?_getD, List.getElem?_eq_getElem hkl]; rfl]
          have T1 := hid (show SW wr w0 g ((p ++ X.take k2) ++ x :: y :: (X.drop (k2 + 1) ++ q)) tl by have := T.out; rw [et] at this; simpa using this)
          have T2 := hid (show SW wr w0 g ((p ++ X.take k2 ++ [x]) ++ y :: (X.drop (k2 + 1) ++ q)) tl by have := T1.out; simpa using this)
          obtain ⟨x0, x1⟩ := T1.out.mid u1
          obtain ⟨y0, y1⟩ := T2.out.mid (i := k) (by rw [List.length_append, ← u1]; exact hk3)
          have R1 := hid (T1.out.drew.exch u1 hk3)
          have R2 := hid (T1.out.drew.exch' u1 hk3)
          have fz := fun i => T1.out.1.frozen i
          have Hk1 := hid hk1
          have Hed := hid ed
          have Hlt := hid hlt
          have Hkt := hid hkt
          clear T T1 T2 hk hk' hk1 hkl u1 hx ed et hlt hkt hk3
          go_upto_region 23 with (fail)
          go_region
          all_goals (go_wp2; go_roundw)
          case rel =>
            refine ⟨k1, k2, by go_num, Hk1.out, by have := Hlt.out; omega, by have := Hkt.out; omega, ?_⟩
            rw [Hed.out]
            first
            | exact R1.out
            | exact R2.out
          case measure => have := Hk.out; have := Hk1.out; simp [intOf]; omega
        · obtain rfl : i' = k' := by omega
          have d2 : decide (i < k) = false := decide_eq_false (by have := Hi.out; omega)
          clear hk
          go_wp2
          go_end0
          have hs := Hs.out
          refine ⟨rfl, X.take i' ++ y :: X.drop i', ?_, ?_, by have := T.out; simpa using this⟩
          · have := (Bub.turn (X.drop i') [y] (fun x hx z hz => by rw [List.mem_singleton.1 hz]; obtain ⟨t, h1, h2, rfl⟩ := mem_drop_getD hx; exact hs.yes t h1 h2)).ctx (X.take i') []
            rw [List.append_nil, ← List.append_assoc, List.take_append_drop] at this
            simpa using this
          · have hle : ∀ s ∈ X.take i', LeR s y := fun s hs1 => by obtain ⟨t, ht, rfl⟩ := mem_take_getD Htop.out hs1; exact Classical.not_not.1 (hs.no t ht)
            have hgt : ∀ s ∈ X.drop i', LeR y s := fun s hs1 => by obtain ⟨t, h1, h2, rfl⟩ := mem_drop_getD hs1; exact LeR_of_not (hs.yes t h1 h2)
            refine List.pairwise_append.2 ⟨Hx.out.sublist (List.take_sublist _ _), List.pairwise_cons.2 ⟨hgt, Hx.out.sublist (List.drop_sublist _ _)⟩, fun s hs1 z hz => ?_⟩
            rcases List.mem_cons.1 hz with rfl | hz
            · exact hle s hs1
            · exact (hle s hs1).tr (hgt z hz)
end Go.Proofs.YtoppjcmkhhkbmaaGreat

namespace Go.Proofs.YtoppjcmkhhkbmaaGreat
open Go.RowKit Mg

def SymF (X Y : List IR) (d lo : Nat) : Nat → Prop := fun t => lo ≤ t ∧ ¬ LeR (X.getD t default) (Y.getD (d - 1 - t) default)
theorem symF_mono {X Y : List IR} {d lo : Nat} (hx : X.Pairwise LeR) (hy : Y.Pairwise LeR) (hd : d = (X.length + Y.length) / 2) (hlo : lo = X.length + d - (X.length + Y.length)) :
    ∀ s t, s ≤ t → t < min d X.length → SymF X Y d lo s → SymF X Y d lo t := by
  intro s t hst ht ⟨h1, h2⟩
  refine ⟨by omega, fun h3 => h2 ?_⟩
  have e1 := sorted_getD hx hst (by omega)
  have e2 := sorted_getD hy (s := d - 1 - t) (t := d - 1 - s) (by omega) (by omega)
  exact (e1.tr h3).tr e2
theorem sym_low {X Y : List IR} {d lo s : Nat} (hx : X.Pairwise LeR) (hy : Y.Pairwise LeR) (hd : d = (X.length + Y.length) / 2) (hlo : lo = X.length + d - (X.length + Y.length)) (hs : Srch (SymF X Y d lo) (min d X.length) s s) (hl : lo ≤ s) :
    ∀ x ∈ X.drop s, ∀ y ∈ Y.take (d - s), ¬ LeR x y := by
  intro x hx1 y hy1 h
  have htop := hs.top
  obtain ⟨t, h1, h2, rfl⟩ := mem_drop_getD hx1
  obtain ⟨u, h3, rfl⟩ := mem_take_getD (by omega) hy1
  refine (hs.yes s (Nat.le_refl _) (by omega)).2 ?_
  exact ((sorted_getD hx h1 h2).tr h).tr (sorted_getD hy (s := u) (t := d - 1 - s) (by omega) (by omega))
theorem sym_high {X Y : List IR} {d lo s : Nat} (hx : X.Pairwise LeR) (hy : Y.Pairwise LeR) (hd : d = (X.length + Y.length) / 2) (hlo : lo = X.length + d - (X.length + Y.length)) (hs : Srch (SymF X Y d lo) (min d X.length) s s) (hl : lo ≤ s) :
    ∀ x ∈ X.take s, ∀ y ∈ Y.drop (d - s), LeR x y := by
  intro x hx1 y hy1
  have htop := hs.top
  obtain ⟨t, h3, rfl⟩ := mem_take_getD (by omega) hx1
  obtain ⟨u, h1, h2, rfl⟩ := mem_drop_getD hy1
  have hn := hs.no (s - 1) (by omega)
  have hle : LeR (X.getD (s - 1) default) (Y.getD (d - 1 - (s - 1)) default) := Classical.byContradiction fun h => hn ⟨by omega, h⟩
  exact ((sorted_getD hx (s := t) (t := s - 1) (by omega) (by omega)).tr hle).tr (sorted_getD hy (by omega) h2)
/-- the two halves, each brought to order, are the whole in order -/
theorem sym_join {X Y L R : List IR} {d s : Nat} (hx : X.Pairwise LeR) (hy : Y.Pairwise LeR) (h1 : ∀ x ∈ X.drop s, ∀ y ∈ Y.take (d - s), ¬ LeR x y) (h2 : ∀ x ∈ X.take s, ∀ y ∈ Y.drop (d - s), LeR x y)
    (hL : Bub (X.take s ++ Y.take (d - s)) L) (hR : Bub (X.drop s ++ Y.drop (d - s)) R) (sL : L.Pairwise LeR) (sR : R.Pairwise LeR) : Bub (X ++ Y) (L ++ R) ∧ (L ++ R).Pairwise LeR := by
  constructor
  · have e := (Bub.turn _ _ h1).ctx (X.take s) (Y.drop (d - s))
    have ex : X.take s ++ (X.drop s ++ Y.take (d - s)) ++ Y.drop (d - s) = X ++ Y := by
      rw [← List.append_assoc, List.take_append_drop, List.append_assoc, List.take_append_drop]
    rw [ex] at e
    refine e.tr ?_
    have := hL.both hR
    simpa using this
  · refine List.pairwise_append.2 ⟨sL, sR, fun l hl r hr => ?_⟩
    have hl := hL.perm.mem_iff.1 hl
    have hr := hR.perm.mem_iff.1 hr
    have px : ∀ l ∈ X.take s, ∀ r ∈ X.drop s, LeR l r := by
      have := hx
      rw [← List.take_append_drop s X] at this
      exact (List.pairwise_append.1 this).2.2
    have py : ∀ l ∈ Y.take (d - s), ∀ r ∈ Y.drop (d - s), LeR l r := by
      have := hy
      rw [← List.take_append_drop (d - s) Y] at this
      exact (List.pairwise_append.1 this).2.2
    rcases List.mem_append.1 hl with hl | hl <;> rcases List.mem_append.1 hr with hr | hr
    · exact px l hl r hr
    · exact h2 l hl r hr
    · exact LeR_of_not (h1 r hr l hl)
    · exact py l hl r hr

def SymOk (n : Nat) : Prop := ∀ (g cap N a m b : Nat) (p X Y q : List IR) (tl : List Value) (w0 W : World), X.length ≠ 0 → Y.length ≠ 0 → X.length + Y.length ≤ n → X.Pairwise LeR → Y.Pairwise LeR → SW W w0 g (p ++ (X ++ Y) ++ q) tl → a = p.length → m = a + X.length → b = m + Y.length → N = p.length + X.length + Y.length + q.length → N ≤ 1000000 →
    Calls Tryz.prog 200 #[.slice (some ⟨g, 0, none⟩) N cap, .int .i64 (a : Nat), .int .i64 (m : Nat), .int .i64 (b : Nat), .func (.func 172) #[] #[]] W (SEnd p (X ++ Y) q tl w0 g)
theorem sym_c1 {a xn yn m b d nn mid : Nat} (hm : m = a + xn) (hb : b = m + yn) (hd : d = (xn + yn) / 2) (hmid : mid = a + d) (hnn : nn = mid + m) (hl : b ≤ 1000000) (h : mid < m) : IntKind.i64.wrap ((nn : Int) - (b : Int)) = ((a + (xn + d - (xn + yn)) : Nat) : Int) ∧ a + min d xn = mid :=
  ⟨(IntWalk.i64_in _ (by omega)).trans (by omega), by rw [Nat.min_eq_left (by omega)]; omega⟩
theorem sym_c2 {a xn yn m d mid : Nat} (hm : m = a + xn) (hd : d = (xn + yn) / 2) (hmid : mid = a + d) (h : ¬ mid < m) : a + (xn + d - (xn + yn)) = a ∧ a + min d xn = m :=
  ⟨by omega, by rw [Nat.min_eq_right (by omega)]; omega⟩
theorem sym_st (X Y : List IR) {d lo : Nat} (hd : d = (X.length + Y.length) / 2) (hlo : lo = X.length + d - (X.length + Y.length)) : Srch (SymF X Y d lo) (min d X.length) lo (min d X.length) :=
  ⟨by rw [Nat.le_min]; omega, Nat.le_refl _, fun t ht hf => by have := hf.1; omega, fun t h1 h2 => by omega⟩
set_option maxRecDepth 100000 in
set_option maxHeartbeats 16000000 in
theorem symG_any (n : Nat) (IH : SymOk n) (g cap N a m b : Nat) (p X Y q : List IR) (tl : List Value) (w0 W : World) (hx2 : 2 ≤ X.length) (hy2 : 2 ≤ Y.length) (hn : X.length + Y.length ≤ n + 1) (hx : X.Pairwise LeR) (hy : Y.Pairwise LeR) (h : SW W w0 g (p ++ (X ++ Y) ++ q) tl) (ha : a = p.length) (hm : m = a + X.length) (hb : b = m + Y.length) (hN : N = p.length + X.length + Y.length + q.length) (hN2 : N ≤ 1000000) :
    Calls Tryz.prog 200 #[.slice (some ⟨g, 0, none⟩) N cap, .int .i64 (a : Nat), .int .i64 (m : Nat), .int .i64 (b : Nat), .func (.func 172) #[] #[]] W (SEnd p (X ++ Y) q tl w0 g) := by
  have H := hid h
  have Ha := hid ha
  have Hm := hid hm
  have Hb := hid hb
  have HN := hid hN
  have Hx := hid hx
  have Hy := hid hy
  have Hn := hid hn
  have Hx2 := hid hx2
  have Hy2 := hid hy2
  obtain ⟨xn, hxn⟩ : ∃ xn, xn = X.length := ⟨_, rfl⟩
  obtain ⟨yn, hyn⟩ : ∃ yn, yn = Y.length := ⟨_, rfl⟩
  obtain ⟨d, hd⟩ : ∃ d, d = (X.length + Y.length) / 2 := ⟨_, rfl⟩
  obtain ⟨mid, hmid⟩ : ∃ mid, mid = a + d := ⟨_, rfl⟩
  obtain ⟨nn, hnn⟩ : ∃ nn, nn = mid + m := ⟨_, rfl⟩
  obtain ⟨pp, hpp⟩ : ∃ pp, pp = nn - 1 := ⟨_, rfl⟩
  have s1 : IntKind.i64.wrap ((m : Int) - (a : Int)) = (xn : Int) := (IntWalk.i64_in _ (by omega)).trans (by omega)
  have s2 : IntKind.i64.wrap ((b : Int) - (m : Int)) = (yn : Int) := (IntWalk.i64_in _ (by omega)).trans (by omega)
  have s3 : ((xn : Int) == 1) = false := by rw [beq_eq_false_iff_ne]; omega
  have s4 : ((yn : Int) == 1) = false := by rw [beq_eq_false_iff_ne]; omega
  have s5 : IntKind.i64.wrap ((a : Int) + (b : Int)) = (a : Int) + (b : Int) := IntWalk.i64_in _ (by omega)
  have s6 : ((a : Int) + (b : Int)) / 2 = (mid : Int) := by omega
  have s7 : IntKind.i64.wrap ((mid : Int) + (m : Int)) = (nn : Int) := (IntWalk.i64_in _ (by omega)).trans (by omega)
  have s8 : IntKind.i64.wrap ((nn : Int) - 1) = (pp : Int) := (IntWalk.i64_in _ (by omega)).trans (by omega)
  have hsb : a + b ≤ 4000000 := by omega
  have hbl : b ≤ 1000000 := by omega
  obtain ⟨lo, hlo⟩ : ∃ lo, lo = X.length + d - (X.length + Y.length) := ⟨_, rfl⟩
  obtain ⟨al, hal⟩ : ∃ al, al = a + lo := ⟨_, rfl⟩
  obtain ⟨r0, hr0⟩ : ∃ r0, r0 = a + min d X.length := ⟨_, rfl⟩
  have C1 := hid (show mid < m → IntKind.i64.wrap ((nn : Int) - (b : Int)) = (al : Int) ∧ r0 = mid from fun h => by rw [hal, hr0, hlo]; exact sym_c1 hm hb hd hmid hnn hbl h)
  have C2 := hid (show ¬ mid < m → al = a ∧ r0 = m from fun h => by rw [hal, hr0, hlo]; exact sym_c2 hm hd hmid h)
  have Hmono := hid (symF_mono hx hy hd hlo)
  have Hst := hid (sym_st X Y hd hlo)
  have Hd := hid hd
  have Hlo := hid hlo
  have Hmid := hid hmid
  have Hnn := hid hnn
  have Hpp := hid hpp
  have Hal := hid hal
  have Hr0 := hid hr0
  clear h ha hm hb hN hx hy hn hx2 hy2 hxn hyn hd hlo hmid hnn hpp hal hr0
  go_enter Tryz.func200, Tryz.ntmps200
  go_upto_if 140 with (fail)
  go_cut [20, 21] from 138 to 146 (fun iv jv wc => iv = .int .i64 al ∧ jv = .int .i64 r0 ∧ W = wc)
  case first =>
    by_cases c : mid < m
    · have d1 : decide (mid < m) = true := decide_eq_true c
      have C := C1.out c
      obtain ⟨e1, e2⟩ := C
      have E2 := hid e2
      clear e2
      first
      | rw [d1]
      | rw [show decide ((mid : Int) < (m : Int)) = true from decide_eq_true (by omega)]
      clear c
      go_wp2
      go_meet
      exact ⟨rfl, by rw [E2.out], rfl⟩
    · have d1 : decide (mid < m) = false := decide_eq_false c
      have E := hid (C2.out c)
      first
      | rw [d1]
      | rw [show decide ((mid : Int) < (m : Int)) = false from decide_eq_false (by omega)]
      clear c
      go_wp2
      go_meet
      exact ⟨by rw [E.out.1], by rw [E.out.2], rfl⟩
  case rest =>
  obtain ⟨rfl, rfl, rfl⟩ := hcut
  clear C1 C2
  go_upto_region 33 with (fail)
  go_loopw [20, 21] (fun iv jv wr => ∃ (i j i' j' : Nat), iv = .int .i64 i ∧ jv = .int .i64 j ∧ i = a + i' ∧ j = a + j' ∧ lo ≤ i' ∧ Srch (SymF X Y d lo) (min d X.length) i' j' ∧ SW wr w0 g (p ++ (X ++ Y) ++ q) tl) (fun iv jv _ => (intOf jv).toNat - (intOf iv).toNat)
  case atStart => exact ⟨al, r0, lo, min d X.length, rfl, rfl, Hal.out, Hr0.out, Nat.le_refl _, Hst.out, H.out⟩
  case round =>
    obtain ⟨i, j, i', j', rfl, rfl, hi, hj, hil, hs, hsw⟩ := hrel
    have S := hid hsw
    have Hs := hid hs
    have hle := hs.le
    have htop := hs.top
    have htd := Nat.le_trans htop (Nat.min_le_left _ _)
    have htx := Nat.le_trans htop (Nat.min_le_right _ _)
    have Hil := hid hil
    have Hi := hid hi
    clear hsw hs htop hil
    by_cases hlt : i' < j'
    · have d1 : decide (i < j) = true := decide_eq_true (by omega)
      obtain ⟨h, hh⟩ : ∃ h, h = (i + j) / 2 := ⟨_, rfl⟩
      obtain ⟨h', hh'⟩ : ∃ h', h' = (i' + j') / 2 := ⟨_, rfl⟩
      have e1 : h = a + h' := by omega
      have hb1 : i + j ≤ 4000000 := by have := HN.out; have := Ha.out; omega
      have hhl : h' < X.length := by omega
      have eh : ((i : Int) + (j : Int)) / 2 = (h : Int) := by omega
      have t1 : IntKind.i64.wrap ((i : Int) + (j : Int)) = (i : Int) + (j : Int) := IntWalk.i64_in _ (by omega)
      have t2 : IntKind.i64.wrap ((h : Int) + 1) = ((h + 1 : Nat) : Int) := (IntWalk.i64_in _ (by omega)).trans (by omega)
      have Hhh := hid (show i' ≤ h' ∧ h' < j' by omega)
      have Hj := hid hj
      have hhd : lo ≤ h' ∧ h' < d := by have := Hil.out; omega
      clear hi hj hle hh hh' htd htx
      obtain ⟨u, hu⟩ : ∃ u, u = d - 1 - h' := ⟨_, rfl⟩
      have hul : u < Y.length := by have := Hlo.out; have := Hd.out; omega
      obtain ⟨pc, hpc⟩ : ∃ pc, pc = m + u := ⟨_, rfl⟩
      have e2 : (pp : Int) - (h : Int) = (pc : Int) := by have := Hpp.out; have := Hnn.out; have := Hmid.out; omega
      have th : (h : Int) < (N : Int) := by have := HN.out; have := Ha.out; omega
      have tpc : (pc : Int) < (N : Int) := by have := HN.out; have := Ha.out; have := Hm.out; omega
      have t3 : IntKind.i64.wrap ((pp : Int) - (h : Int)) = (pc : Int) := by rw [e2]; exact IntWalk.i64_in _ (by omega)
      have He1 := hid e1
      have Hhd := hid hhd
      have Hu := hid hu
      obtain ⟨x, hx⟩ : ∃ x, X.getD h' default = x := ⟨_, rfl⟩
      obtain ⟨y, hy⟩ : ∃ y, Y.getD u default = y := ⟨_, rfl⟩
      have S1 := hid (show SW wr w0 g ((p ++ X.take h') ++ x :: (X.drop (h' + 1) ++ Y ++ q)) tl by
        have := S.out
        rw [split_getD X hhl, hx] at this
        simpa using this)
      have S2 := hid (show SW wr w0 g ((p ++ X ++ Y.take u) ++ y :: (Y.drop (u + 1) ++ q)) tl by
        have := S.out
        rw [split_getD Y hul, hy] at this
        simpa using this)
      obtain ⟨x0, x1⟩ := S1.out.mid (i := h) (by have := Ha.out; rw [List.length_append, List.length_take, Nat.min_eq_left (by omega)]; omega)
      obtain ⟨y0, y1⟩ := S2.out.mid (i := pc) (by have := Ha.out; have := Hm.out; rw [List.length_append, List.length_append, List.length_take, Nat.min_eq_left (by omega)]; omega)
      have HX := hid hx
      have HY := hid hy
      clear e1 e2 hhl hhd hu hul hpc hx hy S1 S2
      go_upto_region 35 with (fail)
      have k0 := cell_regrown x0
      have k1 := cell_regrown x1
      have m0 := cell_regrown y0
      have m1 := cell_regrown y1
      have cS : ∀ d' os, Calls Tryz.prog 172 #[.agg #[.int .i64 y.it.w, .slice y.A y.it.s.length y.c], .agg #[.int .i64 x.it.w, .slice x.A x.it.s.length x.c]] (Sort.grow (redrawn wr d') os) fun e w'' => e = .returned (.int .i64 (cfR y x)) ∧ ∃ p : Regrown, w'' = Sort.grow (redrawn wr p.d) p.os := fun d' os => Calls.regrown_of (byWeight_any y x _)
      refine wp_region_quiet_below (by kernel_rfl) (by kernel_rfl) ?_
      repeat (go_big_quiet_step (with_reducible exact cS _ _))
      refine wpQuiet_nil ?_
      intro w5 hw5
      obtain ⟨⟨dq, osq⟩, hw5⟩ := hw5
      have hb5 : Below wr.heap.size wr w5 := by rw [hw5]; exact below_regrown wr dq osq
      clear hw5 k0 k1 m0 m1 cS x0 x1 y0 y1
      have S5 := hid (S.out.below hb5)
      clear hb5 S eh
      by_cases hc : cfR y x < 0
      · rw [show decide (cfR y x < 0) = true from decide_eq_true hc]
        have Hc := hid ((cfR_lt y x).1 hc)
        clear hc
        go_wp2
        go_roundw
        case rel => exact ⟨i, h, i', h', rfl, rfl, Hi.out, He1.out, Hil.out, Hs.out.down Hmono.out Hhh.out.1 Hhh.out.2 ⟨Hhd.out.1, by rw [← Hu.out, HX.out, HY.out]; exact Hc.out⟩, S5.out⟩
        case measure => have := Hhh.out; have := Hi.out; have := Hj.out; have := He1.out; simp [intOf]; omega
      · rw [show decide (cfR y x < 0) = false from decide_eq_false hc]
        have Hc := hid (show LeR x y from Classical.byContradiction fun h => hc ((cfR_lt y x).2 h))
        clear hc
        go_wp2
        go_roundw
        case rel => exact ⟨h + 1, j, h' + 1, j', by go_num, rfl, by have := He1.out; omega, Hj.out, by have := Hhd.out; omega, Hs.out.up Hmono.out Hhh.out.2 (fun hf => hf.2 (by rw [← Hu.out, HX.out, HY.out]; exact Hc.out)), S5.out⟩
        case measure => have := Hhh.out; have := Hi.out; have := Hj.out; have := He1.out; simp [intOf]; omega
    · obtain rfl : i' = j' := by omega
      have d1 : decide (i < j) = false := decide_eq_false (by omega)
      have hdy : d - i' ≤ Y.length := by have := Hil.out; have := Hlo.out; omega
      obtain ⟨e, he⟩ : ∃ e, e = m + (d - i') := ⟨_, rfl⟩
      have t5 : IntKind.i64.wrap ((nn : Int) - (i : Int)) = (e : Int) := by
        have e5 : (nn : Int) - (i : Int) = (e : Int) := by have := Hnn.out; have := Hmid.out; omega
        rw [e5]
        exact IntWalk.i64_in _ (by have := Hb.out; omega)
      have HJ := hid (fun (L R : List IR) => sym_join (L := L) (R := R) Hx.out Hy.out (sym_low Hx.out Hy.out Hd.out Hlo.out Hs.out Hil.out) (sym_high Hx.out Hy.out Hd.out Hlo.out Hs.out Hil.out))
      have LX1 := hid (show (X.take i').length = i' by rw [List.length_take, Nat.min_eq_left htx])
      have LX2 := hid (show (X.drop i').length = X.length - i' by rw [List.length_drop])
      have LY1 := hid (show (Y.take (d - i')).length = d - i' by rw [List.length_take, Nat.min_eq_left hdy])
      have LY2 := hid (show (Y.drop (d - i')).length = Y.length - (d - i') by rw [List.length_drop])
      have PX1 := hid (Hx.out.sublist (List.take_sublist i' X))
      have PX2 := hid (Hx.out.sublist (List.drop_sublist i' X))
      have PY1 := hid (Hy.out.sublist (List.take_sublist (d - i') Y))
      have PY2 := hid (Hy.out.sublist (List.drop_sublist (d - i') Y))
      have S1 := hid (show SW wr w0 g (p ++ (X.take i' ++ X.drop i' ++ (Y.take (d - i') ++ Y.drop (d - i'))) ++ q) tl by rw [List.take_append_drop, List.take_append_drop]; exact S.out)
      have Htx := hid htx
      have Hdy := hid hdy
      have Htd := hid htd
      have He := hid he
      clear S Hs Hst Hmono hi hj hle htd htx hlt hdy he
      generalize X.take i' = X1 at *
      generalize X.drop i' = X2 at *
      generalize Y.take (d - i') = Y1 at *
      generalize Y.drop (d - i') = Y2 at *
      go_upto_region 39 with (fail)
      go_cut [185] from 178 to 185 (fun v wq => ∃ bb : Bool, v = .bool bb ∧ (bb = true ↔ (i < m ∧ m < e)) ∧ wr = wq)
      case first =>
        by_cases c1 : i < m
        · have d1 : decide (i < m) = true := decide_eq_true c1
          have C1 := hid c1
          by_cases c2 : m < e
          · have d2 : decide (m < e) = true := decide_eq_true c2
            have C2 := hid c2
            clear c1 c2
            go_wp2
            go_meet
            exact ⟨true, rfl, iff_of_true rfl ⟨C1.out, C2.out⟩, rfl⟩
          · have d2 : decide (m < e) = false := decide_eq_false c2
            have C2 := hid c2
            clear c1 c2
            go_wp2
            go_meet
            exact ⟨false, rfl, iff_of_false Bool.false_ne_true (fun h => C2.out h.2), rfl⟩
        · have d1 : decide (i < m) = false := decide_eq_false c1
          have C1 := hid c1
          clear c1
          go_wp2
          go_meet
          exact ⟨false, rfl, iff_of_false Bool.false_ne_true (fun h => C1.out h.1), rfl⟩
      case rest =>
      obtain ⟨bb, rfl, hbb, rfl⟩ := hcut
      have Hbb := hid hbb
      clear hbb
      go_upto_if 185 with (fail)
      go_cut [] from 186 to 191 (fun wc => SW wc w0 g (p ++ (X1 ++ Y1) ++ (X2 ++ Y2) ++ q) tl)
      case first =>
        cases bb
        · have hz : X2 = [] ∨ Y1 = [] := by
            have h1 : ¬ (i < m ∧ m < e) := fun h => absurd (Hbb.out.2 h) (by decide)
            have := LX2.out; have := LY1.out; have := Hi.out; have := Hm.out; have := He.out
            rcases Nat.eq_zero_or_pos X2.length with h | h
            · exact .inl (List.eq_nil_of_length_eq_zero h)
            · exact .inr (List.eq_nil_of_length_eq_zero (by omega))
          have S2 := hid (show SW wr w0 g (p ++ (X1 ++ Y1) ++ (X2 ++ Y2) ++ q) tl by
            have := S1.out
            rcases hz with rfl | rfl <;> simpa using this)
          clear hz
          go_wp2
          go_meet
          exact S2.out
        · have S2 := hid (show SW wr w0 g ((p ++ X1) ++ X2 ++ Y1 ++ (Y2 ++ q)) tl by have := S1.out; simpa using this)
          have Hc := hid (Hbb.out.1 rfl)
          go_wp2_with fail
          refine (rotate_any g cap N i m e (p ++ X1) X2 Y1 (Y2 ++ q) tl w0 _ S2.out (by have := LX2.out; have := Hc.out; have := Hi.out; have := Hm.out; omega) (by have := LY1.out; have := Hc.out; have := He.out; omega) (by have := LX1.out; have := Ha.out; have := Hi.out; rw [List.length_append]; omega) (by have := LX2.out; have := Hi.out; have := Hm.out; have := Htx.out; omega) (by have := LY1.out; have := He.out; omega) (by have := HN.out; have := LX1.out; have := LX2.out; have := LY1.out; have := LY2.out; have := Htx.out; have := Hdy.out; simp only [List.length_append]; omega) hN2 _).mono ?_
          rintro e1 w1 ⟨rfl, R⟩
          have R2 := hid (show SW w1 w0 g (p ++ (X1 ++ Y1) ++ (X2 ++ Y2) ++ q) tl by simpa using R)
          clear R
          go_wp2
          go_meet
          exact R2.out
      case rest =>
      have T1 := hid hcut
      clear hcut S1 Hbb
      go_upto_region 41 with (fail)
      go_cut [199] from 192 to 199 (fun v wq => ∃ bb : Bool, v = .bool bb ∧ (bb = true ↔ (a < i ∧ i < mid)) ∧ wc = wq)
      case first =>
        by_cases c1 : a < i
        · have d1 : decide (a < i) = true := decide_eq_true c1
          have C1 := hid c1
          by_cases c2 : i < mid
          · have d2 : decide (i < mid) = true := decide_eq_true c2
            have C2 := hid c2
            clear c1 c2
            go_wp2
            go_meet
            exact ⟨true, rfl, iff_of_true rfl ⟨C1.out, C2.out⟩, rfl⟩
          · have d2 : decide (i < mid) = false := decide_eq_false c2
            have C2 := hid c2
            clear c1 c2
            go_wp2
            go_meet
            exact ⟨false, rfl, iff_of_false Bool.false_ne_true (fun h => C2.out h.2), rfl⟩
        · have d1 : decide (a < i) = false := decide_eq_false c1
          have C1 := hid c1
          clear c1
          go_wp2
          go_meet
          exact ⟨false, rfl, iff_of_false Bool.false_ne_true (fun h => C1.out h.1), rfl⟩
      case rest =>
      obtain ⟨bb, rfl, hbb, rfl⟩ := hcut
      have Hbb := hid hbb
      clear hbb
      go_upto_if 199 with (fail)
      go_cut [] from 200 to 205 (fun wd => ∃ L, Bub (X1 ++ Y1) L ∧ L.Pairwise LeR ∧ SW wd w0 g (p ++ L ++ (X2 ++ Y2) ++ q) tl)
      case first =>
        cases bb
        · have hz : X1 = [] ∨ Y1 = [] := by
            have h1 : ¬ (a < i ∧ i < mid) := fun h => absurd (Hbb.out.2 h) (by decide)
            have := LX1.out; have := LY1.out; have := Hi.out; have := Hmid.out
            rcases Nat.eq_zero_or_pos X1.length with h | h
            · exact .inl (List.eq_nil_of_length_eq_zero h)
            · exact .inr (List.eq_nil_of_length_eq_zero (by omega))
          have PZ := hid (show (X1 ++ Y1).Pairwise LeR by rcases hz with rfl | rfl; exact PY1.out; rw [List.append_nil]; exact PX1.out)
          clear hz
          go_wp2
          go_meet
          exact ⟨X1 ++ Y1, .refl _, PZ.out, T1.out⟩
        · have S2 := hid (show SW wc w0 g (p ++ (X1 ++ Y1) ++ ((X2 ++ Y2) ++ q)) tl by have := T1.out; simpa using this)
          have Hc := hid (Hbb.out.1 rfl)
          go_wp2_with fail
          refine (IH g cap N a i mid p X1 Y1 ((X2 ++ Y2) ++ q) tl w0 _ (by have := LX1.out; have := Hc.out; have := Hi.out; omega) (by have := LY1.out; have := Hc.out; have := Hi.out; have := Hmid.out; omega) (by have := LX1.out; have := LY1.out; have := Hn.out; have := Hd.out; have := Hx2.out; have := Htd.out; omega) PX1.out PY1.out S2.out Ha.out (by have := LX1.out; have := Hi.out; omega) (by have := LY1.out; have := Hi.out; have := Hmid.out; have := Htd.out; omega) (by have := HN.out; have := LX1.out; have := LX2.out; have := LY1.out; have := LY2.out; have := Htx.out; have := Hdy.out; simp only [List.length_append]; omega) hN2).mono ?_
          rintro e1 w1 ⟨rfl, L, hL1, hL2, R⟩
          have R2 := hid (show SW w1 w0 g (p ++ L ++ (X2 ++ Y2) ++ q) tl by simpa using R)
          have HL1 := hid hL1
          have HL2 := hid hL2
          clear R hL1 hL2
          go_wp2
          go_meet
          exact ⟨L, HL1.out, HL2.out, R2.out⟩
      case rest =>
      obtain ⟨L, hL1, hL2, hT⟩ := hcut
      have HL1 := hid hL1
      have HL2 := hid hL2
      have T2 := hid hT
      have LL := hid (show L.length = d by have h0 := hL1.len; have h1 := LX1.out; have h2 := LY1.out; have h3 := Htd.out; rw [List.length_append] at h0; omega)
      clear hL1 hL2 hT T1 Hbb
      go_upto_region 43 with (fail)
      go_cut [213] from 206 to 213 (fun v wq => ∃ bb : Bool, v = .bool bb ∧ (bb = true ↔ (mid < e ∧ e < b)) ∧ wc = wq)
      case first =>
        by_cases c1 : mid < e
        · have d1 : decide (mid < e) = true := decide_eq_true c1
          have C1 := hid c1
          by_cases c2 : e < b
          · have d2 : decide (e < b) = true := decide_eq_true c2
            have C2 := hid c2
            clear c1 c2
            go_wp2
            go_meet
            exact ⟨true, rfl, iff_of_true rfl ⟨C1.out, C2.out⟩, rfl⟩
          · have d2 : decide (e < b) = false := decide_eq_false c2
            have C2 := hid c2
            clear c1 c2
            go_wp2
            go_meet
            exact ⟨false, rfl, iff_of_false Bool.false_ne_true (fun h => C2.out h.2), rfl⟩
        · have d1 : decide (mid < e) = false := decide_eq_false c1
          have C1 := hid c1
          clear c1
          go_wp2
          go_meet
          exact ⟨false, rfl, iff_of_false Bool.false_ne_true (fun h => C1.out h.1), rfl⟩
      case rest =>
      obtain ⟨bb, rfl, hbb, rfl⟩ := hcut
      have Hbb := hid hbb
      clear hbb
      cases bb
      · have hz : X2 = [] ∨ Y2 = [] := by
          have h1 : ¬ (mid < e ∧ e < b) := fun h => absurd (Hbb.out.2 h) (by decide)
          have := LX2.out; have := LY2.out; have := He.out; have := Hmid.out; have := Hb.out; have := Hm.out; have := Htx.out; have := Htd.out; have := Hdy.out
          rcases Nat.eq_zero_or_pos X2.length with h | h
          · exact .inl (List.eq_nil_of_length_eq_zero h)
          · exact .inr (List.eq_nil_of_length_eq_zero (by omega))
        have PZ := hid (show (X2 ++ Y2).Pairwise LeR by rcases hz with rfl | rfl; exact PY2.out; rw [List.append_nil]; exact PX2.out)
        clear hz
        go_wp2
        go_end0
        obtain ⟨j1, j2⟩ := HJ.out _ _ HL1.out (.refl (X2 ++ Y2)) HL2.out PZ.out
        exact ⟨rfl, _, j1, j2, by have := T2.out; simpa using this⟩
      · have S2 := hid (show SW wc w0 g ((p ++ L) ++ (X2 ++ Y2) ++ q) tl from T2.out)
        have Hc := hid (Hbb.out.1 rfl)
        go_wp2_with fail
        refine (IH g cap N mid e b (p ++ L) X2 Y2 q tl w0 _ (by have := LX2.out; have := Hc.out; have := He.out; have := Hmid.out; have := Hm.out; have := Htd.out; omega) (by have := LY2.out; have := Hc.out; have := He.out; have := Hb.out; omega) (by have := LX2.out; have := LY2.out; have := Hn.out; have := Hd.out; have := Hx2.out; have := Htx.out; have := Hdy.out; have := Htd.out; omega) PX2.out PY2.out S2.out (by have := LL.out; have := Ha.out; have := Hmid.out; rw [List.length_append]; omega) (by have := LX2.out; have := He.out; have := Hmid.out; have := Hm.out; have := Htx.out; have := Htd.out; omega) (by have := LY2.out; have := He.out; have := Hb.out; have := Hdy.out; omega) (by have := HN.out; have := LL.out; have := LX2.out; have := LY2.out; have := Htx.out; have := Hdy.out; have := Htd.out; rw [List.length_append]; omega) hN2).mono ?_
        rintro e1 w1 ⟨rfl, R0, hL1, hL2, R⟩
        have R2 := hid R
        have HR1 := hid hL1
        have HR2 := hid hL2
        clear R hL1 hL2
        go_wp2
        go_end0
        obtain ⟨j1, j2⟩ := HJ.out _ _ HL1.out HR1.out HL2.out HR2.out
        exact ⟨rfl, _, j1, j2, by have := R2.out; simpa using this⟩

theorem sym_ok : ∀ n, SymOk n
  | 0 => fun g cap N a m b p X Y q tl w0 W h1 h2 h3 => by omega
  | n + 1 => by
    intro g cap N a m b p X Y q tl w0 W h1 h2 h3 hx hy h ha hm hb hN hN2
    by_cases hx1 : X.length = 1
    · obtain ⟨x, rfl⟩ := List.length_eq_one_iff.1 hx1
      exact symA_any g cap N a m b p Y q x tl w0 W (by simpa using h) ha (by simpa using hm) hb (by simp at hN; omega) hN2 hy
    · by_cases hy1 : Y.length = 1
      · obtain ⟨y, rfl⟩ := List.length_eq_one_iff.1 hy1
        exact symB_any g cap N a m b p X q y tl w0 W (by simpa using h) ha hm (by simpa using hb) (by simp at hN; omega) hN2 hx hx1
      · exact symG_any n (sym_ok n) g cap N a m b p X Y q tl w0 W (by omega) (by omega) h3 hx hy h ha hm hb hN hN2
end Go.Proofs.YtoppjcmkhhkbmaaGreat

namespace Go.Proofs.YtoppjcmkhhkbmaaGreat
open Go.RowKit Mg

def AllB (bs : Nat) (Bs : List (List IR)) : Prop := ∀ B ∈ Bs, B.length = bs ∧ B.Pairwise LeR
theorem AllB.snoc {bs : Nat} {Bs : List (List IR)} {Z : List IR} (h : AllB bs Bs) (h1 : Z.length = bs) (h2 : Z.Pairwise LeR) : AllB bs (Bs ++ [Z]) := by
  intro B hB
  rcases List.mem_append.1 hB with hB | hB
  · exact h B hB
  · rw [List.mem_singleton.1 hB]; exact ⟨h1, h2⟩
theorem flat_snoc (Bs : List (List IR)) (Z : List IR) : (Bs ++ [Z]).flatten = Bs.flatten ++ Z := by simp
theorem all_done {bs n : Nat} {Bs : List (List IR)} {last : List IR} (h : AllB bs Bs) (hl : last.Pairwise LeR) (hb : 0 < bs) (hn : n ≤ bs) (he : n = (Bs.flatten ++ last).length) : (Bs.flatten ++ last).Pairwise LeR := by
  match Bs, h with
  | [], _ => simpa using hl
  | [B], h =>
    obtain ⟨h1, h2⟩ := h B (by simp)
    simp only [List.flatten_cons, List.flatten_nil, List.append_nil, List.length_append] at he ⊢
    rw [List.eq_nil_of_length_eq_zero (l := last) (by omega), List.append_nil]
    exact h2
  | B :: C :: t, h =>
    have h1 := (h B (by simp)).1
    have h2 := (h C (by simp)).1
    simp only [List.flatten_cons, List.length_append] at he
    omega
set_option maxRecDepth 100000 in
set_option maxHeartbeats 600000 in
theorem stable_any (g cap n : Nat) (X : List IR) (tl : List Value) (w0 W : World) (h : SW W w0 g X tl) (hn : n = X.length) (hm : n ≤ 1000000) :
    Calls Tryz.prog 191 #[.slice (some ⟨g, 0, none⟩) n cap, .int .i64 (n : Nat), .func (.func 172) #[] #[]] W (SEnd [] X [] tl w0 g) := by
  have H := hid h
  have Hn := hid hn
  clear h hn
  go_enter Tryz.func191, Tryz.ntmps191
  go_upto_region 2 with (fail)
  go_loopw [7, 8] (fun av bv wr => ∃ (a b : Nat) (Bs : List (List IR)) (R : List IR), av = .int .i64 a ∧ bv = .int .i64 b ∧ a = Bs.flatten.length ∧ b = a + 20 ∧ AllB 20 Bs ∧ Bub X (Bs.flatten ++ R) ∧ SW wr w0 g (Bs.flatten ++ R) tl) (fun av _ _ => n + 1 - (intOf av).toNat)
  case atStart => exact ⟨0, 20, [], X, rfl, rfl, rfl, rfl, fun _ h => (by cases h), .refl _, H.out⟩
  case round =>
    obtain ⟨a, b, Bs, R, rfl, rfl, ha, hb, hB, hbub, hs⟩ := hrel
    have S := hid hs
    have Hbub := hid hbub
    have HB := hid hB
    have hlen : n = a + R.length := by
      have h1 := hbub.len
      have h2 := Hn.out
      rw [List.length_append] at h1
      omega
    have Ha := hid ha
    have Hb := hid hb
    have Hlen := hid hlen
    clear hs hbub hB ha
    by_cases hlt : b ≤ n
    · have d1 : decide (b ≤ n) = true := decide_eq_true hlt
      have t1 : IntKind.i64.wrap ((b : Int) + 20) = ((b + 20 : Nat) : Int) := (IntWalk.i64_in _ (by omega)).trans (by omega)
      have L1 := hid (show (R.take 20).length = 20 by rw [List.length_take, Nat.min_eq_left (by omega)])
      have L2 := hid (show (R.drop 20).length = R.length - 20 by rw [List.length_drop])
      have ht := hid (List.take_append_drop 20 R)
      have S1 := hid (show SW wr w0 g (Bs.flatten ++ R.take 20 ++ R.drop 20) tl by rw [List.append_assoc, ht.out]; exact S.out)
      have B1 := hid (show Bub X (Bs.flatten ++ R.take 20 ++ R.drop 20) by rw [List.append_assoc, ht.out]; exact Hbub.out)
      have Hlt := hid hlt
      clear hlen hb S Hbub ht hlt
      generalize R.take 20 = R1 at *
      generalize R.drop 20 = R2 at *
      go_wp2_with fail
      refine (insertion_any g cap n a b Bs.flatten R1 R2 tl w0 _ S1.out Ha.out (by have := L1.out; have := Hb.out; omega) (by have := L1.out; have := L2.out; have := Hlen.out; have := Hlt.out; have := Hb.out; have := Ha.out; simp only [List.length_append]; omega) hm).mono ?_
      rintro e w1 ⟨rfl, Z, hZ1, hZ2, hS⟩
      have HS := hid hS
      have HZ1 := hid hZ1
      have HZ2 := hid hZ2
      have HL := hid (show Z.length = 20 by rw [hZ1.len]; exact L1.out)
      clear hS hZ1 hZ2
      go_wp2
      go_roundw
      case rel =>
        refine ⟨b, b + 20, Bs ++ [Z], R2, rfl, by go_num, ?_, rfl, HB.out.snoc HL.out HZ2.out, ?_, ?_⟩
        · rw [flat_snoc, List.length_append, HL.out, ← Ha.out]; exact Hb.out
        · rw [flat_snoc]
          exact B1.out.tr (HZ1.out.ctx _ _)
        · rw [flat_snoc]
          exact HS.out
      case measure => have := Hlt.out; have := Hb.out; simp [intOf]; omega
    · have d1 : decide (b ≤ n) = false := decide_eq_false hlt
      have HR := hid (show R.length < 20 by omega)
      have S1 := hid (show SW wr w0 g (Bs.flatten ++ R ++ []) tl by rw [List.append_nil]; exact S.out)
      clear hlen hb S hlt
      go_wp2_with fail
      refine (insertion_any g cap n a n Bs.flatten R [] tl w0 _ S1.out Ha.out Hlen.out (by have := Hlen.out; have := Ha.out; simp only [List.length_append, List.length_nil]; omega) hm).mono ?_
      rintro e w1 ⟨rfl, Z, hZ1, hZ2, hS⟩
      have HZ2 := hid hZ2
      have HZL := hid (show Z.length < 20 by rw [hZ1.len]; exact HR.out)
      have HS := hid (show SW w1 w0 g (Bs.flatten ++ Z) tl by rwa [List.append_nil] at hS)
      have B1 := hid (show Bub X (Bs.flatten ++ Z) by
        have := Hbub.out.tr (show Bub (Bs.flatten ++ R) (Bs.flatten ++ Z) by have := hZ1.ctx Bs.flatten []; simpa using this)
        exact this)
      clear hS hZ1 hZ2 Ha Hb Hlen Hbub S1 HR
      go_upto_region 7 with (fail)
      go_loopw [6] (fun sv wr => ∃ (bs : Nat) (Cs : List (List IR)) (last : List IR), sv = .int .i64 bs ∧ 0 < bs ∧ bs ≤ 4000000 ∧ AllB bs Cs ∧ last.length < bs ∧ last.Pairwise LeR ∧ Bub X (Cs.flatten ++ last) ∧ SW wr w0 g (Cs.flatten ++ last) tl) (fun sv _ => n - (intOf sv).toNat)
      case atStart => exact ⟨20, Bs, Z, rfl, by omega, by omega, HB.out, HZL.out, HZ2.out, B1.out, HS.out⟩
      case round =>
        clear HB HZL HZ2 B1 HS
        obtain ⟨bs, Cs, last, rfl, hbs, hbs2, hC, hll, hlp, hbub, hs⟩ := hrel
        have S := hid hs
        have Hbub := hid hbub
        have HC := hid hC
        have Hlp := hid hlp
        have Hll := hid hll
        have Hbs := hid hbs
        have hlen : n = (Cs.flatten ++ last).length := by rw [hbub.len]; exact Hn.out
        have Hlen := hid hlen
        clear hs hbub hC hlp hll hlen hbs2
        by_cases hlt : bs < n
        · have d2 : decide (bs < n) = true := decide_eq_true hlt
          obtain ⟨b2, hb2⟩ : ∃ b2, b2 = 2 * bs := ⟨_, rfl⟩
          have t1 : IntKind.i64.wrap (2 * (bs : Int)) = (b2 : Int) := (IntWalk.i64_in _ (by omega)).trans (by omega)
          have t2 : IntKind.i64.wrap ((bs : Int) * 2) = (b2 : Int) := (IntWalk.i64_in _ (by omega)).trans (by omega)
          have Hb2 := hid hb2
          have hb2l : b2 ≤ 4000000 := by omega
          have Hlt := hid hlt
          have hbn : bs ≤ 1000000 := by omega
          clear hb2 hlt
          go_upto_region 9 with (fail)
          go_loopw [7, 8] (fun av bv wr => ∃ (a b : Nat) (Ds Es : List (List IR)), av = .int .i64 a ∧ bv = .int .i64 b ∧ a = Ds.flatten.length ∧ b = a + b2 ∧ AllB b2 Ds ∧ AllB bs Es ∧ n = (Ds.flatten ++ Es.flatten ++ last).length ∧ Bub X (Ds.flatten ++ Es.flatten ++ last) ∧ SW wr w0 g (Ds.flatten ++ Es.flatten ++ last) tl) (fun av _ _ => n + 1 - (intOf av).toNat)
          case atStart => exact ⟨0, b2, [], Cs, rfl, rfl, rfl, (by omega), fun _ h => (by cases h), HC.out, Hlen.out, Hbub.out, S.out⟩
          case round =>
            clear S Hbub HC Hlen
            obtain ⟨a, b, Ds, Es, rfl, rfl, ha, hb, hD, hE, hlen, hbub, hs⟩ := hrel
            have S := hid hs
            have Hbub := hid hbub
            have HD := hid hD
            have Ha := hid ha
            have Hlen := hid hlen
            have Hb := hid hb
            clear hs hbub hD
            have hbb : b ≤ 10000000 := by simp only [List.length_append] at hlen; omega
            by_cases hlt2 : b ≤ n
            · have d3 : decide (b ≤ n) = true := decide_eq_true hlt2
              obtain ⟨B, C, Es', rfl⟩ : ∃ B C Es', Es = B :: C :: Es' := by
                match Es, hE, hlen with
                | [], _, hlen => exfalso; have := Hll.out; have := Hb2.out; simp only [List.flatten_nil, List.append_nil, List.length_append] at hlen; omega
                | [B], hE, hlen => exfalso; have := Hll.out; have := Hb2.out; have := (hE B (by simp)).1; simp only [List.flatten_cons, List.flatten_nil, List.append_nil, List.length_append] at hlen; omega
                | B :: C :: Es', _, _ => exact ⟨B, C, Es', rfl⟩
              obtain ⟨B1, B2⟩ := hE B (by simp)
              obtain ⟨C1, C2⟩ := hE C (by simp)
              obtain ⟨md, hmd⟩ : ∃ md, md = a + bs := ⟨_, rfl⟩
              have t3 : IntKind.i64.wrap ((a : Int) + (bs : Int)) = (md : Int) := (IntWalk.i64_in _ (by omega)).trans (by omega)
              have t4 : IntKind.i64.wrap ((b : Int) + (b2 : Int)) = ((b + b2 : Nat) : Int) := (IntWalk.i64_in _ (by omega)).trans (by omega)
              have Hmd := hid hmd
              have HB1 := hid B1
              have HB2 := hid B2
              have HC1 := hid C1
              have HC2 := hid C2
              have HE := hid (show AllB bs Es' from fun D hD => hE D (by simp [hD]))
              have S1 := hid (show SW wr w0 g (Ds.flatten ++ (B ++ C) ++ (Es'.flatten ++ last)) tl by have := S.out; simpa using this)
              have Bu := hid (show Bub X (Ds.flatten ++ (B ++ C) ++ (Es'.flatten ++ last)) by have := Hbub.out; simpa using this)
              have HN := hid (show n = Ds.flatten.length + B.length + C.length + (Es'.flatten ++ last).length by have := Hlen.out; simp only [List.flatten_cons, List.length_append] at this ⊢; omega)
              have Hlt2 := hid hlt2
              clear S Hbub Hlen hlen hE B1 B2 C1 C2 hmd ha hb hlt2
              go_wp2_with fail
              refine (sym_ok (B.length + C.length) g cap n a md b Ds.flatten B C (Es'.flatten ++ last) tl w0 _ (by have := HB1.out; omega) (by have := HC1.out; omega) (Nat.le_refl _) HB2.out HC2.out S1.out Ha.out (by have := HB1.out; have := Hmd.out; omega) (by have := HC1.out; have := Hmd.out; have := Hb.out; have := Hb2.out; omega) HN.out hm).mono ?_
              rintro e w2 ⟨rfl, Z2, hZ1, hZ2, hS⟩
              have HS := hid hS
              have HZ1 := hid hZ1
              have HZ2 := hid hZ2
              have HL := hid (show Z2.length = b2 by have h1 := hZ1.len; have := HB1.out; have := HC1.out; have := Hb2.out; rw [List.length_append] at h1; omega)
              clear hS hZ1 hZ2
              go_wp2
              go_roundw
              case rel =>
                refine ⟨b, b + b2, Ds ++ [Z2], Es', rfl, by go_num, ?_, rfl, HD.out.snoc HL.out HZ2.out, HE.out, ?_, ?_, ?_⟩
                · rw [flat_snoc, List.length_append, HL.out, ← Ha.out]; exact Hb.out
                · rw [flat_snoc]
                  have := HN.out; have := HL.out; have := HB1.out; have := HC1.out; have := Hb2.out
                  simp only [List.length_append] at *
                  omega
                · rw [flat_snoc, List.append_assoc (Ds.flatten ++ Z2)]
                  exact Bu.out.tr (HZ1.out.ctx _ _)
                · rw [flat_snoc, List.append_assoc (Ds.flatten ++ Z2)]
                  exact HS.out
              case measure => have := Hlt2.out; have := Hb.out; have := Hb2.out; simp [intOf]; omega
            · have d3 : decide (b ≤ n) = false := decide_eq_false hlt2
              obtain ⟨md, hmd⟩ : ∃ md, md = a + bs := ⟨_, rfl⟩
              have t3 : IntKind.i64.wrap ((a : Int) + (bs : Int)) = (md : Int) := (IntWalk.i64_in _ (by omega)).trans (by omega)
              have Hmd := hid hmd
              rcases Es with _ | ⟨B, _ | ⟨C, Es'⟩⟩
              · have d4 : decide (md < n) = false := decide_eq_false (by have := Hll.out; simp only [List.flatten_nil, List.append_nil, List.length_append] at hlen; omega)
                clear hlen Hlen hE ha hb hmd hlt2
                go_wp2
                go_roundw
                case rel => exact ⟨b2, Ds, last, rfl, by have := Hb2.out; have := Hbs.out; omega, hb2l, HD.out, by have := Hb2.out; have := Hll.out; omega, Hlp.out, by have := Hbub.out; simpa using this, by have := S.out; simpa using this⟩
                case measure => have := Hb2.out; have := Hbs.out; have := Hlt.out; simp [intOf]; omega
              · obtain ⟨B1, B2⟩ := hE B (by simp)
                have HB1 := hid B1
                have HB2 := hid B2
                simp only [List.flatten_cons, List.flatten_nil, List.append_nil, List.length_append] at hlen
                have HN := hid hlen
                have S1 := hid (show SW wr w0 g (Ds.flatten ++ (B ++ last) ++ []) tl by have := S.out; simpa using this)
                have Bu := hid (show Bub X (Ds.flatten ++ (B ++ last)) by have := Hbub.out; simpa using this)
                by_cases hz : last.length = 0
                · have d4 : decide (md < n) = false := decide_eq_false (by omega)
                  have hz2 := hid (List.eq_nil_of_length_eq_zero hz)
                  clear hlen hE ha hb hmd hlt2 B1 B2 hz
                  go_wp2
                  go_roundw
                  case rel => exact ⟨b2, Ds, B, rfl, by have := Hb2.out; have := Hbs.out; omega, hb2l, HD.out, by have := Hb2.out; have := HB1.out; have := Hbs.out; omega, HB2.out, by have := Bu.out; rwa [hz2.out, List.append_nil] at this, by have := S1.out; rwa [hz2.out, List.append_nil, List.append_nil] at this⟩
                  case measure => have := Hb2.out; have := Hbs.out; have := Hlt.out; simp [intOf]; omega
                · have d4 : decide (md < n) = true := decide_eq_true (by omega)
                  have Hz := hid hz
                  clear hlen hE ha hb hmd hlt2 B1 B2 hz
                  go_wp2_with fail
                  refine (sym_ok (B.length + last.length) g cap n a md n Ds.flatten B last [] tl w0 _ (by have := HB1.out; have := Hbs.out; omega) Hz.out (Nat.le_refl _) HB2.out Hlp.out S1.out Ha.out (by have := HB1.out; have := Hmd.out; omega) (by have := HB1.out; have := Hmd.out; have := HN.out; have := Ha.out; omega) (by have := HN.out; simp only [List.length_nil]; omega) hm).mono ?_
                  rintro e w2 ⟨rfl, Z2, hZ1, hZ2, hS⟩
                  have HS := hid (show SW w2 w0 g (Ds.flatten ++ Z2) tl by rwa [List.append_nil] at hS)
                  have HZ1 := hid hZ1
                  have HZ2 := hid hZ2
                  have HL := hid (show Z2.length < b2 by have h1 := hZ1.len; have := HB1.out; have := Hll.out; have := Hb2.out; rw [List.length_append] at h1; omega)
                  clear hS hZ1 hZ2
                  go_wp2
                  go_roundw
                  case rel => exact ⟨b2, Ds, Z2, rfl, by have := Hb2.out; have := Hbs.out; omega, hb2l, HD.out, HL.out, HZ2.out, Bu.out.tr (by have := HZ1.out.ctx Ds.flatten []; simpa using this), HS.out⟩
                  case measure => have := Hb2.out; have := Hbs.out; have := Hlt.out; simp [intOf]; omega
              · exfalso
                have h1 := (hE B (by simp)).1
                have h2 := (hE C (by simp)).1
                have h3 := Hb2.out
                simp only [List.flatten_cons, List.length_append] at hlen
                omega
        · have d2 : decide (bs < n) = false := decide_eq_false hlt
          have Hd := hid (all_done HC.out Hlp.out hbs (by omega) Hlen.out)
          clear hlt hbs
          go_wp2
          go_end0
          exact ⟨rfl, _, Hbub.out, Hd.out, by have := S.out; simpa using this⟩
end Go.Proofs.YtoppjcmkhhkbmaaGreat

namespace Go.Proofs.YtoppjcmkhhkbmaaGreat
open Go.RowKit Mg

set_option maxRecDepth 100000 in
theorem insertion_nil (W : World) (fv : Value) : Calls Tryz.prog 199 #[.slice none 0 0, .int .i64 0, .int .i64 0, fv] W fun e w' => e = .returned (.tuple #[]) ∧ W = w' := by
  go_enter Tryz.func199, Tryz.ntmps199
  go_upto_region 1 with (fail)
  go_loopw [8] (fun iv wr => iv = .int .i64 1 ∧ W = wr) (fun _ _ => 0)
  case atStart => exact ⟨rfl, rfl⟩
  case round =>
    obtain ⟨rfl, rfl⟩ := hrel
    go_wp2
    go_end0
    exact ⟨rfl, rfl⟩
set_option maxRecDepth 100000 in
theorem stable_nil (W : World) (fv : Value) : Calls Tryz.prog 191 #[.slice none 0 0, .int .i64 0, fv] W fun e w' => e = .returned (.tuple #[]) ∧ W = w' := by
  go_enter Tryz.func191, Tryz.ntmps191
  go_upto_region 2 with (fail)
  go_loopw [7, 8] (fun av bv wr => av = .int .i64 0 ∧ bv = .int .i64 20 ∧ W = wr) (fun _ _ _ => 0)
  case atStart => exact ⟨rfl, rfl, rfl⟩
  case round =>
    obtain ⟨rfl, rfl, rfl⟩ := hrel
    go_wp2_with fail
    refine (insertion_nil _ _).mono ?_
    rintro e w1 ⟨rfl, rfl⟩
    go_upto_region 7 with (fail)
    go_loopw [6] (fun sv wr => sv = .int .i64 20 ∧ W = wr) (fun _ _ => 0)
    case atStart => exact ⟨rfl, rfl⟩
    case round =>
      obtain ⟨rfl, rfl⟩ := hrel
      go_wp2
      go_end0
      exact ⟨rfl, rfl⟩
/-- an own row of items -/
def IRow (w : World) (base : Nat) (A : Option Addr) (c : Nat) (X : List IR) : Prop := w.ownsRow base 238 2 (.slice A X.length c) X.length (fl X)
def SortEnd (base : Nat) (A : Option Addr) (c : Nat) (X : List IR) (W : World) (e : Ending) (w' : World) : Prop := e = .returned (.tuple #[]) ∧ ∃ X', Bub X X' ∧ X'.Pairwise LeR ∧ IRow w' base A c X' ∧ W.grownBy w' (Value.slice A X.length c).ownBlock
theorem irow_sw {w : World} {base c : Nat} {A : Option Addr} {X : List IR} (h : IRow w base A c X) : (X = [] ∧ A = none ∧ c = 0) ∨ ∃ g tl, A = some ⟨g, 0, none⟩ ∧ base ≤ g ∧ X.length ≤ c ∧ c ≤ maxLen ∧ (fl X ++ tl).length = c * 2 ∧ SW w w g X tl := by
  obtain ⟨h1, h2⟩ := h
  rcases h2 with ⟨hv, h0⟩ | ⟨g, cap, cur, hv, hb, hg, hn, hm, hs, ht⟩
  · injection hv with hA _ hc
    exact .inl ⟨List.eq_nil_of_length_eq_zero h0, hA, hc⟩
  · injection hv with hA _ hc
    subst hA hc
    have e : fl X ++ cur.toList.drop (X.length * 2) = cur.toList := by rw [← ht, List.take_append_drop]
    refine .inr ⟨g, cur.toList.drop (X.length * 2), rfl, hb, hn, hm, by rw [e]; simpa using hs, ?_, ⟨rfl, rfl, rfl, Nat.le_refl _, fun _ _ _ => rfl⟩⟩
    rw [e]
    exact hg
theorem sw_irow {w w0 : World} {base c g : Nat} {X X' : List IR} {tl : List Value} (h : SW w w0 g X' tl) (hb : base ≤ g) (hl : X'.length = X.length) (hn : X.length ≤ c) (hm : c ≤ maxLen) (hs : (fl X ++ tl).length = c * 2) : IRow w base (some ⟨g, 0, none⟩) c X' := by
  refine ⟨fl_len X', .inr ⟨g, c, (fl X' ++ tl).toArray, rfl, hb, h.1, by omega, hm, ?_, ?_⟩⟩
  · rw [List.size_toArray, ← hs, List.length_append, List.length_append, fl_len, fl_len, hl]
  · show (fl X' ++ tl).take _ = _
    rw [List.take_left' (fl_len X')]
set_option maxRecDepth 100000 in
theorem sort_any (base : Nat) (A : Option Addr) (c : Nat) (X : List IR) (W : World) (h : IRow W base A c X) (hm : X.length ≤ 1000000) :
    Calls Tryz.prog 171 #[.slice A X.length c, .func (.func 172) #[] #[]] W (SortEnd base A c X W) := by
  rcases irow_sw h with ⟨rfl, rfl, rfl⟩ | ⟨g, tl, rfl, hb, hn, hc, hs, hsw⟩
  · have H := hid h
    clear h
    go_enter Tryz.func171, Tryz.ntmps171
    go_wp2_with fail
    refine (stable_nil _ _).mono ?_
    rintro e w1 ⟨rfl, rfl⟩
    go_wp2
    go_end0
    exact ⟨rfl, [], .refl _, .nil, H.out, ⟨rfl, rfl, rfl, Nat.le_refl _, fun _ _ _ => rfl⟩⟩
  · obtain ⟨n, hn'⟩ : ∃ n, n = X.length := ⟨_, rfl⟩
    have Hn := hid hn'
    have S := hid hsw
    have Hb := hid hb
    have Hc := hid hc
    have Hs := hid hs
    rw [← hn'] at hn hm ⊢
    clear h hsw hb hc hs hn'
    go_enter Tryz.func171, Tryz.ntmps171
    go_wp2_with fail
    refine (stable_any g c n X tl W _ S.out Hn.out hm).mono ?_
    rintro e w1 ⟨rfl, X', h1, h2, h3⟩
    have R := hid (show SortEnd base (some ⟨g, 0, none⟩) c X W (.returned (.tuple #[])) w1 from by
      have h3 : SW w1 W g X' tl := by simpa using h3
      exact ⟨rfl, X', h1, h2, sw_irow h3 Hb.out h1.len (by rw [← Hn.out]; exact hn) Hc.out Hs.out, h3.2⟩)
    clear h1 h2 h3
    go_wp2
    go_end0
    exact R.out
end Go.Proofs.YtoppjcmkhhkbmaaGreat

namespace Go.Proofs.YtoppjcmkhhkbmaaGreat
open Go.RowKit Mg

theorem mit_info : (Tryz.prog.info? 238).map (fun i => (i.zero, i.size, i.bytes)) = some (some (.agg #[.int .i64 0, .slice none 0 0]), 2, 32) := by kernel_rfl
/-- rows of different elements lie in different blocks -/
theorem own_two_ne {w : World} {b b' : Nat} {e e' : TypeId} {size size' n n' : Nat} {v v' : Value} {xs xs' : List Value} (h : w.ownsRow b e size v n xs) (h' : w.ownsRow b' e' size' v' n' xs') (hne : e ≠ e') :
    v.ownBlock = none ∨ v.ownBlock ≠ v'.ownBlock := by
  rcases h.2 with ⟨rfl, _⟩ | ⟨g, cap, cur, rfl, _, hh, _⟩
  · exact .inl rfl
  · right
    intro he
    rcases h'.2 with ⟨rfl, _⟩ | ⟨g', cap', cur', rfl, _, hh', _⟩
    · simp [Value.ownBlock] at he
    · have : g = g' := by simpa [Value.ownBlock] using he
      subst this
      rw [hh] at hh'
      injection hh' with hh'
      injection hh' with _ ht
      exact hne ht
theorem grown_below {w w' : World} {base n size : Nat} {e : TypeId} {v : Value} {xs : List Value} (hg : w.grownBy w' v.ownBlock) (ho : w.ownsRow base e size v n xs) (hb : base ≤ w.heap.size) : Below base w w' := by
  refine ⟨hg.os, hg.tape, hg.output, hg.size, fun k hk => hg.block k (by omega) ?_⟩
  rcases ho.2 with ⟨rfl, _⟩ | ⟨g, cap, cur, rfl, hgb, _⟩
  · simp [Value.ownBlock]
  · simp [Value.ownBlock]
    omega
/-- an item's symbols lie in a row of their own -/
def SOwn (w : World) (base : Nat) (x : IR) : Prop := w.ownsRow base 3 1 (.slice x.A x.it.s.length x.c) x.it.s.length (intsV (x.it.s.map (fun i : Nat => (i : Int))))
theorem SOwn.below {w w' : World} {base : Nat} {x : IR} (h : SOwn w base x) {C : Nat} (hb : Below C w w') (hC : w.heap.size ≤ C) : SOwn w' base x := own_below h hb hC
theorem SOwn.rgrown {w w' : World} {base b n : Nat} {x : IR} {v : Value} {xs : List Value} (h : SOwn w base x) (ho : w.ownsRow b 238 2 v n xs) (hg : w.grownBy w' v.ownBlock) : SOwn w' base x := h.kept hg (own_two_ne h ho (by decide))
/-- own items, with own symbols -/
structure IOwn (w W : World) (A : Option Addr) (c : Nat) (X : List IR) : Prop where
  row : IRow w W.heap.size A c X
  sym : ∀ x ∈ X, SOwn w W.heap.size x
  old : Below W.heap.size W w
theorem IOwn.below {w w' W : World} {A : Option Addr} {c : Nat} {X : List IR} (h : IOwn w W A c X) (hb : Below w.heap.size w w') : IOwn w' W A c X :=
  ⟨own_below h.row hb (Nat.le_refl _), fun x hx => (h.sym x hx).below hb (Nat.le_refl _), h.old.trans (hb.mono h.old.size)⟩
theorem IOwn.alloc {w W : World} {A : Option Addr} {c : Nat} {X : List IR} (h : IOwn w W A c X) (o : Obj) : IOwn (w.alloc o) W A c X := h.below ((Below.refl _ _).alloc (Nat.le_refl _) o)
theorem IOwn.app {w w3 W : World} {A A3 : Option Addr} {c c3 : Nat} {X : List IR} {x : IR} (h : IOwn w W A c X) (hx : SOwn w W.heap.size x) (ha : Apped w W.heap.size 238 2 A X.length c (fl X) 1 (encR x) A3 c3 w3) : IOwn w3 W A3 c3 (X ++ [x]) := by
  refine ⟨?_, fun y hy => ?_, h.old.trans ha.2.2.1⟩
  · have h7 := ha.1
    unfold IRow
    rw [List.length_append, fl_app]
    simpa [fl] using h7
  · rcases List.mem_append.1 hy with hy | hy
    · exact (h.sym y hy).rgrown h.row ha.2.1
    · rw [List.mem_singleton.1 hy]
      exact hx.rgrown h.row ha.2.1
theorem own_lit {w : World} {base g : Nat} (i : Nat) (hg : Blk w g 3 #[.int .i64 (i : Int)]) (hb : base ≤ g) (v : Int) : SOwn w base ⟨⟨v, [i]⟩, some ⟨g, 0, none⟩, 1⟩ :=
  ⟨rfl, .inr ⟨g, 1, #[.int .i64 (i : Int)], rfl, hb, hg, Nat.le_refl _, by simp [maxLen], rfl, rfl⟩⟩
/-- the items of the first j counts -/
def itemsTo (l : List Int) : Nat → List It
  | 0 => []
  | j + 1 => if 0 < l.getD j 0 then itemsTo l j ++ [⟨l.getD j 0, [j]⟩] else itemsTo l j
theorem itemsTo_len (l : List Int) : ∀ j, (itemsTo l j).length ≤ j
  | 0 => Nat.le_refl _
  | j + 1 => by
    have := itemsTo_len l j
    unfold itemsTo
    split
    · simp; exact this
    · omega
def ItemsEnd (l : List Int) (W : World) (e : Ending) (w' : World) : Prop := ∃ A' c' X, e = .returned (.slice A' X.length c') ∧ St (itemsTo l l.length) (X.map (·.it)) ∧ IOwn w' W A' c' X
set_option maxRecDepth 100000 in
set_option maxHeartbeats 2000000 in
theorem items_any (A : Option Addr) (c : Nat) (l : List Int) (W : World) (h : RdI W W.heap.size A l) (hm : l.length ≤ 100000) :
    Calls Tryz.prog 151 #[.slice A l.length c] W (ItemsEnd l W) := by
  obtain ⟨i0, hi0, hz0, hz1, hz2⟩ := info_parts mit_info
  have Hi0 := hid hi0
  have Hz0 := hid hz0
  have Hz1 := hid hz1
  have Hz2 := hid hz2
  have H := hid h
  clear h hi0 hz0 hz1 hz2
  go_enter Tryz.func151, Tryz.ntmps151
  go_upto_region 3 with (fail)
  go_loopw [3, 8] (fun o i wr => ∃ (j : Nat) (A' : Option Addr) (c' : Nat) (X : List IR), j ≤ l.length ∧ i = .int .i64 j ∧ o = .slice A' X.length c' ∧ X.map (·.it) = itemsTo l j ∧ IOwn wr W A' c' X) (fun _ i _ => l.length - (intOf i).toNat)
  case atStart => exact ⟨0, none, 0, [], by omega, rfl, rfl, rfl, ⟨⟨rfl, .inl ⟨rfl, rfl⟩⟩, fun _ h => (by cases h), Below.refl _ _⟩⟩
  case round =>
    obtain ⟨j, A', c', X, hj, rfl, rfl, hX, hO⟩ := hrel
    have HX := hid hX
    have O := hid hO
    have hXl : X.length ≤ 100000 := by
      have h1 := itemsTo_len l j
      rw [← hX, List.length_map] at h1
      omega
    clear hX hO
    by_cases hlt : j < l.length
    · have d1 : decide (j < l.length) = true := decide_eq_true hlt
      obtain ⟨b, off, rfl, hb, x0⟩ := int_at (RdI.below H.out O.out.old (Nat.le_refl _)) hlt
      have hs := O.out.old.size
      obtain ⟨v, hv⟩ : ∃ v, l[j] = v := ⟨_, rfl⟩
      have Hv := hid (show l.getD j 0 = v by rw [List.getD_eq_getElem?_getD, List.getElem?_eq_getElem hlt]; exact hv)
      rw [hv] at x0
      have hbs : b < wr.heap.size := by omega
      have Hlt := hid hlt
      clear hv hlt
      by_cases hp : 0 < v
      · have d2 : decide (0 < v) = true := decide_eq_true hp
        have Hst := hid (show itemsTo l (j + 1) = itemsTo l j ++ [⟨v, [j]⟩] by show (if _ then _ else _) = _; rw [Hv.out, if_pos hp])
        have P := hid (own_lit j (Blk.new wr 3 #[.int .i64 (j : Int)]) O.out.old.size v)
        clear hp
        have P2 := hid (P.out.below ((Below.refl _ _).alloc (Nat.le_refl _) (.cells #[.int .i64 v, .slice (some ⟨wr.heap.size, 0, none⟩) 1 1] 238)) (Nat.le_refl _))
        have O2 := hid (O.out.alloc (.cells #[.int .i64 (j : Int)] 3))
        have HB := hid (show Blk ((wr.alloc (.cells #[.int .i64 (j : Int)] 3)).alloc (.cells #[.int .i64 v, .slice (some ⟨wr.heap.size, 0, none⟩) 1 1] 238)) (wr.heap.size + 1) 238 #[.int .i64 v, .slice (some ⟨wr.heap.size, 0, none⟩) 1 1] by
          have h := Blk.new (wr.alloc (.cells #[.int .i64 (j : Int)] 3)) 238 #[.int .i64 v, .slice (some ⟨wr.heap.size, 0, none⟩) 1 1]
          rwa [World.size_alloc] at h)
        go_wp2_with (at_builtin; refine wpList_app _ rfl _ _ _ rfl W.heap.size 238 i0 (.agg #[.int .i64 0, .slice none 0 0]) 2 32 Tryz.underlying218 Hi0.out Hz0.out Hz1.out Hz2.out rfl (by omega) A' X.length c' _ rfl (O2.out.alloc _).row _ _ 1 1 (encR ⟨⟨v, [j]⟩, some ⟨wr.heap.size, 0, none⟩, 1⟩) rfl (rd_one _ _ _ _ HB.out) (by simp) (by simp [encR, Value.oneCell']) (by simp only [maxLen]; omega) (by omega) (by simp; omega) ?_; intro A3 c3 w3 ha3; have Ha3 := hid ha3; clear ha3)
        go_roundw
        case rel => exact ⟨j + 1, A3, c3, X ++ [⟨⟨v, [j]⟩, some ⟨wr.heap.size, 0, none⟩, 1⟩], by have := Hlt.out; omega, by go_num, by rw [List.length_append, List.length_singleton], by rw [List.map_append, HX.out, Hst.out]; rfl, (O2.out.alloc _).app P2.out Ha3.out⟩
        case measure => have := Hlt.out; simp [intOf]; omega
      · have d2 : decide (0 < v) = false := decide_eq_false hp
        have Hst := hid (show itemsTo l (j + 1) = itemsTo l j by show (if _ then _ else _) = _; rw [Hv.out, if_neg hp])
        clear hp
        go_wp2
        go_roundw
        case rel => exact ⟨j + 1, A', c', X, by have := Hlt.out; omega, by go_num, rfl, by rw [Hst.out]; exact HX.out, O.out⟩
        case measure => have := Hlt.out; simp [intOf]; omega
    · obtain rfl : l.length = j := by omega
      go_wp2_with fail
      refine (sort_any W.heap.size A' c' X _ O.out.row (by omega)).mono ?_
      rintro e w1 ⟨rfl, X', h1, h2, h3, h4⟩
      have R := hid (show ItemsEnd l W (.returned (.slice A' X.length c')) w1 from ⟨A', c', X', by rw [h1.len], by rw [← HX.out]; exact h1.st h2, ⟨h3, fun x hx => (O.out.sym x (h1.perm.mem_iff.1 hx)).rgrown O.out.row h4, O.out.old.trans (grown_below h4 O.out.row O.out.old.size)⟩⟩)
      clear h1 h2 h3 h4
      go_wp2
      go_ret
      exact R.out
end Go.Proofs.YtoppjcmkhhkbmaaGreat
