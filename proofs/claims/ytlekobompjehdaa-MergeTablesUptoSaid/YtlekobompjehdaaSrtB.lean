/-
  Items in a row of memory: exchanged, two ranges exchanged, two neighbours' ranges turned (slices.swapRangeCmpFunc, rotateCmpFunc).
-/
import Derived.Test.YtlekobompjehdaaSrtA
import Derived.IntWalk
import Derived.BigRegion
namespace Go.Proofs.Ytlekobompjehdaa
open Go.RowKit Mg

def fl (l : List IR) : List Value := l.flatMap encR
theorem fl_app (a b : List IR) : fl (a ++ b) = fl a ++ fl b := by simp [fl]
theorem fl_len (l : List IR) : (fl l).length = l.length * 2 := flat_length encR 2 l (fun _ _ => rfl)
/-- the row in block g holds the items l, and tl behind them; nothing else of w0 has turned -/
def SW (w w0 : World) (g : Nat) (l : List IR) (tl : List Value) : Prop := Blk w g 92 (fl l ++ tl).toArray ∧ w0.grownBy w (some g)
theorem grown_tr2 {w w0 : World} {g : Nat} (h : w0.grownBy w (some g)) (i j : Nat) (u v : Value) : w0.grownBy ((w.setCell ⟨g, i, none⟩ u).setCell ⟨g, j, none⟩ v) (some g) :=
  ⟨h.os, h.tape, h.output, by simpa using h.size, fun k hk hr => ((Below.heap_setCell _ ⟨g, j, none⟩ v k (fun e => hr (by rw [e]))).trans (Below.heap_setCell w ⟨g, i, none⟩ u k (fun e => hr (by rw [e])))).trans (h.block k hk hr)⟩
theorem fl_set : ∀ (l : List IR) (i : Nat) (y : IR) (tl : List Value), i < l.length → ((fl l ++ tl).set (i * 2) (.int .i64 y.it.w)).set (i * 2 + 1) (.slice y.A y.it.s.length y.c) = fl (l.set i y) ++ tl
  | [], _, _, _, h => by simp at h
  | a :: t, 0, y, tl, _ => by simp [fl, encR]
  | a :: t, i + 1, y, tl, h => by
    have ih := fl_set t i y tl (by simpa using h)
    rw [show (i + 1) * 2 = i * 2 + 1 + 1 by omega]
    simp only [fl, encR, List.flatMap_cons, List.cons_append, List.nil_append, List.set_cons_succ] at ih ⊢
    rw [ih]
theorem fl_setA (l : List IR) (i : Nat) (y : IR) (tl : List Value) (h : i < l.length) : ((fl l ++ tl).toArray.setIfInBounds (i * 2) (.int .i64 y.it.w)).setIfInBounds (i * 2 + 1) (.slice y.A y.it.s.length y.c) = (fl (l.set i y) ++ tl).toArray := by
  rw [List.setIfInBounds_toArray, List.setIfInBounds_toArray, fl_set l i y tl h]
section
variable {w w0 : World} {g : Nat} {l : List IR} {tl : List Value}
theorem SW.at_ (h : SW w w0 g l tl) {i : Nat} (hi : i < l.length) : w.cell? ⟨g, i * 2, none⟩ = some (.int .i64 l[i].it.w) ∧ w.cell? ⟨g, i * 2 + 1, none⟩ = some (.slice l[i].A l[i].it.s.length l[i].c) := by
  have f := fun (o : Nat) (ho : o < 2) (u : Value) (hu : (encR l[i])[o]? = some u) => show w.cell? ⟨g, i * 2 + o, none⟩ = some u by
    rw [h.1.cell, List.getElem?_toArray, List.getElem?_append_left (by rw [fl_len]; omega)]
    exact (flat_at encR 2 l (fun _ _ => rfl) i o l[i] (List.getElem?_eq_getElem hi) ho).trans hu
  exact ⟨f 0 (by omega) _ rfl, f 1 (by omega) _ rfl⟩
theorem SW.size (h : SW w w0 g l tl) : w0.heap.size ≤ w.heap.size := h.2.size
theorem SW.drew (h : SW w w0 g l tl) : SW w.drew w0 g l tl := ⟨h.1.drew, ⟨h.2.os, h.2.tape, h.2.output, h.2.size, h.2.block⟩⟩
theorem SW.below {w' : World} (h : SW w w0 g l tl) (hb : Below w.heap.size w w') : SW w' w0 g l tl :=
  ⟨h.1.below hb h.1.lt, ⟨hb.os.trans h.2.os, hb.tape.trans h.2.tape, hb.output.trans h.2.output, Nat.le_trans h.2.size hb.size, fun k hk hr => (hb.block k (by have := h.2.size; omega)).trans (h.2.block k hk hr)⟩⟩
theorem SW.put (h : SW w w0 g l tl) {i : Nat} (hi : i < l.length) (y : IR) : SW ((w.setCell ⟨g, i * 2, none⟩ (.int .i64 y.it.w)).setCell ⟨g, i * 2 + 1, none⟩ (.slice y.A y.it.s.length y.c)) w0 g (l.set i y) tl := by
  refine ⟨?_, grown_tr2 h.2 _ _ _ _⟩
  have h1 := (h.1.set_ (i * 2) (.int .i64 y.it.w)).set_ (i * 2 + 1) (.slice y.A y.it.s.length y.c)
  rw [fl_setA l i y tl hi] at h1
  exact h1
end
/-- two items exchanged -/
def exch (l : List IR) (i j : Nat) : List IR := (l.set i (l.getD j default)).set j (l.getD i default)
theorem exch_len (l : List IR) (i j : Nat) : (exch l i j).length = l.length := by simp [exch]
theorem exch_split (u v z : List IR) (x y : IR) : exch (u ++ x :: (v ++ y :: z)) u.length (u.length + 1 + v.length) = u ++ y :: (v ++ x :: z) := by
  have e1 : (u ++ x :: (v ++ y :: z)).getD u.length default = x := by simp [List.getD]
  have e2 : (u ++ x :: (v ++ y :: z)).getD (u.length + 1 + v.length) default = y := by
    rw [List.getD_eq_getElem?_getD, List.getElem?_append_right (by omega), show u.length + 1 + v.length - u.length = v.length + 1 by omega, List.getElem?_cons_succ, List.getElem?_append_right (by omega)]
    simp
  unfold exch
  rw [e1, e2, List.set_append_right _ _ (by omega), Nat.sub_self, List.set_cons_zero, List.set_append_right _ _ (by omega), show u.length + 1 + v.length - u.length = v.length + 1 by omega, List.set_cons_succ, List.set_append_right _ _ (by omega), Nat.sub_self, List.set_cons_zero]
/-- two ranges exchanged -/
def swr (l : List IR) (a b : Nat) : Nat → List IR
  | 0 => l
  | n + 1 => exch (swr l a b n) (a + n) (b + n)
theorem swr_len (l : List IR) (a b : Nat) : ∀ n, (swr l a b n).length = l.length
  | 0 => rfl
  | n + 1 => by unfold swr; rw [exch_len, swr_len l a b n]
theorem swr_part (p X M Y q : List IR) (h : X.length = Y.length) : ∀ k, k ≤ X.length → swr (p ++ X ++ M ++ Y ++ q) p.length (p.length + X.length + M.length) k = p ++ (Y.take k ++ X.drop k) ++ M ++ (X.take k ++ Y.drop k) ++ q
  | 0, _ => by simp [swr]
  | k + 1, hk => by
    have ih := swr_part p X M Y q h k (by omega)
    unfold swr
    rw [ih]
    have hx := List.drop_eq_getElem_cons (l := X) (i := k) (by omega)
    have hy := List.drop_eq_getElem_cons (l := Y) (i := k) (by omega)
    have e := exch_split (p ++ Y.take k) (X.drop (k + 1) ++ M ++ X.take k) (Y.drop (k + 1) ++ q) X[k] Y[k]
    have l1 : (p ++ Y.take k).length = p.length + k := by rw [List.length_append, List.length_take, Nat.min_eq_left (by omega)]
    have l2 : (p ++ Y.take k).length + 1 + (X.drop (k + 1) ++ M ++ X.take k).length = p.length + X.length + M.length + k := by
      rw [l1, List.length_append, List.length_append, List.length_drop, List.length_take, Nat.min_eq_left (by omega)]
      omega
    rw [l2, l1] at e
    have e1 : p ++ (Y.take k ++ X.drop k) ++ M ++ (X.take k ++ Y.drop k) ++ q = p ++ Y.take k ++ X[k] :: (X.drop (k + 1) ++ M ++ X.take k ++ Y[k] :: (Y.drop (k + 1) ++ q)) := by
      rw [hx, hy]; simp only [List.append_assoc, List.cons_append]
    have e2 : p ++ (Y.take (k + 1) ++ X.drop (k + 1)) ++ M ++ (X.take (k + 1) ++ Y.drop (k + 1)) ++ q = p ++ Y.take k ++ Y[k] :: (X.drop (k + 1) ++ M ++ X.take k ++ X[k] :: (Y.drop (k + 1) ++ q)) := by
      rw [List.take_succ_eq_append_getElem (l := X) (i := k) (by omega), List.take_succ_eq_append_getElem (l := Y) (i := k) (by omega)]; simp only [List.append_assoc, List.cons_append, List.nil_append]
    rw [e1, e2]
    exact e
theorem swr_all (p X M Y q : List IR) (h : X.length = Y.length) : swr (p ++ X ++ M ++ Y ++ q) p.length (p.length + X.length + M.length) X.length = p ++ Y ++ M ++ X ++ q := by
  have := swr_part p X M Y q h X.length (Nat.le_refl _)
  rw [this, List.drop_length, List.take_length, h, List.drop_length, List.take_length]
  simp

def RowEnd (l' : List IR) (w0 : World) (g : Nat) (tl : List Value) (e : Ending) (w' : World) : Prop := e = .returned (.tuple #[]) ∧ SW w' w0 g l' tl
set_option maxRecDepth 100000 in
set_option maxHeartbeats 8000000 in
theorem swapRange_any (g cap a b n : Nat) (l : List IR) (tl : List Value) (w0 W : World) (h : SW W w0 g l tl) (hab : a + n ≤ b) (hb : b + n ≤ l.length) (hm : l.length ≤ 1000000) (fv : Value) :
    Calls Try.prog 170 #[.slice (some ⟨g, 0, none⟩) l.length cap, .int .i64 (a : Nat), .int .i64 (b : Nat), .int .i64 (n : Nat), fv] W (RowEnd (swr l a b n) w0 g tl) := by
  have H := hid h
  clear h
  go_enter Try.func170, Try.ntmps170
  go_upto_region 1 with (fail)
  go_loopw [10] (fun i wr => ∃ k : Nat, k ≤ n ∧ i = .int .i64 k ∧ SW wr w0 g (swr l a b k) tl) (fun i _ => n - (intOf i).toNat)
  case atStart => exact ⟨0, by omega, rfl, H.out⟩
  case round =>
    obtain ⟨k, hk, rfl, hs⟩ := hrel
    have S := hid hs
    clear hs
    by_cases hlt : k < n
    · have hd : decide (k < n) = true := decide_eq_true hlt
      have hl := swr_len l a b k
      have hia : a + k < (swr l a b k).length := by omega
      have hib : b + k < (swr l a b k).length := by omega
      obtain ⟨x0, x1⟩ := S.out.at_ hia
      obtain ⟨y0, y1⟩ := S.out.at_ hib
      have eX : (swr l a b k).getD (a + k) default = (swr l a b k)[a + k] := by rw [List.getD_eq_getElem?_getD, List.getElem?_eq_getElem hia]; rfl
      have eY : (swr l a b k).getD (b + k) default = (swr l a b k)[b + k] := by rw [List.getD_eq_getElem?_getD, List.getElem?_eq_getElem hib]; rfl
      have Hn : Hid (swr l a b (k + 1) = ((swr l a b k).set (a + k) (swr l a b k)[b + k]).set (b + k) (swr l a b k)[a + k]) := hid (by show exch _ _ _ = _; unfold exch; rw [eX, eY])
      have R1 := hid (((S.out.drew.put hia (swr l a b k)[b + k]).put (i := b + k) (by simpa using hib) (swr l a b k)[a + k]))
      have R2 := hid (((S.out.drew.put hib (swr l a b k)[a + k]).put (i := a + k) (by simpa using hia) (swr l a b k)[b + k]))
      rw [← Hn.out] at R1
      rw [List.set_comm _ _ (by omega), ← Hn.out] at R2
      have fz := fun i => S.out.1.frozen i
      generalize (swr l a b k)[a + k] = x at *
      generalize (swr l a b k)[b + k] = y at *
      clear eX eY Hn hl hia hib
      have sa : IntKind.i64.wrap ((a : Int) + (k : Int)) = (a : Int) + (k : Int) := IntWalk.i64_in _ (by omega)
      have sb : IntKind.i64.wrap ((b : Int) + (k : Int)) = (b : Int) + (k : Int) := IntWalk.i64_in _ (by omega)
      have ta : ((a : Int) + (k : Int)).toNat = a + k := by omega
      have tb : ((b : Int) + (k : Int)).toNat = b + k := by omega
      have pa : (0 : Int) ≤ (a : Int) + (k : Int) := by omega
      have pb : (0 : Int) ≤ (b : Int) + (k : Int) := by omega
      have la : (a : Int) + (k : Int) < (l.length : Int) := by omega
      have lb : (b : Int) + (k : Int) < (l.length : Int) := by omega
      go_upto_region 3 with (fail)
      go_region
      all_goals (go_wp2; go_roundw)
      case rel => first
        | exact ⟨k + 1, by omega, rfl, R1.out⟩
        | exact ⟨k + 1, by omega, rfl, R2.out⟩
      case measure => simp [intOf]; omega
    · obtain rfl : n = k := by omega
      go_wp2
      go_end0
      exact ⟨rfl, S.out⟩

end Go.Proofs.Ytlekobompjehdaa
