/-
  canon.Book in memory; canon.bind.
-/
import Derived.Test.YtegmbjkpjglgpaaCanB
namespace Go.Proofs.Ytegmbjkpjglgpaa
open Go.RowKit

/-- a book: its lengths, codes, order and rows, each with its place -/
structure BM where
  LA : Option Addr
  Lc : Nat
  lens : List Int
  CA : Option Addr
  Cc : Nat
  codes : List Int
  OA : Option Addr
  Oc : Nat
  ord : List Nat
  F : Nat → Int
  SA : Nat → Option Addr
  Sc : Nat → Nat
  S : Nat → List Nat
def bookCell (b : BM) (i : Nat) : Value := if i = 0 then .slice b.LA b.lens.length b.Lc else if i = 1 then .slice b.CA b.codes.length b.Cc else if i = 2 then .slice b.OA b.ord.length b.Oc else if (i - 3) % 2 = 0 then .int .i64 (b.F ((i - 3) / 2)) else .slice (b.SA ((i - 3) / 2)) (b.S ((i - 3) / 2)).length (b.Sc ((i - 3) / 2))
def bookCs (b : BM) : Array Value := ((List.range 37).map (bookCell b)).toArray
theorem bookCs_at (b : BM) (i : Nat) (h : i < 37) : (bookCs b)[i]? = some (bookCell b i) := by
  unfold bookCs
  rw [List.getElem?_toArray, List.getElem?_map, List.getElem?_range h]
  rfl
theorem bookCs_size (b : BM) : (bookCs b).size = 37 := by simp [bookCs]
theorem cell_first (b : BM) (n : Nat) (h : n < 17) : (bookCs b)[3 + n * 2]? = some (.int .i64 (b.F n)) := by
  rw [bookCs_at b _ (by omega)]
  unfold bookCell
  rw [if_neg (by omega), if_neg (by omega), if_neg (by omega), if_pos (by omega), show (3 + n * 2 - 3) / 2 = n by omega]
theorem cell_syms (b : BM) (n : Nat) (h : n < 17) : (bookCs b)[3 + n * 2 + 1]? = some (.slice (b.SA n) (b.S n).length (b.Sc n)) := by
  rw [bookCs_at b _ (by omega)]
  unfold bookCell
  rw [if_neg (by omega), if_neg (by omega), if_neg (by omega), if_neg (by omega), show (3 + n * 2 + 1 - 3) / 2 = n by omega]
def upF {α : Type} (f : Nat → α) (n : Nat) (x : α) : Nat → α := fun i => if i = n then x else f i
theorem upF_same {α : Type} (f : Nat → α) (n : Nat) (x : α) : upF f n x n = x := if_pos rfl
theorem upF_ne {α : Type} (f : Nat → α) {n i : Nat} (x : α) (h : i ≠ n) : upF f n x i = f i := if_neg h
theorem set_first (b : BM) (n : Nat) (x : Int) (h : n < 17) : (bookCs b).setIfInBounds (3 + n * 2) (.int .i64 x) = bookCs { b with F := upF b.F n x } := by
  apply Array.ext_getElem?
  intro i
  rcases Nat.lt_or_ge i 37 with hi | hi
  · rw [bookCs_at _ i hi]
    by_cases e : 3 + n * 2 = i
    · subst e
      rw [Array.getElem?_setIfInBounds_self_of_lt (by rw [bookCs_size]; exact hi)]
      unfold bookCell
      rw [if_neg (by omega), if_neg (by omega), if_neg (by omega), if_pos (by omega), show (3 + n * 2 - 3) / 2 = n by omega]
      simp only [upF_same]
    · rw [Array.getElem?_setIfInBounds_ne e, bookCs_at b i hi]
      congr 1
      unfold bookCell
      split
      · rfl
      · split
        · rfl
        · split
          · rfl
          · split
            · simp only
              rw [upF_ne _ _ (by omega)]
            · rfl
  · rw [Array.getElem?_eq_none (by rw [Array.size_setIfInBounds, bookCs_size]; exact hi), Array.getElem?_eq_none (by rw [bookCs_size]; exact hi)]
theorem set_syms (b : BM) (n : Nat) (A : Option Addr) (c : Nat) (s : List Nat) (h : n < 17) : (bookCs b).setIfInBounds (3 + n * 2 + 1) (.slice A s.length c) = bookCs { b with SA := upF b.SA n A, Sc := upF b.Sc n c, S := upF b.S n s } := by
  apply Array.ext_getElem?
  intro i
  rcases Nat.lt_or_ge i 37 with hi | hi
  · rw [bookCs_at _ i hi]
    by_cases e : 3 + n * 2 + 1 = i
    · subst e
      rw [Array.getElem?_setIfInBounds_self_of_lt (by rw [bookCs_size]; exact hi)]
      unfold bookCell
      rw [if_neg (by omega), if_neg (by omega), if_neg (by omega), if_neg (by omega), show (3 + n * 2 + 1 - 3) / 2 = n by omega]
      simp only [upF_same]
    · rw [Array.getElem?_setIfInBounds_ne e, bookCs_at b i hi]
      congr 1
      unfold bookCell
      split
      · rfl
      · split
        · rfl
        · split
          · rfl
          · split
            · rfl
            · simp only
              rw [upF_ne _ _ (by omega), upF_ne _ _ (by omega), upF_ne _ _ (by omega)]
  · rw [Array.getElem?_eq_none (by rw [Array.size_setIfInBounds, bookCs_size]; exact hi), Array.getElem?_eq_none (by rw [bookCs_size]; exact hi)]
def obA : Option Addr → Option Nat := Option.map (·.block)
theorem ob_eq (A : Option Addr) (n c : Nat) : (Value.slice A n c).ownBlock = obA A := by cases A <;> rfl
/-- a book in memory -/
structure BK (w : World) (g : Nat) (b : BM) : Prop where
  blk : Blk w g 202 (bookCs b)
  len : w.ownsRow 0 3 1 (.slice b.LA b.lens.length b.Lc) b.lens.length (intsV b.lens)
  cod : w.ownsRow 0 3 1 (.slice b.CA b.codes.length b.Cc) b.codes.length (intsV b.codes)
  ord : OwnN w 0 b.OA b.Oc b.ord
  row : ∀ i, i < 17 → OwnN w 0 (b.SA i) (b.Sc i) (b.S i)
theorem BK.below {w w' : World} {g : Nat} {b : BM} (h : BK w g b) (hb : Below w.heap.size w w') : BK w' g b :=
  ⟨h.blk.below hb h.blk.lt, own_below h.len hb (Nat.le_refl _), own_below h.cod hb (Nat.le_refl _), own_below h.ord hb (Nat.le_refl _), fun i hi => own_below (h.row i hi) hb (Nat.le_refl _)⟩
/-- where a block of another kind turns -/
theorem BK.grown {w w' : World} {g r : Nat} {b : BM} {t : TypeId} {cs : Array Value} (h : BK w g b) (hg : w.grownBy w' (some r)) (hr : Blk w r t cs) (h1 : 3 ≠ t) (h2 : 202 ≠ t) : BK w' g b := by
  have key : ∀ {base n size : Nat} {v : Value} {xs : List Value}, w.ownsRow base 3 size v n xs → w'.ownsRow base 3 size v n xs := fun ho => ho.kept hg (.inr (fun e => own_blk_ne ho hr h1 e.symm))
  refine ⟨h.blk.grown hg (fun e => ?_), key h.len, key h.cod, key h.ord, fun i hi => key (h.row i hi)⟩
  injection e with e
  subst e
  have h3 := h.blk
  unfold Blk at h3 hr
  rw [hr] at h3
  injection h3 with h3
  injection h3 with _ h4
  exact h2 h4.symm
/-- where a row of another kind is appended to -/
theorem BK.app {w w' : World} {g base n size : Nat} {b : BM} {t : TypeId} {v : Value} {xs : List Value} (h : BK w g b) (ho : w.ownsRow base t size v n xs) (hg : w.grownBy w' v.ownBlock) (h1 : 3 ≠ t) (h2 : t ≠ 202) : BK w' g b := by
  have key : ∀ {base2 m size2 : Nat} {u : Value} {ys : List Value}, w.ownsRow base2 3 size2 u m ys → w'.ownsRow base2 3 size2 u m ys := fun hu => by
    refine hu.kept hg ?_
    rcases hu.2 with ⟨rfl, _⟩ | ⟨p, cap, cur, rfl, _, hh, _⟩
    · exact .inl rfl
    · right
      rcases ho.2 with ⟨rfl, _⟩ | ⟨p2, cap2, cur2, rfl, _, hh2, _⟩
      · simp [Value.ownBlock]
      · intro e
        have : p = p2 := by simpa [Value.ownBlock] using e
        subst this
        rw [hh] at hh2
        injection hh2 with hh2
        injection hh2 with _ ht
        exact h1 ht
  exact ⟨h.blk.grown hg (own_blk_ne ho h.blk h2), key h.len, key h.cod, key h.ord, fun i hi => key (h.row i hi)⟩
/-- the rows lie apart -/
structure Dis (b : BM) : Prop where
  rows : ∀ i j, i < 17 → j < 17 → i ≠ j → obA (b.SA i) = none ∨ obA (b.SA i) ≠ obA (b.SA j)
  len : ∀ i, i < 17 → obA b.LA = none ∨ obA b.LA ≠ obA (b.SA i)
  cod : ∀ i, i < 17 → obA b.CA = none ∨ obA b.CA ≠ obA (b.SA i)
  ord : ∀ i, i < 17 → obA b.OA = none ∨ obA b.OA ≠ obA (b.SA i)
theorem own_lt {w : World} {base n size c : Nat} {t : TypeId} {A : Option Addr} {xs : List Value} (h : w.ownsRow base t size (.slice A n c) n xs) {g : Nat} (e : obA A = some g) : g < w.heap.size := by
  rcases h.2 with ⟨h1, _⟩ | ⟨p, cap, cur, h1, _, hh, _⟩
  · injection h1 with h1
    rw [h1] at e; cases e
  · injection h1 with h1
    rw [h1] at e
    injection e with e
    rw [← e]
    exact (Array.getElem?_eq_some_iff.1 hh).1
theorem BK.set1 {w : World} {g i : Nat} {b b' : BM} {u : Value} (h : BK w g b) (hc : (bookCs b).setIfInBounds i u = bookCs b') (e1 : b'.LA = b.LA ∧ b'.Lc = b.Lc ∧ b'.lens = b.lens) (e2 : b'.CA = b.CA ∧ b'.Cc = b.Cc ∧ b'.codes = b.codes) (e3 : b'.OA = b.OA ∧ b'.Oc = b.Oc ∧ b'.ord = b.ord) (hr : ∀ i, i < 17 → OwnN w 0 (b'.SA i) (b'.Sc i) (b'.S i)) : BK (w.setCell ⟨g, i, none⟩ u) g b' := by
  have key : ∀ {base n size : Nat} {v : Value} {xs : List Value}, w.ownsRow base 3 size v n xs → (w.setCell ⟨g, i, none⟩ u).ownsRow base 3 size v n xs := fun ho => ho.kept ⟨rfl, rfl, rfl, by simp, fun k _ hk => Below.heap_setCell w ⟨g, i, none⟩ u k (fun e => hk (by rw [e]))⟩ (.inr (fun e => own_blk_ne ho h.blk (by decide) e.symm))
  have hb := h.blk.set_ i u
  rw [hc] at hb
  refine ⟨hb, ?_, ?_, ?_, fun i hi => key (hr i hi)⟩
  · rw [e1.1, e1.2.1, e1.2.2]; exact key h.len
  · rw [e2.1, e2.2.1, e2.2.2]; exact key h.cod
  · rw [e3.1, e3.2.1, e3.2.2]; exact key h.ord
theorem BK.first {w : World} {g n : Nat} {b : BM} (h : BK w g b) (hn : n < 17) (x : Int) : BK (w.setCell ⟨g, 3 + n * 2, none⟩ (.int .i64 x)) g { b with F := upF b.F n x } :=
  h.set1 (set_first b n x hn) ⟨rfl, rfl, rfl⟩ ⟨rfl, rfl, rfl⟩ ⟨rfl, rfl, rfl⟩ h.row
def pushB (b : BM) (n s : Nat) (A4 : Option Addr) (c4 : Nat) : BM := { b with SA := upF b.SA n A4, Sc := upF b.Sc n c4, S := upF b.S n (b.S n ++ [s]) }
/-- a symbol behind a row -/
theorem BK.push {w w' : World} {g n : Nat} {b : BM} {s : Nat} {A4 : Option Addr} {c4 base : Nat} (h : BK w g b) (hd : Dis b) (hn : n < 17) (ha : Apped w base 3 1 (b.SA n) (b.S n).length (b.Sc n) (intsV (natsV (b.S n))) 1 [.int .i64 (s : Int)] A4 c4 w') :
    BK (w'.setCell ⟨g, 3 + n * 2 + 1, none⟩ (.slice A4 ((b.S n).length + 1) c4)) g (pushB b n s A4 c4) ∧ Dis (pushB b n s A4 c4) := by
  obtain ⟨a1, a2, _, a4⟩ := ha
  rw [ob_eq, ob_eq] at a4
  rw [ob_eq] at a2
  have kept : ∀ {base2 m size2 c : Nat} {B : Option Addr} {ys : List Value}, w.ownsRow base2 3 size2 (.slice B m c) m ys → (obA B = none ∨ obA B ≠ obA (b.SA n)) → w'.ownsRow base2 3 size2 (.slice B m c) m ys := fun hu hne => hu.kept a2 (by rw [ob_eq]; exact hne)
  have hblk : Blk w' g 202 (bookCs b) := h.blk.grown a2 (by have := own_blk_ne (h.row n hn) h.blk (by decide); rw [ob_eq] at this; exact this)
  have key : ∀ {base2 m size2 : Nat} {v : Value} {ys : List Value}, w'.ownsRow base2 3 size2 v m ys → (w'.setCell ⟨g, 3 + n * 2 + 1, none⟩ (.slice A4 ((b.S n).length + 1) c4)).ownsRow base2 3 size2 v m ys := fun ho =>
    ho.kept ⟨rfl, rfl, rfl, by simp, fun k _ hk => Below.heap_setCell w' ⟨g, 3 + n * 2 + 1, none⟩ _ k (fun e => hk (by rw [e]))⟩ (.inr (fun e => own_blk_ne ho hblk (by decide) e.symm))
  have hset := hblk.set_ (3 + n * 2 + 1) (.slice A4 (b.S n ++ [s]).length c4)
  rw [set_syms b n A4 c4 (b.S n ++ [s]) hn, List.length_append, List.length_singleton] at hset
  have fresh : ∀ {base2 m size2 c : Nat} {t : TypeId} {B : Option Addr} {ys : List Value}, w.ownsRow base2 t size2 (.slice B m c) m ys → obA B ≠ some w.heap.size := fun hu e => by
    have := own_lt hu e
    omega
  refine ⟨⟨hset, key (kept h.len (hd.len n hn)), key (kept h.cod (hd.cod n hn)), key (kept h.ord (hd.ord n hn)), fun i hi => ?_⟩, ?_⟩
  · by_cases e : i = n
    · subst e
      show OwnN _ 0 (upF b.SA i A4 i) (upF b.Sc i c4 i) (upF b.S i (b.S i ++ [s]) i)
      rw [upF_same, upF_same, upF_same]
      unfold OwnN
      rw [List.length_append, List.length_singleton, natsV_append]
      have e1 : intsV (natsV (b.S i)) ++ [Value.int .i64 (s : Int)] = intsV (natsV (b.S i) ++ natsV [s]) := by simp [intsV, natsV]
      rw [e1] at a1
      exact key (own_base a1 (Nat.zero_le _))
    · show OwnN _ 0 (upF b.SA n A4 i) (upF b.Sc n c4 i) (upF b.S n (b.S n ++ [s]) i)
      rw [upF_ne _ _ e, upF_ne _ _ e, upF_ne _ _ e]
      exact key (kept (h.row i hi) (hd.rows i n hi hn e))
  · have tail : ∀ {B : Option Addr} {base2 m size2 c : Nat} {t : TypeId} {ys : List Value}, w.ownsRow base2 t size2 (.slice B m c) m ys → (obA B = none ∨ obA B ≠ obA (b.SA n)) → obA B = none ∨ obA B ≠ obA A4 := fun hu hne => by
      rcases a4 with e | e
      · rw [e]; exact hne
      · rw [e]; exact .inr (fresh hu)
    refine ⟨fun i j hi hj hij => ?_, fun i hi => ?_, fun i hi => ?_, fun i hi => ?_⟩
    · show obA (upF b.SA n A4 i) = none ∨ obA (upF b.SA n A4 i) ≠ obA (upF b.SA n A4 j)
      by_cases e1 : i = n
      · subst e1
        rw [upF_same, upF_ne _ _ (fun e => hij e.symm)]
        have := tail (h.row j hj) (hd.rows j i hj hi (fun e => hij e.symm))
        rcases this with h1 | h1
        · cases hA : obA A4 with
          | none => exact .inl rfl
          | some x => right; rw [h1]; intro h2; cases h2
        · exact .inr (fun e => h1 e.symm)
      · by_cases e2 : j = n
        · subst e2
          rw [upF_same, upF_ne _ _ e1]
          exact tail (h.row i hi) (hd.rows i j hi hj hij)
        · rw [upF_ne _ _ e1, upF_ne _ _ e2]
          exact hd.rows i j hi hj hij
    · show obA b.LA = none ∨ obA b.LA ≠ obA (upF b.SA n A4 i)
      by_cases e1 : i = n
      · subst e1
        rw [upF_same]
        exact tail h.len (hd.len i hi)
      · rw [upF_ne _ _ e1]
        exact hd.len i hi
    · show obA b.CA = none ∨ obA b.CA ≠ obA (upF b.SA n A4 i)
      by_cases e1 : i = n
      · subst e1
        rw [upF_same]
        exact tail h.cod (hd.cod i hi)
      · rw [upF_ne _ _ e1]
        exact hd.cod i hi
    · show obA b.OA = none ∨ obA b.OA ≠ obA (upF b.SA n A4 i)
      by_cases e1 : i = n
      · subst e1
        rw [upF_same]
        exact tail h.ord (hd.ord i hi)
      · rw [upF_ne _ _ e1]
        exact hd.ord i hi
/-- where a book's rows are the symbols of a length, the first code beside each -/
def fstC (cs : List Int) : List Nat → Int
  | [] => 0
  | s :: _ => cs.getD s 0
def selN (l : List Int) (o : List Nat) (n : Nat) : List Nat := o.filter (fun s => lenOf l s == n)
theorem selN_snoc (l : List Int) (o : List Nat) (s n : Nat) : selN l (o ++ [s]) n = if n = lenOf l s then selN l o n ++ [s] else selN l o n := by
  unfold selN
  rw [List.filter_append]
  by_cases h : n = lenOf l s
  · rw [if_pos h, List.filter_cons_of_pos (by simp [h])]; rfl
  · rw [if_neg h, List.filter_cons_of_neg (by simp; omega)]
    simp
theorem fstC_snoc (cs : List Int) (a : List Nat) (s : Nat) (h : a ≠ []) : fstC cs (a ++ [s]) = fstC cs a := by
  cases a with
  | nil => exact absurd rfl h
  | cons x a => rfl
theorem own_of_blk {w : World} {base g n : Nat} {t : TypeId} {xs : List Value} (h : Blk w g t xs.toArray) (hb : base ≤ g) (hl : xs.length = n) (hm : n ≤ maxLen) : w.ownsRow base t 1 (.slice (some ⟨g, 0, none⟩) n n) n xs :=
  ⟨by omega, .inr ⟨g, n, xs.toArray, rfl, hb, h, Nat.le_refl _, hm, by simp; omega, by rw [List.toList_toArray, List.take_of_length_le (by omega)]⟩⟩
theorem ob_none (A : Option Addr) : obA A = none ∨ obA A ≠ obA none := by cases A <;> simp [obA]
theorem own_rebase {w : World} {base n size c : Nat} {t : TypeId} {A : Option Addr} {xs : List Value} (h : w.ownsRow 0 t size (.slice A n c) n xs) (hb : ∀ p, obA A = some p → base ≤ p) : w.ownsRow base t size (.slice A n c) n xs := by
  refine ⟨h.1, ?_⟩
  rcases h.2 with hn | ⟨g, cap, cur, h1, _, rest⟩
  · exact .inl hn
  · refine .inr ⟨g, cap, cur, h1, ?_, rest⟩
    injection h1 with h1
    rw [h1] at hb
    exact hb g rfl
structure RW where
  F : Nat → Int
  SA : Nat → Option Addr
  Sc : Nat → Nat
  S : Nat → List Nat
def rwB (b : BM) (r : RW) : BM := { b with F := r.F, SA := r.SA, Sc := r.Sc, S := r.S }
def BindEnd (l : List Int) (o : List Nat) (W : World) (e : Ending) (w' : World) : Prop := ∃ g b, e = .returned (.pointer (some ⟨g, 0, none⟩)) ∧ W.heap.size ≤ g ∧ BK w' g b ∧ b.lens = l ∧ b.codes = asg l o 0 0 (List.replicate l.length 0) ∧ b.ord = o ∧ (∀ n, n < 17 → b.S n = selN l o n ∧ b.F n = fstC b.codes (b.S n)) ∧ Below W.heap.size W w'
set_option maxRecDepth 100000 in
set_option maxHeartbeats 4000000 in
theorem bind_any (A OA : Option Addr) (c oc : Nat) (l : List Int) (o : List Nat) (W : World) (h : RdI W W.heap.size A l) (hn : A = none → c = 0) (ho : OwnN W 0 OA oc o) (hok : Cd.Ok (o.map fun s => (s, lenOf l s))) (hb : ∀ s ∈ o, s < l.length) (hm : l.length ≤ 1000) (hmo : o.length ≤ 1000) :
    Calls Try.prog 150 #[.slice A l.length c, .slice OA o.length oc] W (BindEnd l o W) := by
  have H := hid h
  have HO := hid ho
  have Hok := hid hok
  have Hb := hid hb
  have hroi : RdI W W.heap.size OA (natsV o) := by have := own_rdi (o := natsV o) (by unfold OwnN at ho; rw [natsV_length]; exact ho); exact this
  have CL := hid (cloneI_any A c l W h hn (by omega))
  have Hroi := hid hroi
  clear h hn ho hok hb hroi
  obtain ⟨N, hN⟩ : ∃ N, N = o.length := ⟨_, rfl⟩
  have HN := hid hN
  obtain ⟨L, hL⟩ : ∃ L, L = l.length := ⟨_, rfl⟩
  have HL := hid hL
  rw [← hN] at hmo ⊢
  rw [← hL] at hm ⊢
  have cl := CL.out
  rw [← hL] at cl
  have CL2 := hid cl
  clear hN hL cl CL
  go_enter Try.func150, Try.ntmps150
  go_wp2_with fail
  refine (CL2.out).mono ?_
  rintro e w1 ⟨A1, c1, rfl, ho1, hb1⟩
  have O1 := hid ho1
  have B1 := hid hb1
  rw [← HL.out]
  have hasg := assign_any A OA c oc l o w1 (H.out.below hb1 (Nat.le_refl _) |>.more hb1.size) (Hroi.out.below hb1 (Nat.le_refl _) |>.more hb1.size) Hok.out Hb.out (by rw [← HL.out]; exact hm) (by rw [← HN.out]; exact hmo)
  rw [← HL.out, ← HN.out] at hasg
  have ASG := hid hasg
  clear ho1 hb1 hasg CL2
  go_wp2_with fail
  refine (ASG.out).mono ?_
  rintro e w2 ⟨g2, rfl, hg2, hblk2, hb2⟩
  rw [← HL.out]
  have Blk2 := hid hblk2
  have O2 := hid (own_below O1.out hb2 (Nat.le_refl _))
  have OO2 := hid (own_below HO.out ((B1.out.trans (hb2.mono B1.out.size))) (Nat.le_refl _))
  have B2 := hid (B1.out.trans (hb2.mono B1.out.size))
  have hg2' : W.heap.size ≤ g2 := Nat.le_trans B1.out.size hg2
  have hlt1 : ∀ p, obA A1 = some p → p < w1.heap.size := fun p e => own_lt O1.out e
  have hne12 := hid (show obA A1 = none ∨ obA A1 ≠ some g2 from .inr (fun e => by have := hlt1 g2 e; omega))
  clear hblk2 hb2 hlt1 O1 B1
  obtain ⟨CS, hCS⟩ : ∃ CS, CS = asg l o 0 0 (List.replicate l.length 0) := ⟨_, rfl⟩
  have hCSl : CS.length = l.length := by rw [hCS, asg_length]; simp
  rw [← hCS] at Blk2
  have HCS := hid hCS
  have HCSl := hid hCSl
  have C2 := hid (own_of_blk (base := 0) Blk2.out (Nat.zero_le _) (by rw [intsV_length, hCSl]) (by unfold maxLen; rw [← HL.out]; omega))
  clear hCS hCSl Blk2
  go_upto_region 2 with (fail)
  obtain ⟨b0, hb0⟩ : ∃ b0 : BM, b0 = ⟨A1, c1, l, some ⟨g2, 0, none⟩, l.length, CS, OA, oc, o, fun _ => 0, fun _ => none, fun _ => 0, fun _ => []⟩ := ⟨_, rfl⟩
  have hlit : bookCs b0 = #[.slice A1 L c1, .slice (some ⟨g2, 0, none⟩) L L, .slice OA N oc, .int .i64 0, .slice none 0 0, .int .i64 0, .slice none 0 0, .int .i64 0, .slice none 0 0, .int .i64 0, .slice none 0 0, .int .i64 0, .slice none 0 0, .int .i64 0, .slice none 0 0, .int .i64 0, .slice none 0 0, .int .i64 0, .slice none 0 0, .int .i64 0, .slice none 0 0, .int .i64 0, .slice none 0 0, .int .i64 0, .slice none 0 0, .int .i64 0, .slice none 0 0, .int .i64 0, .slice none 0 0, .int .i64 0, .slice none 0 0, .int .i64 0, .slice none 0 0, .int .i64 0, .slice none 0 0, .int .i64 0, .slice none 0 0] := by
    have e1 : bookCs b0 = #[.slice A1 l.length c1, .slice (some ⟨g2, 0, none⟩) CS.length l.length, .slice OA o.length oc, .int .i64 0, .slice none 0 0, .int .i64 0, .slice none 0 0, .int .i64 0, .slice none 0 0, .int .i64 0, .slice none 0 0, .int .i64 0, .slice none 0 0, .int .i64 0, .slice none 0 0, .int .i64 0, .slice none 0 0, .int .i64 0, .slice none 0 0, .int .i64 0, .slice none 0 0, .int .i64 0, .slice none 0 0, .int .i64 0, .slice none 0 0, .int .i64 0, .slice none 0 0, .int .i64 0, .slice none 0 0, .int .i64 0, .slice none 0 0, .int .i64 0, .slice none 0 0, .int .i64 0, .slice none 0 0, .int .i64 0, .slice none 0 0] := by rw [hb0]; rfl
    rw [e1, HCSl.out, ← HL.out, ← HN.out]
  have hbk0 : BK (w2.alloc (.cells #[.slice A1 L c1, .slice (some ⟨g2, 0, none⟩) L L, .slice OA N oc, .int .i64 0, .slice none 0 0, .int .i64 0, .slice none 0 0, .int .i64 0, .slice none 0 0, .int .i64 0, .slice none 0 0, .int .i64 0, .slice none 0 0, .int .i64 0, .slice none 0 0, .int .i64 0, .slice none 0 0, .int .i64 0, .slice none 0 0, .int .i64 0, .slice none 0 0, .int .i64 0, .slice none 0 0, .int .i64 0, .slice none 0 0, .int .i64 0, .slice none 0 0, .int .i64 0, .slice none 0 0, .int .i64 0, .slice none 0 0, .int .i64 0, .slice none 0 0, .int .i64 0, .slice none 0 0, .int .i64 0, .slice none 0 0] 202)) w2.heap.size b0 := by
    have hbA := (Below.refl w2.heap.size w2).alloc (Nat.le_refl _) (.cells #[.slice A1 L c1, .slice (some ⟨g2, 0, none⟩) L L, .slice OA N oc, .int .i64 0, .slice none 0 0, .int .i64 0, .slice none 0 0, .int .i64 0, .slice none 0 0, .int .i64 0, .slice none 0 0, .int .i64 0, .slice none 0 0, .int .i64 0, .slice none 0 0, .int .i64 0, .slice none 0 0, .int .i64 0, .slice none 0 0, .int .i64 0, .slice none 0 0, .int .i64 0, .slice none 0 0, .int .i64 0, .slice none 0 0, .int .i64 0, .slice none 0 0, .int .i64 0, .slice none 0 0, .int .i64 0, .slice none 0 0, .int .i64 0, .slice none 0 0, .int .i64 0, .slice none 0 0, .int .i64 0, .slice none 0 0] 202)
    refine ⟨by rw [hlit]; exact Blk.new w2 202 _, ?_, ?_, ?_, fun i _ => ?_⟩
    · rw [hb0]; exact own_base (own_below O2.out hbA (Nat.le_refl _)) (Nat.zero_le _)
    · rw [hb0]
      have h2 := own_below C2.out hbA (Nat.le_refl _)
      rw [← HCSl.out] at h2
      show World.ownsRow _ 0 _ 1 (.slice (some ⟨g2, 0, none⟩) CS.length l.length) CS.length (intsV CS)
      rw [← HCSl.out]
      exact h2
    · rw [hb0]; exact own_below OO2.out hbA (Nat.le_refl _)
    · rw [hb0]; exact World.ownsRow_nil _ _ _ _
  have BK0 := hid hbk0
  have DI0 := hid (show Dis b0 from by rw [hb0]; exact ⟨fun _ _ _ _ _ => .inl rfl, fun _ _ => ob_none _, fun _ _ => ob_none _, fun _ _ => ob_none _⟩)
  have BB0 := hid (B2.out.trans (((Below.refl w2.heap.size w2).alloc (Nat.le_refl _) (.cells #[.slice A1 L c1, .slice (some ⟨g2, 0, none⟩) L L, .slice OA N oc, .int .i64 0, .slice none 0 0, .int .i64 0, .slice none 0 0, .int .i64 0, .slice none 0 0, .int .i64 0, .slice none 0 0, .int .i64 0, .slice none 0 0, .int .i64 0, .slice none 0 0, .int .i64 0, .slice none 0 0, .int .i64 0, .slice none 0 0, .int .i64 0, .slice none 0 0, .int .i64 0, .slice none 0 0, .int .i64 0, .slice none 0 0, .int .i64 0, .slice none 0 0, .int .i64 0, .slice none 0 0, .int .i64 0, .slice none 0 0, .int .i64 0, .slice none 0 0, .int .i64 0, .slice none 0 0, .int .i64 0, .slice none 0 0] 202)).mono B2.out.size))
  obtain ⟨g, hg⟩ : ∃ g, g = w2.heap.size := ⟨_, rfl⟩
  have hWg : W.heap.size ≤ g := by have := B2.out.size; omega
  rw [← hg] at BK0 ⊢
  clear hlit hbk0 O2 OO2 C2 ASG
  generalize w2.alloc (.cells #[.slice A1 L c1, .slice (some ⟨g2, 0, none⟩) L L, .slice OA N oc, .int .i64 0, .slice none 0 0, .int .i64 0, .slice none 0 0, .int .i64 0, .slice none 0 0, .int .i64 0, .slice none 0 0, .int .i64 0, .slice none 0 0, .int .i64 0, .slice none 0 0, .int .i64 0, .slice none 0 0, .int .i64 0, .slice none 0 0, .int .i64 0, .slice none 0 0, .int .i64 0, .slice none 0 0, .int .i64 0, .slice none 0 0, .int .i64 0, .slice none 0 0, .int .i64 0, .slice none 0 0, .int .i64 0, .slice none 0 0, .int .i64 0, .slice none 0 0, .int .i64 0, .slice none 0 0, .int .i64 0, .slice none 0 0] 202) = w3 at *
  have hS0 := hid (show ∀ n, n < 17 → b0.S n = selN l (o.take 0) n ∧ b0.F n = fstC CS (b0.S n) from fun n _ => by rw [hb0]; exact ⟨rfl, rfl⟩)
  have hfix := hid (show b0.LA = A1 ∧ b0.Lc = c1 ∧ b0.lens = l ∧ b0.codes = CS ∧ b0.OA = OA ∧ b0.Oc = oc ∧ b0.ord = o ∧ b0.CA = some ⟨g2, 0, none⟩ ∧ b0.Cc = l.length from by rw [hb0]; exact ⟨rfl, rfl, rfl, rfl, rfl, rfl, rfl, rfl, rfl⟩)
  have hSA0 := hid (show ∀ j, j < 17 → ∀ p, obA (b0.SA j) = some p → W.heap.size ≤ p from fun j _ p e => by rw [hb0] at e; cases e)
  clear hb0 hg
  go_wp2_with fail
  go_loopw [19] (fun v wr => ∃ (i : Nat) (b : BM), i ≤ N ∧ v = .int .i64 (i : Int) ∧ Hid (BK wr g b) ∧ Hid (Dis b) ∧ Hid (b.LA = A1 ∧ b.Lc = c1 ∧ b.lens = l ∧ b.codes = CS ∧ b.OA = OA ∧ b.Oc = oc ∧ b.ord = o ∧ b.CA = some ⟨g2, 0, none⟩ ∧ b.Cc = l.length) ∧ Hid (∀ n, n < 17 → b.S n = selN l (o.take i) n ∧ b.F n = fstC CS (b.S n)) ∧ Hid (∀ j, j < 17 → ∀ p, obA (b.SA j) = some p → W.heap.size ≤ p) ∧ Hid (Below W.heap.size W wr)) (fun i _ => N - (intOf i).toNat)
  case atStart => exact ⟨0, b0, by omega, rfl, BK0, DI0, hfix, hS0, hSA0, BB0⟩
  clear BK0 DI0 hfix hS0 BB0
  case round =>
    obtain ⟨i, b, hi, rfl, K, D, Fx, HS, HBase, Be⟩ := hrel
    by_cases hlt : i < N
    · have hio : i < o.length := by rw [← HN.out]; exact hlt
      have hmem : o[i] ∈ o := List.getElem_mem hio
      have hor := K.out.ord
      rw [Fx.out.2.2.2.2.1, Fx.out.2.2.2.2.2.1, Fx.out.2.2.2.2.2.2.1] at hor
      have hor2 : RdI wr wr.heap.size OA (natsV o) := own_rdi (by unfold OwnN at hor; rw [natsV_length]; exact hor)
      obtain ⟨bo, off, hA, hbb, hc⟩ := int_at hor2 (j := i) (by rw [natsV_length]; exact hio)
      subst hA
      have e1 : (natsV o)[i]'(by rw [natsV_length]; exact hio) = ((o[i] : Nat) : Int) := by simp [natsV]
      rw [e1] at hc
      have hlen := Hok.out.len (o[i], lenOf l o[i]) (List.mem_map.2 ⟨o[i], hmem, rfl⟩)
      have hsl := Hb.out _ hmem
      have htk : o.take (i + 1) = o.take i ++ [o[i]] := List.take_succ_eq_append_getElem hio
      obtain ⟨s, hs⟩ : ∃ s, s = o[i] := ⟨_, rfl⟩
      rw [← hs] at hc hlen hsl htk
      have hsL : s < L := by rw [HL.out]; exact hsl
      obtain ⟨b2, off2, hA2, hbb2, hc2⟩ := int_at (H.out.below Be.out (Nat.le_refl _)) (j := s) hsl
      subst hA2
      have e2 : l[s] = ((lenOf l s : Nat) : Int) := by
        have : l.getD s 0 = l[s] := by rw [List.getD_eq_getElem?_getD, List.getElem?_eq_getElem hsl]; rfl
        simp only at hlen
        unfold lenOf at hlen ⊢
        rw [this] at hlen ⊢
        omega
      rw [e2] at hc2
      obtain ⟨n, hn⟩ : ∃ n, n = lenOf l s := ⟨_, rfl⟩
      simp only at hlen
      rw [← hn] at hc2 hlen
      have hn17 : n < 17 := by omega
      have f1 : wr.cell? ⟨g, 3 + n * 2, none⟩ = some (.int .i64 (b.F n)) := (K.out.blk.cell _).trans (cell_first b n hn17)
      have f2 : wr.cell? ⟨g, 3 + n * 2 + 1, none⟩ = some (.slice (b.SA n) (b.S n).length (b.Sc n)) := (K.out.blk.cell _).trans (cell_syms b n hn17)
      have f3 : wr.cell? ⟨g, 1, none⟩ = some (.slice (some ⟨g2, 0, none⟩) L L) := (K.out.blk.cell 1).trans (by rw [bookCs_at b 1 (by omega)]; unfold bookCell; rw [if_neg (by omega), if_pos rfl, Fx.out.2.2.2.2.2.2.2.1, Fx.out.2.2.2.2.2.2.2.2, Fx.out.2.2.2.1, HCSl.out, HL.out])
      have hco := K.out.cod
      rw [Fx.out.2.2.2.2.2.2.2.1, Fx.out.2.2.2.1] at hco
      obtain ⟨b3, off3, hA3, hbb3, hc3⟩ := int_at (own_rdi hco) (j := s) (by rw [HCSl.out]; exact hsl)
      injection hA3 with hA3
      injection hA3 with hA3 hA4
      subst hA3 hA4
      rw [Nat.zero_add] at hc3
      have hcs : CS[s]'(by rw [HCSl.out]; exact hsl) = CS.getD s 0 := by rw [List.getD_eq_getElem?_getD, List.getElem?_eq_getElem (by rw [HCSl.out]; exact hsl)]; rfl
      rw [hcs] at hc3
      obtain ⟨cv, hcv⟩ : ∃ cv, cv = CS.getD s 0 := ⟨_, rfl⟩
      rw [← hcv] at hc3
      have fz := fun o => K.out.blk.frozen o
      have hgw := K.out.blk.lt
      have Htk := hid htk
      have Hn := hid hn
      have Hcv := hid hcv
      clear hor hor2 hmem e1 e2 hco hcs hcv hn hs htk hio
      go_upto_region 5 with (fail)
      go_quiet (fail)
      have B5 := hid (K.out.below (below_drewN (Below.refl _ _) nq))
      have Be5 := hid (Be.out.trans ((below_drewN (Below.refl wr.heap.size wr) nq).mono Be.out.size))
      obtain ⟨w5, hw5⟩ : ∃ w5, w5 = wr.drewN nq := ⟨_, rfl⟩
      have f1' : w5.cell? ⟨g, 3 + n * 2, none⟩ = some (.int .i64 (b.F n)) := by rw [hw5]; exact f1
      have f2' : w5.cell? ⟨g, 3 + n * 2 + 1, none⟩ = some (.slice (b.SA n) (b.S n).length (b.Sc n)) := by rw [hw5]; exact f2
      have f3' : w5.cell? ⟨g, 1, none⟩ = some (.slice (some ⟨g2, 0, none⟩) L L) := by rw [hw5]; exact f3
      have hc3' : w5.cell? ⟨g2, s, none⟩ = some (.int .i64 cv) := by rw [hw5]; exact hc3
      rw [← hw5] at B5 Be5 ⊢
      clear hw5 f1 f2 f3 hc3 hc hc2 fz hgw
      have fz := fun o => B5.out.blk.frozen o
      have hgw := B5.out.blk.lt
      obtain ⟨m, hm2⟩ : ∃ m, m = (b.S n).length := ⟨_, rfl⟩
      rw [← hm2] at f2'
      have Hm := hid hm2
      clear hm2
      have hs1 := HS.out n hn17
      have hS1 := hid hs1
      clear hs1
      have hml : m ≤ 1000 := by
        rw [Hm.out, hS1.out.1]
        have h1 : (selN l (o.take i) n).length ≤ (o.take i).length := List.length_filter_le _ _
        have h2 : (o.take i).length ≤ i := List.length_take_le _ _
        omega
      have fin : ∀ (b1 b2 : BM), b1.S = b.S → b1.LA = b.LA ∧ b1.Lc = b.Lc ∧ b1.lens = b.lens ∧ b1.codes = b.codes ∧ b1.OA = b.OA ∧ b1.Oc = b.Oc ∧ b1.ord = b.ord ∧ b1.CA = b.CA ∧ b1.Cc = b.Cc → b2.F = b1.F → b2.LA = b1.LA ∧ b2.Lc = b1.Lc ∧ b2.lens = b1.lens ∧ b2.codes = b1.codes ∧ b2.OA = b1.OA ∧ b2.Oc = b1.Oc ∧ b2.ord = b1.ord ∧ b2.CA = b1.CA ∧ b2.Cc = b1.Cc → b2.S = upF b1.S n (b1.S n ++ [s]) → (∀ j, j ≠ n → b1.F j = b.F j) → (b1.F n = if m = 0 then CS.getD s 0 else b.F n) →
          (b2.LA = A1 ∧ b2.Lc = c1 ∧ b2.lens = l ∧ b2.codes = CS ∧ b2.OA = some ⟨bo, off, none⟩ ∧ b2.Oc = oc ∧ b2.ord = o ∧ b2.CA = some ⟨g2, 0, none⟩ ∧ b2.Cc = l.length) ∧ (∀ j, j < 17 → b2.S j = selN l (o.take (i + 1)) j ∧ b2.F j = fstC CS (b2.S j)) := fun b1 b2 h1 h2 h3 h4 h5 h6 h7 => by
        obtain ⟨p1, p2, p3, p4, p5, p6, p7, p8, p9⟩ := h2
        obtain ⟨q1, q2, q3, q4, q5, q6, q7, q8, q9⟩ := h4
        obtain ⟨r1, r2, r3, r4, r5, r6, r7, r8, r9⟩ := Fx.out
        refine ⟨⟨q1.trans (p1.trans r1), q2.trans (p2.trans r2), q3.trans (p3.trans r3), q4.trans (p4.trans r4), q5.trans (p5.trans r5), q6.trans (p6.trans r6), q7.trans (p7.trans r7), q8.trans (p8.trans r8), q9.trans (p9.trans r9)⟩, fun j hj => ?_⟩
        have hSj := HS.out j hj
        rw [h5, h3, h1, Htk.out, selN_snoc, ← Hn.out]
        by_cases e : j = n
        · subst e
          rw [upF_same, if_pos rfl, hSj.1, h7]
          refine ⟨rfl, ?_⟩
          by_cases e0 : m = 0
          · have : b.S j = [] := List.eq_nil_of_length_eq_zero (by rw [← Hm.out]; exact e0)
            rw [if_pos e0, ← hSj.1, this]
            rfl
          · rw [if_neg e0, hSj.2, hSj.1, fstC_snoc]
            intro e1
            rw [Hm.out, hSj.1, e1] at e0
            exact e0 rfl
        · rw [upF_ne _ _ e, if_neg e, h6 j e]
          exact hSj
      have Fin := hid fin
      clear fin
      obtain ⟨i0, hi0, hz0, hz1, hz2⟩ := info_parts int_info
      have Hi0 := hid hi0
      have Hz0 := hid hz0
      have Hz1 := hid hz1
      have Hz2 := hid hz2
      clear hi0 hz0 hz1 hz2
      by_cases hm0 : m = 0
      · have d0 : (m == 0) = true := beq_iff_eq.2 hm0
        have d1 : ((m : Int) == 0) = true := by rw [beq_iff_eq]; omega
        have Hm0 := hid hm0
        clear hm0
        go_upto_region 8 with (fail)
        have K6 := hid (B5.out.first hn17 cv)
        have D6 := hid (show Dis { b with F := upF b.F n cv } from ⟨D.out.rows, D.out.len, D.out.cod, D.out.ord⟩)
        have Be6 := hid (Be5.out.setCell (p := ⟨g, 3 + n * 2, none⟩) hWg (.int .i64 cv))
        generalize w5.setCell ⟨g, 3 + n * 2, none⟩ (.int .i64 cv) = w6 at *
        clear f1' f2' f3' hc3' fz hgw
        have own6 := own_rebase (base := W.heap.size) (K6.out.row n hn17) (fun p e => HBase.out n hn17 p e)
        have hle6 := Be6.out.size
        have K6a := hid (K6.out.below ((Below.refl w6.heap.size w6).alloc (Nat.le_refl _) (.cells #[.int .i64 (s : Int)] 3)))
        have OW6 := hid (own_below own6 ((Below.refl w6.heap.size w6).alloc (Nat.le_refl _) (.cells #[.int .i64 (s : Int)] 3)) (Nat.le_refl _))
        clear own6
        have fzb := fun o => K6.out.blk.frozen o
        have hgwb := K6.out.blk.lt
        have f2b : w6.cell? ⟨g, 3 + n * 2 + 1, none⟩ = some (.slice (b.SA n) m (b.Sc n)) := (K6.out.blk.cell _).trans ((cell_syms { b with F := upF b.F n cv } n hn17).trans (by rw [Hm.out]))
        go_wp2_with (at_builtin; (refine wpList_app _ rfl _ _ _ rfl W.heap.size 3 i0 (.int .i64 0) 1 8 Try.underlying53 Hi0.out Hz0.out Hz1.out Hz2.out rfl (by omega) (b.SA n) m (b.Sc n) (intsV (natsV (b.S n))) rfl (by have h1 := OW6.out; rw [← Hm.out] at h1; exact h1) _ _ 1 1 [.int .i64 (s : Int)] rfl (rd_one _ _ _ _ (Blk.new _ _ _)) (by simp) (by simp [Value.oneCell']) (by simp only [maxLen]; omega) (by omega) (by rw [World.size_alloc]; exact Nat.le_succ_of_le hle6) ?_; intro A4 c4 w7 ha4; rw [Hm.out] at ha4; have Ha4 := hid ha4; have K7 := hid (K6a.out.blk.grown ha4.2.1 (own_blk_ne OW6.out K6a.out.blk (by decide))); have y2 := (K7.out.cell _).trans (cell_syms { b with F := upF b.F n cv } n hn17); have y3 := K7.out.frozen (3 + n * 2 + 1); have y4 := K7.out.lt; clear ha4))
        have hpush := K6a.out.push (n := n) (s := s) D6.out hn17 Ha4.out
        have hfin := Fin.out { b with F := upF b.F n cv } (pushB { b with F := upF b.F n cv } n s A4 c4) rfl ⟨rfl, rfl, rfl, rfl, rfl, rfl, rfl, rfl, rfl⟩ rfl ⟨rfl, rfl, rfl, rfl, rfl, rfl, rfl, rfl, rfl⟩ rfl (fun j hj => upF_ne _ _ hj) (by rw [if_pos Hm0.out, ← Hcv.out]; exact upF_same _ _ _)
        have hbase : ∀ j, j < 17 → ∀ p, obA ((pushB { b with F := upF b.F n cv } n s A4 c4).SA j) = some p → W.heap.size ≤ p := fun j hj p e => by
          have e2 : obA (upF b.SA n A4 j) = some p := e
          by_cases ej : j = n
          · rw [ej, upF_same] at e2
            have h4 := Ha4.out.2.2.2
            rw [ob_eq, ob_eq, e2] at h4
            rcases h4 with h5 | h5
            · exact HBase.out n hn17 p h5.symm
            · injection h5 with h5
              rw [World.size_alloc] at h5
              omega
          · rw [upF_ne _ _ ej] at e2
            exact HBase.out j hj p e2
        have hbe7 : Below W.heap.size W (w7.setCell ⟨g, 3 + n * 2 + 1, none⟩ (.slice A4 (m + 1) c4)) := ((Be6.out.alloc hle6 _).trans Ha4.out.2.2.1).setCell (p := ⟨g, 3 + n * 2 + 1, none⟩) hWg _
        rw [← Hm.out] at hpush
        exact ⟨⟨i + 1, pushB { b with F := upF b.F n cv } n s A4 c4, by omega, by go_num, hid hpush.1, hid hpush.2, hid hfin.1, hid hfin.2, hid hbase, hid hbe7⟩, by simp [intOf]; omega⟩
      · have d0 : (m == 0) = false := beq_eq_false_iff_ne.2 hm0
        have d1 : ((m : Int) == 0) = false := by rw [beq_eq_false_iff_ne]; omega
        go_upto_region 8 with (fail)
        clear f1' f2' f3' hc3' fz hgw
        have own6 := own_rebase (base := W.heap.size) (B5.out.row n hn17) (fun p e => HBase.out n hn17 p e)
        have hle6 := Be5.out.size
        have K6a := hid (B5.out.below ((Below.refl w5.heap.size w5).alloc (Nat.le_refl _) (.cells #[.int .i64 (s : Int)] 3)))
        have OW6 := hid (own_below own6 ((Below.refl w5.heap.size w5).alloc (Nat.le_refl _) (.cells #[.int .i64 (s : Int)] 3)) (Nat.le_refl _))
        clear own6
        have fzb := fun o => B5.out.blk.frozen o
        have hgwb := B5.out.blk.lt
        have f2b : w5.cell? ⟨g, 3 + n * 2 + 1, none⟩ = some (.slice (b.SA n) m (b.Sc n)) := (B5.out.blk.cell _).trans ((cell_syms b n hn17).trans (by rw [Hm.out]))
        go_wp2_with (at_builtin; (refine wpList_app _ rfl _ _ _ rfl W.heap.size 3 i0 (.int .i64 0) 1 8 Try.underlying53 Hi0.out Hz0.out Hz1.out Hz2.out rfl (by omega) (b.SA n) m (b.Sc n) (intsV (natsV (b.S n))) rfl (by have h1 := OW6.out; rw [← Hm.out] at h1; exact h1) _ _ 1 1 [.int .i64 (s : Int)] rfl (rd_one _ _ _ _ (Blk.new _ _ _)) (by simp) (by simp [Value.oneCell']) (by simp only [maxLen]; omega) (by omega) (by rw [World.size_alloc]; exact Nat.le_succ_of_le hle6) ?_; intro A4 c4 w7 ha4; rw [Hm.out] at ha4; have Ha4 := hid ha4; have K7 := hid (K6a.out.blk.grown ha4.2.1 (own_blk_ne OW6.out K6a.out.blk (by decide))); have y2 := (K7.out.cell _).trans (cell_syms b n hn17); have y3 := K7.out.frozen (3 + n * 2 + 1); have y4 := K7.out.lt; clear ha4))
        have hpush := K6a.out.push (n := n) (s := s) D.out hn17 Ha4.out
        have hfin := Fin.out b (pushB b n s A4 c4) rfl ⟨rfl, rfl, rfl, rfl, rfl, rfl, rfl, rfl, rfl⟩ rfl ⟨rfl, rfl, rfl, rfl, rfl, rfl, rfl, rfl, rfl⟩ rfl (fun _ _ => rfl) (by rw [if_neg hm0])
        have hbase : ∀ j, j < 17 → ∀ p, obA ((pushB b n s A4 c4).SA j) = some p → W.heap.size ≤ p := fun j hj p e => by
          have e2 : obA (upF b.SA n A4 j) = some p := e
          by_cases ej : j = n
          · rw [ej, upF_same] at e2
            have h4 := Ha4.out.2.2.2
            rw [ob_eq, ob_eq, e2] at h4
            rcases h4 with h5 | h5
            · exact HBase.out n hn17 p h5.symm
            · injection h5 with h5
              rw [World.size_alloc] at h5
              omega
          · rw [upF_ne _ _ ej] at e2
            exact HBase.out j hj p e2
        have hbe7 : Below W.heap.size W (w7.setCell ⟨g, 3 + n * 2 + 1, none⟩ (.slice A4 (m + 1) c4)) := ((Be5.out.alloc hle6 _).trans Ha4.out.2.2.1).setCell (p := ⟨g, 3 + n * 2 + 1, none⟩) hWg _
        rw [← Hm.out] at hpush
        exact ⟨⟨i + 1, pushB b n s A4 c4, by omega, by go_num, hid hpush.1, hid hpush.2, hid hfin.1, hid hfin.2, hid hbase, hid hbe7⟩, by simp [intOf]; omega⟩
    · have hie : o.take i = o := List.take_of_length_le (by rw [← HN.out]; omega)
      rw [hie] at HS
      clear hie
      go_wp2_with fail
      go_ret
      refine ⟨g, b, rfl, hWg, K.out, Fx.out.2.2.1, by rw [Fx.out.2.2.2.1, HCS.out], Fx.out.2.2.2.2.2.2.1, fun n hn => ?_, Be.out⟩
      rw [Fx.out.2.2.2.1]
      exact HS.out n hn
end Go.Proofs.Ytegmbjkpjglgpaa
