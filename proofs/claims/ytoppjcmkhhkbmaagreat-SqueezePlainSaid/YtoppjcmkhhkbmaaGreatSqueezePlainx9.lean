/-
  bits.Writer in both orders of bits: its bits as a list, its bytes, what a write turns.
  bits.Writer: a bit, a number, filling, the bytes.
  bits.Writer: its bytes.
-/
import Derived.Test.YtoppjcmkhhkbmaaGreatSqueezePlainx1
import Derived.Test.YtoppjcmkhhkbmaaGreatSqueezePlainx2
import Derived.Test.YtoppjcmkhhkbmaaGreatSqueezePlainx8
import Derived.BigRegion
import Derived.RegionTactic
import Derived.RegionCalls
import Derived.Deep.DeepCutAuto
import Derived.Deep.CutRange
namespace Go.Proofs.YtoppjcmkhhkbmaaGreat
open Go.RowKit
attribute [local go_sem] Oper.semAt_some

/-- where the bit at a place of a byte stands -/
def shS (s : Bool) (i : Nat) : Nat := if s then 7 - i else i
/-- the first n bits of byte j -/
def byS (s : Bool) (L : List Int) (j : Nat) : Nat → Int
  | 0 => 0
  | n + 1 => byS s L j n + L.getD (8 * j + n) 0 * 2 ^ shS s n
/-- bits as bytes; the last byte filled with noughts -/
def pkS (s : Bool) (L : List Int) : List Int := (List.range ((L.length + 7) / 8)).map fun j => byS s L j 8
/-- the same with a byte of its own for the next bit -/
def pkX (s : Bool) (L : List Int) : List Int := (List.range (L.length / 8 + 1)).map fun j => byS s L j 8
theorem pkS_len (s : Bool) (L : List Int) : (pkS s L).length = (L.length + 7) / 8 := by simp [pkS]
theorem pkX_len (s : Bool) (L : List Int) : (pkX s L).length = L.length / 8 + 1 := by simp [pkX]
theorem byS_same (s : Bool) (L M : List Int) (j : Nat) : ∀ n, (∀ i, i < n → L.getD (8 * j + i) 0 = M.getD (8 * j + i) 0) → byS s L j n = byS s M j n
  | 0, _ => rfl
  | n + 1, h => by rw [byS, byS, byS_same s L M j n (fun i hi => h i (by omega)), h n (by omega)]
theorem getD_beyond (L : List Int) (i : Nat) (h : L.length ≤ i) : L.getD i 0 = 0 := by
  rw [List.getD_eq_getElem?_getD, List.getElem?_eq_none h]; rfl
theorem byS_part (s : Bool) (L : List Int) (j m : Nat) (h : L.length ≤ 8 * j + m) : ∀ d, byS s L j (m + d) = byS s L j m
  | 0 => rfl
  | d + 1 => by rw [← Nat.add_assoc, byS, byS_part s L j m h d, getD_beyond L _ (by omega)]; omega
theorem byS_none (s : Bool) (L : List Int) (j : Nat) (h : L.length ≤ 8 * j) : byS s L j 8 = 0 := by
  have := byS_part s L j 0 h 8
  rw [Nat.zero_add] at this
  exact this
theorem pkX_new (s : Bool) (L : List Int) (h : L.length % 8 = 0) : pkX s L = pkS s L ++ [0] := by
  unfold pkX pkS
  rw [show (L.length + 7) / 8 = L.length / 8 by omega, List.range_succ, List.map_append, List.map_cons, List.map_nil, byS_none s L (L.length / 8) (by omega)]
theorem pkX_old (s : Bool) (L : List Int) (h : L.length % 8 ≠ 0) : pkX s L = pkS s L := by
  unfold pkX pkS
  rw [show (L.length + 7) / 8 = L.length / 8 + 1 by omega]
theorem pkX_last (s : Bool) (L : List Int) : (pkX s L)[L.length / 8]'(by rw [pkX_len]; omega) = byS s L (L.length / 8) (L.length % 8) := by
  unfold pkX
  rw [List.getElem_map, List.getElem_range]
  have h := byS_part s L (L.length / 8) (L.length % 8) (by omega) (8 - L.length % 8)
  rw [show L.length % 8 + (8 - L.length % 8) = 8 by omega] at h
  exact h
theorem getD_app (L : List Int) (b : Int) (i : Nat) (h : i ≠ L.length) : (L ++ [b]).getD i 0 = L.getD i 0 := by
  rcases Nat.lt_or_ge i L.length with hi | hi
  · rw [List.getD_eq_getElem?_getD, List.getD_eq_getElem?_getD, List.getElem?_append_left hi]
  · rw [getD_beyond L i hi, getD_beyond _ i (by rw [List.length_append, List.length_cons, List.length_nil]; omega)]
theorem getD_new (L : List Int) (b : Int) : (L ++ [b]).getD L.length 0 = b := by
  rw [List.getD_eq_getElem?_getD, List.getElem?_append_right (Nat.le_refl _), Nat.sub_self]; rfl
theorem pk_snoc (s : Bool) (L : List Int) (b : Int) : pkS s (L ++ [b]) = (pkX s L).set (L.length / 8) (byS s L (L.length / 8) (L.length % 8) + b * 2 ^ shS s (L.length % 8)) := by
  apply List.ext_getElem
  · rw [pkS_len, List.length_set, pkX_len, List.length_append, List.length_cons, List.length_nil]; omega
  · intro j h1 h2
    have hj : j ≤ L.length / 8 := by rw [List.length_set, pkX_len] at h2; omega
    rw [List.getElem_set, show (pkS s (L ++ [b]))[j] = byS s (L ++ [b]) j 8 from by simp [pkS]]
    split
    · rename_i he
      have hm : L.length % 8 < 8 := Nat.mod_lt _ (by omega)
      have h := byS_part s (L ++ [b]) j (L.length % 8 + 1) (by rw [List.length_append, List.length_cons, List.length_nil]; omega) (7 - L.length % 8)
      rw [show L.length % 8 + 1 + (7 - L.length % 8) = 8 by omega] at h
      rw [h, byS, show 8 * j + L.length % 8 = L.length by omega, getD_new, byS_same s (L ++ [b]) L j _ (fun i hi => getD_app L b _ (by omega)), ← he]
    · rename_i he
      rw [show ∀ h, (pkX s L)[j]'h = byS s L j 8 from fun _ => by simp [pkX]]
      exact byS_same s _ _ j 8 (fun i hi => getD_app L b _ (by omega))
/-- what a byte's first bits are: below 256, and noughts behind them -/
theorem byS_bd (s : Bool) {L : List Int} (hb : ∀ x ∈ L, isBit x) (j : Nat) : ∀ n, n ≤ 8 → 0 ≤ byS s L j n ∧ (s = false → byS s L j n < 2 ^ n) ∧ (s = true → byS s L j n ≤ 256 - 2 ^ (8 - n) ∧ byS s L j n % 2 ^ (8 - n) = 0)
  | 0, _ => ⟨Int.le_refl _, fun _ => by simp [byS], fun _ => by simp [byS]⟩
  | n + 1, h => by
    obtain ⟨h1, h2, h3⟩ := byS_bd s hb j n (by omega)
    have hx := getD_bit hb (8 * j + n)
    rw [byS]
    generalize L.getD (8 * j + n) 0 = x at hx ⊢
    generalize byS s L j n = y at h1 h2 h3 ⊢
    have hn : n = 0 ∨ n = 1 ∨ n = 2 ∨ n = 3 ∨ n = 4 ∨ n = 5 ∨ n = 6 ∨ n = 7 := by omega
    unfold isBit at hx
    cases s
    · have h2 := h2 rfl
      refine ⟨?_, fun _ => ?_, fun h => by cases h⟩ <;> (unfold shS; rcases hx with rfl | rfl <;> rcases hn with rfl | rfl | rfl | rfl | rfl | rfl | rfl | rfl <;> simp at h2 ⊢ <;> omega)
    · obtain ⟨h3, h4⟩ := h3 rfl
      refine ⟨?_, (fun h => by cases h), fun _ => ?_⟩ <;> (unfold shS; rcases hx with rfl | rfl <;> rcases hn with rfl | rfl | rfl | rfl | rfl | rfl | rfl | rfl <;> simp at h3 h4 ⊢ <;> omega)
theorem byS_B (s : Bool) {L : List Int} (hb : ∀ x ∈ L, isBit x) (j n : Nat) (hn : n ≤ 8) : isB (byS s L j n) := by
  obtain ⟨h1, h2, h3⟩ := byS_bd s hb j n hn
  unfold isB
  have hp : n = 0 ∨ n = 1 ∨ n = 2 ∨ n = 3 ∨ n = 4 ∨ n = 5 ∨ n = 6 ∨ n = 7 ∨ n = 8 := by omega
  cases s
  · have h2 := h2 rfl
    rcases hp with rfl | rfl | rfl | rfl | rfl | rfl | rfl | rfl | rfl <;> simp at h2 ⊢ <;> omega
  · have h3 := (h3 rfl).1
    rcases hp with rfl | rfl | rfl | rfl | rfl | rfl | rfl | rfl | rfl <;> simp at h3 ⊢ <;> omega
theorem or_bit : ∀ r : Fin 8, ∀ x : Fin 256, x.val / 2 ^ r.val % 2 = 0 → bits .or .u8 (x.val : Int) ((2 ^ r.val : Nat) : Int) = ((x.val + 2 ^ r.val : Nat) : Int) ∧ x.val + 2 ^ r.val < 256 := by decide +kernel
theorem or_zero : ∀ x : Fin 256, bits .or .u8 (x.val : Int) 0 = (x.val : Int) := by decide +kernel
/-- the next bit, set into its byte -/
theorem or_next (s : Bool) {L : List Int} (hb : ∀ x ∈ L, isBit x) (j : Nat) {b : Int} (h : isBit b) (r : Nat) (hr : r < 8) :
    bits .or .u8 (byS s L j r) (b * 2 ^ shS s r) = byS s L j r + b * 2 ^ shS s r ∧ isB (byS s L j r + b * 2 ^ shS s r) ∧ 0 ≤ b * 2 ^ shS s r ∧ b * 2 ^ shS s r ≤ 128 := by
  obtain ⟨h1, h2, h3⟩ := byS_bd s hb j r (by omega)
  have hB := byS_B s hb j r (by omega)
  generalize byS s L j r = y at h1 h2 h3 hB ⊢
  unfold isB at hB ⊢
  obtain ⟨m, rfl⟩ := Int.eq_ofNat_of_zero_le h1
  have hm : m < 256 := by omega
  have hs : shS s r < 8 := by unfold shS; split <;> omega
  rcases h with rfl | rfl
  · rw [Int.zero_mul, Int.add_zero]
    exact ⟨or_zero ⟨m, hm⟩, hB, by omega, by omega⟩
  · have hq : m / 2 ^ shS s r % 2 = 0 := by
      have hp : r = 0 ∨ r = 1 ∨ r = 2 ∨ r = 3 ∨ r = 4 ∨ r = 5 ∨ r = 6 ∨ r = 7 := by omega
      cases s
      · have h2 := h2 rfl
        have : m < 2 ^ r := by exact_mod_cast h2
        show m / 2 ^ r % 2 = 0
        rw [Nat.div_eq_of_lt this]
      · have h3 := (h3 rfl).2
        unfold shS
        rcases hp with rfl | rfl | rfl | rfl | rfl | rfl | rfl | rfl <;> simp at h3 ⊢ <;> omega
    have h := or_bit ⟨shS s r, hs⟩ ⟨m, hm⟩ hq
    dsimp only at h
    have hp2 : 2 ^ shS s r ≤ 2 ^ 7 := Nat.pow_le_pow_right (by omega) (by omega)
    have e : ((2 ^ shS s r : Nat) : Int) = 2 ^ shS s r := by simp
    obtain ⟨q, hq2⟩ : ∃ q, q = 2 ^ shS s r := ⟨_, rfl⟩
    rw [Int.one_mul, ← e]
    rw [← hq2] at h hp2 ⊢
    exact ⟨by rw [h.1]; simp, by omega, by omega, by omega⟩

/-- a writer in memory -/
structure WrS (w : World) (g : Nat) (s : Bool) (A : Option Addr) (c base : Nat) (L : List Int) : Prop where
  blk : Blk w g 165 #[.bool s, .slice A ((L.length + 7) / 8) c, .int .i64 (L.length : Nat)]
  row : w.ownsRow base 5 1 (.slice A ((L.length + 7) / 8) c) ((L.length + 7) / 8) (bytesV (pkS s L))
  ok : ∀ x ∈ L, isBit x
  gb : base ≤ g
/-- only this writer, and its bytes, were turned -/
structure Tw (g : Nat) (A A' : Option Addr) (w w' : World) : Prop where
  os : w'.os = w.os
  tape : w'.tape = w.tape
  output : w'.output = w.output
  size : w.heap.size ≤ w'.heap.size
  same : ∀ k, k < w.heap.size → k ≠ g → (∀ a, A = some a → a.block ≠ k) → w'.heap[k]? = w.heap[k]?
  new : ∀ a', A' = some a' → (∃ a, A = some a ∧ a'.block = a.block) ∨ w.heap.size ≤ a'.block
section
variable {g base c : Nat} {A A1 A2 : Option Addr} {w w1 w2 : World} {s : Bool} {L : List Int}
theorem Tw.refl (g : Nat) (A : Option Addr) (w : World) : Tw g A A w w := ⟨rfl, rfl, rfl, Nat.le_refl _, fun _ _ _ _ => rfl, fun a h => .inl ⟨a, h, rfl⟩⟩
theorem Tw.trans (h : Tw g A A1 w w1) (k : Tw g A1 A2 w1 w2) : Tw g A A2 w w2 := by
  refine ⟨k.os.trans h.os, k.tape.trans h.tape, k.output.trans h.output, Nat.le_trans h.size k.size, fun i hi hg ha => ?_, fun a ha => ?_⟩
  · refine (k.same i (Nat.lt_of_lt_of_le hi h.size) hg fun a e => ?_).trans (h.same i hi hg ha)
    rcases h.new a e with ⟨a0, e0, e1⟩ | e1
    · rw [e1]; exact ha a0 e0
    · omega
  · rcases k.new a ha with ⟨a0, e0, e1⟩ | e1
    · rcases h.new a0 e0 with ⟨a1, e2, e3⟩ | e2
      · exact .inl ⟨a1, e2, e1.trans e3⟩
      · exact .inr (by omega)
    · exact .inr (Nat.le_trans h.size e1)
theorem Tw.of_below (g : Nat) (A : Option Addr) (hb : Below w.heap.size w w1) : Tw g A A w w1 := ⟨hb.os, hb.tape, hb.output, hb.size, fun k hk _ _ => hb.block k hk, fun a h => .inl ⟨a, h, rfl⟩⟩
theorem Tw.below (h : Tw g A A1 w w1) (hb : Below w1.heap.size w1 w2) : Tw g A A1 w w2 := h.trans (.of_below g A1 hb)
theorem Tw.set (h : Tw g A A1 w w1) (i : Nat) (u : Value) : Tw g A A1 w (w1.setCell ⟨g, i, none⟩ u) :=
  h.trans ⟨rfl, rfl, rfl, by simp [World.setCell], fun k _ hg _ => Below.heap_setCell w1 _ u k hg, fun a h => .inl ⟨a, h, rfl⟩⟩
theorem Tw.row (h : Tw g A A1 w w1) {p : Addr} (hp : ∃ a, A1 = some a ∧ a.block = p.block) (u : Value) : Tw g A A1 w (w1.setCell p u) :=
  h.trans ⟨rfl, rfl, rfl, by simp [World.setCell], fun k _ _ ha => Below.heap_setCell w1 _ u k (fun e => by obtain ⟨a, h1, h2⟩ := hp; exact ha a h1 (h2.trans e.symm)), fun a h => .inl ⟨a, h, rfl⟩⟩
theorem Tw.blk {k : Nat} {t : TypeId} {cs : Array Value} (h : Tw g A A1 w w1) (hb : Blk w k t cs) (hk : k ≠ g) (ha : ∀ a, A = some a → a.block ≠ k) : Blk w1 k t cs := (h.same k hb.lt hk ha).trans hb
theorem Tw.low (h : Tw g A A1 w w1) (hg : base ≤ g) (ha : ∀ a, A = some a → base ≤ a.block) (hs : base ≤ w.heap.size) : Below base w w1 :=
  ⟨h.os, h.tape, h.output, h.size, fun k hk => h.same k (by omega) (by omega) (fun a e => by have := ha a e; omega)⟩
theorem WrS.far (h : WrS w g s A c base L) : ∀ a, A = some a → base ≤ a.block ∧ a.block ≠ g ∧ a.block < w.heap.size := by
  intro a ha
  rcases h.row.2 with ⟨h1, _⟩ | ⟨k, cap, cur, h1, hk, hb, _⟩
  · injection h1 with h1; rw [ha] at h1; cases h1
  · injection h1 with h1
    rw [ha] at h1
    injection h1 with h1
    subst h1
    refine ⟨hk, fun e => ?_, (Array.getElem?_eq_some_iff.1 hb).1⟩
    have h2 := h.blk
    unfold Blk at h2
    have e : k = g := e
    rw [← e] at h2
    have hb' : w.heap[k]? = some (.cells cur 5 (0, 0)) := hb
    rw [hb'] at h2
    injection h2 with h2
    injection h2 with _ h2
    exact absurd h2 (by decide)
/-- blocks of other types stay -/
theorem Tw.other {k : Nat} {t : TypeId} {cs : Array Value} (h : Tw g A A1 w w1) (hw : WrS w g s A c base L) (hb : Blk w k t cs) (h1 : t ≠ 165) (h2 : t ≠ 5) : Blk w1 k t cs := by
  refine h.blk hb (fun e => ?_) (fun a ha e => ?_)
  · subst e
    have h3 := hw.blk
    unfold Blk at h3 hb
    rw [hb] at h3
    injection h3 with h3
    injection h3 with _ h3
    exact h1 h3
  · have h3 := own_blk_ne hw.row hb (fun h => h2 h.symm)
    rw [ha] at h3
    exact h3 (by rw [← e]; rfl)
theorem WrS.below' (h : WrS w g s A c base L) (hb : Below w.heap.size w w1) : WrS w1 g s A c base L := ⟨h.blk.below hb h.blk.lt, own_below h.row hb (Nat.le_refl _), h.ok, h.gb⟩
theorem WrS.low (h : WrS w g s A c base L) (k : Tw g A A1 w w1) (hs : base ≤ w.heap.size) : Below base w w1 := k.low h.gb (fun a e => (h.far a e).1) hs
end
/-- an element of an own row, stored -/
theorem own_rowput {w : World} {base e c n : Nat} {A : Option Addr} {xs : List Value} (h : w.ownsRow base e 1 (.slice A n c) n xs) {j g : Nat} (hA : A = some ⟨g, 0, none⟩) (u : Value) :
    (w.setCell ⟨g, j, none⟩ u).ownsRow base e 1 (.slice A n c) n (xs.set j u) := by
  refine ⟨by rw [List.length_set]; exact h.1, ?_⟩
  rcases h.2 with ⟨h1, _⟩ | ⟨k, cap, cur, h1, hk, hb, h2, h3, h4, h5⟩
  · injection h1 with h1; rw [hA] at h1; cases h1
  · injection h1 with h1 _ h6
    rw [hA] at h1
    injection h1 with h1
    injection h1 with h1
    subst h1
    refine .inr ⟨g, cap, cur.setIfInBounds j u, by rw [hA, h6], hk, ?_, h2, h3, by simpa using h4, ?_⟩
    · exact Blk.set_ (t := e) (cs := cur) hb j u
    · rw [Nat.mul_one] at h5 ⊢
      rw [← h5, Array.toList_setIfInBounds, List.take_set]
end Go.Proofs.YtoppjcmkhhkbmaaGreat

namespace Go.Proofs.YtoppjcmkhhkbmaaGreat
open Go.RowKit
attribute [local go_sem] Oper.semAt_some

theorem shiftS_any (s : Bool) (k : Nat) (W : World) : Calls Tryz.prog 169 #[.bool s, .int .i64 (k : Int)] W fun e w' => e = .returned (.int .i64 (shS s (k % 8) : Nat)) ∧ W = w' := by
  have hk : k % 8 < 8 := Nat.mod_lt _ (by omega)
  cases s
  · have HS := hid (show shS false (k % 8) = k % 8 from rfl)
    go_enter Tryz.func169, Tryz.ntmps169
    go_wp2
    go_ret
    exact ⟨ret_int (by rw [HS.out]; omega), rfl⟩
  · have HS := hid (show shS true (k % 8) = 7 - k % 8 from rfl)
    go_enter Tryz.func169, Tryz.ntmps169
    go_wp2
    go_ret
    exact ⟨ret_int (by rw [HS.out]; omega), rfl⟩
/-- which bit of a number of n bits comes as number i -/
def pkI (s : Bool) (i n : Nat) : Nat := if s then n - 1 - i else i
theorem pickS_any (s : Bool) (i n : Nat) (hi : i < n) (hn : n ≤ 64) (W : World) : Calls Tryz.prog 166 #[.bool s, .int .i64 (i : Int), .int .i64 (n : Int)] W fun e w' => e = .returned (.int .i64 (pkI s i n : Nat)) ∧ W = w' := by
  cases s
  · have HS := hid (show pkI false i n = i from rfl)
    go_enter Tryz.func166, Tryz.ntmps166
    go_wp2
    go_ret
    exact ⟨ret_int (by rw [HS.out]), rfl⟩
  · have HS := hid (show pkI true i n = n - 1 - i from rfl)
    have e1 : wrap64 ((n : Int) - 1) = (n : Int) - 1 := by unfold wrap64; omega
    have e2 : wrap64 ((n : Int) - 1 - (i : Int)) = (n : Int) - 1 - (i : Int) := by unfold wrap64; omega
    go_enter Tryz.func166, Tryz.ntmps166
    go_wp2
    go_ret
    exact ⟨ret_int (by rw [HS.out]; omega), rfl⟩
/-- a writer whose last byte has room for a bit -/
structure WrX (w : World) (g : Nat) (s : Bool) (A : Option Addr) (c base : Nat) (L : List Int) : Prop where
  blk : Blk w g 165 #[.bool s, .slice A (L.length / 8 + 1) c, .int .i64 (L.length : Nat)]
  row : w.ownsRow base 5 1 (.slice A (L.length / 8 + 1) c) (L.length / 8 + 1) (bytesV (pkX s L))
theorem own_frz {w : World} {base e size n c g : Nat} {xs : List Value} (h : w.ownsRow base e size (.slice (some ⟨g, 0, none⟩) n c) n xs) (o : Nat) : w.frozen? ⟨g, o, none⟩ = false := by
  rcases h.2 with ⟨h1, _⟩ | ⟨k, cap, cur, h1, _, hb, _⟩
  · cases h1
  · injection h1 with h1
    injection h1 with h1
    injection h1 with h1
    subst h1
    simp [World.frozen?, hb]
theorem bytesV_set (l : List Int) (j : Nat) (x : Int) : (bytesV l).set j (.int .u8 x) = bytesV (l.set j x) := by unfold bytesV; rw [List.map_set]
theorem bytesV_app (l m : List Int) : bytesV l ++ bytesV m = bytesV (l ++ m) := by unfold bytesV; rw [List.map_append]
set_option maxRecDepth 100000 in
set_option maxHeartbeats 8000000 in
theorem bit_any (s : Bool) (g : Nat) (A : Option Addr) (c base : Nat) (L : List Int) (b : Int) (hb : isBit b) (W : World) (h : WrS W g s A c base L) (hm : L.length ≤ 100000000) (hB : base ≤ W.heap.size) :
    Calls Tryz.prog 144 #[.pointer (some ⟨g, 0, none⟩), .int .i64 b] W fun e w' => e = .returned (.tuple #[]) ∧ ∃ A' c', WrS w' g s A' c' base (L ++ [b]) ∧ Tw g A A' W w' := by
  obtain ⟨i0, hi0, hz0, hz1, hz2⟩ := info_parts u8_info
  have Hi0 := hid hi0
  have Hz0 := hid hz0
  have Hz1 := hid hz1
  have Hz2 := hid hz2
  have H := hid h
  have Hb := hid hb
  obtain ⟨k, hk⟩ : ∃ k, k = L.length := ⟨_, rfl⟩
  have Hk := hid hk
  have hblk := h.blk
  rw [← hk] at hblk hm
  have q0 := hblk.cell 0
  have q1 := hblk.cell 1
  have q2 := hblk.cell 2
  simp only [List.getElem?_toArray, List.getElem?_cons_zero, List.getElem?_cons_succ] at q0 q1 q2
  have l0 := hblk.lt
  have fz := fun o => hblk.frozen o
  have Hblk := hid hblk
  clear hi0 hz0 hz1 hz2 h hb hk hblk
  go_enter Tryz.func144, Tryz.ntmps144
  go_upto_if 9 with (fail)
  go_cut [18] from 9 to 18 (fun v wq => ∃ (A1 : Option Addr) (c1 : Nat), Hid (WrX wq g s A1 c1 base L) ∧ Hid (Tw g A A1 W wq))
  case first =>
    by_cases r0 : k % 8 = 0
    · have d0 : decide (k % 8 = 0) = true := decide_eq_true r0
      have d1 : decide ((k : Int) % 8 = 0) = true := decide_eq_true (by omega)
      have hrow := H.out.row
      have HR := hid (hrow.alloc (.cells #[.int .u8 0] 5))
      obtain ⟨nb, hnb⟩ : ∃ n, n = (k + 7) / 8 := ⟨_, rfl⟩
      rw [← Hk.out, ← hnb] at HR
      rw [← hnb] at q1
      have hn2 : nb = k / 8 := by omega
      have hnm : nb ≤ 100000000 := by omega
      have Hnb := hid hn2
      have hB1 : base ≤ (W.alloc (.cells #[.int .u8 0] 5)).heap.size := by simp; omega
      have B1 := hid (Hblk.out.alloc (.cells #[.int .u8 0] 5))
      rw [← hnb] at B1
      clear hrow hnb hn2
      go_wp2_with (at_builtin; go_loud (refine wpList_app _ rfl _ _ _ rfl base 5 i0 (.int .u8 0) 1 1 Tryz.underlying22 Hi0.out Hz0.out Hz1.out Hz2.out rfl (by omega) A nb c (bytesV (pkS s L)) rfl HR.out _ _ 1 1 [.int .u8 0] rfl (rd_one _ _ _ _ (Blk.new _ _ _)) (by simp) (by simp [Value.oneCell']) (by simp only [maxLen]; omega) (by omega) hB1 ?_; intro A4 c4 w4 ha4; have Ha4 := hid ha4; have b4 := B1.out.grown ha4.2.1 (own_blk_ne HR.out B1.out (by decide)); have p1 := b4.cell 1; have l4 := b4.lt; have fz4 := fun o => b4.frozen o; simp only [List.getElem?_toArray, List.getElem?_cons_zero, List.getElem?_cons_succ] at p1; have B4 := hid b4; clear ha4 b4))
      go_meet
      obtain ⟨a1, a2, a3, a4⟩ := Ha4.out
      refine ⟨A4, c4, hid ⟨?_, ?_⟩, hid ?_⟩
      · rw [← Hk.out, ← Hnb.out]
        exact B4.out.set_ 1 _
      · rw [← Hk.out, ← Hnb.out, pkX_new s L (by rw [← Hk.out]; exact r0), ← bytesV_app]
        exact ownsRow_setCell_other a1 (fun e => own_blk_ne a1 B4.out (by decide) e.symm) _
      · have t1 := Tw.of_below g A ((Below.refl _ W).alloc (Nat.le_refl _) (.cells #[.int .u8 0] 5))
        have t2 : Tw g A A4 (W.alloc (.cells #[.int .u8 0] 5)) w4 := by
          refine ⟨a2.os, a2.tape, a2.output, a2.size, fun i hi hg ha => a2.block i hi (fun e => ?_), fun a e => ?_⟩
          · cases hA : A with
            | none => rw [hA] at e; cases e
            | some ad =>
              rw [hA] at e
              injection e with e
              exact ha ad hA e.symm
          · rw [e] at a4
            rcases a4 with a4 | a4
            · cases hA : A with
              | none => rw [hA] at a4; cases a4
              | some ad => rw [hA] at a4; injection a4 with a4; exact .inl ⟨ad, rfl, a4⟩
            · injection a4 with a4
              exact .inr (Nat.le_of_eq a4.symm)
        exact (t1.trans t2).set 1 _
    · have d0 : decide (k % 8 = 0) = false := decide_eq_false r0
      have d1 : decide ((k : Int) % 8 = 0) = false := decide_eq_false (by omega)
      go_wp2
      go_meet
      refine ⟨A, c, hid ⟨?_, ?_⟩, hid (Tw.refl g A W)⟩
      · rw [← Hk.out, show k / 8 + 1 = (k + 7) / 8 by omega]
        exact Hblk.out
      · rw [pkX_old s L (by rw [← Hk.out]; exact r0), ← Hk.out, show k / 8 + 1 = (k + 7) / 8 by omega, Hk.out]
        exact H.out.row
  case rest =>
    obtain ⟨A1, c1, HX, HT⟩ := hcut
    clear q0 q1 q2 l0 fz
    obtain ⟨n, hn⟩ : ∃ n, n = k / 8 := ⟨_, rfl⟩
    have Hn := hid hn
    obtain ⟨r, hr⟩ : ∃ r, r = k % 8 := ⟨_, rfl⟩
    have Hr := hid hr
    have hr8 : r < 8 := by omega
    have xb := HX.out.blk
    have xr := HX.out.row
    rw [← Hk.out, ← hn] at xb xr
    obtain ⟨gr, u, hA1, hgb, hgl, hxu, hcu⟩ := own_cell xr (show n < n + 1 by omega)
    subst hA1
    have hxu2 : u = .int .u8 (byS s L n r) := by
      have hl := pkX_last s L
      have hlen : L.length / 8 < (pkX s L).length := by rw [pkX_len]; omega
      rw [show n = L.length / 8 by rw [hn, Hk.out]] at hxu
      unfold bytesV at hxu
      rw [List.getElem?_map, List.getElem?_eq_getElem hlen, hl] at hxu
      injection hxu with hxu
      rw [← hxu, hn, hr, Hk.out]
    subst hxu2
    obtain ⟨sh, hsh⟩ : ∃ x, x = shS s r := ⟨_, rfl⟩
    have hs8 : sh ≤ 7 := by rw [hsh]; unfold shS; split <;> omega
    obtain ⟨o1, o2, o3, o4⟩ := or_next s H.out.ok n Hb.out r hr8
    rw [← hsh] at o1 o2 o3 o4
    have SH := hid (fun w => shiftS_any s k w)
    rw [← hr, ← hsh] at SH
    obtain ⟨y, hy⟩ : ∃ y, y = byS s L n r := ⟨_, rfl⟩
    rw [← hy] at o1 o2 hcu
    obtain ⟨z, hz⟩ : ∃ z, z = b * 2 ^ sh := ⟨_, rfl⟩
    rw [← hz] at o1 o2 o3 o4
    have hzu : IntKind.u8.wrap z = z := by rw [IntKind.wrap_u8]; omega
    have hbb : 0 ≤ b ∧ b ≤ 1 := by have := Hb.out; unfold isBit at this; omega
    have hshl : ∀ w : World, (Op.shift .shl .i64 b .i64 (sh : Int)).run Tryz.prog w = .ok (.int .i64 z) w := fun w => by rw [hz] at o4 ⊢; exact shl_run b sh (by omega) w hbb.1 (by omega)
    have q0 := xb.cell 0
    have q1 := xb.cell 1
    have q2 := xb.cell 2
    simp only [List.getElem?_toArray, List.getElem?_cons_zero, List.getElem?_cons_succ] at q0 q1 q2
    have l0 := xb.lt
    have fzr := fun o => own_frz xr o
    have XB := hid xb
    have XR := hid xr
    have Hy := hid hy
    have Hz := hid hz
    have Hsh := hid hsh
    clear hn hr hxu hy hz hsh xb xr HX
    generalize wc = wk at *
    have nm : n ≤ 100000000 := by have := Hn.out; omega
    go_upto_region 2 with (fail)
    refine free_lit (S := World) (fun i => (i == 21) || (i == 26))
      (fun x i => [.pointer (some ⟨g, 0, none⟩), .pointer (some ⟨g, 0, none⟩), .pointer (some ⟨g, 1, none⟩), .slice (some ⟨gr, 0, none⟩) (n + 1) c1, .pointer (some ⟨g, 0, none⟩), .pointer (some ⟨g, 0, none⟩), .pointer (some ⟨g, 1, none⟩), .slice (some ⟨gr, 0, none⟩) (n + 1) c1, .int .i64 ((n : Int) + 1), .int .i64 (n : Nat), .pointer (some ⟨gr, n, none⟩), .int .u8 y, .int .i64 b, .pointer (some ⟨g, 0, none⟩), .pointer (some ⟨g, 0, none⟩), .pointer (some ⟨g, 0, none⟩), .bool s, .pointer (some ⟨g, 0, none⟩), .pointer (some ⟨g, 0, none⟩), .pointer (some ⟨g, 2, none⟩), .int .i64 (k : Nat), .int .i64 (sh : Nat), .int .i64 z, .int .u8 z, .int .u8 (y + z), .pointer (some ⟨gr, n, none⟩), undef].getD i undef)
      (fun x => x) (fun k x => match k with | 0 => x = wk.drew | 1 => x = wk.drew | 2 => x = wk.drew.setCell ⟨gr, n, none⟩ (.int .u8 (y + z)) | _ => False)
      (fun i => if i ≤ 21 then 0 else if i = 25 then 0 else 1) (fun i => 1) (fun _ => false) (fun _ => false) ?af ?ab 2 (wk.drew) (by kernel_rfl) (by kernel_rfl) (by kernel_rfl) (by kernel_rfl) (by kernel_rfl) (by kernel_rfl) (by kernel_rfl) rfl rfl ?haf ?hab ?hy ?hQ
    case haf =>
      intro x
      simp only [actOf, dstAt, List.length_cons, List.length_nil, Nat.reduceAdd, List.getElem?_cons_zero, List.getElem?_cons_succ, Option.bind_some, if_true, List.getD_cons_zero, List.getD_cons_succ, Act.put, List.setIfInBounds_toArray, List.set_cons_zero, List.set_cons_succ]
      rfl
    case hab =>
      intro x
      simp only [actOf, dstAt, List.length_cons, List.length_nil, Nat.reduceAdd, List.getElem?_cons_zero, List.getElem?_cons_succ, Option.bind_some, Bool.not_false, if_true, List.getD_cons_zero, List.getD_cons_succ, Act.put, List.setIfInBounds_toArray, List.set_cons_zero, List.set_cons_succ]
      rfl
    case hy =>
      intro k2 x hR
      simp only [AllY]
      refine ⟨?_, ?_, ?_, ?_, ?_, ?_, ?_, ?_, ?_, ?_, ?_, ?_, ?_, ?_, ?_, ?_, ?_, ?_, ?_, ?_, ?_, ?_, ?_, ?_, ?_, ?_, ?_, trivial⟩
      case refine_22 =>
        intro hk
        obtain rfl : k2 = 0 := hk
        obtain rfl : x = wk.drew := hR
        refine .inr (.inr ⟨169, #[.bool s, .int .i64 (k : Nat)], wk.drew, by simp [go_sem, Act.eval], ?_⟩)
        refine (SH.out wk.drew).mono ?_
        rintro e w5 ⟨rfl, rfl⟩
        exact ⟨_, rfl, wk.drew, rfl, rfl, rfl, fun i hi hd hn => rfl⟩
      case refine_27 =>
        intro hk
        obtain rfl : k2 = 1 := hk
        obtain rfl : x = wk.drew := hR
        exact .inr (.inl ⟨wk.drew.setCell ⟨gr, n, none⟩ (.int .u8 (y + z)), by simp [execOp, go_sem, Act.eval, hcu, fzr], rfl, _, rfl, rfl, rfl, fun i hi hd hn => rfl⟩)
      all_goals
        intro _ hk
        have hk : k2 ≤ 1 := hk
        obtain rfl : x = wk.drew := by
          rcases (show k2 = 0 ∨ k2 = 1 by omega) with rfl | rfl
          · exact hR
          · exact hR
      case refine_10 => exact .inl (by simp [execOp, go_sem, Act.eval]; exact IntWalk.i64_in _ (by omega))
      case refine_11 => exact .inl (by simp [execOp, go_sem, Act.eval]; intro h; omega)
      case refine_26 => exact .inl (by simp [execOp, go_sem, Act.eval]; intro h; omega)
      case refine_23 => exact .inl (by simp [execOp, go_sem, Act.eval]; rw [← Hz.out]; exact IntWalk.i64_in _ (by omega))
      all_goals exact .inl (by simp [execOp, go_sem, Act.eval, q0, q1, q2, hcu, o1, hzu])
    case hQ =>
      intro x hR
      obtain rfl : x = _ := hR
      show Exit.then _ _ .normal _ _
      have hgg : g ≠ gr := fun e => by
        have h1 := own_blk_ne XR.out XB.out (by decide)
        exact h1 (by rw [e]; rfl)
      have B2 := hid ((XB.out.drew).far (p := ⟨gr, n, none⟩) hgg (.int .u8 (y + z)))
      have R2 := hid (own_rowput (j := n) XR.out.drew rfl (.int .u8 (y + z)))
      have T2 := hid (((HT.out.trans (Tw.of_below g (some ⟨gr, 0, none⟩) (Below.refl _ wk).drew)).row (p := ⟨gr, n, none⟩) ⟨_, rfl, rfl⟩ (.int .u8 (y + z))))
      obtain ⟨wx, hwx⟩ : ∃ v, v = wk.drew.setCell ⟨gr, n, none⟩ (.int .u8 (y + z)) := ⟨_, rfl⟩
      simp only [← hwx] at B2 R2 T2 ⊢
      clear hwx q0 q1 q2 l0 fzr hcu hshl
      have p0 := B2.out.cell 0
      have p1 := B2.out.cell 1
      have p2 := B2.out.cell 2
      simp only [List.getElem?_toArray, List.getElem?_cons_zero, List.getElem?_cons_succ] at p0 p1 p2
      have l1 := B2.out.lt
      have fz := fun o => B2.out.frozen o
      go_wp2
      go_end0
      refine ⟨rfl, some ⟨gr, 0, none⟩, c1, ⟨?_, ?_, ?_, H.out.gb⟩, T2.out.set 2 _⟩
      · have h := B2.out.set_ 2 (.int .i64 ((k : Int) + 1))
        rw [List.length_append, List.length_cons, List.length_nil, ← Hk.out, show (k + (0 + 1) + 7) / 8 = n + 1 from by have := Hn.out; omega]
        simpa using h
      · rw [List.length_append, List.length_cons, List.length_nil, ← Hk.out, show (k + (0 + 1) + 7) / 8 = n + 1 from by have := Hn.out; omega, pk_snoc, ← Hk.out, ← Hn.out, ← Hr.out, ← Hy.out, ← Hsh.out, ← Hz.out, ← bytesV_set]
        exact ownsRow_setCell_other R2.out (fun e => own_blk_ne R2.out B2.out (by decide) e.symm) _
      · intro x hx
        rcases List.mem_append.1 hx with hx | hx
        · exact H.out.ok x hx
        · rw [List.mem_singleton.1 hx]; exact Hb.out
theorem countedS_any (n : Nat) (hn : n ≤ 32) (W : World) : Calls Tryz.prog 165 #[.int .i64 (n : Int)] W fun e w' => e = .returned (.bool true) ∧ W = w' := by
  have d1 : decide ((0 : Int) ≤ (n : Int)) = true := decide_eq_true (by omega)
  go_enter Tryz.func165, Tryz.ntmps165
  go_wp2
  go_ret
  exact ⟨ret_bool (by simp; omega), rfl⟩
/-- a number's bits, in the order in which they are written -/
def dgS (s : Bool) (n : Int) (k : Nat) : List Int := (List.range k).map fun i => n / 2 ^ pkI s i k % 2
theorem dgS_len (s : Bool) (n : Int) (k : Nat) : (dgS s n k).length = k := by simp [dgS]
theorem dgS_bit (s : Bool) (n : Int) (k : Nat) : ∀ x ∈ dgS s n k, isBit x := by
  intro x hx
  obtain ⟨i, _, rfl⟩ := List.mem_map.1 hx
  unfold isBit
  omega
theorem take_one {l : List Int} {i : Nat} (h : i < l.length) : l.take (i + 1) = l.take i ++ [l[i]] := List.take_succ_eq_append_getElem h
set_option maxRecDepth 100000 in
set_option maxHeartbeats 8000000 in
theorem putS_any (s : Bool) (g : Nat) (A : Option Addr) (c base : Nat) (L : List Int) (n : Int) (k : Nat) (n0 : 0 ≤ n) (n1 : n < 2 ^ k) (hk : k ≤ 32) (W : World) (h : WrS W g s A c base L) (hm : L.length ≤ 90000000) (hB : base ≤ W.heap.size) :
    Calls Tryz.prog 140 #[.pointer (some ⟨g, 0, none⟩), .int .i64 n, .int .i64 (k : Int)] W fun e w' => e = .returned .nilIface ∧ ∃ A' c', WrS w' g s A' c' base (L ++ dgS s n k) ∧ Tw g A A' W w' := by
  have H := hid h
  have hmk : min k 64 = k := by omega
  have hz : n / 2 ^ k = 0 := Int.ediv_eq_zero_of_lt n0 n1
  have hn32 : n < 4294967296 := by
    have h1 : (2 : Int) ^ k ≤ 2 ^ 32 := pow_mono hk
    omega
  have dn : decide (n < 0) = false := decide_eq_false (by omega)
  obtain ⟨D, hD⟩ : ∃ D, D = dgS s n k := ⟨_, rfl⟩
  have HD := hid hD
  have hDl : D.length = k := by rw [hD, dgS_len]
  have Hn1 := hid n1
  rw [← hD]
  clear h hD n1
  go_enter Tryz.func140, Tryz.ntmps140
  go_wp2_with fail
  refine (countedS_any k hk _).mono ?_
  rintro e w1 ⟨rfl, rfl⟩
  go_upto_region 4 with (fail)
  go_loopw [27] (fun i wr => ∃ (j : Nat) (A1 : Option Addr) (c1 : Nat), j ≤ k ∧ i = .int .i64 (j : Int) ∧ Hid (WrS wr g s A1 c1 base (L ++ D.take j)) ∧ Hid (Tw g A A1 W wr)) (fun i _ => k - (intOf i).toNat)
  case atStart => exact ⟨0, A, c, by omega, rfl, hid (by rw [List.take_zero, List.append_nil]; exact H.out), hid (Tw.refl g A W)⟩
  case round =>
    obtain ⟨j, A1, c1, hj, rfl, M, T⟩ := hrel
    by_cases hlt : j < k
    · have d2 : decide (j < k) = true := decide_eq_true hlt
      have q0 := (M.out.blk.cell 0).trans rfl
      have hgw := M.out.blk.lt
      obtain ⟨p, hp⟩ : ∃ p, p = pkI s j k := ⟨_, rfl⟩
      have hp32 : p ≤ 32 := by rw [hp]; unfold pkI; split <;> omega
      have hmp : min p 64 = p := by omega
      have PK := hid (fun w => pickS_any s j k hlt (by omega) w)
      rw [← hp] at PK
      have hDj : D[j]'(by omega) = n / 2 ^ p % 2 := by
        have := HD.out
        subst this
        rw [hp]
        simp [dgS]
      have hDt : D.take (j + 1) = D.take j ++ [n / 2 ^ p % 2] := by rw [take_one (by omega), hDj]
      have HDt := hid hDt
      have hpp : (0 : Int) < 2 ^ p := Int.pow_pos (by omega)
      have h3 : 0 ≤ n / 2 ^ p := Int.ediv_nonneg n0 (Int.le_of_lt hpp)
      have h4 : n / 2 ^ p ≤ n := Int.ediv_le_self _ n0
      have h5 := i64_mask 1 (by omega) (n / 2 ^ p) h3 (by omega)
      have hand : bits .and .i64 (n / 2 ^ p) 1 = n / 2 ^ p % 2 := h5
      have hbt : isBit (n / 2 ^ p % 2) := by unfold isBit; omega
      have Hbt := hid hbt
      have Hand := hid hand
      have hwl : base ≤ wr.heap.size := Nat.le_trans hB T.out.size
      clear hp hDj hDt h3 h4 h5 hpp hand hbt
      go_wp2_with fail
      refine (PK.out _).mono ?_
      rintro e w2 ⟨rfl, rfl⟩
      go_wp2_with fail
      rw [Hand.out]
      refine (bit_any s g A1 c1 base _ _ Hbt.out wr M.out (by rw [List.length_append, List.length_take]; omega) hwl).mono ?_
      rintro e w3 ⟨rfl, A2, c2, M2, T2⟩
      have M3 := hid (show WrS w3 g s A2 c2 base (L ++ D.take (j + 1)) from by rw [HDt.out, ← List.append_assoc]; exact M2)
      have T3 := hid (T.out.trans T2)
      clear M2 T2 q0
      go_wp2
      go_roundw
      case rel => exact ⟨j + 1, A2, c2, by omega, by go_num, M3, T3⟩
      case measure => simp [intOf]; omega
    · have d2 : decide (j < k) = false := decide_eq_false hlt
      have hjk : j = k := by omega
      have M3 := hid (show WrS wr g s A1 c1 base (L ++ D) from by have h := M.out; rw [List.take_of_length_le (by omega)] at h; exact h)
      clear hjk M
      go_wp2
      go_ret
      exact ⟨rfl, A1, c1, M3.out, T.out⟩
theorem lenS_any (s : Bool) (g : Nat) (A : Option Addr) (c base : Nat) (L : List Int) (W : World) (h : WrS W g s A c base L) :
    Calls Tryz.prog 141 #[.pointer (some ⟨g, 0, none⟩)] W fun e w' => e = .returned (.int .i64 (L.length : Nat)) ∧ W = w' := by
  have q2 := (h.blk.cell 2).trans rfl
  have l0 := h.blk.lt
  clear h
  generalize L.length = k at *
  go_enter Tryz.func141, Tryz.ntmps141
  go_wp2
  go_ret
  exact ⟨rfl, rfl⟩
theorem newW_any (s : Bool) (W : World) : Calls Tryz.prog 68 #[.bool s] W fun e w' => e = .returned (.pointer (some ⟨W.heap.size, 0, none⟩)) ∧ WrS w' W.heap.size s none 0 W.heap.size [] ∧ Below W.heap.size W w' := by
  have HB := hid (Blk.new W 165 #[.bool s, .slice none 0 0, .int .i64 0])
  have HW := hid ((Below.refl W.heap.size W).alloc (Nat.le_refl _) (.cells #[.bool s, .slice none 0 0, .int .i64 0] 165))
  go_enter Tryz.func68, Tryz.ntmps68
  go_wp2
  go_ret
  exact ⟨rfl, ⟨HB.out, World.ownsRow_nil _ _ _ _, fun x hx => (by cases hx), Nat.le_refl _⟩, HW.out⟩
theorem fill_any (s : Bool) (g : Nat) (A : Option Addr) (c base : Nat) (L : List Int) (W : World) (h : WrS W g s A c base L) :
    Calls Tryz.prog 145 #[.pointer (some ⟨g, 0, none⟩)] W fun e w' => e = .returned (.int .i64 (if s = true then 1 else 0)) ∧ W = w' := by
  have q0 := (h.blk.cell 0).trans rfl
  have l0 := h.blk.lt
  clear h
  cases s
  · skip
    go_enter Tryz.func145, Tryz.ntmps145
    go_wp2
    go_ret
    exact ⟨rfl, rfl⟩
  · skip
    go_enter Tryz.func145, Tryz.ntmps145
    go_wp2
    go_ret
    exact ⟨rfl, rfl⟩
/-- the last byte filled -/
def fillN (s : Bool) (L : List Int) : Nat → List Int
  | 0 => L
  | n + 1 => fillN s L n ++ [if s = true then 1 else 0]
def fillS (s : Bool) (L : List Int) : List Int := fillN s L ((8 - L.length % 8) % 8)
theorem fillN_len (s : Bool) (L : List Int) : ∀ n, (fillN s L n).length = L.length + n
  | 0 => rfl
  | n + 1 => by rw [fillN, List.length_append, fillN_len s L n]; rfl
def lnOf (g : Nat) (w : World) : Nat := match w.cell? ⟨g, 2, none⟩ with
  | some (.int _ n) => n.toNat
  | _ => 0
theorem lnOf_eq {g k : Nat} {w : World} (h : w.cell? ⟨g, 2, none⟩ = some (.int .i64 (k : Int))) : lnOf g w = k := by
  unfold lnOf
  rw [h]
  exact Int.toNat_natCast k
set_option maxRecDepth 100000 in
set_option maxHeartbeats 8000000 in
theorem alignS_any (s : Bool) (g : Nat) (A : Option Addr) (c base : Nat) (L : List Int) (W : World) (h : WrS W g s A c base L) (hm : L.length ≤ 95000000) (hB : base ≤ W.heap.size) :
    Calls Tryz.prog 110 #[.pointer (some ⟨g, 0, none⟩)] W fun e w' => e = .returned (.tuple #[]) ∧ ∃ A' c', WrS w' g s A' c' base (fillS s L) ∧ Tw g A A' W w' := by
  have H := hid h
  obtain ⟨f, hf⟩ : ∃ f, f = (8 - L.length % 8) % 8 := ⟨_, rfl⟩
  have Hf := hid hf
  have hf8 : f < 8 := by omega
  obtain ⟨fb, hfb⟩ : ∃ x : Int, x = if s = true then 1 else 0 := ⟨_, rfl⟩
  have hb : isBit fb := by rw [hfb]; unfold isBit; cases s <;> simp
  have Hb := hid hb
  have FI := hid (fun (A1 : Option Addr) (c1 : Nat) (L1 : List Int) (w : World) (hw : WrS w g s A1 c1 base L1) => fill_any s g A1 c1 base L1 w hw)
  rw [← hfb] at FI
  have Hfb := hid hfb
  have FN := hid (show ∀ j, fillN s L (j + 1) = fillN s L j ++ [fb] from fun j => by rw [hfb]; rfl)
  obtain ⟨FL, hFL⟩ : ∃ F : Nat → List Int, F = fillN s L := ⟨_, rfl⟩
  have HFl := hid (show ∀ j, (FL j).length = L.length + j from fun j => by rw [hFL]; exact fillN_len s L j)
  have HF0 := hid (show FL 0 = L from by rw [hFL]; rfl)
  have HFf := hid (show fillS s L = FL f from by unfold fillS; rw [hFL, hf])
  rw [← hFL] at FN
  rw [HFf.out]
  clear h hf hb hfb hFL
  go_enter Tryz.func110, Tryz.ntmps110
  go_upto_region 0 with (fail)
  go_loopw [] (fun wr => ∃ (j : Nat) (A1 : Option Addr) (c1 : Nat), j ≤ f ∧ Hid (WrS wr g s A1 c1 base (FL j)) ∧ Hid (Tw g A A1 W wr)) (fun wr => L.length + f - lnOf g wr)
  case atStart => exact ⟨0, A, c, by omega, hid (by rw [HF0.out]; exact H.out), hid (Tw.refl g A W)⟩
  case round =>
    obtain ⟨j, A1, c1, hj, M, T⟩ := hrel
    obtain ⟨kj, hkj⟩ : ∃ x, x = (FL j).length := ⟨_, rfl⟩
    have hkl : kj = L.length + j := by rw [hkj, HFl.out]
    have q2 := (M.out.blk.cell 2).trans rfl
    rw [← hkj] at q2
    have hgw := M.out.blk.lt
    have hln : lnOf g wr = L.length + j := by rw [← hkl]; exact lnOf_eq q2
    have hwl : base ≤ wr.heap.size := Nat.le_trans hB T.out.size
    have Hkl := hid hkl
    have Hln := hid hln
    have Hkj := hid hkj
    by_cases hlt : j < f
    · have d1 : ¬ kj % 8 = 0 := by have := Hf.out; omega
      have d2 : decide (kj % 8 = 0) = false := decide_eq_false d1
      have d3 : ¬ (kj : Int) % 8 = 0 := by omega
      clear hkl hln hkj d1
      go_wp2_with fail
      refine (FI.out A1 c1 _ wr M.out).mono ?_
      rintro e w2 ⟨rfl, rfl⟩
      go_wp2_with fail
      refine (bit_any s g A1 c1 base _ _ Hb.out wr M.out (by rw [← Hkj.out, Hkl.out]; omega) hwl).mono ?_
      rintro e w3 ⟨rfl, A2, c2, M2, T2⟩
      have M3 := hid (show WrS w3 g s A2 c2 base (FL (j + 1)) from by rw [FN.out]; exact M2)
      have T3 := hid (T.out.trans T2)
      have hl3 : Hid (lnOf g w3 = L.length + j + 1) := hid (by rw [lnOf_eq ((M2.blk.cell 2).trans rfl), List.length_append, HFl.out]; rfl)
      clear M2 T2 q2
      go_wp2
      go_roundw
      case rel => exact ⟨j + 1, A2, c2, by omega, M3, T3⟩
      case measure => rw [hl3.out, Hln.out]; omega
    · have hjf : j = f := by omega
      have d1 : kj % 8 = 0 := by have := Hf.out; omega
      have d2 : decide (kj % 8 = 0) = true := decide_eq_true d1
      have d3 : (kj : Int) % 8 = 0 := by omega
      have M3 := hid (show WrS wr g s A1 c1 base (FL f) from by rw [← hjf]; exact M.out)
      clear hkl hln hkj hjf M d1
      go_wp2
      go_end0
      exact ⟨rfl, A1, c1, M3.out, T.out⟩
end Go.Proofs.YtoppjcmkhhkbmaaGreat

namespace Go.Proofs.YtoppjcmkhhkbmaaGreat
open Go.RowKit
attribute [local go_sem] Oper.semAt_some

theorem own_czS {w : World} {base e size n c : Nat} {A : Option Addr} {xs : List Value} (h : w.ownsRow base e size (.slice A n c) n xs) : A = none → c = 0 := by
  intro hA
  rcases h.2 with ⟨h1, _⟩ | ⟨g, cap, cur, h1, _⟩
  · injection h1 with h1 h2 h3
  · injection h1 with h1
    rw [hA] at h1
    cases h1
def BytEnd (s : Bool) (L : List Int) (W : World) (e : Ending) (w' : World) : Prop :=
  ∃ A c, e = .returned (.slice A (pkS s (fillS s L)).length c) ∧ w'.ownsRow W.heap.size 5 1 (.slice A (pkS s (fillS s L)).length c) (pkS s (fillS s L)).length (bytesV (pkS s (fillS s L))) ∧ Below W.heap.size W w'
set_option maxRecDepth 100000 in
set_option maxHeartbeats 8000000 in
theorem bytesS_any (s : Bool) (g : Nat) (A : Option Addr) (c base : Nat) (L : List Int) (W : World) (h : WrS W g s A c base L) (hm : L.length ≤ 80000000) :
    Calls Tryz.prog 70 #[.pointer (some ⟨g, 0, none⟩)] W (BytEnd s L W) := by
  have H := hid h
  obtain ⟨k, hk⟩ : ∃ k, k = L.length := ⟨_, rfl⟩
  have Hk := hid hk
  obtain ⟨n, hn⟩ : ∃ n, n = (k + 7) / 8 := ⟨_, rfl⟩
  have Hn := hid hn
  obtain ⟨bl, hbl⟩ : ∃ b, b = pkS s L := ⟨_, rfl⟩
  have hbn : bl.length = n := by rw [hbl, pkS_len, hn, hk]
  have HBl := hid hbl
  have hb := h.blk
  have hr := h.row
  rw [← hk, ← hn] at hb hr
  rw [← hbl] at hr
  have HB := hid hb
  have HR := hid hr
  have hnm : n ≤ 10000000 := by omega
  clear h hk hn hbl hb hr
  have CL := hid (fun (w : World) (hw : Below W.heap.size W w) => clone_any A c bl w (by
    rw [hbn]
    exact ((own_rd HR.out).below hw (Nat.le_refl _)).more hw.size) (own_czS HR.out) (by rw [hbn]; exact hnm))
  unfold ClonedB at CL
  rw [hbn] at CL
  have l0 := HB.out.lt
  have q0 := HB.out.cell 0
  have q1 := HB.out.cell 1
  have q2 := HB.out.cell 2
  simp only [List.getElem?_toArray, List.getElem?_cons_zero, List.getElem?_cons_succ] at q0 q1 q2
  go_enter Tryz.func70, Tryz.ntmps70
  go_upto_region 3 with (fail)
  refine set_lit (S := ((Option Addr × Nat) × Nat) × World) [8, 14, 15]
    (fun x i => [.pointer (some ⟨g, 0, none⟩), .pointer (some ⟨g, 0, none⟩), .pointer (some ⟨g, 0, none⟩), .bool s, .pointer (some ⟨g, 0, none⟩), .pointer (some ⟨g, 0, none⟩), .pointer (some ⟨g, 1, none⟩), .slice A n c, .slice x.1.1.1 n x.1.1.2, .pointer (some ⟨g, 0, none⟩), .pointer (some ⟨g, 0, none⟩), .pointer (some ⟨g, 2, none⟩), .int .i64 (k : Nat), .agg #[.bool s, .slice x.1.1.1 n x.1.1.2, .int .i64 (k : Nat)], .pointer (some ⟨x.1.2, 0, none⟩), undef].getD i undef)
    (fun x => x.2) (fun l x => Below W.heap.size W x.2 ∧ (l.getD 0 false = true → x.2.ownsRow W.heap.size 5 1 (.slice x.1.1.1 n x.1.1.2) n (bytesV bl)) ∧ (l.getD 1 false = true → l.getD 2 false = false → W.heap.size ≤ x.1.2 ∧ Blk x.2 x.1.2 165 #[.bool false, .slice none 0 0, .int .i64 0]) ∧ (l.getD 2 false = true → (l.getD 0 false = true ∧ l.getD 1 false = true) ∧ W.heap.size ≤ x.1.2 ∧ Blk x.2 x.1.2 165 #[.bool s, .slice x.1.1.1 n x.1.1.2, .int .i64 (k : Nat)]))
    (fun i => if i = 13 then [8] else if i = 15 then [8, 14] else []) ?af ((((none, 0), 0), W.drew)) (by kernel_rfl) (by kernel_rfl) (by kernel_rfl) (by kernel_rfl) (by kernel_rfl) rfl ?hR0 ?haf ?hy ?hQ
  case haf =>
    intro x
    simp only [actOf, dstAt, List.length_cons, List.length_nil, Nat.reduceAdd, List.getElem?_cons_zero, List.getElem?_cons_succ, Option.bind_some, if_true, List.getD_cons_zero, List.getD_cons_succ, Act.put, List.setIfInBounds_toArray, List.set_cons_zero, List.set_cons_succ]
    rfl
  case hR0 => exact ⟨(Below.refl _ _).drew, fun h => absurd h (by decide), fun h => absurd h (by decide), fun h => absurd h (by decide)⟩
  case hy =>
    intro t x hR
    obtain ⟨hb, r8, r14, r15⟩ := hR
    have r8 : t 8 = true → x.2.ownsRow W.heap.size 5 1 (.slice x.1.1.1 n x.1.1.2) n (bytesV bl) := r8
    have r14 : t 14 = true → t 15 = false → W.heap.size ≤ x.1.2 ∧ Blk x.2 x.1.2 165 #[.bool false, .slice none 0 0, .int .i64 0] := r14
    have r15 : t 15 = true → (t 8 = true ∧ t 14 = true) ∧ W.heap.size ≤ x.1.2 ∧ Blk x.2 x.1.2 165 #[.bool s, .slice x.1.1.1 n x.1.1.2, .int .i64 (k : Nat)] := r15
    have hF0 := (HB.out.below hb l0).cell 0
    have hF1 := (HB.out.below hb l0).cell 1
    have hF2 := (HB.out.below hb l0).cell 2
    simp only [List.getElem?_toArray, List.getElem?_cons_zero, List.getElem?_cons_succ] at hF0 hF1 hF2
    have hsz := hb.size
    simp only [AllY]
    refine ⟨?_, ?_, ?_, ?_, ?_, ?_, ?_, ?_, ?_, ?_, ?_, ?_, ?_, ?_, ?_, ?_, trivial⟩
    case refine_9 =>
      intro h8 hd
      refine .inr (.inr ⟨57, #[.slice A n c], x.2, by simp [go_sem, Act.eval], ?_⟩)
      refine (CL.out x.2 hb).mono ?_
      rintro e w5 ⟨A5, c5, rfl, ho5, hb5⟩
      refine ⟨_, rfl, (((A5, c5), x.1.2), w5), ⟨hb.trans (hb5.mono hsz), fun _ => own_base ho5 hsz, fun h1 h2 => ?_, fun h => ?_⟩, rfl, rfl, fun j hj hc hne => ?_⟩
      · have h1 : (t 14 || 14 == 8) = true := h1
        have h2 : (t 15 || 15 == 8) = false := h2
        simp at h1 h2
        exact ⟨(r14 h1 h2).1, (r14 h1 h2).2.below hb5 (r14 h1 h2).2.lt⟩
      · have h : (t 15 || 15 == 8) = true := h
        simp at h
        exact absurd (r15 h).1.1 (by rw [h8]; decide)
      · have hj : j < 16 := hj
        rcases (show j = 0 ∨ j = 1 ∨ j = 2 ∨ j = 3 ∨ j = 4 ∨ j = 5 ∨ j = 6 ∨ j = 7 ∨ j = 8 ∨ j = 9 ∨ j = 10 ∨ j = 11 ∨ j = 12 ∨ j = 13 ∨ j = 14 ∨ j = 15 by omega) with rfl | rfl | rfl | rfl | rfl | rfl | rfl | rfl | rfl | rfl | rfl | rfl | rfl | rfl | rfl | rfl <;> first | rfl | exact absurd rfl hne | exact absurd hc (by decide)
    case refine_15 =>
      intro h14 hd
      refine .inl ⟨.pointer (some ⟨x.2.heap.size, 0, none⟩), x.2.alloc (.cells #[.bool false, .slice none 0 0, .int .i64 0] 165), by simp [execOp, go_sem], ((x.1.1, x.2.heap.size), x.2.alloc (.cells #[.bool false, .slice none 0 0, .int .i64 0] 165)), ⟨hb.alloc hb.size _, fun h => ?_, fun _ _ => ⟨hb.size, Blk.new _ _ _⟩, fun h => ?_⟩, rfl, rfl, fun j hj hc hne => ?_⟩
      · have h : (t 8 || 8 == 14) = true := h
        simp at h
        exact (r8 h).alloc _
      · have h : (t 15 || 15 == 14) = true := h
        simp at h
        exact absurd (r15 h).1.2 (by rw [h14]; decide)
      · have hj : j < 16 := hj
        rcases (show j = 0 ∨ j = 1 ∨ j = 2 ∨ j = 3 ∨ j = 4 ∨ j = 5 ∨ j = 6 ∨ j = 7 ∨ j = 8 ∨ j = 9 ∨ j = 10 ∨ j = 11 ∨ j = 12 ∨ j = 13 ∨ j = 14 ∨ j = 15 by omega) with rfl | rfl | rfl | rfl | rfl | rfl | rfl | rfl | rfl | rfl | rfl | rfl | rfl | rfl | rfl | rfl <;> first | rfl | exact absurd rfl hne | exact absurd hc (by decide)
    case refine_16 =>
      intro h15 hd
      have h8 := hd 8 (by decide)
      have h14 := hd 14 (by decide)
      obtain ⟨s1, k1⟩ := r14 h14 h15
      have c0 := k1.cell 0
      have c1 := k1.cell 1
      have c2 := k1.cell 2
      simp only [List.getElem?_toArray, List.getElem?_cons_zero, List.getElem?_cons_succ] at c0 c1 c2
      have fz := fun o => k1.frozen o
      have ll := k1.lt
      have o8 := r8 h8
      have ne : ∀ (i : Nat) (v : Value) (w : World), w.ownsRow W.heap.size 5 1 (.slice x.1.1.1 n x.1.1.2) n (bytesV bl) → (w.setCell ⟨x.1.2, i, none⟩ v).ownsRow W.heap.size 5 1 (.slice x.1.1.1 n x.1.1.2) n (bytesV bl) := fun i v w hw => ownsRow_setCell_other hw (fun e => own_blk_ne o8 k1 (by decide) e.symm) v
      refine .inr (.inl ⟨((x.2.setCell ⟨x.1.2, 0, none⟩ (.bool s)).setCell ⟨x.1.2, 1, none⟩ (.slice x.1.1.1 n x.1.1.2)).setCell ⟨x.1.2, 2, none⟩ (.int .i64 (k : Nat)), by simp [execOp, go_sem, Act.eval, c0, c1, c2, fz], rfl, (x.1, ((x.2.setCell ⟨x.1.2, 0, none⟩ (.bool s)).setCell ⟨x.1.2, 1, none⟩ (.slice x.1.1.1 n x.1.1.2)).setCell ⟨x.1.2, 2, none⟩ (.int .i64 (k : Nat))), ⟨((hb.setCell s1 _).setCell s1 _).setCell s1 _, fun _ => ne 2 _ _ (ne 1 _ _ (ne 0 _ _ o8)), fun h1 h2 => ?_, fun h => ⟨⟨by show (t 8 || 8 == 15) = true; rw [h8]; rfl, by show (t 14 || 14 == 15) = true; rw [h14]; rfl⟩, s1, ((k1.set_ 0 _).set_ 1 _).set_ 2 _⟩⟩, rfl, rfl, fun j hj hc hne => rfl⟩)
      have h2 : (t 15 || 15 == 15) = false := h2
      simp at h2
    all_goals exact fun _ _ => .inl (by simp [execOp, go_sem, Act.eval, hF0, hF1, hF2])
  case hQ =>
    rintro ⟨⟨⟨A5, c5⟩, gw⟩, w5⟩ hR
    obtain ⟨hb5, r8, _, r15⟩ := hR
    have o5 : w5.ownsRow W.heap.size 5 1 (.slice A5 n c5) n (bytesV bl) := r8 rfl
    obtain ⟨_, s5, k5⟩ := r15 rfl
    have hb5 : Below W.heap.size W w5 := hb5
    have HW5 := hid (show WrS w5 gw s A5 c5 W.heap.size L from by
      refine ⟨?_, ?_, H.out.ok, s5⟩
      · rw [← Hk.out, ← Hn.out]; exact k5
      · rw [← Hk.out, ← Hn.out, ← HBl.out]; exact o5)
    have HBb := hid hb5
    show Exit.then _ _ .normal _ w5
    clear hb5 r8 r15 o5 s5 k5 q0 q1 q2 l0 CL
    go_wp2_with fail
    refine (alignS_any s gw A5 c5 W.heap.size L w5 HW5.out (by omega) HBb.out.size).mono ?_
    rintro e w6 ⟨rfl, A6, c6, W6, T6⟩
    have B6 := hid (HBb.out.trans (HW5.out.low T6 HBb.out.size))
    have hl6 : ((fillS s L).length + 7) / 8 = (pkS s (fillS s L)).length := (pkS_len _ _).symm
    have wb := W6.blk
    have wr := W6.row
    rw [hl6] at wb wr
    obtain ⟨m, hm6⟩ : ∃ m, m = (pkS s (fillS s L)).length := ⟨_, rfl⟩
    have q1 := (wb.cell 1).trans rfl
    have lg := wb.lt
    rw [← hm6] at q1
    have WR := hid wr
    have Hm6 := hid hm6
    clear W6 T6 hl6 wb wr hm6
    go_wp2
    go_ret
    exact ⟨A6, c6, by rw [Hm6.out]; rfl, WR.out, B6.out⟩
end Go.Proofs.YtoppjcmkhhkbmaaGreat
