/-
  wish's reader: its state, and what it looks at, takes and fails at.
-/
import Derived.Test.YtfcppchjikmioaaGreatBase
import Derived.Deep.DeepCutAuto
import Derived.Deep.CutRange
import Derived.Deep.CutBlock
import Derived.Deep.RegionHeld3
namespace Go.Proofs.YtfcppchjikmioaaGreat
open Go.RowKit

/-- a reader: its runes, whether a byte of no rune stands behind them, its place, whether it has failed -/
structure RS where
  l : List Int
  cut : Bool
  k : Nat
  bad : Bool
namespace RS
def peek (r : RS) : Int := if r.bad then -1 else r.l.getD r.k (-1)
def next (r : RS) : RS := if r.peek = -1 then r else { r with k := r.k + 1 }
def fail (r : RS) (p : Nat) : RS := if r.bad then r else { r with k := p, bad := true }
end RS
def runesV (l : List Int) : List Value := l.map (Value.int .i32)
/-- a reader in memory -/
structure RM (w : World) (g : Nat) (A : Option Addr) (c : Nat) (r : RS) : Prop where
  blk : Blk w g 66 #[.slice A r.l.length c, .bool r.cut, .int .i64 (r.k : Int), .bool r.bad]
  row : w.ownsRow 0 21 1 (.slice A r.l.length c) r.l.length (runesV r.l)
  ok : ∀ x ∈ r.l, 0 ≤ x ∧ x ≤ 1114111
  len : r.l.length ≤ 1000000
  at_ : r.k ≤ r.l.length
theorem grown_set1 {w w0 : World} {g : Nat} (h : w0.grownBy w (some g)) (i : Nat) (u : Value) : w0.grownBy (w.setCell ⟨g, i, none⟩ u) (some g) :=
  ⟨h.os, h.tape, h.output, by simpa using h.size, fun k hk hr => (Below.heap_setCell w ⟨g, i, none⟩ u k (fun e => hr (by rw [e]))).trans (h.block k hk hr)⟩
theorem grown_below1 {w w' w0 : World} {g : Nat} (h : w0.grownBy w (some g)) (hb : Below w.heap.size w w') : w0.grownBy w' (some g) :=
  ⟨hb.os.trans h.os, hb.tape.trans h.tape, hb.output.trans h.output, Nat.le_trans h.size hb.size, fun k hk hr => (hb.block k (by have := h.size; omega)).trans (h.block k hk hr)⟩
theorem grown_trans1 {w w' w0 : World} {g : Nat} (h : w0.grownBy w (some g)) (h' : w.grownBy w' (some g)) : w0.grownBy w' (some g) :=
  ⟨h'.os.trans h.os, h'.tape.trans h.tape, h'.output.trans h.output, Nat.le_trans h.size h'.size, fun k hk hr => (h'.block k (by have := h.size; omega) hr).trans (h.block k hk hr)⟩
theorem RM.ne {w : World} {g : Nat} {A : Option Addr} {c : Nat} {r : RS} (h : RM w g A c r) : (Value.slice A r.l.length c).ownBlock = none ∨ (Value.slice A r.l.length c).ownBlock ≠ some g :=
  .inr (fun e => own_blk_ne h.row h.blk (by decide) e.symm)
theorem RM.below {w w' : World} {g : Nat} {A : Option Addr} {c : Nat} {r : RS} (h : RM w g A c r) (hb : Below w.heap.size w w') : RM w' g A c r :=
  ⟨h.blk.below hb h.blk.lt, own_below h.row hb (Nat.le_refl _), h.ok, h.len, h.at_⟩
theorem grown_low {w w' w0 : World} {g : Nat} (h : w0.grownBy w (some g)) (hb : Below w0.heap.size w w') : w0.grownBy w' (some g) :=
  ⟨hb.os.trans h.os, hb.tape.trans h.tape, hb.output.trans h.output, Nat.le_trans h.size hb.size, fun k hk hr => (hb.block k hk).trans (h.block k hk hr)⟩
/-- what lies as low as it lay when the reader came in -/
theorem RM.low {w w' W : World} {g : Nat} {A : Option Addr} {c : Nat} {r r0 : RS} (h0 : RM W g A c r0) (h : RM w g A c r) (hb : Below W.heap.size w w') : RM w' g A c r := by
  refine ⟨h.blk.below hb h0.blk.lt, ⟨h.row.1, ?_⟩, h.ok, h.len, h.at_⟩
  rcases h.row.2 with h1 | ⟨g1, cap, cur, h1, h2, h3, h4⟩
  · exact .inl h1
  · refine .inr ⟨g1, cap, cur, h1, h2, ?_, h4⟩
    rcases h0.row.2 with ⟨e1, _⟩ | ⟨g2, cap2, cur2, e1, _, e3, _⟩
    · injection h1 with h1
      injection e1 with e1
      rw [h1] at e1; cases e1
    · injection h1 with h1
      injection e1 with e1
      rw [h1] at e1
      injection e1 with e1
      injection e1 with e1
      exact (hb.block g1 (by rw [e1]; exact Blk.lt e3)).trans h3
/-- its state turned: the block anew -/
theorem RM.turn {w w' : World} {g : Nat} {A : Option Addr} {c k : Nat} {bad : Bool} {r : RS} (h : RM w g A c r) (hg : w.grownBy w' (some g)) (hb : Blk w' g 66 #[.slice A r.l.length c, .bool r.cut, .int .i64 (k : Int), .bool bad]) (hk : k ≤ r.l.length) : RM w' g A c ⟨r.l, r.cut, k, bad⟩ :=
  ⟨hb, h.row.kept hg h.ne, h.ok, h.len, hk⟩
theorem RS.peek_ok {r : RS} (h : ∀ x ∈ r.l, 0 ≤ x ∧ x ≤ 1114111) : (r.peek = -1 ∧ r.next = r) ∨ (0 ≤ r.peek ∧ r.peek ≤ 1114111 ∧ r.bad = false ∧ ∃ hk : r.k < r.l.length, r.peek = r.l[r.k] ∧ r.next = ⟨r.l, r.cut, r.k + 1, r.bad⟩) := by
  unfold RS.next RS.peek
  cases hb : r.bad
  · rcases Nat.lt_or_ge r.k r.l.length with hk | hk
    · have e : r.l.getD r.k (-1) = r.l[r.k] := by rw [List.getD_eq_getElem?_getD, List.getElem?_eq_getElem hk]; rfl
      have := h r.l[r.k] (List.getElem_mem hk)
      right
      rw [if_neg Bool.false_ne_true, e, if_neg (by omega)]
      exact ⟨this.1, this.2, rfl, hk, rfl, rfl⟩
    · have e : r.l.getD r.k (-1) = -1 := by rw [List.getD_eq_getElem?_getD, List.getElem?_eq_none hk]; rfl
      left
      rw [if_neg Bool.false_ne_true, e, if_pos rfl]
      exact ⟨rfl, rfl⟩
  · left
    exact ⟨by rfl, by rfl⟩
def isSm (c : Int) : Bool := decide (97 ≤ c) && decide (c ≤ 122)
def isDg (c : Int) : Bool := decide (48 ≤ c) && decide (c ≤ 57)
theorem small_any (c : Int) (W : World) : Calls Tryz.prog 59 #[.int .i32 c] W fun e w' => e = .returned (.bool (isSm c)) ∧ W = w' := by
  unfold isSm
  by_cases h1 : 97 ≤ c
  · have d1 : decide (97 ≤ c) = true := decide_eq_true h1
    go_enter Tryz.func59, Tryz.ntmps59
    go_wp2
    go_ret
    exact ⟨ret_bool (by simp [d1]), rfl⟩
  · have d1 : decide (97 ≤ c) = false := decide_eq_false h1
    go_enter Tryz.func59, Tryz.ntmps59
    go_wp2
    go_ret
    exact ⟨ret_bool (by simp), rfl⟩
theorem digit_any (c : Int) (W : World) : Calls Tryz.prog 78 #[.int .i32 c] W fun e w' => e = .returned (.bool (isDg c)) ∧ W = w' := by
  unfold isDg
  by_cases h1 : 48 ≤ c
  · have d1 : decide (48 ≤ c) = true := decide_eq_true h1
    go_enter Tryz.func78, Tryz.ntmps78
    go_wp2
    go_ret
    exact ⟨ret_bool (by simp [d1]), rfl⟩
  · have d1 : decide (48 ≤ c) = false := decide_eq_false h1
    go_enter Tryz.func78, Tryz.ntmps78
    go_wp2
    go_ret
    exact ⟨ret_bool (by simp), rfl⟩
set_option maxRecDepth 100000 in
set_option maxHeartbeats 2000000 in
theorem peek_any (g : Nat) (A : Option Addr) (c : Nat) (r : RS) (W : World) (h : RM W g A c r) : Calls Tryz.prog 34 #[.pointer (some ⟨g, 0, none⟩)] W fun e w' => e = .returned (.int .i32 r.peek) ∧ RM w' g A c r ∧ Below W.heap.size W w' := by
  have H := hid h
  clear h
  have q0 := H.out.blk.cell 0
  have q1 := H.out.blk.cell 1
  have q2 := H.out.blk.cell 2
  have q3 := H.out.blk.cell 3
  simp only [List.getElem?_toArray, List.getElem?_cons_zero, List.getElem?_cons_succ] at q0 q1 q2 q3
  have hgw := H.out.blk.lt
  obtain ⟨rl, rcut, rk, rbad⟩ := r
  dsimp only at q0 q1 q2 q3
  have hlen := H.out.len
  dsimp only at hlen
  cases rbad
  · by_cases hk : rl.length ≤ rk
    · have d1 : decide (rl.length ≤ rk) = true := decide_eq_true hk
      have d2 : decide ((rl.length : Int) ≤ (rk : Int)) = true := decide_eq_true (by omega)
      have hp : RS.peek ⟨rl, rcut, rk, false⟩ = -1 := by
        unfold RS.peek
        rw [if_neg Bool.false_ne_true, List.getD_eq_getElem?_getD, List.getElem?_eq_none hk]
        rfl
      have Hp := hid hp
      clear hp hk
      go_enter Tryz.func34, Tryz.ntmps34
      go_upto_region 1 with (fail)
      go_quiet (fail)
      go_wp2
      go_ret
      rw [Hp.out]
      exact ⟨rfl, H.out.below (below_drewN (Below.refl _ _) _), below_drewN (Below.refl _ _) _⟩
    · have hk2 : rk < rl.length := by omega
      have d1 : decide (rl.length ≤ rk) = false := decide_eq_false hk
      have d2 : decide ((rl.length : Int) ≤ (rk : Int)) = false := decide_eq_false (by omega)
      have hp : RS.peek ⟨rl, rcut, rk, false⟩ = rl[rk] := by
        unfold RS.peek
        rw [if_neg Bool.false_ne_true, List.getD_eq_getElem?_getD, List.getElem?_eq_getElem hk2]
        rfl
      have Hp := hid hp
      obtain ⟨b, off, rfl, hb, hcl⟩ := (own_rd H.out.row).at_ (k := rk) hk2 (by omega)
      have x0 : W.cell? ⟨b, off + rk, none⟩ = some (.int .i32 rl[rk]) := hcl rk _ (by simp [runesV, hk2])
      clear hp hcl hk
      go_enter Tryz.func34, Tryz.ntmps34
      go_upto_region 1 with (fail)
      go_quiet (fail)
      go_upto_region 3 with (fail)
      go_quiet (fail)
      go_wp2
      go_ret
      rw [Hp.out]
      exact ⟨rfl, H.out.below (below_drewN (below_drewN (Below.refl _ _) _) _), below_drewN (below_drewN (Below.refl _ _) _) _⟩
  · have Hp := hid (show RS.peek ⟨rl, rcut, rk, true⟩ = -1 from rfl)
    go_enter Tryz.func34, Tryz.ntmps34
    go_upto_region 1 with (fail)
    go_quiet (fail)
    go_wp2
    go_ret
    rw [Hp.out]
    exact ⟨rfl, H.out.below (below_drewN (Below.refl _ _) _), below_drewN (Below.refl _ _) _⟩
set_option maxRecDepth 100000 in
set_option maxHeartbeats 2000000 in
theorem next_any (g : Nat) (A : Option Addr) (c : Nat) (r : RS) (W : World) (h : RM W g A c r) : Calls Tryz.prog 35 #[.pointer (some ⟨g, 0, none⟩)] W fun e w' => e = .returned (.int .i32 r.peek) ∧ RM w' g A c r.next ∧ W.grownBy w' (some g) := by
  have H := hid h
  clear h
  go_enter Tryz.func35, Tryz.ntmps35
  go_wp2_with fail
  refine (peek_any g A c r _ H.out).mono ?_
  rintro e w1 ⟨rfl, hM, hb⟩
  have H1 := hid hM
  have G1 := hid (grown_below1 (World.grownBy.refl W (some g)) hb)
  clear hM hb
  rcases RS.peek_ok H1.out.ok with ⟨hp, hn⟩ | ⟨h0, h1, hbd, hk, hp, hn⟩
  · have Hn := hid hn
    have d1 : (r.peek == -1) = true := beq_iff_eq.2 hp
    clear hp hn
    go_wp2
    go_ret
    rw [Hn.out]
    exact ⟨rfl, H1.out, G1.out⟩
  · have d1 : (r.peek == -1) = false := beq_eq_false_iff_ne.2 (by omega)
    have Hn := hid hn
    have tk : IntKind.i64.wrap ((r.k : Int) + 1) = ((r.k + 1 : Nat) : Int) := (IntWalk.i64_in _ (by have := H1.out.len; omega)).trans (by omega)
    have Hk := hid hk
    clear h0 h1 hbd hk hp hn
    have q0 := H1.out.blk.cell 0
    have q1 := H1.out.blk.cell 1
    have q2 := H1.out.blk.cell 2
    have q3 := H1.out.blk.cell 3
    simp only [List.getElem?_toArray, List.getElem?_cons_zero, List.getElem?_cons_succ] at q0 q1 q2 q3
    have fz := fun o => H1.out.blk.frozen o
    have hgw := H1.out.blk.lt
    obtain ⟨k1, hk1⟩ : ∃ k1, k1 = r.k + 1 := ⟨_, rfl⟩
    rw [← hk1] at tk
    have HK := hid hk1
    clear hk1
    go_wp2
    go_ret
    have hb := H1.out.blk.set_ 2 (.int .i64 (k1 : Int))
    rw [Hn.out]
    exact ⟨rfl, H1.out.turn (grown_set1 (World.grownBy.refl _ _) _ _) (by rw [← HK.out]; exact hb) (by have := Hk.out; omega), grown_set1 G1.out _ _⟩
set_option maxRecDepth 100000 in
set_option maxHeartbeats 2000000 in
theorem fail_any (g p : Nat) (A : Option Addr) (c : Nat) (r : RS) (W : World) (h : RM W g A c r) (hp : p ≤ r.l.length) : Calls Tryz.prog 36 #[.pointer (some ⟨g, 0, none⟩), .int .i64 (p : Int)] W fun e w' => e = .returned (.tuple #[]) ∧ RM w' g A c (r.fail p) ∧ W.grownBy w' (some g) := by
  have H := hid h
  clear h
  have q0 := H.out.blk.cell 0
  have q1 := H.out.blk.cell 1
  have q2 := H.out.blk.cell 2
  have q3 := H.out.blk.cell 3
  simp only [List.getElem?_toArray, List.getElem?_cons_zero, List.getElem?_cons_succ] at q0 q1 q2 q3
  have fz := fun o => H.out.blk.frozen o
  have hgw := H.out.blk.lt
  cases hbad : r.bad
  · have Hf := hid (show r.fail p = ⟨r.l, r.cut, p, true⟩ by unfold RS.fail; rw [hbad]; rfl)
    rw [hbad] at q3
    clear hbad
    go_enter Tryz.func36, Tryz.ntmps36
    go_wp2
    go_end0
    rw [Hf.out]
    have hb := (H.out.blk.set_ 2 (.int .i64 (p : Int))).set_ 3 (.bool true)
    exact ⟨rfl, H.out.turn (grown_set1 (grown_set1 (World.grownBy.refl _ _) _ _) _ _) hb hp, grown_set1 (grown_set1 (World.grownBy.refl _ _) _ _) _ _⟩
  · have Hf := hid (show r.fail p = r by unfold RS.fail; rw [hbad]; rfl)
    rw [hbad] at q3
    clear hbad
    go_enter Tryz.func36, Tryz.ntmps36
    go_wp2
    go_end0
    rw [Hf.out]
    exact ⟨rfl, H.out, World.grownBy.refl _ _⟩
end Go.Proofs.YtfcppchjikmioaaGreat
