/-
  burnishref02.Parse.
-/
import Derived.Test.YtegmbjkpjglgpaaWpT
import Derived.Deep.DeepCutAuto
import Derived.Deep.CutRange
namespace Go.Proofs.Ytegmbjkpjglgpaa
open Go.RowKit Go.Lib

theorem runQ_app : ∀ (a b : List Int) (q : QS), runQ (a ++ b) q = match runQ a q with
    | none => none
    | some p => runQ b p
  | [], b, q => rfl
  | c :: t, b, q => by
    rw [List.cons_append, runQ, runQ]
    cases rstep q c with
    | none => rfl
    | some p => exact runQ_app t b p
theorem runQ_snoc {l : List Int} {j : Nat} {q p : QS} (hj : j < l.length) (h : runQ (l.take j) (Q0 []) = some q) (h2 : rstep q l[j] = some p) : runQ (l.take (j + 1)) (Q0 []) = some p := by
  rw [List.take_succ_eq_append_getElem hj, runQ_app, h]
  show runQ [l[j]] q = some p
  rw [runQ, h2]
  rfl
theorem runQ_fails {l : List Int} {j : Nat} {q : QS} (hj : j < l.length) (h : runQ (l.take j) (Q0 []) = some q) (h2 : rstep q l[j] = none) : runQ l (Q0 []) = none := by
  have e : l = l.take j ++ l[j] :: l.drop (j + 1) := by rw [← List.drop_eq_getElem_cons hj, List.take_append_drop]
  rw [e, runQ_app, h]
  show runQ (l[j] :: l.drop (j + 1)) q = none
  rw [runQ, h2]
theorem stepS_bd (st : Nat) (c cnt : Int) : -1 ≤ stepS st c cnt ∧ stepS st c cnt ≤ 9 := by
  unfold stepS
  repeat' split
  all_goals omega
theorem stepS_six {st : Nat} {c cnt : Int} (h : stepS st c cnt = 6) : 48 ≤ c ∧ c ≤ 57 ∧ (st = 6 → 10 * cnt + (c - 48) ≤ 999999999) ∧ (st = 2 ∨ st = 4 ∨ st = 6) := by
  unfold stepS at h
  by_cases a0 : st = 0 ∧ isSm c = true
  · rw [if_pos a0] at h
    exact absurd h (by decide)
  rw [if_neg a0] at h
  by_cases a1 : st = 1 ∧ isSm c = true ∧ cnt < 16
  · rw [if_pos a1] at h
    exact absurd h (by decide)
  rw [if_neg a1] at h
  by_cases a2 : st = 1 ∧ c = 61
  · rw [if_pos a2] at h
    exact absurd h (by decide)
  rw [if_neg a2] at h
  by_cases a3 : st = 2 ∧ isSm c = true
  · rw [if_pos a3] at h
    exact absurd h (by decide)
  rw [if_neg a3] at h
  by_cases a4 : st = 2 ∧ c = 45
  · rw [if_pos a4] at h
    exact absurd h (by decide)
  rw [if_neg a4] at h
  by_cases a5 : st = 2 ∧ c = 48
  · rw [if_pos a5] at h
    exact absurd h (by decide)
  rw [if_neg a5] at h
  by_cases a6 : st = 2 ∧ isDg c = true
  · rw [if_pos a6] at h
    have hd := dg_not a6.2; exact ⟨hd.1, hd.2.1, fun e => (by omega), .inl a6.1⟩
  rw [if_neg a6] at h
  by_cases a7 : st = 2 ∧ c = 34
  · rw [if_pos a7] at h
    exact absurd h (by decide)
  rw [if_neg a7] at h
  by_cases a8 : st = 3 ∧ isSm c = true ∧ cnt < 16
  · rw [if_pos a8] at h
    exact absurd h (by decide)
  rw [if_neg a8] at h
  by_cases a9 : st = 4 ∧ isDg c = true ∧ c ≠ 48
  · rw [if_pos a9] at h
    have hd := dg_not a9.2.1; exact ⟨hd.1, hd.2.1, fun e => (by omega), .inr (.inl a9.1)⟩
  rw [if_neg a9] at h
  by_cases a10 : st = 6 ∧ isDg c = true ∧ 10 * cnt + (c - 48) ≤ 999999999
  · rw [if_pos a10] at h
    have hd := dg_not a10.2.1; exact ⟨hd.1, hd.2.1, fun _ => a10.2.2, .inr (.inr a10.1)⟩
  rw [if_neg a10] at h
  by_cases a11 : st = 7 ∧ c = 34
  · rw [if_pos a11] at h
    exact absurd h (by decide)
  rw [if_neg a11] at h
  by_cases a12 : st = 7 ∧ c = 126
  · rw [if_pos a12] at h
    exact absurd h (by decide)
  rw [if_neg a12] at h
  by_cases a13 : st = 7
  · rw [if_pos a13] at h
    exact absurd h (by decide)
  rw [if_neg a13] at h
  by_cases a14 : st = 8 ∧ (c = 34 ∨ c = 126)
  · rw [if_pos a14] at h
    exact absurd h (by decide)
  rw [if_neg a14] at h
  by_cases a15 : c = 44 ∧ endsS st = true
  · rw [if_pos a15] at h
    exact absurd h (by decide)
  rw [if_neg a15] at h
  exact absurd h (by decide)
theorem stepS_zero {st : Nat} {c cnt : Int} (h : stepS st c cnt = 0) : endsS st = true := by
  unfold stepS at h
  by_cases a0 : st = 0 ∧ isSm c = true
  · rw [if_pos a0] at h
    exact absurd h (by decide)
  rw [if_neg a0] at h
  by_cases a1 : st = 1 ∧ isSm c = true ∧ cnt < 16
  · rw [if_pos a1] at h
    exact absurd h (by decide)
  rw [if_neg a1] at h
  by_cases a2 : st = 1 ∧ c = 61
  · rw [if_pos a2] at h
    exact absurd h (by decide)
  rw [if_neg a2] at h
  by_cases a3 : st = 2 ∧ isSm c = true
  · rw [if_pos a3] at h
    exact absurd h (by decide)
  rw [if_neg a3] at h
  by_cases a4 : st = 2 ∧ c = 45
  · rw [if_pos a4] at h
    exact absurd h (by decide)
  rw [if_neg a4] at h
  by_cases a5 : st = 2 ∧ c = 48
  · rw [if_pos a5] at h
    exact absurd h (by decide)
  rw [if_neg a5] at h
  by_cases a6 : st = 2 ∧ isDg c = true
  · rw [if_pos a6] at h
    exact absurd h (by decide)
  rw [if_neg a6] at h
  by_cases a7 : st = 2 ∧ c = 34
  · rw [if_pos a7] at h
    exact absurd h (by decide)
  rw [if_neg a7] at h
  by_cases a8 : st = 3 ∧ isSm c = true ∧ cnt < 16
  · rw [if_pos a8] at h
    exact absurd h (by decide)
  rw [if_neg a8] at h
  by_cases a9 : st = 4 ∧ isDg c = true ∧ c ≠ 48
  · rw [if_pos a9] at h
    exact absurd h (by decide)
  rw [if_neg a9] at h
  by_cases a10 : st = 6 ∧ isDg c = true ∧ 10 * cnt + (c - 48) ≤ 999999999
  · rw [if_pos a10] at h
    exact absurd h (by decide)
  rw [if_neg a10] at h
  by_cases a11 : st = 7 ∧ c = 34
  · rw [if_pos a11] at h
    exact absurd h (by decide)
  rw [if_neg a11] at h
  by_cases a12 : st = 7 ∧ c = 126
  · rw [if_pos a12] at h
    exact absurd h (by decide)
  rw [if_neg a12] at h
  by_cases a13 : st = 7
  · rw [if_pos a13] at h
    exact absurd h (by decide)
  rw [if_neg a13] at h
  by_cases a14 : st = 8 ∧ (c = 34 ∨ c = 126)
  · rw [if_pos a14] at h
    exact absurd h (by decide)
  rw [if_neg a14] at h
  by_cases a15 : c = 44 ∧ endsS st = true
  · rw [if_pos a15] at h
    exact a15.2
  rw [if_neg a15] at h
  exact absurd h (by decide)
/-- where the reference stands, in memory -/
structure PR (w1 wr : World) (B : Nat) (l : List Int) (j : Nat) (q : QS) (LA NA TA : Option Addr) (lc nc tc : Nat) : Prop where
  run : runQ (l.take j) (Q0 []) = some q
  bl : Below B w1 wr
  L : wr.ownsRow B 77 5 (.slice LA q.L.length lc) q.L.length (q.L.flatMap encRw)
  N : wr.ownsRow B 21 1 (.slice NA q.nm.length nc) q.nm.length (runesV q.nm)
  T : wr.ownsRow B 21 1 (.slice TA q.tx.length tc) q.tx.length (runesV q.tx)
  dj : ∀ g, (Value.slice NA q.nm.length nc).ownBlock = some g → (Value.slice TA q.tx.length tc).ownBlock ≠ some g
  st : q.st ≤ 9
  n0 : 0 ≤ q.n
  n1 : q.n ≤ 999999999
  z0 : q.st ≠ 6 → q.n = 0
  nm : q.nm.length ≤ j
  tx : q.tx.length ≤ j
  LL : q.L.length ≤ j
theorem PR.below {w1 wr w' : World} {B : Nat} {l : List Int} {j : Nat} {q : QS} {LA NA TA : Option Addr} {lc nc tc : Nat} (h : PR w1 wr B l j q LA NA TA lc nc tc) (hw : Below wr.heap.size wr w') (hB : B ≤ wr.heap.size) : PR w1 w' B l j q LA NA TA lc nc tc :=
  { h with bl := h.bl.trans (hw.mono hB), L := own_below h.L hw (Nat.le_refl _), N := own_below h.N hw (Nat.le_refl _), T := own_below h.T hw (Nat.le_refl _) }
def RpEnd (s : ByteArray) (W : World) (e : Ending) (w' : World) : Prop := Below W.heap.size W w' ∧ match refP s with
  | none => ∃ k : Nat, e = .returned (.tuple #[.slice none 0 0, .int .i64 (k : Int)])
  | some L => ∃ A c, e = .returned (.tuple #[.slice A L.length c, .int .i64 (-1)]) ∧ w'.ownsRow W.heap.size 77 5 (.slice A L.length c) L.length (L.flatMap encRw) ∧ L.length ≤ s.size + 1
theorem rp_none {s : ByteArray} {W w' : World} (k : Nat) (h : refP s = none) (hb : Below W.heap.size W w') : RpEnd s W (.returned (.tuple #[.slice none 0 0, .int .i64 (k : Int)])) w' := by
  refine ⟨hb, ?_⟩
  rw [h]
  exact ⟨k, rfl⟩
theorem rw_info : (Try.prog.info? 77).map (fun i => (i.zero, i.size, i.bytes)) = some (some (.agg #[.string ⟨#[]⟩, .int .i64 0, .int .i64 0, .string ⟨#[]⟩, .bool false]), 5, 56) := by kernel_rfl
theorem dj_more {NA TA : Option Addr} {n c m d : Nat} (dj : ∀ g, (Value.slice NA n c).ownBlock = some g → (Value.slice TA m d).ownBlock ≠ some g) : (Value.slice TA m d).ownBlock = none ∨ (Value.slice TA m d).ownBlock ≠ (Value.slice NA n c).ownBlock := by
  cases h : (Value.slice TA m d).ownBlock with
  | none => exact .inl rfl
  | some g => exact .inr fun e => dj g e.symm h
theorem dj_sym {NA TA : Option Addr} {n c m d : Nat} (dj : ∀ g, (Value.slice NA n c).ownBlock = some g → (Value.slice TA m d).ownBlock ≠ some g) : ∀ g, (Value.slice TA m d).ownBlock = some g → (Value.slice NA n c).ownBlock ≠ some g := fun g h h' => dj g h' h
/-- a row's block lies in the heap -/
theorem own_lt {w : World} {base t sz n c : Nat} {A : Option Addr} {xs : List Value} (h : w.ownsRow base t sz (.slice A n c) n xs) (g : Nat) (hg : (Value.slice A n c).ownBlock = some g) : g < w.heap.size := by
  rcases h.2 with ⟨e1, _⟩ | ⟨g', cap, cur, e1, _, hb, _⟩
  · rw [e1] at hg; cases hg
  · rw [e1] at hg
    have : g' = g := by simpa [Value.ownBlock] using hg
    rw [← this]
    exact (Array.getElem?_eq_some_iff.1 hb).1
theorem dj_new {w : World} {base t sz NA TA : _} {n c m d n' c' : Nat} {A' : Option Addr} {xs : List Value} (dj : ∀ g, (Value.slice NA n c).ownBlock = some g → (Value.slice TA m d).ownBlock ≠ some g) (hT : w.ownsRow base t sz (.slice TA m d) m xs)
    (hn : (Value.slice A' n' c').ownBlock = (Value.slice NA n c).ownBlock ∨ (Value.slice A' n' c').ownBlock = some w.heap.size) : ∀ g, (Value.slice A' n' c').ownBlock = some g → (Value.slice TA m d).ownBlock ≠ some g := by
  intro g hg h
  rcases hn with hn | hn
  · rw [hn] at hg; exact dj g hg h
  · rw [hn] at hg
    have := own_lt hT g h
    injection hg with hg
    omega
theorem own_own_neW {w : World} {b b' : Nat} {e e' : TypeId} {size size' n n' : Nat} {v v' : Value} {xs xs' : List Value} (h : w.ownsRow b e size v n xs) (h' : w.ownsRow b' e' size' v' n' xs') (hne : e ≠ e') :
    v.ownBlock = none ∨ v.ownBlock ≠ v'.ownBlock := by
  rcases h.2 with ⟨rfl, _⟩ | ⟨g, cap, cur, rfl, _, hh, _⟩
  · exact .inl rfl
  · right
    intro he
    rcases h'.2 with ⟨rfl, _⟩ | ⟨g', cap', cur', rfl, _, hh', _⟩
    · simp [Value.ownBlock] at he
    · have : g = g' := by simpa [Value.ownBlock] using he
      subst this
      rw [hh] at hh'
      injection hh' with hh'
      injection hh' with _ ht
      exact hne ht
theorem PR.same {w1 w5 : World} {B : Nat} {l : List Int} {j st : Nat} {nm tx : List Int} {n : Int} {mi : Bool} {L : List Wsh} {LA NA TA : Option Addr} {lc nc tc : Nat} (h : PR w1 w5 B l j ⟨st, nm, tx, n, mi, L⟩ LA NA TA lc nc tc)
    (st2 : Nat) (n2 : Int) (mi2 : Bool) (hrun : runQ (l.take (j + 1)) (Q0 []) = some ⟨st2, nm, tx, n2, mi2, L⟩) (hst : st2 ≤ 9) (h0 : 0 ≤ n2) (h1 : n2 ≤ 999999999) (hz : st2 ≠ 6 → n2 = 0) : PR w1 w5 B l (j + 1) ⟨st2, nm, tx, n2, mi2, L⟩ LA NA TA lc nc tc :=
  ⟨hrun, h.bl, h.L, h.N, h.T, h.dj, hst, h0, h1, hz, Nat.le_succ_of_le h.nm, Nat.le_succ_of_le h.tx, Nat.le_succ_of_le h.LL⟩
theorem PR.appN {w1 w5 w4 : World} {B : Nat} {l : List Int} {j st : Nat} {nm tx : List Int} {n : Int} {mi : Bool} {L : List Wsh} {LA NA TA A4 : Option Addr} {lc nc tc c4 : Nat} {o : Obj} {x : Int} (h : PR w1 w5 B l j ⟨st, nm, tx, n, mi, L⟩ LA NA TA lc nc tc) (hB : B ≤ w5.heap.size)
    (ha : Apped (w5.alloc o) B 21 1 NA nm.length nc (runesV nm) 1 [.int .i32 x] A4 c4 w4) (hrun : runQ (l.take (j + 1)) (Q0 []) = some ⟨1, nm ++ [x], tx, n, mi, L⟩) (hz : n = 0) : PR w1 w4 B l (j + 1) ⟨1, nm ++ [x], tx, n, mi, L⟩ LA A4 TA lc c4 tc := by
  obtain ⟨o4, g4, b4, e4⟩ := ha
  have hb : Below w5.heap.size w5 (w5.alloc o) := (Below.refl _ _).alloc (Nat.le_refl _) _
  have eN : runesV (nm ++ [x]) = runesV nm ++ [.int .i32 x] := by unfold runesV; rw [List.map_append]; rfl
  have N' := own_below h.N hb (Nat.le_refl _)
  have T' := own_below h.T hb (Nat.le_refl _)
  have L' := own_below h.L hb (Nat.le_refl _)
  refine ⟨hrun, (h.bl.alloc hB _).trans b4, L'.kept g4 (own_own_neW L' N' (by decide)), ?_, T'.kept g4 (dj_more h.dj), ?_, by show (1 : Nat) ≤ 9; decide, h.n0, h.n1, fun _ => hz, ?_, Nat.le_succ_of_le h.tx, Nat.le_succ_of_le h.LL⟩
  · dsimp only
    rw [eN, List.length_append]
    exact o4
  · dsimp only
    rw [List.length_append]
    exact dj_new h.dj T' e4
  · have := h.nm
    simp at this ⊢
    omega
theorem PR.appT {w1 w5 w4 : World} {B : Nat} {l : List Int} {j st st2 : Nat} {nm tx : List Int} {n : Int} {mi : Bool} {L : List Wsh} {LA NA TA A4 : Option Addr} {lc nc tc c4 : Nat} {o : Obj} {x : Int} (h : PR w1 w5 B l j ⟨st, nm, tx, n, mi, L⟩ LA NA TA lc nc tc) (hB : B ≤ w5.heap.size)
    (ha : Apped (w5.alloc o) B 21 1 TA tx.length tc (runesV tx) 1 [.int .i32 x] A4 c4 w4) (hrun : runQ (l.take (j + 1)) (Q0 []) = some ⟨st2, nm, tx ++ [x], n, mi, L⟩) (hst : st2 ≤ 9) (hz : n = 0) : PR w1 w4 B l (j + 1) ⟨st2, nm, tx ++ [x], n, mi, L⟩ LA NA A4 lc nc c4 := by
  obtain ⟨o4, g4, b4, e4⟩ := ha
  have hb : Below w5.heap.size w5 (w5.alloc o) := (Below.refl _ _).alloc (Nat.le_refl _) _
  have eT : runesV (tx ++ [x]) = runesV tx ++ [.int .i32 x] := by unfold runesV; rw [List.map_append]; rfl
  have N' := own_below h.N hb (Nat.le_refl _)
  have T' := own_below h.T hb (Nat.le_refl _)
  have L' := own_below h.L hb (Nat.le_refl _)
  refine ⟨hrun, (h.bl.alloc hB _).trans b4, L'.kept g4 (own_own_neW L' T' (by decide)), N'.kept g4 (dj_more (dj_sym h.dj)), ?_, ?_, hst, h.n0, h.n1, fun _ => hz, Nat.le_succ_of_le h.nm, ?_, Nat.le_succ_of_le h.LL⟩
  · dsimp only
    rw [eT, List.length_append]
    exact o4
  · dsimp only
    rw [List.length_append]
    exact dj_sym (dj_new (dj_sym h.dj) N' e4)
  · have := h.tx
    simp at this ⊢
    omega
theorem stepS_from6 {c cnt : Int} : stepS 6 c cnt = 6 ∨ stepS 6 c cnt = 0 ∨ stepS 6 c cnt = -1 := by
  unfold stepS
  simp only [show ¬ ((6 : Nat) = 0) by decide, show ¬ ((6 : Nat) = 1) by decide, show ¬ ((6 : Nat) = 2) by decide, show ¬ ((6 : Nat) = 3) by decide, show ¬ ((6 : Nat) = 4) by decide, show ¬ ((6 : Nat) = 7) by decide, show ¬ ((6 : Nat) = 8) by decide, false_and, if_false]
  split
  · exact .inl rfl
  · split
    · exact .inr (.inl rfl)
    · exact .inr (.inr rfl)
theorem rune_at {w : World} {B : Nat} {A : Option Addr} {l : List Int} (h : Rd w B 1 A l.length (runesV l)) {j : Nat} (hj : j < l.length) : ∃ b off, A = some ⟨b, off, none⟩ ∧ b < B ∧ w.cell? ⟨b, off + j, none⟩ = some (.int .i32 l[j]) := by
  obtain ⟨b, off, hA, hb, hc⟩ := h.at_ hj (by omega)
  exact ⟨b, off, hA, hb, hc j _ (by simp [runesV, List.getElem?_eq_getElem hj])⟩
set_option maxRecDepth 100000 in
theorem parse_empty (s : ByteArray) (h0 : s.size = 0) (W : World) : Calls Try.prog 42 #[.string s] W (RpEnd s W) := by
  have e0 : s.toList = [] := by
    rw [ByteArray.toList_eq]
    exact List.eq_nil_of_length_eq_zero h0
  have HP := hid (show refP s = some [] from by unfold refP; rw [if_pos h0])
  have d1 : (s.toList == []) = true := by rw [e0]; rfl
  clear h0 e0
  go_enter Try.func42, Try.ntmps42
  go_wp2_with fail
  go_ret2
  refine ⟨Below.refl _ _, ?_⟩
  rw [HP.out]
  exact ⟨none, 0, rfl, World.ownsRow_nil _ _ _ _, Nat.zero_le _⟩

set_option maxRecDepth 100000 in
set_option maxHeartbeats 16000000 in
theorem parse_full (s : ByteArray) (h0 : s.size ≠ 0) (hs : s.size ≤ 1000000) (W : World) : Calls Try.prog 42 #[.string s] W (RpEnd s W) := by
  have d1 : (s.toList == []) = false := by
    rw [beq_eq_false_iff_ne]
    intro e
    rw [ByteArray.toList_eq] at e
    have : s.data.toList.length = s.size := rfl
    rw [e] at this
    exact h0 this.symm
  have HRF := hid (show refP s = match runQ (rnL s) (Q0 []) with
    | none => none
    | some q => rfin q (rnWhole s) from by unfold refP; rw [if_neg h0]; rfl)
  have HOK := hid (rnL_ok s)
  have hl := rnL_len s
  have HR := hid (refRunes_any s hs)
  obtain ⟨l, hl2⟩ : ∃ l, l = rnL s := ⟨_, rfl⟩
  unfold RunesEnd at HR
  rw [← hl2] at HRF HOK hl HR
  have HLS := hid hl
  have hl6 : l.length ≤ 1000000 := by omega
  clear h0 hl2 hl
  go_enter Try.func42, Try.ntmps42
  go_wp2_with fail
  refine (HR.out W).mono ?_
  rintro e w1 ⟨AL, cl, rfl, hol, hb1⟩
  have RDL := hid (own_rd hol)
  have B1 := hid hb1
  obtain ⟨wh, hwh⟩ : ∃ wh, wh = rnWhole s := ⟨_, rfl⟩
  rw [← hwh] at HRF ⊢
  obtain ⟨i5, hi5, hz5a, hz5b, hz5c⟩ := info_parts rw_info
  have Hi5 := hid hi5
  have Hz5a := hid hz5a
  have Hz5b := hid hz5b
  have Hz5c := hid hz5c
  obtain ⟨i0, hi0, hz0, hz1, hz2⟩ := info_parts rune_info
  have Hi0 := hid hi0
  have Hz0 := hid hz0
  have Hz1 := hid hz1
  have Hz2 := hid hz2
  clear hol hb1 hwh HR hi5 hz5a hz5b hz5c hi0 hz0 hz1 hz2
  go_wp2_with fail
  go_loopw [6, 7, 8, 9, 10, 11, 12, 13] (fun a b c d e f g i wr => ∃ (j : Nat) (st : Nat) (nm tx : List Int) (n : Int) (mi : Bool) (L : List Wsh) (LA NA TA : Option Addr) (lc nc tc bg : Nat), j ≤ l.length ∧ i = .int .i64 (j : Int) ∧ a = .slice LA L.length lc ∧ b = .int .i64 (st : Int) ∧ c = .int .i64 (bg : Int) ∧ d = .slice NA nm.length nc ∧ e = .slice TA tx.length tc ∧ f = .int .i64 n ∧ g = .bool mi ∧ Hid (PR w1 wr w1.heap.size l j ⟨st, nm, tx, n, mi, L⟩ LA NA TA lc nc tc)) (fun _ _ _ _ _ _ _ i _ => l.length - (intOf i).toNat)
  case atStart =>
    refine ⟨0, 0, [], [], 0, false, [], none, none, none, 0, 0, 0, 0, by omega, rfl, rfl, rfl, rfl, rfl, rfl, rfl, rfl, hid ⟨rfl, Below.refl _ _, World.ownsRow_nil _ _ _ _, World.ownsRow_nil _ _ _ _, World.ownsRow_nil _ _ _ _, fun g h => (by cases h), by decide, by decide, by decide, fun _ => rfl, by decide, by decide, by decide⟩⟩
  case round =>
    obtain ⟨j, st, nm, tx, n, mi, L, LA, NA, TA, lc, nc, tc, bg, hj, rfl, rfl, rfl, rfl, rfl, rfl, rfl, rfl, R⟩ := hrel
    have hsz := R.out.bl.size
    have hst := R.out.st
    have hn0 := R.out.n0
    have hn1 := R.out.n1
    have hnm := R.out.nm
    have htx := R.out.tx
    have hLL := R.out.LL
    dsimp only at hst hn0 hn1 hnm htx hLL
    by_cases hlt : j < l.length
    · have dd1 : decide (j < l.length) = true := decide_eq_true hlt
      have dd2 : decide ((j : Int) < (l.length : Int)) = true := decide_eq_true (by omega)
      obtain ⟨bq, oq, rfl, hbq, cq⟩ := rune_at (RDL.out.below R.out.bl (Nat.le_refl _)) hlt
      have hcr := HOK.out l[j] (List.getElem_mem hlt)
      have SN := hid (fun (p : QS) (h : rstep ⟨st, nm, tx, n, mi, L⟩ l[j] = some p) => runQ_snoc hlt R.out.run h)
      have SF := hid (fun (h : rstep ⟨st, nm, tx, n, mi, L⟩ l[j] = none) => show refP s = none from by rw [HRF.out, runQ_fails hlt R.out.run h])
      generalize l[j] = x at *
      have hbq2 : bq < wr.heap.size := by omega
      obtain ⟨cnt, hcnt⟩ : ∃ cnt, cnt = (⟨st, nm, tx, n, mi, L⟩ : QS).cnt := ⟨_, rfl⟩
      have HC := hid hcnt
      clear hcnt
      go_upto_if 36 with (fail)
      go_cut [15] from 34 to 38 (fun v wq => ∃ cn : Int, v = .int .i64 cn ∧ Hid (cn = if st = 1 then (nm.length : Int) else n) ∧ wr = wq)
      case first =>
        by_cases h1 : st = 1
        · have c1 : ((st : Int) == 1) = true := by rw [beq_iff_eq]; omega
          have H1 := hid h1
          clear h1
          rw [c1]
          clear c1
          go_wp2
          go_meet
          exact ⟨_, rfl, hid (by rw [if_pos H1.out]), rfl⟩
        · have c1 : ((st : Int) == 1) = false := by rw [beq_eq_false_iff_ne]; omega
          have H1 := hid h1
          clear h1
          rw [c1]
          clear c1
          go_wp2
          go_meet
          exact ⟨_, rfl, hid (by rw [if_neg H1.out]), rfl⟩
      case rest =>
      obtain ⟨cn, rfl, HCN, rfl⟩ := hcut
      go_upto_if 40 with (fail)
      go_cut [15] from 39 to 42 (fun v wq => v = .int .i64 cnt ∧ wr = wq)
      case first =>
        by_cases h1 : st = 3
        · have c1 : ((st : Int) == 3) = true := by rw [beq_iff_eq]; omega
          have HE := hid (show cnt = (tx.length : Int) from by rw [HC.out]; unfold QS.cnt; dsimp only; rw [if_neg (by omega), if_pos h1])
          clear h1
          rw [c1]
          clear c1
          go_wp2
          go_meet
          exact ⟨by rw [HE.out], rfl⟩
        · have c1 : ((st : Int) == 3) = false := by rw [beq_eq_false_iff_ne]; omega
          have HE := hid (show cnt = cn from by rw [HC.out, HCN.out]; unfold QS.cnt; dsimp only; rw [if_neg (c := st = 3) h1])
          clear h1
          rw [c1]
          clear c1
          go_wp2
          go_meet
          exact ⟨by rw [HE.out], rfl⟩
      case rest =>
      obtain ⟨rfl, rfl⟩ := hcut
      have hc0 : 0 ≤ cnt ∧ cnt ≤ 999999999 := by
        rw [HC.out]
        unfold QS.cnt
        dsimp only
        repeat' split
        all_goals omega
      have SA := hid (step_any st hst x cnt hc0.1 hc0.2)
      have hbd := stepS_bd st x cnt
      have HX0 := hid (show (⟨st, nm, tx, n, mi, L⟩ : QS).nx x = stepS st x cnt from by unfold QS.nx; rw [← HC.out])
      have H6 := hid (fun h => stepS_six (st := st) (c := x) (cnt := cnt) h)
      have H66 := hid (show st = 6 → stepS st x cnt = 6 ∨ stepS st x cnt = 0 ∨ stepS st x cnt = -1 from fun h => by rw [h]; exact stepS_from6)
      have HZ := hid (fun h => stepS_zero (st := st) (c := x) (cnt := cnt) h)
      obtain ⟨nx, hnx⟩ : ∃ nx, nx = stepS st x cnt := ⟨_, rfl⟩
      unfold StEnd at SA
      rw [← hnx] at SA hbd HX0 H6 HZ H66
      clear hnx hc0
      go_wp2_with fail
      refine (SA.out _).mono ?_
      rintro e w2 ⟨rfl, rfl⟩
      go_upto_region 21 with (fail)
      go_cut [61] from 47 to 61 (fun v wq => v = .bool (decide (nx < 0 ∨ (nx = 1 ∧ st = 0 ∧ L.length = 16))) ∧ wr = wq)
      case first =>
        by_cases h1 : nx < 0
        · have c1 : decide (nx < 0) = true := decide_eq_true h1
          have HE := hid (show decide (nx < 0 ∨ (nx = 1 ∧ st = 0 ∧ L.length = 16)) = true from decide_eq_true (.inl h1))
          clear h1
          go_wp2
          go_meet
          exact ⟨by rw [HE.out], rfl⟩
        · have c1 : decide (nx < 0) = false := decide_eq_false h1
          by_cases h2 : nx = 1
          · have c2 : (nx == 1) = true := by rw [beq_iff_eq]; exact h2
            by_cases h3 : st = 0
            · have c3 : ((st : Int) == 0) = true := by rw [beq_iff_eq]; omega
              by_cases h4 : L.length = 16
              · have c4 : ((L.length : Int) == 16) = true := by rw [beq_iff_eq]; omega
                have HE := hid (show decide (nx < 0 ∨ (nx = 1 ∧ st = 0 ∧ L.length = 16)) = true from decide_eq_true (.inr ⟨h2, h3, h4⟩))
                clear h1 h2 h3 h4
                go_wp2
                go_meet
                exact ⟨by rw [HE.out], rfl⟩
              · have c4 : ((L.length : Int) == 16) = false := by rw [beq_eq_false_iff_ne]; omega
                have HE := hid (show decide (nx < 0 ∨ (nx = 1 ∧ st = 0 ∧ L.length = 16)) = false from decide_eq_false (by omega))
                clear h1 h2 h3 h4
                go_wp2
                go_meet
                exact ⟨by rw [HE.out], rfl⟩
            · have c3 : ((st : Int) == 0) = false := by rw [beq_eq_false_iff_ne]; omega
              have HE := hid (show decide (nx < 0 ∨ (nx = 1 ∧ st = 0 ∧ L.length = 16)) = false from decide_eq_false (by omega))
              clear h1 h2 h3
              go_wp2
              go_meet
              exact ⟨by rw [HE.out], rfl⟩
          · have c2 : (nx == 1) = false := by rw [beq_eq_false_iff_ne]; exact h2
            have HE := hid (show decide (nx < 0 ∨ (nx = 1 ∧ st = 0 ∧ L.length = 16)) = false from decide_eq_false (by omega))
            clear h1 h2
            go_wp2
            go_meet
            exact ⟨by rw [HE.out], rfl⟩
      case rest =>
      obtain ⟨rfl, rfl⟩ := hcut
      by_cases hA : nx < 0 ∨ (nx = 1 ∧ st = 0 ∧ L.length = 16)
      · have HE := hid (SF.out (by unfold rstep; rw [HX0.out, if_pos hA]))
        have BB := hid (B1.out.trans (R.out.bl.mono B1.out.size))
        rw [decide_eq_true hA]
        clear hA
        go_wp2_with fail
        go_ret2
        exact rp_none j HE.out BB.out
      · have HA := hid hA
        rw [decide_eq_false hA]
        clear hA
        have KN := hid (known_any LA NA lc nc _ L nm wr (own_rd R.out.L) (by omega) R.out.N)
        go_upto_region 23 with (fail)
        go_cut [73] from 62 to 73 (fun v wq => v = .bool (decide (st = 1 ∧ nx ≠ 1 ∧ knownQ ⟨st, nm, tx, n, mi, L⟩ = true)) ∧ Below wr.heap.size wr wq)
        case first =>
          by_cases h1 : st = 1
          · have c1 : ((st : Int) == 1) = true := by rw [beq_iff_eq]; omega
            by_cases h2 : nx = 1
            · have c2 : (nx != 1) = false := by rw [bne_eq_false_iff_eq]; exact h2
              have HE := hid (show decide (st = 1 ∧ nx ≠ 1 ∧ knownQ ⟨st, nm, tx, n, mi, L⟩ = true) = false from decide_eq_false (fun h => h.2.1 h2))
              clear h1 h2
              go_wp2
              go_meet
              exact ⟨by rw [HE.out], Below.refl _ _⟩
            · have c2 : (nx != 1) = true := by rw [bne_iff_ne]; exact h2
              have HE := hid (show decide (st = 1 ∧ nx ≠ 1 ∧ knownQ ⟨st, nm, tx, n, mi, L⟩ = true) = knownP (runesBytes nm) L from by
                unfold knownQ
                dsimp only
                cases hk : knownP (runesBytes nm) L with
                | true => exact decide_eq_true ⟨h1, h2, rfl⟩
                | false => exact decide_eq_false (fun h => by cases h.2.2))
              clear h1 h2
              go_wp2_with fail
              refine (KN.out).mono ?_
              rintro e w3 ⟨rfl, hb3⟩
              go_wp2
              go_meet
              exact ⟨by rw [HE.out], hb3⟩
          · have c1 : ((st : Int) == 1) = false := by rw [beq_eq_false_iff_ne]; omega
            have HE := hid (show decide (st = 1 ∧ nx ≠ 1 ∧ knownQ ⟨st, nm, tx, n, mi, L⟩ = true) = false from decide_eq_false (fun h => h1 h.1))
            clear h1
            go_wp2
            go_meet
            exact ⟨by rw [HE.out], Below.refl _ _⟩
        case rest =>
        obtain ⟨rfl, hbw⟩ := hcut
        have R2 := hid (R.out.below hbw hsz)
        clear hbw KN
        generalize wc = w5 at *
        have hsz2 : w1.heap.size ≤ w5.heap.size := R2.out.bl.size
        by_cases hK : st = 1 ∧ nx ≠ 1 ∧ knownQ ⟨st, nm, tx, n, mi, L⟩ = true
        · have HE := hid (SF.out (by unfold rstep; rw [HX0.out, if_neg HA.out, if_pos hK]))
          have BB := hid (B1.out.trans (R2.out.bl.mono B1.out.size))
          rw [decide_eq_true hK]
          clear hK
          go_wp2_with fail
          go_ret2
          exact rp_none bg HE.out BB.out
        · have HK := hid hK
          rw [decide_eq_false hK]
          clear hK R hsz
          have HS := hid (show rstep ⟨st, nm, tx, n, mi, L⟩ x = some ((⟨st, nm, tx, n, mi, L⟩ : QS).go1 x nx) from by unfold rstep; rw [HX0.out, if_neg HA.out, if_neg HK.out])
          have hcase : nx = 0 ∨ nx = 1 ∨ nx = 3 ∨ nx = 4 ∨ nx = 6 ∨ nx = 7 ∨ nx = 2 ∨ nx = 5 ∨ nx = 8 ∨ nx = 9 := by have := HA.out; omega
          have hj1 : j + 1 ≤ l.length := hlt
          clear hbd cq hbq hbq2 dd1 dd2
          rcases hcase with hv | hv | hv | hv | hv | hv | hv | hv | hv | hv
          · subst hv
            have CL := hid (closed_any ⟨st, nm, tx, n, mi, L⟩ (HZ.out rfl) NA TA nc tc _ _ w5 R2.out.N R2.out.T hn0 hn1)
            unfold ClEnd rwV at CL
            obtain ⟨x2, hx2⟩ : ∃ x2, x2 = (⟨st, nm, tx, n, mi, L⟩ : QS).closed := ⟨_, rfl⟩
            rw [← hx2] at CL
            have HX2 := hid hx2
            clear hx2
            go_wp2_with fail
            refine (CL.out).mono ?_
            rintro e w3 ⟨rfl, hb3⟩
            have L3 := hid (own_below R2.out.L hb3 (Nat.le_refl _))
            have hz3 := hb3.size
            have BB3 := hid hb3
            clear hb3 CL
            go_wp2_with (at_builtin; (refine wpList_app _ rfl _ _ _ rfl w1.heap.size 77 i5 (.agg #[.string ⟨#[]⟩, .int .i64 0, .int .i64 0, .string ⟨#[]⟩, .bool false]) 5 56 Try.underlying83 Hi5.out Hz5a.out Hz5b.out Hz5c.out rfl (by omega) LA L.length lc (L.flatMap encRw) rfl (own_below L3.out ((Below.refl _ _).alloc (Nat.le_refl _) _) (Nat.le_refl _)) _ _ 1 1 (encRw x2) rfl (rd_one _ _ _ _ (Blk.new _ _ _)) (by simp) (by simp [encRw, Value.oneCell']) (by simp only [maxLen]; omega) (by omega) (by simp; omega) ?_; intro A4 c4 w4 ha4; have Ha4 := hid ha4; clear ha4))
            go_roundw
            case rel =>
              obtain ⟨o4, _, b4, _⟩ := Ha4.out
              refine ⟨j + 1, 0, [], [], 0, false, L ++ [x2], A4, none, none, c4, 0, 0, bg, by omega, by go_num, by rw [List.length_append]; rfl, rfl, rfl, rfl, rfl, rfl, rfl, hid ⟨SN.out _ (HS.out.trans (by rw [HX2.out]; rfl)), ((R2.out.bl.trans (BB3.out.mono hsz2)).alloc (Nat.le_trans hsz2 hz3) _).trans b4, ?_, World.ownsRow_nil _ _ _ _, World.ownsRow_nil _ _ _ _, fun g h => (by cases h), Nat.zero_le 9, Int.le_refl 0, (show (0 : Int) ≤ 999999999 by decide), fun _ => rfl, Nat.zero_le _, Nat.zero_le _, ?_⟩⟩
              · rw [List.flatMap_append, List.length_append]
                simpa using o4
              · simp; omega
            case measure => simp [intOf]; omega
          · subst hv
            have hn00 : n = 0 := R2.out.z0 (fun e => by have := H66.out e; omega)
            have HN0 := hid hn00
            clear hn00
            go_upto_if 90 with (fail)
            go_cut [8] from 89 to 91 (fun v wq => ∃ bg2 : Nat, v = .int .i64 (bg2 : Int) ∧ w5 = wq)
            case first =>
              by_cases h1 : st = 0
              · have c1 : ((st : Int) == 0) = true := by rw [beq_iff_eq]; omega
                clear h1
                rw [c1]
                clear c1
                go_wp2
                go_meet
                exact ⟨j, rfl, rfl⟩
              · have c1 : ((st : Int) == 0) = false := by rw [beq_eq_false_iff_ne]; omega
                clear h1
                rw [c1]
                clear c1
                go_wp2
                go_meet
                exact ⟨bg, rfl, rfl⟩
            case rest =>
            obtain ⟨bg2, rfl, rfl⟩ := hcut
            go_wp2_with (at_builtin; (refine wpList_app _ rfl _ _ _ rfl w1.heap.size 21 i0 (.int .i32 0) 1 4 Try.underlying24 Hi0.out Hz0.out Hz1.out Hz2.out rfl (by omega) NA nm.length nc (runesV nm) rfl (own_below R2.out.N ((Below.refl _ _).alloc (Nat.le_refl _) _) (Nat.le_refl _)) _ _ 1 1 [.int .i32 x] rfl (rd_one _ _ _ _ (Blk.new _ _ _)) (by simp) (by simp [Value.oneCell']) (by simp only [maxLen]; omega) (by omega) (by simp; omega) ?_; intro A4 c4 w4 ha4; have Ha4 := hid ha4; clear ha4))
            go_roundw
            case rel => exact ⟨j + 1, 1, nm ++ [x], tx, n, mi, L, LA, A4, TA, lc, c4, tc, bg2, by omega, by go_num, rfl, rfl, rfl, by rw [List.length_append]; rfl, rfl, rfl, rfl, hid (R2.out.appN hsz2 Ha4.out (SN.out _ HS.out) HN0.out)⟩
            case measure => simp [intOf]; omega
          · subst hv
            have hn00 : n = 0 := R2.out.z0 (fun e => by have := H66.out e; omega)
            have HN0 := hid hn00
            clear hn00
            go_wp2_with (at_builtin; (refine wpList_app _ rfl _ _ _ rfl w1.heap.size 21 i0 (.int .i32 0) 1 4 Try.underlying24 Hi0.out Hz0.out Hz1.out Hz2.out rfl (by omega) TA tx.length tc (runesV tx) rfl (own_below R2.out.T ((Below.refl _ _).alloc (Nat.le_refl _) _) (Nat.le_refl _)) _ _ 1 1 [.int .i32 x] rfl (rd_one _ _ _ _ (Blk.new _ _ _)) (by simp) (by simp [Value.oneCell']) (by simp only [maxLen]; omega) (by omega) (by simp; omega) ?_; intro A4 c4 w4 ha4; have Ha4 := hid ha4; clear ha4))
            go_roundw
            case rel => exact ⟨j + 1, 3, nm, tx ++ [x], n, mi, L, LA, NA, A4, lc, nc, c4, bg, by omega, by go_num, rfl, rfl, rfl, rfl, by rw [List.length_append]; rfl, rfl, rfl, hid (R2.out.appT hsz2 Ha4.out (SN.out _ HS.out) (by decide) HN0.out)⟩
            case measure => simp [intOf]; omega
          · subst hv
            have hn00 : n = 0 := R2.out.z0 (fun e => by have := H66.out e; omega)
            have HN0 := hid hn00
            clear hn00
            go_wp2_with fail
            go_roundw
            case rel => exact ⟨j + 1, 4, nm, tx, n, true, L, LA, NA, TA, lc, nc, tc, bg, by omega, by go_num, rfl, rfl, rfl, rfl, rfl, rfl, rfl, hid (R2.out.same 4 n true (SN.out _ HS.out) (by decide) hn0 hn1 (fun _ => HN0.out))⟩
            case measure => simp [intOf]; omega
          · subst hv
            obtain ⟨x0, x1, x6, x24⟩ := H6.out rfl
            have hxn : 10 * n + (x - 48) ≤ 999999999 := by
              rcases x24 with h | h | h
              · have := R2.out.z0 (by show st ≠ 6; omega); dsimp only at this; omega
              · have := R2.out.z0 (by show st ≠ 6; omega); dsimp only at this; omega
              · have h1 := x6 h; have h2 := HC.out; unfold QS.cnt at h2; dsimp only at h2; rw [if_neg (by omega), if_neg (by omega)] at h2; omega
            clear x24 x6
            go_wp2_with fail
            go_roundw
            case rel => exact ⟨j + 1, 6, nm, tx, (10 * n + (x - 48)), mi, L, LA, NA, TA, lc, nc, tc, bg, by omega, by go_num, rfl, rfl, rfl, rfl, rfl, rfl, rfl, hid (R2.out.same 6 (10 * n + (x - 48)) mi (SN.out _ HS.out) (by decide) (by omega) hxn (fun h => absurd rfl h))⟩
            case measure => simp [intOf]; omega
          · subst hv
            have hn00 : n = 0 := R2.out.z0 (fun e => by have := H66.out e; omega)
            have HN0 := hid hn00
            clear hn00
            by_cases h2 : st = 2
            · have c2 : ((st : Int) != 2) = false := by rw [bne_eq_false_iff_eq]; omega
              have HS2 := hid (HS.out.trans (show some ((⟨st, nm, tx, n, mi, L⟩ : QS).go1 x 7) = some ⟨7, nm, tx, n, mi, L⟩ from by unfold QS.go1; simp [h2]))
              clear h2
              go_wp2_with fail
              go_roundw
              case rel => exact ⟨j + 1, 7, nm, tx, n, mi, L, LA, NA, TA, lc, nc, tc, bg, by omega, by go_num, rfl, rfl, rfl, rfl, rfl, rfl, rfl, hid (R2.out.same 7 n mi (SN.out _ HS2.out) (by decide) hn0 hn1 (fun _ => HN0.out))⟩
              case measure => simp [intOf]; omega
            · have c2 : ((st : Int) != 2) = true := by rw [bne_iff_ne]; omega
              have HS2 := hid (HS.out.trans (show some ((⟨st, nm, tx, n, mi, L⟩ : QS).go1 x 7) = some ⟨7, nm, tx ++ [x], n, mi, L⟩ from by unfold QS.go1; simp [h2]))
              clear h2
              go_wp2_with (at_builtin; (refine wpList_app _ rfl _ _ _ rfl w1.heap.size 21 i0 (.int .i32 0) 1 4 Try.underlying24 Hi0.out Hz0.out Hz1.out Hz2.out rfl (by omega) TA tx.length tc (runesV tx) rfl (own_below R2.out.T ((Below.refl _ _).alloc (Nat.le_refl _) _) (Nat.le_refl _)) _ _ 1 1 [.int .i32 x] rfl (rd_one _ _ _ _ (Blk.new _ _ _)) (by simp) (by simp [Value.oneCell']) (by simp only [maxLen]; omega) (by omega) (by simp; omega) ?_; intro A4 c4 w4 ha4; have Ha4 := hid ha4; clear ha4))
              go_roundw
              case rel => exact ⟨j + 1, 7, nm, tx ++ [x], n, mi, L, LA, NA, A4, lc, nc, c4, bg, by omega, by go_num, rfl, rfl, rfl, rfl, by rw [List.length_append]; rfl, rfl, rfl, hid (R2.out.appT hsz2 Ha4.out (SN.out _ HS2.out) (by decide) HN0.out)⟩
              case measure => simp [intOf]; omega
          · subst hv
            have hn00 : n = 0 := R2.out.z0 (fun e => by have := H66.out e; omega)
            have HN0 := hid hn00
            clear hn00
            go_wp2_with fail
            go_roundw
            case rel => exact ⟨j + 1, 2, nm, tx, n, mi, L, LA, NA, TA, lc, nc, tc, bg, by omega, by go_num, rfl, rfl, rfl, rfl, rfl, rfl, rfl, hid (R2.out.same 2 n mi (SN.out _ HS.out) (by decide) hn0 hn1 (fun _ => HN0.out))⟩
            case measure => simp [intOf]; omega
          · subst hv
            have hn00 : n = 0 := R2.out.z0 (fun e => by have := H66.out e; omega)
            have HN0 := hid hn00
            clear hn00
            go_wp2_with fail
            go_roundw
            case rel => exact ⟨j + 1, 5, nm, tx, n, mi, L, LA, NA, TA, lc, nc, tc, bg, by omega, by go_num, rfl, rfl, rfl, rfl, rfl, rfl, rfl, hid (R2.out.same 5 n mi (SN.out _ HS.out) (by decide) hn0 hn1 (fun _ => HN0.out))⟩
            case measure => simp [intOf]; omega
          · subst hv
            have hn00 : n = 0 := R2.out.z0 (fun e => by have := H66.out e; omega)
            have HN0 := hid hn00
            clear hn00
            go_wp2_with fail
            go_roundw
            case rel => exact ⟨j + 1, 8, nm, tx, n, mi, L, LA, NA, TA, lc, nc, tc, bg, by omega, by go_num, rfl, rfl, rfl, rfl, rfl, rfl, rfl, hid (R2.out.same 8 n mi (SN.out _ HS.out) (by decide) hn0 hn1 (fun _ => HN0.out))⟩
            case measure => simp [intOf]; omega
          · subst hv
            have hn00 : n = 0 := R2.out.z0 (fun e => by have := H66.out e; omega)
            have HN0 := hid hn00
            clear hn00
            go_wp2_with fail
            go_roundw
            case rel => exact ⟨j + 1, 9, nm, tx, n, mi, L, LA, NA, TA, lc, nc, tc, bg, by omega, by go_num, rfl, rfl, rfl, rfl, rfl, rfl, rfl, hid (R2.out.same 9 n mi (SN.out _ HS.out) (by decide) hn0 hn1 (fun _ => HN0.out))⟩
            case measure => simp [intOf]; omega
    · have dd1 : decide (j < l.length) = false := decide_eq_false hlt
      have dd2 : decide ((j : Int) < (l.length : Int)) = false := decide_eq_false (by omega)
      have hjl : j = l.length := by omega
      have HF := hid (show refP s = rfin ⟨st, nm, tx, n, mi, L⟩ wh from by
        have := R.out.run
        rw [hjl, List.take_length] at this
        rw [HRF.out, this])
      have BB := hid (B1.out.trans (R.out.bl.mono B1.out.size))
      clear hlt hjl
      cases wh with
      | false =>
        go_wp2_with fail
        go_ret2
        exact rp_none l.length (HF.out.trans (fin_cut _)) BB.out
      | true =>
        have EN := hid (rends_any st hst wr)
        cases he : endsS st with
        | false =>
          rw [he] at EN
          have HE := hid (HF.out.trans (fin_no true he))
          clear he
          go_wp2_with fail
          refine (EN.out).mono ?_
          rintro e w2 ⟨rfl, rfl⟩
          go_wp2_with fail
          go_ret2
          exact rp_none l.length HE.out BB.out
        | true =>
          rw [he] at EN
          have HEN := hid he
          clear he
          go_wp2_with fail
          refine (EN.out).mono ?_
          rintro e w2 ⟨rfl, rfl⟩
          have KN := hid (known_any LA NA lc nc _ L nm wr (own_rd R.out.L) (by omega) R.out.N)
          go_upto_region 48 with (fail)
          go_cut [136] from 130 to 136 (fun v wq => v = .bool (decide (st = 1 ∧ knownQ ⟨st, nm, tx, n, mi, L⟩ = true)) ∧ Below wr.heap.size wr wq)
          case first =>
            by_cases h1 : st = 1
            · have c1 : ((st : Int) == 1) = true := by rw [beq_iff_eq]; omega
              have HE := hid (show decide (st = 1 ∧ knownQ ⟨st, nm, tx, n, mi, L⟩ = true) = knownP (runesBytes nm) L from by
                unfold knownQ
                dsimp only
                cases hk : knownP (runesBytes nm) L with
                | true => exact decide_eq_true ⟨h1, rfl⟩
                | false => exact decide_eq_false (fun h => by cases h.2))
              clear h1
              go_wp2_with fail
              refine (KN.out).mono ?_
              rintro e w3 ⟨rfl, hb3⟩
              go_wp2
              go_meet
              exact ⟨by rw [HE.out], hb3⟩
            · have c1 : ((st : Int) == 1) = false := by rw [beq_eq_false_iff_ne]; omega
              have HE := hid (show decide (st = 1 ∧ knownQ ⟨st, nm, tx, n, mi, L⟩ = true) = false from decide_eq_false (fun h => h1 h.1))
              clear h1
              go_wp2
              go_meet
              exact ⟨by rw [HE.out], Below.refl _ _⟩
          case rest =>
          obtain ⟨rfl, hbw⟩ := hcut
          have R2 := hid (R.out.below hbw hsz)
          clear hbw KN
          generalize wc = w5 at *
          have hsz2 : w1.heap.size ≤ w5.heap.size := R2.out.bl.size
          have BB2 := hid (B1.out.trans (R2.out.bl.mono B1.out.size))
          by_cases hK : st = 1 ∧ knownQ ⟨st, nm, tx, n, mi, L⟩ = true
          · have HE := hid (HF.out.trans (show rfin ⟨st, nm, tx, n, mi, L⟩ true = none from by unfold rfin; rw [if_neg (by rintro (h | h); cases h; rw [HEN.out] at h; cases h), if_pos hK]))
            rw [decide_eq_true hK]
            clear hK
            go_wp2_with fail
            go_ret2
            exact rp_none bg HE.out BB2.out
          · have HE := hid (HF.out.trans (show rfin ⟨st, nm, tx, n, mi, L⟩ true = some (L ++ [(⟨st, nm, tx, n, mi, L⟩ : QS).closed]) from by unfold rfin; rw [if_neg (by rintro (h | h); cases h; rw [HEN.out] at h; cases h), if_neg hK]))
            rw [decide_eq_false hK]
            clear hK
            have CL := hid (closed_any ⟨st, nm, tx, n, mi, L⟩ HEN.out NA TA nc tc _ _ w5 R2.out.N R2.out.T hn0 hn1)
            unfold ClEnd rwV at CL
            obtain ⟨x2, hx2⟩ : ∃ x2, x2 = (⟨st, nm, tx, n, mi, L⟩ : QS).closed := ⟨_, rfl⟩
            rw [← hx2] at CL HE
            clear hx2
            go_wp2_with fail
            refine (CL.out).mono ?_
            rintro e w3 ⟨rfl, hb3⟩
            have L3 := hid (own_below R2.out.L hb3 (Nat.le_refl _))
            have hz3 := hb3.size
            have B3 := hid (R2.out.bl.trans (hb3.mono hsz2))
            clear hb3 CL
            go_wp2_with (at_builtin; (refine wpList_app _ rfl _ _ _ rfl w1.heap.size 77 i5 (.agg #[.string ⟨#[]⟩, .int .i64 0, .int .i64 0, .string ⟨#[]⟩, .bool false]) 5 56 Try.underlying83 Hi5.out Hz5a.out Hz5b.out Hz5c.out rfl (by omega) LA L.length lc (L.flatMap encRw) rfl (own_below L3.out ((Below.refl _ _).alloc (Nat.le_refl _) _) (Nat.le_refl _)) _ _ 1 1 (encRw x2) rfl (rd_one _ _ _ _ (Blk.new _ _ _)) (by simp) (by simp [encRw, Value.oneCell']) (by simp only [maxLen]; omega) (by omega) (by simp; omega) ?_; intro A4 c4 w4 ha4; have Ha4 := hid ha4; clear ha4))
            go_ret2
            obtain ⟨o4, _, b4, _⟩ := Ha4.out
            refine ⟨B1.out.trans (((B3.out.alloc (Nat.le_trans hsz2 hz3) _).trans b4).mono B1.out.size), ?_⟩
            rw [HE.out]
            refine ⟨A4, c4, by rw [List.length_append]; rfl, ?_, ?_⟩
            · rw [List.flatMap_append, List.length_append]
              have := own_base o4 B1.out.size
              simpa using this
            · rw [List.length_append]
              have h1 : L.length ≤ j := hLL
              have h2 := HLS.out
              simp
              omega
theorem parse_ref (s : ByteArray) (hs : s.size ≤ 1000000) (W : World) : Calls Try.prog 42 #[.string s] W (RpEnd s W) := by
  by_cases h0 : s.size = 0
  · exact parse_empty s h0 W
  · exact parse_full s h0 hs W
end Go.Proofs.Ytegmbjkpjglgpaa
