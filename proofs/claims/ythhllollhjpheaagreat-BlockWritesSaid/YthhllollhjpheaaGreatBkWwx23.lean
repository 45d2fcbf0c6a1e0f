/-
  The reference's inflate: a block's symbols.
  The reference's inflate: what lengths leans on.
  The reference's inflate: steps that carry what goes wrong first.
  The reference's inflate: a block's symbols, step by step.
-/
import Derived.Test.YthhllollhjpheaaGreatBkWwx22
namespace Go.Proofs.YthhllollhjpheaaGreat
open Go.RowKit

theorem IRowB.kp {w w' : World} {A : Option Addr} {l : List Int} (h : IRowB w A l) (hk : Kp w w') : IRowB w' A l := by
  rcases h with h | ⟨b, off, cs, hA, hb, hc⟩
  · exact .inl h
  · exact .inr ⟨b, off, cs, hA, hk.2 _ _ _ _ hb (by decide) (by decide), hc⟩
theorem Blk.kp {w w' : World} {g : Nat} {cs : Array Value} (h : Blk w g 3 cs) (hk : Kp w w') : Blk w' g 3 cs := hk.2 _ _ _ _ h (by decide) (by decide)
theorem blk_eq {w : World} {g : Nat} {t : TypeId} {L M : Array Value} (h : Blk w g t L) (e : L = M) : Blk w g t M := e ▸ h
theorem blkNew1 (w : World) (o : Obj) (t : TypeId) (cs : Array Value) : Blk ((w.alloc o).alloc (.cells cs t)) (w.heap.size + 1) t cs := by
  have h := Blk.new (w.alloc o) t cs
  rw [World.size_alloc] at h
  exact h
def TabB (n : Nat) (f g : Nat → Int) (W : World) (e : Ending) (w' : World) : Prop :=
  ∃ a b, e = .returned (.tuple #[.slice (some ⟨a, 0, none⟩) n n, .slice (some ⟨b, 0, none⟩) n n]) ∧ Below W.heap.size W w' ∧ Blk w' a 3 (intRow n f) ∧ Blk w' b 3 (intRow n g)
theorem lensB_any (W : World) : Calls Tryz.prog 60 #[] W (TabB 29 (fun k => lbase (257 + k)) (fun k => lextra (257 + k)) W) := by
  go_enter Tryz.func60, Tryz.ntmps60
  go_wp2
  go_ret2
  exact ⟨W.heap.size, W.heap.size + 1, rfl, ((Below.refl _ _).alloc (Nat.le_refl _) _).alloc (by simp) _, blk_eq (Blk.alloc (Blk.new W _ _) _) (by kernel_rfl), blk_eq (blkNew1 W _ _ _) (by kernel_rfl)⟩
theorem distsB_any (W : World) : Calls Tryz.prog 61 #[] W (TabB 30 (fun k => dbase k) (fun k => dextra k) W) := by
  go_enter Tryz.func61, Tryz.ntmps61
  go_wp2
  go_ret2
  exact ⟨W.heap.size, W.heap.size + 1, rfl, ((Below.refl _ _).alloc (Nat.le_refl _) _).alloc (by simp) _, blk_eq (Blk.alloc (Blk.new W _ _) _) (by kernel_rfl), blk_eq (blkNew1 W _ _ _) (by kernel_rfl)⟩
theorem tab_at {w : World} {a n : Nat} {f : Nat → Int} (h : Blk w a 3 (intRow n f)) {k : Nat} (hk : k < n) : w.cell? ⟨a, k, none⟩ = some (.int .i64 (f k)) := (h.cell k).trans (intRow_at n f k hk)
theorem codesR (A : Option Addr) (c : Nat) (l : List Int) (W : World) (h : IRowB W A l) (hm : l.length ≤ 1000) : Calls Tryz.prog 104 #[.slice A l.length c] W fun e w' => ∃ C cc K, e = .returned (.slice C K cc) ∧ CB w' l C cc K ∧ Below W.heap.size W w' := by
  refine (codes_any A c l W h.rdi hm).mono ?_
  rintro e w' ⟨C, cc, X, he, h1, h2, h3, h4⟩
  refine ⟨C, cc, (slOf l).length, he, ⟨X, h1, ?_, h2, h3.base (Nat.zero_le _)⟩, h4⟩
  rw [slOf, List.length_map]
  have := order_le l
  omega
theorem rsyms_bad {v : Rv} {w : World} {s : Sk} {b : Int} (h : RI v w s b) (hb0 : b ≠ 0) (A D : Option Addr) (c d : Nat) (l m : List Int) (hl : IRowB w A l) (hd : IRowB w D m) (hlm : l.length ≤ 1000) (hdm : m.length ≤ 1000) : Calls Tryz.prog 51 #[.pointer (some ⟨v.g, 0, none⟩), .slice A l.length c, .slice D m.length d] w fun e w' => e = .returned (.tuple #[]) ∧ RI v w' s b ∧ Kp w w' := by
  have H := hid h
  have c1 := hid (codesR A c l w hl hlm)
  have c2 := hid (fun (w' : World) (hk : Kp w w') => codesR D d m w' (hd.kp hk) hdm)
  obtain ⟨nl, hnl⟩ : ∃ nl, nl = l.length := ⟨_, rfl⟩
  obtain ⟨nd, hnd⟩ : ∃ nd, nd = m.length := ⟨_, rfl⟩
  rw [← hnl] at c1 ⊢
  rw [← hnd] at c2 ⊢
  have d0 : (b == 0) = false := by rw [beq_eq_false_iff_ne]; exact hb0
  clear h hl hd hlm hdm hnl hnd hb0
  go_enter Tryz.func51, Tryz.ntmps51
  go_wp2_with fail
  refine c1.out.mono ?_
  rintro e w1 ⟨C, cc, K, rfl, _, hb1⟩
  have R1 := hid (H.out.below hb1 (Nat.le_refl _))
  clear hb1
  go_wp2_with fail
  refine (c2.out w1 R1.out.2).mono ?_
  rintro e w2 ⟨C2, cc2, K2, rfl, _, hb2⟩
  have R2 := hid (R1.out.1.below hb2 (Nat.le_refl _))
  clear hb2
  go_wp2_with fail
  refine (lensB_any w2).mono ?_
  rintro e w3 ⟨a3, b3, rfl, hb3, _, _⟩
  have R3 := hid (R2.out.1.below hb3 (Nat.le_refl _))
  clear hb3
  go_wp2_with fail
  refine (distsB_any w3).mono ?_
  rintro e w4 ⟨a4, b4, rfl, hb4, _, _⟩
  have R4 := hid (R3.out.1.below hb4 (Nat.le_refl _))
  have KK := hid (R1.out.2.trans (R2.out.2.trans (R3.out.2.trans R4.out.2)))
  obtain ⟨T, tc, hb, _⟩ := R4.out.1.tok
  unfold inCs at hb
  have q2 := hb.cell 2
  simp only [List.getElem?_toArray, List.getElem?_cons_zero, List.getElem?_cons_succ] at q2
  have hg := hb.lt
  clear hb hb4
  go_wp2_with fail
  go_loopw [] (fun wr => wr = w4) (fun _ => 0)
  case atStart => rfl
  case round =>
    subst hrel
    go_wp2_with fail
    go_end0
    exact ⟨rfl, R4.out.1, KK.out⟩
end Go.Proofs.YthhllollhjpheaaGreat

namespace Go.Proofs.YthhllollhjpheaaGreat
open Go.RowKit

theorem Kp.setNew {w0 w : World} {g i : Nat} (h : Kp w0 w) (hg : w0.heap.size ≤ g) (u : Value) : Kp w0 (w.setCell ⟨g, i, none⟩ u) := by
  refine ⟨by rw [World.size_setCell]; exact h.1, fun b cs t z hb h1 h2 => ?_⟩
  have hlt : b < w0.heap.size := (Array.getElem?_eq_some_iff.1 hb).1
  exact (Below.heap_setCell w ⟨g, i, none⟩ u b (by intro e; have e : b = g := e; omega)).trans (h.2 b cs t z hb h1 h2)
theorem Kp.thenBelow {w0 w w' : World} {C : Nat} (h : Kp w0 w) (hb : Below C w w') (hC : w0.heap.size ≤ C) : Kp w0 w' := by
  refine ⟨Nat.le_trans h.1 hb.size, fun b cs t z hb0 h1 h2 => ?_⟩
  have hlt : b < w0.heap.size := (Array.getElem?_eq_some_iff.1 hb0).1
  exact (hb.block b (by omega)).trans (h.2 b cs t z hb0 h1 h2)
/-- a cell of a row of ints is written: the reader stays -/
theorem RI.setInt {v : Rv} {w : World} {s : Sk} {b : Int} {g i : Nat} {cs : Array Value} (h : RI v w s b) (hb : Blk w g 3 cs) (hW : v.W.heap.size ≤ g) (u : Value) (hlr : (w.setCell ⟨g, i, none⟩ u).ownsRow 0 3 1 (.slice v.LA v.L.length v.lc) v.L.length (intsV v.L)) : RI v (w.setCell ⟨g, i, none⟩ u) s b := by
  obtain ⟨T, tc, hk, ho⟩ := h.tok
  refine ⟨h.kl, ⟨T, tc, hk.far (p := ⟨g, i, none⟩) ?_ u, ?_⟩, hlr, h.fr.setCell (p := ⟨g, i, none⟩) hW u, h.gw, h.bit, h.ln, h.mo, h.sz, h.tl⟩
  · intro e
    have e : v.g = g := e
    unfold Blk at hb hk
    rw [e, hb] at hk
    injection hk with hk
    injection hk with _ h5 _
    exact absurd h5 (by decide)
  · refine ⟨ho.1, ?_⟩
    rcases ho.2 with hn | ⟨g', cap, cur, h1, hbb, hh, rest⟩
    · exact .inl hn
    · refine .inr ⟨g', cap, cur, h1, hbb, Blk.far hh (p := ⟨g, i, none⟩) ?_ u, rest⟩
      intro e
      have e : g' = g := e
      unfold Blk at hb
      rw [e, hb] at hh
      injection hh with hh
      injection hh with _ h5 _
      exact absurd h5 (by decide)
/-- a row of ints grows: the reader stays -/
theorem RI.app {v : Rv} {w w' : World} {s : Sk} {b : Int} {base n c : Nat} {A : Option Addr} {xs : List Value} (h : RI v w s b) (ho : w.ownsRow base 3 1 (.slice A n c) n xs) (hg : w.grownBy w' (Value.slice A n c).ownBlock) (hb : Below base w w') (hW : v.W.heap.size ≤ base) (hlr : w'.ownsRow 0 3 1 (.slice v.LA v.L.length v.lc) v.L.length (intsV v.L)) : RI v w' s b := by
  obtain ⟨T, tc, hk, hoT⟩ := h.tok
  exact ⟨h.kl, ⟨T, tc, hk.grown hg (own_blk_ne ho hk (by decide)), own_apart hoT ho (by decide) hg⟩, hlr, h.fr.trans (hb.mono hW), h.gw, h.bit, h.ln, h.mo, h.sz, h.tl⟩
theorem sum_bd2 : ∀ (l : List Int), (∀ x ∈ l, 0 ≤ x ∧ x ≤ 100) → 0 ≤ l.sum ∧ l.sum ≤ 100 * l.length
  | [], _ => by simp
  | x :: l, h => by
    have ih := sum_bd2 l (fun y hy => h y (by simp [hy]))
    have hx := h x (by simp)
    rw [List.sum_cons, List.length_cons]
    omega
theorem rsum_any2 (A : Option Addr) (c : Nat) (l : List Int) (W : World) (h : RdI W W.heap.size A l) (hr : ∀ x ∈ l, 0 ≤ x ∧ x ≤ 100) (hm : l.length ≤ 1000) : Calls Tryz.prog 107 #[.slice A l.length c] W fun e w' => e = .returned (.int .i64 l.sum) ∧ w' = W := by
  have H := hid h
  have Hr := hid hr
  obtain ⟨n, hn⟩ : ∃ n, n = l.length := ⟨_, rfl⟩
  have Hn := hid hn
  rw [← hn] at hm ⊢
  clear h hr hn
  go_enter Tryz.func107, Tryz.ntmps107
  go_wp2_with fail
  go_loop [3, 4] (fun v i => ∃ j : Nat, j ≤ n ∧ v = .int .i64 (l.take j).sum ∧ i = .int .i64 (j : Int)) (fun _ i => n - (intOf i).toNat)
  case atStart => exact ⟨0, by omega, rfl, rfl⟩
  case round =>
    obtain ⟨j, hj, rfl, rfl⟩ := hrel
    by_cases hlt : j < n
    · have hjl : j < l.length := by rw [← Hn.out]; exact hlt
      obtain ⟨b, off, hA, hbb, hc⟩ := int_at H.out hjl
      subst hA
      have htk : l.take (j + 1) = l.take j ++ [l[j]] := List.take_succ_eq_append_getElem hjl
      have hx := Hr.out _ (List.getElem_mem hjl)
      have hbd := sum_bd2 (l.take j) (fun x hx => Hr.out x (List.mem_of_mem_take hx))
      have hl : (l.take j).length ≤ 1000 := by rw [List.length_take, ← Hn.out]; omega
      have HS := hid (show (l.take (j + 1)).sum = (l.take j).sum + l[j] by rw [htk, sum_snoc])
      generalize l[j]'hjl = x at *
      generalize (l.take j).sum = S at *
      have tw : IntKind.i64.wrap (S + x) = S + x := IntWalk.i64_in _ (by omega)
      have tw2 : wrap64 (S + x) = S + x := by unfold wrap64; omega
      clear htk
      go_wp2_with fail
      go_round
      case rel => exact ⟨j + 1, by omega, by rw [HS.out], by go_num⟩
      case measure => simp [intOf]; omega
    · have hje : l.take j = l := List.take_of_length_le (by rw [← Hn.out]; omega)
      rw [hje]
      go_wp2_with fail
      go_ret
      exact ⟨rfl, rfl⟩
end Go.Proofs.YthhllollhjpheaaGreat

namespace Go.Proofs.YthhllollhjpheaaGreat
open Go.RowKit

/-- a number is taken, or something has gone wrong -/
def TkG (v : Rv) (n : Nat) (s : Sk) (b : Int) (x : Nat) (s' : Sk) (b' : Int) : Prop :=
  x < 2 ^ n ∧ (b ≠ 0 → x = 0 ∧ b' = b) ∧ (b = 0 → (tkM v.L s.k n = none ∧ x = 0 ∧ b' = 8) ∨ (tkM v.L s.k n = some (x : Int) ∧ b' = 0 ∧ s' = ⟨s.k + n, s.size, s.toks⟩))
theorem rtake_gen {v : Rv} {w : World} {s : Sk} {b : Int} (h : RI v w s b) (n : Nat) (hn : n ≤ 32) (hL : 0 < v.L.length) : Calls Tryz.prog 48 #[.pointer (some ⟨v.g, 0, none⟩), .int .i64 (n : Int)] w fun e w' => ∃ (x : Nat) (s' : Sk) (b' : Int), e = .returned (.int .i64 (x : Int)) ∧ RI v w' s' b' ∧ Kp w w' ∧ TkG v n s b x s' b' := by
  have hp : 0 < 2 ^ n := Nat.pow_pos (by decide)
  by_cases hb : b = 0
  · subst hb
    by_cases hk : v.L.length < s.k + n
    · refine (rtake_no h n hk hn).mono ?_
      rintro e w' ⟨rfl, h1, h2⟩
      exact ⟨0, s, 8, rfl, h1, h2, hp, fun h => absurd rfl h, fun _ => .inl ⟨tkM_none hk, rfl, rfl⟩⟩
    · have hbd := numL_bd h.bit s.k n
      refine (rtake_ok h n (by omega) hn hL).mono ?_
      rintro e w' ⟨rfl, h1, h2⟩
      obtain ⟨x, hx⟩ : ∃ x : Nat, numL v.L s.k n = (x : Int) := ⟨(numL v.L s.k n).toNat, by omega⟩
      rw [hx] at hbd
      refine ⟨x, _, 0, by rw [hx], h1, h2, ?_, fun h => absurd rfl h, fun _ => .inr ⟨by rw [tkM_some (by omega), hx], rfl, rfl⟩⟩
      have : ((2 ^ n : Nat) : Int) = 2 ^ n := by push_cast; rfl
      omega
  · refine (rtake_bad h hb (n : Int)).mono ?_
    rintro e w' ⟨rfl, h1, h2⟩
    exact ⟨0, s, b, rfl, h1, h2, hp, fun _ => ⟨rfl, rfl⟩, fun h => absurd h hb⟩
/-- something goes wrong under a condition -/
def FlG (c : Prop) (b k b' : Int) : Prop := (b ≠ 0 → b' = b) ∧ (b = 0 → (c ∧ b' = k) ∨ (¬ c ∧ b' = 0))
theorem fail_bad {v : Rv} {w : World} {s : Sk} {b : Int} (h : RI v w s b) (hb0 : b ≠ 0) (k : Int) : Calls Tryz.prog 53 #[.pointer (some ⟨v.g, 0, none⟩), .int .i64 k] w fun e w' => e = .returned (.tuple #[]) ∧ RI v w' s b ∧ Kp w w' := by
  have H := hid h
  obtain ⟨T, tc, hb, _⟩ := h.tok
  unfold inCs at hb
  have q2 := hb.cell 2
  simp only [List.getElem?_toArray, List.getElem?_cons_zero, List.getElem?_cons_succ] at q2
  have hg := hb.lt
  have d0 : (b == 0) = false := by rw [beq_eq_false_iff_ne]; exact hb0
  clear h hb hb0
  go_enter Tryz.func53, Tryz.ntmps53
  go_wp2_with fail
  go_end0
  exact ⟨rfl, H.out, Kp.refl _⟩
theorem fail_gen {v : Rv} {w : World} {s : Sk} {b : Int} (h : RI v w s b) (k : Int) {c : Prop} (hc : c) : Calls Tryz.prog 53 #[.pointer (some ⟨v.g, 0, none⟩), .int .i64 k] w fun e w' => ∃ b', e = .returned (.tuple #[]) ∧ RI v w' s b' ∧ Kp w w' ∧ FlG c b k b' := by
  by_cases hb : b = 0
  · subst hb
    refine (fail_any h k).mono ?_
    rintro e w' ⟨rfl, h1, h2⟩
    exact ⟨k, rfl, h1, h2, fun h => absurd rfl h, fun _ => .inl ⟨hc, rfl⟩⟩
  · refine (fail_bad h hb k).mono ?_
    rintro e w' ⟨rfl, h1, h2⟩
    exact ⟨b, rfl, h1, h2, fun _ => rfl, fun h => absurd h hb⟩
theorem flg_no {c : Prop} (hc : ¬ c) (b k : Int) : FlG c b k b := ⟨fun _ => rfl, fun h => .inr ⟨hc, h⟩⟩
/-- a symbol is read, or something has gone wrong -/
def SyG (v : Rv) (l : List Int) (s : Sk) (b : Int) (y : Nat) (s' : Sk) (b' : Int) : Prop :=
  (b ≠ 0 → y = 0 ∧ b' = b) ∧ (b = 0 → (y = 0 ∧ b' ≠ 0 ∧ symM l v.L s.k = .error b') ∨ (b' = 0 ∧ ∃ k2, symM l v.L s.k = .ok (y, k2) ∧ s' = ⟨k2, s.size, s.toks⟩))
theorem rsym_gen {v : Rv} {w : World} {s : Sk} {b : Int} (h : RI v w s b) (l : List Int) (hl : lensB l = true) (C : Option Addr) (c K : Nat) (hC : CB w l C c K) (hL : 0 < v.L.length) : Calls Tryz.prog 105 #[.pointer (some ⟨v.g, 0, none⟩), .slice C K c] w fun e w' => ∃ (y : Nat) (s' : Sk) (b' : Int), e = .returned (.int .i64 (y : Int)) ∧ RI v w' s' b' ∧ Kp w w' ∧ SyG v l s b y s' b' := by
  by_cases hb : b = 0
  · subst hb
    refine (rsym_any h l hl C c K hC hL).mono ?_
    intro e w' hS
    unfold SymR at hS
    cases hs : symM l v.L s.k with
    | error k =>
      rw [hs] at hS
      obtain ⟨h1, h2, s', rfl, h3⟩ := hS
      exact ⟨0, s', k, rfl, h3, h1, fun h => absurd rfl h, fun _ => .inl ⟨rfl, h2, hs⟩⟩
    | ok p =>
      obtain ⟨y, k2⟩ := p
      rw [hs] at hS
      obtain ⟨h1, _, rfl, h3⟩ := hS
      exact ⟨y, _, 0, rfl, h3, h1, fun h => absurd rfl h, fun _ => .inr ⟨rfl, k2, hs, rfl⟩⟩
  · refine (rsym_bad h hb _).mono ?_
    rintro e w' ⟨rfl, h1, h2⟩
    exact ⟨0, s, b, rfl, h1, h2, fun _ => ⟨rfl, rfl⟩, fun h => absurd h hb⟩
end Go.Proofs.YthhllollhjpheaaGreat

namespace Go.Proofs.YthhllollhjpheaaGreat
open Go.RowKit

/-- where a block's symbols stand -/
def YG (v : Rv) (l d : List Int) (r : Except Int Sk) (f : Nat) (s : Sk) (b : Int) : Prop := (b = 0 → r = symsM l d v.L v.most f s ∧ v.L.length + 1 ≤ f + s.k) ∧ (b ≠ 0 → r = .error b)
theorem yg_err {v : Rv} {l d : List Int} {r : Except Int Sk} {k : Int} {f : Nat} {s : Sk} (h : r = .error k) (h0 : k ≠ 0) : YG v l d r f s k := ⟨fun e => absurd e h0, fun _ => h⟩
theorem lextra_bd : ∀ i : Fin 29, 0 ≤ lextra (257 + (i.val : Int)) ∧ lextra (257 + (i.val : Int)) ≤ 5 := by decide
theorem dextra_bd : ∀ i : Fin 30, 0 ≤ dextra (i.val : Int) ∧ dextra (i.val : Int) ≤ 13 := by decide
def badOf (g : Nat) (w : World) : Int := match w.cell? ⟨g, 2, none⟩ with | some (.int _ n) => n | _ => 0
theorem badOf_eq {v : Rv} {w : World} {s : Sk} {b : Int} (h : RI v w s b) : badOf v.g w = b := by
  obtain ⟨T, tc, hb, _⟩ := h.tok
  have q1 := (hb.cell 2).trans rfl
  unfold badOf
  rw [q1]
  rfl
def mOf (g N : Nat) (w : World) : Nat := if badOf g w = 0 then N + 2 - atOf g w else 0
theorem mOf_lt {v : Rv} {w w' : World} {s s' : Sk} {b' : Int} (h : RI v w s 0) (h' : RI v w' s' b') (hk : b' = 0 → s.k < s'.k) : mOf v.g v.L.length w' < mOf v.g v.L.length w := by
  unfold mOf
  rw [badOf_eq h, badOf_eq h', atOf_eq h, atOf_eq h', if_pos rfl]
  have := h.kl
  by_cases hb : b' = 0
  · rw [if_pos hb]; have := hk hb; have := h'.kl; omega
  · rw [if_neg hb]; omega
/-- a token is put, or something has gone wrong -/
def PuG (v : Rv) (t : Int × Int) (s : Sk) (b : Int) (s' : Sk) (b' : Int) : Prop := (b ≠ 0 → b' = b) ∧ (b = 0 → (putM v.most t s = .error b' ∧ b' ≠ 0) ∨ (putM v.most t s = .ok s' ∧ b' = 0))
theorem rput_gen {v : Rv} {w : World} {s : Sk} {b : Int} (h : RI v w s b) (tl td : Int) (ht : tl = 0 ∨ (3 ≤ tl ∧ tl ≤ 258 ∧ 1 ≤ td)) : Calls Tryz.prog 103 #[.pointer (some ⟨v.g, 0, none⟩), .agg #[.int .i64 tl, .int .i64 td]] w fun e w' => ∃ s' b', e = .returned (.tuple #[]) ∧ RI v w' s' b' ∧ Kp w w' ∧ PuG v (tl, td) s b s' b' := by
  by_cases hb : b = 0
  · subst hb
    refine (rput_any h tl td ht).mono ?_
    intro e w' hP
    unfold RPut at hP
    obtain ⟨h1, h2, h3⟩ := hP
    cases hp : putM v.most (tl, td) s with
    | error k =>
      rw [hp] at h3
      obtain ⟨h4, s', h5⟩ := h3
      exact ⟨s', k, h2, h5, h1, fun h => absurd rfl h, fun _ => .inl ⟨hp, h4⟩⟩
    | ok s2 =>
      rw [hp] at h3
      exact ⟨s2, 0, h2, h3, h1, fun h => absurd rfl h, fun _ => .inr ⟨hp, rfl⟩⟩
  · refine (rput_bad h hb tl td).mono ?_
    rintro e w' ⟨h1, h2, h3⟩
    exact ⟨s, b, h1, h2, h3, fun _ => rfl, fun h => absurd h hb⟩
theorem yg_round {v : Rv} {l d : List Int} {r : Except Int Sk} {f : Nat} {s s1 : Sk} {y : Nat} {b1 : Int} (h : YG v l d r f s 0) (hk : s.k ≤ v.L.length) (hy : SyG v l s 0 y s1 b1) :
    (b1 ≠ 0 → y = 0 ∧ r = .error b1) ∧ (b1 = 0 → s.k < s1.k ∧ (y = 256 → r = .ok s1) ∧ (y ≠ 256 → ∃ f1, v.L.length + 1 ≤ f1 + 1 + s.k ∧ r = match (if y < 256 then putM v.most (0, (y : Int)) s1 else matchM d v.L v.most y s1) with
      | .error e => .error e
      | .ok s2 => symsM l d v.L v.most f1 s2)) := by
  obtain ⟨hG1, hG2⟩ := h.1 rfl
  obtain ⟨f1, rfl⟩ : ∃ f1, f = f1 + 1 := ⟨f - 1, by omega⟩
  rw [symsM] at hG1
  rcases hy.2 rfl with ⟨e1, e2, e3⟩ | ⟨rfl, k2, e3, rfl⟩
  · rw [e3] at hG1
    exact ⟨fun _ => ⟨e1, hG1⟩, fun h => absurd h e2⟩
  · rw [e3] at hG1
    have hgt := symM_gt e3
    have hG1 : r = (if y = 256 then .ok ⟨k2, s.size, s.toks⟩ else match (if y < 256 then putM v.most (0, (y : Int)) ⟨k2, s.size, s.toks⟩ else matchM d v.L v.most y ⟨k2, s.size, s.toks⟩) with
      | .error e => .error e
      | .ok s2 => symsM l d v.L v.most f1 s2) := hG1
    refine ⟨fun h => absurd rfl h, fun _ => ⟨hgt.1, fun h => by rw [hG1, if_pos h], fun h => ⟨f1, by omega, by rw [hG1, if_neg h]⟩⟩⟩
theorem yg_put {v : Rv} {l d : List Int} {r : Except Int Sk} {f : Nat} {s s1 s2 : Sk} {t : Int × Int} {b2 : Int} {q : Except Int Sk} (hf : v.L.length + 1 ≤ f + 1 + s.k) (hk : s.k < s1.k) (hr : r = match q with
      | .error e => .error e
      | .ok s2 => symsM l d v.L v.most f s2) (hq : q = putM v.most t s1) (hp : PuG v t s1 0 s2 b2) : YG v l d r f s2 b2 ∧ (b2 = 0 → s.k < s2.k) := by
  subst hq
  rcases hp.2 rfl with ⟨p, h0⟩ | ⟨p, rfl⟩
  · rw [p] at hr
    exact ⟨⟨fun h => absurd h h0, fun _ => hr⟩, fun h => absurd h h0⟩
  · rw [p] at hr
    have h2 := putM_k p
    exact ⟨⟨fun _ => ⟨hr, by rw [h2]; omega⟩, fun h => absurd rfl h⟩, fun _ => by rw [h2]; exact hk⟩
/-- a match, step by step -/
theorem yg_match {v : Rv} {d : List Int} {s1 s2 s3 : Sk} {y x t le : Nat} {b2 b3 lb : Int} (hy : ¬ 285 < y) (hle : lextra (y : Int) = (le : Int)) (hlb : lb = lbase (y : Int)) (h1 : TkG v le s1 0 x s2 b2) (h2 : SyG v d s2 b2 t s3 b3) :
    (b3 ≠ 0 → t = 0 ∧ matchM d v.L v.most y s1 = .error b3) ∧ (b3 = 0 → s1.k ≤ s3.k ∧ (29 < t → matchM d v.L v.most y s1 = .error 2) ∧ (¬ 29 < t → ∀ de : Nat, dextra (t : Int) = (de : Int) → ∀ z s4 b4, TkG v de s3 0 z s4 b4 → (b4 ≠ 0 → matchM d v.L v.most y s1 = .error b4) ∧ (b4 = 0 → s3.k ≤ s4.k ∧ matchM d v.L v.most y s1 = putM v.most (lb + (x : Int), dbase (t : Int) + (z : Int)) s4))) := by
  have hm : matchM d v.L v.most y s1 = match tkM v.L s1.k le with
    | none => .error 8
    | some n => match symM d v.L (s1.k + le) with
      | .error e => .error e
      | .ok (t, k2) => if 29 < t then .error 2 else
        match tkM v.L k2 (dextra t).toNat with
        | none => .error 8
        | some m => putM v.most (lb + n, dbase t + m) ⟨k2 + (dextra t).toNat, s1.size, s1.toks⟩ := by
    unfold matchM
    rw [if_neg hy, hle, Int.toNat_natCast, ← hlb]
    rfl
  rcases h1.2.2 rfl with ⟨t1, _, rfl⟩ | ⟨t1, rfl, rfl⟩
  · rw [t1] at hm
    have e := h2.1 (by decide)
    exact ⟨fun _ => ⟨e.1, by rw [e.2]; exact hm⟩, fun h => absurd (e.2.symm.trans h) (by decide)⟩
  · rw [t1] at hm
    dsimp only at hm
    rcases h2.2 rfl with ⟨e1, e2, e3⟩ | ⟨rfl, k2, e3, rfl⟩
    · have e3 : symM d v.L (s1.k + le) = .error b3 := e3
      rw [e3] at hm
      exact ⟨fun _ => ⟨e1, hm⟩, fun h => absurd h e2⟩
    · have e3 : symM d v.L (s1.k + le) = .ok (t, k2) := e3
      have hgt := symM_gt e3
      rw [e3] at hm
      dsimp only at hm
      refine ⟨fun h => absurd rfl h, fun _ => ⟨by show s1.k ≤ k2; omega, fun h => by rw [hm, if_pos h], fun h de hde z s4 b4 hz => ?_⟩⟩
      rw [if_neg h, hde, Int.toNat_natCast] at hm
      rcases hz.2.2 rfl with ⟨t3, _, rfl⟩ | ⟨t3, rfl, rfl⟩
      · have t3 : tkM v.L k2 de = none := t3
        rw [t3] at hm
        exact ⟨fun _ => hm, fun h => absurd h (by decide)⟩
      · have t3 : tkM v.L k2 de = some (z : Int) := t3
        rw [t3] at hm
        exact ⟨fun h => absurd rfl h, fun _ => ⟨by show k2 ≤ k2 + de; omega, hm⟩⟩
end Go.Proofs.YthhllollhjpheaaGreat
