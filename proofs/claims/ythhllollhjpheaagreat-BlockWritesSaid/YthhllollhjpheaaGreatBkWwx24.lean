/-
  The reference's inflate: the two books' lengths.
-/
import Derived.Test.YthhllollhjpheaaGreatBkWwx23
namespace Go.Proofs.YthhllollhjpheaaGreat
open Go.RowKit

theorem irow_blk {w : World} {g : Nat} {l : List Int} (h : Blk w g 3 (intsV l).toArray) : IRowB w (some ⟨g, 0, none⟩) l := by
  refine .inr ⟨g, 0, _, rfl, h, fun j u hu => ?_⟩
  rw [Nat.zero_add, List.getElem?_toArray, ← intsV_eq]
  exact hu
theorem whole_at (A : Option Addr) (c n : Nat) (l : List Int) (W : World) (hl : l.length = n) (h : IRowB W A l) (hm : n ≤ 1000) : Calls Tryz.prog 106 #[.slice A n c] W fun e w' => e = .returned (.bool (fullB l)) ∧ w' = W := by
  subst hl
  exact whole_any A c l W h.rdi hm
theorem sum_at (A : Option Addr) (c n : Nat) (l : List Int) (W : World) (hl : l.length = n) (h : IRowB W A l) (hr : ∀ x ∈ l, 0 ≤ x ∧ x ≤ 100) (hm : n ≤ 1000) : Calls Tryz.prog 107 #[.slice A n c] W fun e w' => e = .returned (.int .i64 l.sum) ∧ w' = W := by
  subst hl
  exact rsum_any2 A c l W h.rdi hr hm
theorem rcodes_at (A : Option Addr) (c n : Nat) (l : List Int) (W : World) (hl : l.length = n) (h : IRowB W A l) (hm : n ≤ 1000) : Calls Tryz.prog 104 #[.slice A n c] W fun e w' => ∃ C cc K, e = .returned (.slice C K cc) ∧ CB w' l C cc K ∧ Below W.heap.size W w' := by
  subst hl
  exact codesR A c l W h hm
def LenEnd (v : Rv) (w : World) (s : Sk) (e : Ending) (w' : World) : Prop := Kp w w' ∧ ∃ (A : Option Addr) (c : Nat) (l : List Int) (D : Option Addr) (d : Nat) (m : List Int), e = .returned (.tuple #[.slice A l.length c, .slice D m.length d]) ∧ IRowB w' A l ∧ IRowB w' D m ∧ l.length ≤ 1000 ∧ m.length ≤ 1000 ∧ match dynM v.L s.k with
  | .error k => k ≠ 0 ∧ ∃ s', RI v w' s' k
  | .ok (k2, l0, d0) => l = l0 ∧ m = d0 ∧ RI v w' ⟨k2, s.size, s.toks⟩ 0
theorem len_err {v : Rv} {w w' : World} {s s' : Sk} {k : Int} (hk : Kp w w') (h : dynM v.L s.k = .error k) (h0 : k ≠ 0) (hr : RI v w' s' k) : LenEnd v w s (.returned (.tuple #[.slice none 0 0, .slice none 0 0])) w' := by
  refine ⟨hk, none, 0, [], none, 0, [], rfl, .inl ⟨rfl, rfl⟩, .inl ⟨rfl, rfl⟩, by simp, by simp, ?_⟩
  rw [h]
  exact ⟨h0, s', hr⟩
/-- the books' lengths, behind the three numbers -/
def dynB (L : List Int) (k aN bN cN : Nat) : Except Int (Nat × List Int × List Int) :=
  match smallM L (ordT.take cN) k (List.replicate 19 0) with
  | .error e => .error e
  | .ok (k2, sm) => if fullB sm = false then .error 2 else
    match rowM sm L (aN + bN) (aN + bN) k2 [] with
    | .error e => .error e
    | .ok (k3, row) => if fullB (row.take aN) = false ∨ row.getD 256 0 = 0 ∨ (fullB (row.drop aN) = false ∧ 1 < (row.drop aN).sum) then .error 2 else .ok (k3, row.take aN, row.drop aN)
/-- where the lengths stand behind the three numbers -/
def DyA (v : Rv) (s : Sk) (aN bN cN : Nat) (s' : Sk) (b' : Int) : Prop :=
  (b' ≠ 0 → dynM v.L s.k = .error b') ∧ (b' = 0 → aN ≤ 286 ∧ bN ≤ 30 ∧ s' = ⟨s.k + 14, s.size, s.toks⟩ ∧ dynM v.L s.k = dynB v.L (s.k + 14) aN bN cN)
theorem dya_of {v : Rv} {s s1 s2 s3 : Sk} {xa xb xc : Nat} {b1 b2 b3 b4 b5 : Int} (h1 : TkG v 5 s 0 xa s1 b1) (h2 : FlG (286 < 257 + xa) b1 2 b2) (h3 : TkG v 5 s1 b2 xb s2 b3) (h4 : FlG (30 < 1 + xb) b3 2 b4) (h5 : TkG v 4 s2 b4 xc s3 b5) : DyA v s (257 + xa) (1 + xb) (4 + xc) s3 b5 := by
  have fin : ∀ {k : Int}, k ≠ 0 → b5 = k → dynM v.L s.k = .error k → DyA v s (257 + xa) (1 + xb) (4 + xc) s3 b5 := fun h0 e h => ⟨fun _ => by rw [e]; exact h, fun h2 => absurd (e.symm.trans h2) h0⟩
  rcases h1.2.2 rfl with ⟨t1, rfl, rfl⟩ | ⟨t1, rfl, rfl⟩
  · have e2 := h2.1 (by decide)
    subst e2
    have e3 := (h3.2.1 (by decide)).2
    subst e3
    have e4 := h4.1 (by decide)
    subst e4
    have e5 := (h5.2.1 (by decide)).2
    exact fin (by decide) e5 (by unfold dynM; rw [t1])
  rcases h2.2 rfl with ⟨c1, rfl⟩ | ⟨c1, rfl⟩
  · have e3 := (h3.2.1 (by decide)).2
    subst e3
    have e4 := h4.1 (by decide)
    subst e4
    have e5 := (h5.2.1 (by decide)).2
    exact fin (by decide) e5 (by unfold dynM; rw [t1]; dsimp only; rw [if_pos (by omega)])
  rcases h3.2.2 rfl with ⟨t3, rfl, rfl⟩ | ⟨t3, rfl, rfl⟩
  · have e4 := h4.1 (by decide)
    subst e4
    have e5 := (h5.2.1 (by decide)).2
    have t3 : tkM v.L (s.k + 5) 5 = none := t3
    exact fin (by decide) e5 (by unfold dynM; rw [t1]; dsimp only; rw [if_neg (by omega), t3])
  have t3 : tkM v.L (s.k + 5) 5 = some (xb : Int) := t3
  rcases h4.2 rfl with ⟨c2, rfl⟩ | ⟨c2, rfl⟩
  · have e5 := (h5.2.1 (by decide)).2
    exact fin (by decide) e5 (by unfold dynM; rw [t1]; dsimp only; rw [if_neg (by omega), t3]; dsimp only; rw [if_pos (by omega)])
  rcases h5.2.2 rfl with ⟨t5, rfl, rfl⟩ | ⟨t5, rfl, rfl⟩
  · have t5 : tkM v.L (s.k + 10) 4 = none := t5
    exact fin (by decide) rfl (by unfold dynM; rw [t1]; dsimp only; rw [if_neg (by omega), t3]; dsimp only; rw [if_neg (by omega), t5])
  have t5 : tkM v.L (s.k + 10) 4 = some (xc : Int) := t5
  refine ⟨fun h => absurd rfl h, fun _ => ⟨by omega, by omega, rfl, ?_⟩⟩
  unfold dynM dynB
  rw [t1]
  dsimp only
  rw [if_neg (by omega), t3]
  dsimp only
  rw [if_neg (by omega), t5]
  dsimp only
  rw [Int.toNat_natCast, Int.toNat_natCast, Int.toNat_natCast, show xc + 4 = 4 + xc by omega, show 258 + xa + xb = 257 + xa + (1 + xb) by omega]
  rfl
/-- where the small lengths stand -/
def SmS (v : Rv) (r0 : Except Int (Nat × List Int)) (sA : Sk) (os : List Nat) (sj : Sk) (sm : List Int) (b : Int) : Prop := (b = 0 → r0 = smallM v.L os sj.k sm ∧ sj.size = sA.size ∧ sj.toks = sA.toks) ∧ (b ≠ 0 → r0 = .error b)
def smR (v : Rv) (sA : Sk) (bA : Int) (cN : Nat) : Except Int (Nat × List Int) := if bA = 0 then smallM v.L (ordT.take cN) sA.k (List.replicate 19 0) else .error bA
theorem sms_start (v : Rv) (sA : Sk) (bA : Int) (cN : Nat) : SmS v (smR v sA bA cN) sA (ordT.take cN) sA (List.replicate 19 0) bA :=
  ⟨fun h => ⟨by unfold smR; rw [if_pos h], rfl, rfl⟩, fun h => by unfold smR; rw [if_neg h]⟩
theorem sms_step {v : Rv} {r0 : Except Int (Nat × List Int)} {sA sj s' : Sk} {o : Nat} {os : List Nat} {sm : List Int} {x : Nat} {b' : Int} (h : SmS v r0 sA (o :: os) sj sm 0) (ht : TkG v 3 sj 0 x s' b') : SmS v r0 sA os s' (sm.set o (x : Int)) b' := by
  obtain ⟨h1, h2, h3⟩ := h.1 rfl
  rw [smallM] at h1
  rcases ht.2.2 rfl with ⟨t, _, rfl⟩ | ⟨t, rfl, rfl⟩
  · rw [t] at h1
    exact ⟨fun h => absurd h (by decide), fun _ => h1⟩
  · rw [t] at h1
    exact ⟨fun _ => ⟨h1, h2, h3⟩, fun h => absurd rfl h⟩
/-- the last checks of the two books' lengths -/
def fin2 (aN : Nat) : Except Int (Nat × List Int) → Except Int (Nat × List Int × List Int)
  | .error e => .error e
  | .ok (k3, row) => if fullB (row.take aN) = false ∨ row.getD 256 0 = 0 ∨ (fullB (row.drop aN) = false ∧ 1 < (row.drop aN).sum) then .error 2 else .ok (k3, row.take aN, row.drop aN)
/-- where the row of lengths stands -/
def DyR (v : Rv) (s : Sk) (aN sz : Nat) (sm row : List Int) (sj : Sk) (b : Int) : Prop :=
  (b ≠ 0 → dynM v.L s.k = .error b) ∧ (b = 0 → sj.size = s.size ∧ sj.toks = s.toks ∧ (∀ x ∈ row, 0 ≤ x ∧ x ≤ 100) ∧ row.length ≤ sz ∧ ∃ f, sz ≤ f + row.length ∧ dynM v.L s.k = fin2 aN (rowM sm v.L sz f sj.k row))
/-- where it stands ahead of what is laid on -/
def DyQ (v : Rv) (s : Sk) (aN sz : Nat) (sm row : List Int) (sj : Sk) (b : Int) (cnt : Nat) (val : Int) : Prop :=
  (b ≠ 0 → dynM v.L s.k = .error b) ∧ (b = 0 → sj.size = s.size ∧ sj.toks = s.toks ∧ 1 ≤ cnt ∧ (0 ≤ val ∧ val ≤ 100) ∧ (∀ x ∈ row, 0 ≤ x ∧ x ≤ 100) ∧ ∃ f, sz ≤ f + 1 + row.length ∧ dynM v.L s.k = fin2 aN (if (sz : Int) - row.length < (cnt : Int) then .error 2 else rowM sm v.L sz f sj.k (row ++ List.replicate cnt val)))
theorem dyr_step {v : Rv} {s : Sk} {aN sz : Nat} {sm row : List Int} {sj s1 : Sk} {b1 : Int} {y : Nat} (hsm : sm.length ≤ 19) (h : DyR v s aN sz sm row sj 0) (hlt : row.length < sz) (hy : SyG v sm sj 0 y s1 b1) :
    (b1 ≠ 0 → y = 0 ∧ dynM v.L s.k = .error b1) ∧ (b1 = 0 → y < 19 ∧ s1.size = s.size ∧ s1.toks = s.toks ∧ (∀ x ∈ row, 0 ≤ x ∧ x ≤ 100) ∧ ∃ f, sz ≤ f + 1 + row.length ∧ dynM v.L s.k = fin2 aN (if y = 16 ∧ row = [] then .error 2 else
      match tkM v.L s1.k (if y = 16 then 2 else if y = 17 then 3 else if y = 18 then 7 else 0) with
      | none => .error 8
      | some x => if (sz : Int) - row.length < x + (if y = 16 then 3 else if y = 17 then 3 else if y = 18 then 11 else 1) then .error 2 else
        rowM sm v.L sz f (s1.k + (if y = 16 then 2 else if y = 17 then 3 else if y = 18 then 7 else 0)) (row ++ List.replicate (x + (if y = 16 then 3 else if y = 17 then 3 else if y = 18 then 11 else 1)).toNat (if y = 16 then row.getD (row.length - 1) 0 else if y = 17 then 0 else if y = 18 then 0 else (y : Int))))) := by
  obtain ⟨h1, h2, h3, h4, f, h5, h6⟩ := h.2 rfl
  obtain ⟨f1, rfl⟩ : ∃ f1, f = f1 + 1 := ⟨f - 1, by omega⟩
  rw [rowM, if_neg (by omega)] at h6
  rcases hy.2 rfl with ⟨e1, e2, e3⟩ | ⟨rfl, k2, e3, rfl⟩
  · rw [e3] at h6
    exact ⟨fun _ => ⟨e1, h6⟩, fun h => absurd h e2⟩
  · rw [e3] at h6
    have hb := symM_bd e3
    exact ⟨fun h => absurd rfl h, fun _ => ⟨by omega, h1, h2, h3, f1, by omega, h6⟩⟩
def badOf2 (g : Nat) (w : World) : Int := match w.cell? ⟨g, 2, none⟩ with | some (.int _ n) => n | _ => 0
theorem badOf2_eq {v : Rv} {w : World} {s : Sk} {b : Int} (h : RI v w s b) : badOf2 v.g w = b := by
  obtain ⟨T, tc, hb, _⟩ := h.tok
  have q1 := (hb.cell 2).trans rfl
  unfold badOf2
  rw [q1]
  rfl
theorem rep_len (l : List Int) (n : Nat) (x : Int) : (l ++ List.replicate n x).length = l.length + n := by simp
theorem dyq_take {v : Rv} {s : Sk} {aN sz : Nat} {sm row : List Int} {s1 s6 : Sk} {b6 : Int} {y x cnt bits base : Nat} {val : Int}
    (h : s1.size = s.size ∧ s1.toks = s.toks ∧ (∀ x ∈ row, 0 ≤ x ∧ x ≤ 100) ∧ ∃ f, sz ≤ f + 1 + row.length ∧ dynM v.L s.k = fin2 aN (if y = 16 ∧ row = [] then .error 2 else
      match tkM v.L s1.k (if y = 16 then 2 else if y = 17 then 3 else if y = 18 then 7 else 0) with
      | none => .error 8
      | some x => if (sz : Int) - row.length < x + (if y = 16 then 3 else if y = 17 then 3 else if y = 18 then 11 else 1) then .error 2 else
        rowM sm v.L sz f (s1.k + (if y = 16 then 2 else if y = 17 then 3 else if y = 18 then 7 else 0)) (row ++ List.replicate (x + (if y = 16 then 3 else if y = 17 then 3 else if y = 18 then 11 else 1)).toNat (if y = 16 then row.getD (row.length - 1) 0 else if y = 17 then 0 else if y = 18 then 0 else (y : Int)))))
    (hne : ¬ (y = 16 ∧ row = [])) (hbits : (if y = 16 then 2 else if y = 17 then 3 else if y = 18 then 7 else 0) = bits) (hbase : (if y = 16 then 3 else if y = 17 then 3 else if y = 18 then 11 else 1 : Int) = (base : Int)) (hval : (if y = 16 then row.getD (row.length - 1) 0 else if y = 17 then 0 else if y = 18 then 0 else (y : Int)) = val) (hv : 0 ≤ val ∧ val ≤ 100) (hb1 : 1 ≤ base)
    (ht : (tkM v.L s1.k bits = none ∧ b6 = 8) ∨ (tkM v.L s1.k bits = some (x : Int) ∧ b6 = 0 ∧ s6 = ⟨s1.k + bits, s1.size, s1.toks⟩)) (hc : base + x = cnt) : DyQ v s aN sz sm row s6 b6 cnt val := by
  obtain ⟨h1, h2, h3, f, h4, h5⟩ := h
  rw [if_neg hne, hbits, hbase, hval] at h5
  rcases ht with ⟨t, rfl⟩ | ⟨t, rfl, rfl⟩
  · rw [t] at h5
    exact ⟨fun _ => h5, fun h => absurd h (by decide)⟩
  · rw [t] at h5
    dsimp only at h5
    rw [show (x : Int) + (base : Int) = (cnt : Int) by omega, Int.toNat_natCast] at h5
    exact ⟨fun h => absurd rfl h, fun _ => ⟨h1, h2, by omega, hv, h3, f, h4, h5⟩⟩
theorem dyr_next {v : Rv} {s : Sk} {aN sz : Nat} {sm row : List Int} {s6 : Sk} {cnt : Nat} {val : Int} (h : DyQ v s aN sz sm row s6 0 cnt val) : (sz < row.length + cnt → DyR v s aN sz sm (row ++ List.replicate cnt val) s6 2) ∧ (¬ sz < row.length + cnt → DyR v s aN sz sm (row ++ List.replicate cnt val) s6 0) := by
  obtain ⟨h1, h2, hc, hv, h3, f, h4, h5⟩ := h.2 rfl
  refine ⟨fun hs => ⟨fun _ => ?_, fun h => absurd h (by decide)⟩, fun hs => ⟨fun h => absurd rfl h, fun _ => ⟨h1, h2, ?_, by rw [rep_len]; omega, f, by rw [rep_len]; omega, ?_⟩⟩⟩
  · rw [h5, if_pos (by omega)]
    rfl
  · intro x hx
    rcases List.mem_append.1 hx with hx | hx
    · exact h3 x hx
    · rw [List.eq_of_mem_replicate hx]; exact hv
  · rw [h5, if_neg (by omega)]
set_option maxRecDepth 100000 in
theorem slice_l2 (b N lc k n : Nat) (h : k + n = N) (h2 : N ≤ lc) (h3 : 0 < n) (w : World) : (Instr.slice 80 (.slice (some ⟨b, 0, none⟩) N lc) (some (.int .i64 (k : Int))) none none).run Tryz.prog w = .ok (.slice (some ⟨b, k, none⟩) n (lc - k)) w := by
  have base : (Instr.slice 80 (.slice (some ⟨b, 0, none⟩) N lc) (some (.int .i64 (k : Int))) none none).run Tryz.prog w = .ok (sliced (some ⟨b, 0, none⟩) k N lc 1) w := by
    rw [run_slice_l (P := Tryz.prog) (w := w) 80 (some ⟨b, 0, none⟩) N lc Tryz.underlying80 .i64 (k : Int) (by omega) (by omega)]
    rfl
  rw [base]
  unfold sliced
  rw [if_neg (by omega), show N - k = n by omega]
  simp [Addr.add]
  exact fun h => h.symm
set_option maxRecDepth 100000 in
theorem slice_h2 (b N lc k : Nat) (h : k ≤ lc) (w : World) : (Instr.slice 80 (.slice (some ⟨b, 0, none⟩) N lc) none (some (.int .i64 (k : Int))) none).run Tryz.prog w = .ok (.slice (some ⟨b, 0, none⟩) k lc) w := by
  have base : (Instr.slice 80 (.slice (some ⟨b, 0, none⟩) N lc) none (some (.int .i64 (k : Int))) none).run Tryz.prog w = .ok (sliced (some ⟨b, 0, none⟩) 0 k lc 1) w := by
    rw [run_slice_h (P := Tryz.prog) (w := w) 80 (some ⟨b, 0, none⟩) N lc Tryz.underlying80 .i64 (k : Int) (by omega) (by omega)]
    rfl
  rw [base]
  unfold sliced
  simp [Addr.add]
theorem len_two {v : Rv} {w w' : World} {s : Sk} {A D : Option Addr} {c d aN bN : Nat} {l m : List Int} (h1 : IRowB w' A l) (h2 : IRowB w' D m) (h3 : l.length = aN) (h4 : m.length = bN) (h5 : aN ≤ 1000) (h6 : bN ≤ 1000) (hk : Kp w w') :
    (∀ k, dynM v.L s.k = .error k → k ≠ 0 → (∃ s', RI v w' s' k) → LenEnd v w s (.returned (.tuple #[.slice A aN c, .slice D bN d])) w') ∧ (∀ k2, dynM v.L s.k = .ok (k2, l, m) → RI v w' ⟨k2, s.size, s.toks⟩ 0 → LenEnd v w s (.returned (.tuple #[.slice A aN c, .slice D bN d])) w') := by
  subst h3 h4
  refine ⟨fun k g1 g2 g3 => ⟨hk, A, c, l, D, d, m, rfl, h1, h2, h5, h6, ?_⟩, fun k2 g1 g2 => ⟨hk, A, c, l, D, d, m, rfl, h1, h2, h5, h6, ?_⟩⟩
  · rw [g1]; exact ⟨g2, g3⟩
  · rw [g1]; exact ⟨rfl, rfl, g2⟩
def lenS : Value → Nat
  | .slice _ n _ => n
  | _ => 0
def rMs (g sz : Nat) (x : Value) (w : World) : Nat := if badOf2 g w = 0 then sz + 1 - lenS x else 0
/-- where the lengths stand behind the small lengths -/
def DyS (v : Rv) (s : Sk) (aN bN : Nat) (sj : Sk) (sm : List Int) (b : Int) : Prop :=
  (b ≠ 0 → dynM v.L s.k = .error b) ∧ (b = 0 → aN ≤ 286 ∧ bN ≤ 30 ∧ sj.size = s.size ∧ sj.toks = s.toks ∧ dynM v.L s.k = if fullB sm = false then .error 2 else
    match rowM sm v.L (aN + bN) (aN + bN) sj.k [] with
    | .error e => .error e
    | .ok (k3, row) => if fullB (row.take aN) = false ∨ row.getD 256 0 = 0 ∨ (fullB (row.drop aN) = false ∧ 1 < (row.drop aN).sum) then .error 2 else .ok (k3, row.take aN, row.drop aN))
theorem dys_of {v : Rv} {s sA sj : Sk} {aN bN cN j : Nat} {bA bj : Int} {sm : List Int} (hd : DyA v s aN bN cN sA bA) (hex : ¬ (j < cN ∧ bj = 0)) (hj : j ≤ cN) (h : SmS v (smR v sA bA cN) sA ((ordT.take cN).drop j) sj sm bj) : DyS v s aN bN sj sm bj := by
  have hl : (ordT.take cN).length ≤ cN := List.length_take_le _ _
  by_cases hA : bA = 0
  · obtain ⟨h1, h2, h3, h4⟩ := hd.2 hA
    have hr : smR v sA bA cN = smallM v.L (ordT.take cN) sA.k (List.replicate 19 0) := by unfold smR; rw [if_pos hA]
    subst h3
    rw [hr] at h
    by_cases hb : bj = 0
    · obtain ⟨g1, g2, g3⟩ := h.1 hb
      rw [List.drop_eq_nil_of_le (by omega)] at g1
      have g1 : smallM v.L (ordT.take cN) (s.k + 14) (List.replicate 19 0) = .ok (sj.k, sm) := g1
      refine ⟨fun h => absurd hb h, fun _ => ⟨h1, h2, g2, g3, ?_⟩⟩
      rw [h4]
      unfold dynB
      rw [g1]
    · have g1 := h.2 hb
      have g1 : smallM v.L (ordT.take cN) (s.k + 14) (List.replicate 19 0) = .error bj := g1
      refine ⟨fun _ => ?_, fun h => absurd h hb⟩
      rw [h4]
      unfold dynB
      rw [g1]
  · have hr : smR v sA bA cN = .error bA := by unfold smR; rw [if_neg hA]
    rw [hr] at h
    by_cases hb : bj = 0
    · obtain ⟨g1, _, _⟩ := h.1 hb
      rw [List.drop_eq_nil_of_le (by omega)] at g1
      cases g1
    · have g1 := h.2 hb
      injection g1 with g1
      exact ⟨fun _ => by rw [← g1]; exact hd.1 hA, fun h => absurd h hb⟩
theorem ord_lt : ∀ i : Fin 19, ordT.getD i.val 0 < 19 := by decide
theorem ord_drop {cN i : Nat} (h : i < cN) (hc : cN ≤ 19) : (ordT.take cN).drop i = ordT.getD i 0 :: (ordT.take cN).drop (i + 1) := by
  have hl : (ordT.take cN).length = cN := by rw [List.length_take]; exact Nat.min_eq_left hc
  rw [List.drop_eq_getElem_cons (by rw [hl]; exact h), List.getElem_take, List.getD_eq_getElem?_getD, List.getElem?_eq_getElem (show i < ordT.length from Nat.lt_of_lt_of_le h hc)]
  rfl
set_option maxRecDepth 100000 in
set_option maxHeartbeats 8000000 in
theorem rlengths_any {v : Rv} {w : World} {s : Sk} (h : RI v w s 0) (hL : 0 < v.L.length) (hLA : ∀ b, v.LA = some ⟨b, 0, none⟩ → b < w.heap.size) : Calls Tryz.prog 52 #[.pointer (some ⟨v.g, 0, none⟩)] w (LenEnd v w s) := by
  have H := hid h
  have HL := hid hL
  have HLA := hid hLA
  clear h hL hLA
  obtain ⟨i0, hi0, hz0, hz1, hz2⟩ := info_parts int_info
  have Hi0 := hid hi0
  have Hz0 := hid hz0
  have Hz1 := hid hz1
  have Hz2 := hid hz2
  clear hi0 hz0 hz1 hz2
  go_enter Tryz.func52, Tryz.ntmps52
  go_wp2_with fail
  refine (rtake_gen H.out 5 (by decide) HL.out).mono ?_
  rintro e w1 ⟨xa, s1, b1, rfl, hr1, hk1, ht1⟩
  have R1 := hid hr1
  have K1 := hid hk1
  have G1 := hid ht1
  have hxa : xa < 32 := ht1.1
  clear hr1 hk1 ht1
  obtain ⟨aN, haN⟩ : ∃ aN, 257 + xa = aN := ⟨_, rfl⟩
  have HaN := hid haN
  have tw1 : IntKind.i64.wrap (257 + (xa : Int)) = (aN : Int) := (IntWalk.i64_in _ (by omega)).trans (by omega)
  have ha1 : aN ≤ 288 ∧ 257 ≤ aN := by omega
  clear haN hxa
  go_upto_if 20 with (fail)
  go_cut [] from 19 to 22 (fun wq => ∃ b2, Hid (RI v wq s1 b2) ∧ Hid (Kp w1 wq) ∧ Hid (FlG (286 < aN) b1 2 b2))
  case first =>
    by_cases hc : 286 < aN
    · have d1 : decide ((286 : Int) < (aN : Int)) = true := decide_eq_true (by omega)
      have d2 : decide (286 < aN) = true := decide_eq_true hc
      have F := hid (fail_gen R1.out 2 hc)
      clear hc
      rw [d1]
      go_wp2_with fail
      refine F.out.mono ?_
      rintro e w2 ⟨b2, rfl, hr2, hk2, hf2⟩
      have R2 := hid hr2
      have K2 := hid hk2
      have G2 := hid hf2
      clear hr2 hk2 hf2
      go_wp2_with fail
      go_meet
      exact ⟨b2, R2, K2, G2⟩
    · have d1 : decide ((286 : Int) < (aN : Int)) = false := decide_eq_false (by omega)
      have d2 : decide (286 < aN) = false := decide_eq_false hc
      have F := hid (flg_no hc b1 2)
      clear hc
      rw [d1]
      go_wp2_with fail
      go_meet
      exact ⟨b1, R1, hid (Kp.refl _), F⟩
  case rest =>
  obtain ⟨b2, R2, K2, G2⟩ := hcut
  go_wp2_with fail
  refine (rtake_gen R2.out 5 (by decide) HL.out).mono ?_
  rintro e w3 ⟨xb, s2, b3, rfl, hr3, hk3, ht3⟩
  have R3 := hid hr3
  have K3 := hid (K1.out.trans (K2.out.trans hk3))
  have G3 := hid ht3
  have hxb : xb < 32 := ht3.1
  clear hr3 hk3 ht3
  obtain ⟨bN, hbN⟩ : ∃ bN, 1 + xb = bN := ⟨_, rfl⟩
  have HbN := hid hbN
  have tw2 : IntKind.i64.wrap (1 + (xb : Int)) = (bN : Int) := (IntWalk.i64_in _ (by omega)).trans (by omega)
  have hb1 : bN ≤ 32 ∧ 1 ≤ bN := by omega
  clear hbN hxb
  go_upto_if 27 with (fail)
  go_cut [] from 26 to 29 (fun wq => ∃ b4, Hid (RI v wq s2 b4) ∧ Hid (Kp w3 wq) ∧ Hid (FlG (30 < bN) b3 2 b4))
  case first =>
    by_cases hc : 30 < bN
    · have d1 : decide ((30 : Int) < (bN : Int)) = true := decide_eq_true (by omega)
      have F := hid (fail_gen R3.out 2 hc)
      clear hc
      rw [d1]
      go_wp2_with fail
      refine F.out.mono ?_
      rintro e w2 ⟨b2, rfl, hr2, hk2, hf2⟩
      have R2 := hid hr2
      have K2 := hid hk2
      have G2 := hid hf2
      clear hr2 hk2 hf2
      go_wp2_with fail
      go_meet
      exact ⟨b2, R2, K2, G2⟩
    · have d1 : decide ((30 : Int) < (bN : Int)) = false := decide_eq_false (by omega)
      have F := hid (flg_no hc b3 2)
      clear hc
      rw [d1]
      go_wp2_with fail
      go_meet
      exact ⟨b3, R3, hid (Kp.refl _), F⟩
  case rest =>
  obtain ⟨b4, R4, K4, G4⟩ := hcut
  go_wp2_with fail
  refine (rtake_gen R4.out 4 (by decide) HL.out).mono ?_
  rintro e wA ⟨xc, sA, bA, rfl, hr5, hk5, ht5⟩
  have RA := hid hr5
  have KA := hid (K3.out.trans (K4.out.trans hk5))
  have DA := hid (show DyA v s aN bN (4 + xc) sA bA from by rw [← HaN.out, ← HbN.out]; exact dya_of G1.out (by rw [HaN.out]; exact G2.out) G3.out (by rw [HbN.out]; exact G4.out) ht5)
  have hxc : xc < 16 := ht5.1
  obtain ⟨cN, hcN⟩ : ∃ cN, 4 + xc = cN := ⟨_, rfl⟩
  rw [hcN] at DA
  have tw3 : IntKind.i64.wrap (4 + (xc : Int)) = (cN : Int) := (IntWalk.i64_in _ (by omega)).trans (by omega)
  have hcN19 : cN ≤ 19 := by omega
  clear hr5 hk5 ht5 hxc hcN R1 K1 G1 R2 K2 G2 R3 K3 G3 R4 K4 G4 HaN HbN
  have hmk : ∀ w : World, (Instr.makeSlice 80 (.int .i64 19) (.int .i64 19)).run Tryz.prog w = .ok (.slice (some ⟨w.heap.size, 0, none⟩) 19 19) (w.alloc (.cells (intsV (List.replicate 19 0)).toArray 3)) := fun w => by
    have h := run_make (P := Tryz.prog) w 80 3 i0 (.int .i64 0) Tryz.underlying80 Hi0.out Hz0.out .i64 .i64 19 19 (by omega) (by omega) (by rw [Hz2.out]; omega) (by omega)
    rw [Hz1.out, made_list _ _ rfl] at h
    exact h
  go_upto_block 0 with (fail)
  generalize hwS : World.alloc (World.alloc wA _) _ = wS
  have hbS : Below wA.heap.size wA wS := by rw [← hwS]; exact ((Below.refl _ _).alloc (Nat.le_refl _) _).alloc (by simp) _
  have BO := hid (show Blk wS wA.heap.size 3 (intsV (natsV ordT)).toArray from by rw [← hwS]; exact Blk.alloc (Blk.new wA _ _) _)
  have BS := hid (show Blk wS (wA.heap.size + 1) 3 (intsV (List.replicate 19 0)).toArray from by rw [← hwS]; exact blkNew1 wA _ _ _)
  have RS := hid (RA.out.below hbS (Nat.le_refl _)).1
  have KS := hid (RA.out.below hbS (Nat.le_refl _)).2
  have LR := hid RA.out.lr
  have HW := hid (show v.W.heap.size ≤ wA.heap.size from RA.out.fr.size)
  obtain ⟨gO, hgO⟩ : ∃ gO, gO = wA.heap.size := ⟨_, rfl⟩
  obtain ⟨gS, hgS⟩ : ∃ gS, gS = wA.heap.size + 1 := ⟨_, rfl⟩
  rw [← hgS] at BS ⊢
  rw [← hgO] at BO ⊢
  have HgO := hid hgO
  have HgS := hid hgS
  clear hmk hwS hbS hgO hgS
  go_cut [9] from 35 to 54 (fun v9 wq => ∃ (sj : Sk) (bj : Int) (sm : List Int), Hid (sm.length = 19) ∧ Hid (RI v wq sj bj) ∧ Hid (Kp wA wq) ∧ Hid (Blk wq gS 3 (intsV sm).toArray) ∧ Hid (DyS v s aN bN sj sm bj))
  case first =>
    go_upto_region 11 with (fail)
    go_loopw [9] (fun i wr => ∃ (j : Nat) (sj : Sk) (bj : Int) (sm : List Int), j ≤ cN ∧ i = .int .i64 (j : Int) ∧ Hid (sm.length = 19) ∧ Hid (RI v wr sj bj) ∧ Hid (Kp wA wr) ∧ Hid (Blk wr gO 3 (intsV (natsV ordT)).toArray) ∧ Hid (Blk wr gS 3 (intsV sm).toArray) ∧ Hid (SmS v (smR v sA bA cN) sA ((ordT.take cN).drop j) sj sm bj)) (fun i _ => cN - (intOf i).toNat)
    case atStart => exact ⟨0, sA, bA, List.replicate 19 0, by omega, rfl, hid (by simp), RS, KS, BO, BS, hid (sms_start v sA bA cN)⟩
    case round =>
      obtain ⟨j, sj, bj, sm, hj, rfl, Sl, RJ, KJ, OJ, SJ, GJ⟩ := hrel
      obtain ⟨T, tc, hb, _⟩ := RJ.out.tok
      unfold inCs at hb
      have q2 := hb.cell 2
      simp only [List.getElem?_toArray, List.getElem?_cons_zero, List.getElem?_cons_succ] at q2
      have hg := hb.lt
      clear hb
      by_cases hex : j < cN ∧ bj = 0
      · obtain ⟨hjc, rfl⟩ := hex
        have e1 : decide (j < cN) = true := decide_eq_true hjc
        have e2 : decide ((j : Int) < (cN : Int)) = true := decide_eq_true (by omega)
        have hj19 : j < 19 := by omega
        have hoL := ord_lt ⟨j, hj19⟩
        have hod := ord_drop hjc hcN19
        have c0 : ∀ wq, Blk wq gO 3 (intsV (natsV ordT)).toArray → wq.cell? ⟨gO, j, none⟩ = some (.int .i64 ((ordT.getD j 0 : Nat) : Int)) := fun wq h => by
          rw [h.cell j, List.getElem?_toArray]
          unfold intsV natsV
          rw [List.map_map, List.getElem?_map, List.getElem?_eq_getElem (show j < ordT.length from hj19), List.getD_eq_getElem?_getD, List.getElem?_eq_getElem (show j < ordT.length from hj19)]
          rfl
        have GJ2 := hid (show SmS v (smR v sA bA cN) sA (ordT.getD j 0 :: (ordT.take cN).drop (j + 1)) sj sm 0 from by rw [← hod]; exact GJ.out)
        simp only at hoL
        generalize ordT.getD j 0 = o at *
        have C0 := hid c0
        have c1 := c0 wr OJ.out
        have hgOw := OJ.out.lt
        have F := hid (rtake_gen (RJ.out.drewN 1).1 3 (by decide) HL.out)
        clear hod c0 GJ
        go_upto_region 13 with (fail)
        go_region_with (go_at_call 48; refine Calls.mono F.out ?_; rintro e w5 ⟨x, s5, b5, rfl, hr5, hk5, ht5⟩; have R5 := hid hr5; have K5 := hid ((RJ.out.drewN 1).2.trans hk5); have G5 := hid ht5; have O5 := hid (OJ.out.kp K5.out); have S5 := hid (SJ.out.kp K5.out); have c1 := C0.out w5 O5.out; have hgOw := O5.out.lt; have hgSw := S5.out.lt; have fz := (fun i => S5.out.frozen i); have hcS : ∃ u, w5.cell? ⟨gS, o, none⟩ = some u := ⟨_, (S5.out.cell o).trans (by rw [List.getElem?_toArray]; exact List.getElem?_eq_getElem (by unfold intsV; rw [List.length_map, Sl.out]; exact hoL))⟩; obtain ⟨u0, hcS⟩ := hcS; clear hr5 hk5 ht5)
        all_goals
          go_wp2_with fail
          have k6 := hid (fun u => (KJ.out.trans K5.out).setNew (g := gS) (i := o) (by have := HgS.out; omega) u)
          refine ⟨⟨j + 1, s5, b5, sm.set o (x : Int), by omega, by go_num, hid (by rw [List.length_set]; exact Sl.out), hid (R5.out.setInt S5.out (by have := HgS.out; have := HW.out; omega) _ (own_kp LR.out (k6.out _) (by decide) (by decide))), hid (k6.out _), hid (O5.out.far (p := ⟨gS, o, none⟩) (by have := HgO.out; have := HgS.out; show gO ≠ gS; omega) _), hid ?_, hid (sms_step GJ2.out G5.out)⟩, by simp [intOf]; omega⟩
          have := S5.out.set_ o (.int .i64 (x : Int))
          have e5 : (intsV sm).toArray.setIfInBounds o (Value.int .i64 (x : Int)) = (intsV (sm.set o (x : Int))).toArray := by simp [intsV, List.map_set]
          rw [e5] at this
          exact this
      · have GF := hid (dys_of DA.out (fun h => hex h) hj GJ.out)
        by_cases hjc : j < cN
        case' pos =>
          have e1 : decide (j < cN) = true := decide_eq_true hjc
          have e2 : decide ((j : Int) < (cN : Int)) = true := decide_eq_true (by omega)
          have e3 : (bj == 0) = false := by rw [beq_eq_false_iff_ne]; exact fun h => hex ⟨hjc, h⟩
        case' neg =>
          have e1 : decide (j < cN) = false := decide_eq_false hjc
          have e2 : decide ((j : Int) < (cN : Int)) = false := decide_eq_false (by omega)
        all_goals
          clear hex GJ
          go_wp2_with fail
          go_meet
          exact ⟨sj, bj, sm, Sl, RJ, KJ, SJ, GF⟩
  case rest =>
  obtain ⟨sj, bj, sm, Sl, RJ, KJ, SJ, GJ⟩ := hcut
  obtain ⟨T, tc, hb, _⟩ := RJ.out.tok
  unfold inCs at hb
  have q2 := hb.cell 2
  simp only [List.getElem?_toArray, List.getElem?_cons_zero, List.getElem?_cons_succ] at q2
  have hg := hb.lt
  have hW5 := hid (show wc.heap.size ≤ wc.heap.size from Nat.le_refl _)
  have KW := hid (KA.out.trans KJ.out)
  have WH := hid (whole_at (some ⟨gS, 0, none⟩) 19 19 sm wc Sl.out (irow_blk SJ.out) (by decide))
  clear hb BO BS RS KS
  by_cases hb0 : bj = 0
  case neg =>
    have d0 : (bj == 0) = false := by rw [beq_eq_false_iff_ne]; exact hb0
    have GE := hid (GJ.out.1 hb0)
    have H0 := hid hb0
    clear hb0 GJ WH
    go_wp2_with fail
    go_ret2
    exact len_err KW.out GE.out H0.out RJ.out
  subst hb0
  cases hfull : fullB sm with
  | false =>
    have GE := hid (show dynM v.L s.k = .error 2 by rw [(GJ.out.2 rfl).2.2.2.2, if_pos hfull])
    rw [hfull] at WH
    have F := hid (fail_any RJ.out 2)
    clear hfull GJ
    go_wp2_with fail
    refine WH.out.mono ?_
    rintro e w6 ⟨rfl, rfl⟩
    go_wp2_with fail
    refine F.out.mono ?_
    rintro e w7 ⟨rfl, hr7, hk7⟩
    have R7 := hid hr7
    have K7 := hid (KW.out.trans hk7)
    obtain ⟨T7, tc7, hb7, _⟩ := hr7.tok
    unfold inCs at hb7
    have r2 := hb7.cell 2
    simp only [List.getElem?_toArray, List.getElem?_cons_zero, List.getElem?_cons_succ] at r2
    have hg7 := hb7.lt
    clear hb7 hr7 hk7
    go_wp2_with fail
    go_ret2
    exact len_err K7.out GE.out (by decide) R7.out
  | true =>
    have hG := GJ.out.2 rfl
    rw [if_neg (by rw [hfull]; decide)] at hG
    have GR := hid (show DyR v s aN (aN + bN) sm [] sj 0 from ⟨fun h => absurd rfl h, fun _ => ⟨hG.2.2.1, hG.2.2.2.1, fun x hx => absurd hx List.not_mem_nil, Nat.zero_le _, aN + bN, by omega, hG.2.2.2.2.trans rfl⟩⟩)
    have hab : aN ≤ 286 ∧ bN ≤ 30 := ⟨hG.1, hG.2.1⟩
    have LS := hid (full_lens hfull)
    have CO := hid (rcodes_at (some ⟨gS, 0, none⟩) 19 19 sm wc Sl.out (irow_blk SJ.out) (by decide))
    rw [hfull] at WH
    clear hfull GJ hG
    go_wp2_with fail
    refine WH.out.mono ?_
    rintro e w6 ⟨rfl, rfl⟩
    go_wp2_with fail
    refine CO.out.mono ?_
    rintro e w7 ⟨C, cc, K, rfl, hB7, hb7⟩
    have R7 := hid (RJ.out.below hb7 (Nat.le_refl _)).1
    have K7 := hid (KW.out.trans (RJ.out.below hb7 (Nat.le_refl _)).2)
    have B7 := hid hB7
    have LR7 := hid R7.out.lr
    have HW7 := hid R7.out.fr.size
    clear hB7 hb7 WH CO q2 hg
    obtain ⟨sz, hsz⟩ : ∃ sz, aN + bN = sz := ⟨_, rfl⟩
    rw [hsz] at GR
    have Hsz := hid hsz
    have twz : IntKind.i64.wrap ((aN : Int) + (bN : Int)) = (sz : Int) := (IntWalk.i64_in _ (by omega)).trans (by omega)
    have hsz316 : sz ≤ 316 := by omega
    clear hsz
    go_upto_region 20 with (fail)
    go_loopw [11] (fun v11 wr => ∃ (n : Nat) (A' : Option Addr) (c' : Nat) (row : List Int) (sj : Sk) (bj : Int), v11 = .slice A' n c' ∧ n ≤ 500 ∧ Hid (row.length = n) ∧ Hid (wr.ownsRow w7.heap.size 3 1 (.slice A' n c') n (intsV row)) ∧ Hid (RI v wr sj bj) ∧ Hid (Kp w7 wr) ∧ Hid (DyR v s aN sz sm row sj bj)) (fun x wr => rMs v.g sz x wr)
    case atStart => exact ⟨0, none, 0, [], sj, 0, rfl, by omega, hid rfl, hid (World.ownsRow_nil _ _ _ _), R7, hid (Kp.refl _), GR⟩
    case round =>
      clear GR RJ
      obtain ⟨n, A', c', row, sj, bj, rfl, hn5, Rl, OW, RJ, KJ2, GR⟩ := hrel
      obtain ⟨T, tc, hb, _⟩ := RJ.out.tok
      unfold inCs at hb
      have q2 := hb.cell 2
      simp only [List.getElem?_toArray, List.getElem?_cons_zero, List.getElem?_cons_succ] at q2
      have hg := hb.lt
      clear hb
      by_cases hex : n < sz ∧ bj = 0
      · obtain ⟨hns, rfl⟩ := hex
        have e1 : decide (n < sz) = true := decide_eq_true hns
        have e2 : decide ((n : Int) < (sz : Int)) = true := decide_eq_true (by omega)
        have SY := hid (rsym_gen RJ.out sm LS.out C cc K (B7.out.kp KJ2.out) HL.out)
        go_wp2_with fail
        refine SY.out.mono ?_
        rintro e w8 ⟨y, s8, b8, rfl, hr8, hk8, hsy⟩
        have R8 := hid hr8
        have K8 := hid (KJ2.out.trans hk8)
        have O8 := hid (own_kp OW.out hk8 (by decide) (by decide))
        have DQ := hid (dyr_step (by rw [Sl.out]; decide) GR.out (by rw [Rl.out]; exact hns) hsy)
        clear hr8 hk8 hsy q2 hg SY OW
        have hyb : y ≠ 0 → b8 = 0 := fun h => by
          by_cases hb : b8 = 0
          · exact hb
          · exact absurd (DQ.out.1 hb).1 h
        by_cases h16 : y = 16
        · have f16 : ((y : Int) == 16) = true := by rw [beq_iff_eq]; omega
          have f17 : ((y : Int) == 17) = false := by rw [beq_eq_false_iff_ne]; omega
          have f18 : ((y : Int) == 18) = false := by rw [beq_eq_false_iff_ne]; omega
          obtain rfl := hyb (by omega)
          have HQ := hid (DQ.out.2 rfl)
          by_cases hn0 : n = 0
          · have hrow : row = [] := List.eq_nil_of_length_eq_zero (by rw [Rl.out]; exact hn0)
            have GE := hid (show dynM v.L s.k = .error 2 from by
              obtain ⟨f, _, h5⟩ := HQ.out.2.2.2.2
              rw [h5, if_pos ⟨h16, hrow⟩]
              rfl)
            have dn : (n == 0) = true := by rw [beq_iff_eq]; exact hn0
            have dn2 : ((n : Int) == 0) = true := by rw [beq_iff_eq]; omega
            have F8 := hid (fail_any R8.out 2)
            clear hn0 hrow HQ hyb h16 DQ
            go_wp2_with fail
            refine F8.out.mono ?_
            rintro e w9 ⟨rfl, hr9, hk9⟩
            have R9 := hid hr9
            have K9 := hid (K7.out.trans (K8.out.trans hk9))
            clear hr9 hk9
            go_wp2_with fail
            go_ret2
            exact len_err K9.out GE.out (by decide) R9.out
          · have dn : (n == 0) = false := by rw [beq_eq_false_iff_ne]; exact hn0
            have dn2 : ((n : Int) == 0) = false := by rw [beq_eq_false_iff_ne]; omega
            obtain ⟨n1, hn1⟩ : ∃ n1, n1 + 1 = n := ⟨n - 1, by omega⟩
            have twn : IntKind.i64.wrap ((n : Int) - 1) = (n1 : Int) := (IntWalk.i64_in _ (by omega)).trans (by omega)
            have hrl : n1 < row.length := by rw [Rl.out]; omega
            obtain ⟨rb, hAr, _, hrbw⟩ := own_block O8.out (by omega)
            subst hAr
            have rc := O8.out.cellAt n1 (by omega)
            have hval : row.getD (row.length - 1) 0 = row[n1] := by rw [Rl.out, show n - 1 = n1 by omega, List.getD_eq_getElem?_getD, List.getElem?_eq_getElem hrl]; rfl
            have hvb := HQ.out.2.2.2.1 _ (List.getElem_mem hrl)
            have rc2 : w8.cell? ⟨rb, n1, none⟩ = some (.int .i64 row[n1]) := by
              rw [rc]
              unfold intsV
              rw [List.getElem?_map, List.getElem?_eq_getElem hrl]
              rfl
            have hn1n : n1 < n := by omega
            have HNE := hid (show ¬ (y = 16 ∧ row = []) from fun h => by have := Rl.out; rw [h.2] at this; simp at this; omega)
            have HB1 := hid (show (if y = 16 then 2 else if y = 17 then 3 else if y = 18 then 7 else 0) = 2 from by rw [if_pos h16])
            have HB2 := hid (show (if y = 16 then 3 else if y = 17 then 3 else if y = 18 then 11 else 1 : Int) = ((3 : Nat) : Int) from by rw [if_pos h16]; rfl)
            have HB3 := hid (show (if y = 16 then row.getD (row.length - 1) 0 else if y = 17 then 0 else if y = 18 then 0 else (y : Int)) = row[n1] from by rw [if_pos h16]; exact hval)
            generalize row[n1] = val at *
            clear hn0 rc hval hrl hn1 DQ hyb h16
            go_wp2_with fail
            refine (rtake_gen R8.out 2 (by decide) HL.out).mono ?_
            rintro e w6' ⟨x, s6, b6, rfl, hr6, hk6, ht6⟩
            have R6 := hid hr6
            have K6 := hid (K8.out.trans hk6)
            have O6 := hid (own_kp O8.out hk6 (by decide) (by decide))
            have hx128 : x < 128 := Nat.lt_of_lt_of_le ht6.1 (by decide)
            obtain ⟨cnt, hcnt⟩ : ∃ cnt, 3 + x = cnt := ⟨_, rfl⟩
            have twc : IntKind.i64.wrap (3 + (x : Int)) = (cnt : Int) := (IntWalk.i64_in _ (by omega)).trans (by omega)
            have Q6 := hid (dyq_take (base := 3) (cnt := cnt) (val := val) HQ.out.2 HNE.out HB1.out HB2.out HB3.out hvb (by decide) (by
              rcases ht6.2.2 rfl with ⟨a1, _, a3⟩ | a
              · exact .inl ⟨a1, a3⟩
              · exact .inr a) hcnt)
            have hc500 : cnt ≤ 150 ∧ 1 ≤ cnt := by omega
            clear hr6 hk6 ht6 hcnt hx128 HQ HNE HB1 HB2 HB3
            go_upto_region 37 with (fail)
            go_loopw [11, 15] (fun v11 v15 wr => ∃ (i : Nat) (A : Option Addr) (c : Nat), i ≤ cnt ∧ v11 = .slice A (n + i) c ∧ v15 = .int .i64 (i : Int) ∧ Hid (b6 ≠ 0 → i = 0) ∧ Hid (wr.ownsRow w7.heap.size 3 1 (.slice A (n + i) c) (n + i) (intsV (row ++ List.replicate i val))) ∧ Hid (RI v wr s6 b6) ∧ Hid (Kp w7 wr)) (fun _ i _ => cnt - (intOf i).toNat)
            case atStart => exact ⟨0, _, c', by omega, rfl, rfl, hid (fun _ => rfl), hid (by rw [Nat.add_zero, List.replicate_zero, List.append_nil]; exact O6.out), R6, K6⟩
            case round =>
              clear O6 R6 K6
              obtain ⟨i, A2, c2, hic, rfl, rfl, Hi, O6, R6, K6⟩ := hrel
              obtain ⟨T6, tc6, hb6, _⟩ := R6.out.tok
              unfold inCs at hb6
              have p2 := hb6.cell 2
              simp only [List.getElem?_toArray, List.getElem?_cons_zero, List.getElem?_cons_succ] at p2
              have hg6 := hb6.lt
              clear hb6
              by_cases hb0 : b6 = 0
              · subst hb0
                by_cases hi : i < cnt
                · have g1 : decide ((i : Int) < (cnt : Int)) = true := decide_eq_true (by omega)
                  have g1n : decide (i < cnt) = true := decide_eq_true hi
                  have hsz7 := hid (Nat.le_refl w7.heap.size)
                  have hw7 : w7.heap.size ≤ wr.heap.size := K6.out.1
                  have O6b := hid (fun o => own_below O6.out ((Below.refl wr.heap.size wr).alloc (Nat.le_refl _) o) (Nat.le_refl _))
                  have R6b := hid (fun o => (R6.out.below ((Below.refl wr.heap.size wr).alloc (Nat.le_refl _) o) (Nat.le_refl _)))
                  go_wp2_with (at_builtin; (refine wpList_app _ rfl _ _ _ rfl (w7.heap.size) 3 i0 (.int .i64 0) 1 8 Tryz.underlying80 Hi0.out Hz0.out Hz1.out Hz2.out rfl (by omega) A2 (n+i) c2 (intsV (row ++ List.replicate i val)) rfl (O6b.out _) _ _ 1 1 ([.int .i64 val]) rfl (rd_one _ _ _ _ (Blk.new _ _ _)) (by simp) (by simp [Value.oneCell']) (by simp only [maxLen]; omega) (by omega) (by first | omega | (simp; done) | (simp; omega)) ?_; intro A4 c4 w9 ha4; have Ha4 := hid ha4; clear ha4))
                  obtain ⟨hown4, hg4, hb4, _⟩ := Ha4.out
                  have k9 := (K6.out.trans (R6b.out _).2).thenBelow hb4 (Nat.le_refl _)
                  refine ⟨⟨i + 1, A4, c4, by omega, rfl, by go_num, hid (fun h => absurd rfl h), hid ?_, hid ((R6b.out _).1.app (O6b.out _) hg4 hb4 HW7.out (own_kp LR7.out k9 (by decide) (by decide))), hid k9⟩, by simp [intOf]; omega⟩
                  rw [rep_succR, ← List.append_assoc]
                  unfold intsV at hown4 ⊢
                  rw [List.map_append (l₂ := [val])]
                  exact hown4
                · have hic2 : i = cnt := by omega
                  have g1 : decide ((i : Int) < (cnt : Int)) = false := decide_eq_false (by omega)
                  have g1n : decide (i < cnt) = false := decide_eq_false hi
                  have NX := dyr_next Q6.out
                  rw [Rl.out] at NX
                  by_cases hov : sz < n + cnt
                  · have g2 : decide ((sz : Int) < ((n + i : Nat) : Int)) = true := decide_eq_true (by omega)
                    have g3 : decide ((sz : Int) < (n : Int) + (i : Int)) = true := decide_eq_true (by omega)
                    have g2n : decide (sz < n + i) = true := decide_eq_true (by omega)
                    have G9 := hid (show DyR v s aN sz sm (row ++ List.replicate i val) s6 2 from by rw [hic2]; exact NX.1 hov)
                    have Hic := hid hic2
                    have F9 := hid (fail_any R6.out 2)
                    have hn9 : n + i ≤ 500 := by omega
                    clear NX hov hic2 hi Q6
                    go_wp2_with fail
                    refine F9.out.mono ?_
                    rintro e w9 ⟨rfl, hr9, hk9⟩
                    have R9 := hid hr9
                    have K9 := hid (K6.out.trans hk9)
                    have O9 := hid (own_kp O6.out hk9 (by decide) (by decide))
                    clear hr9 hk9
                    go_wp2_with fail
                    refine ⟨⟨n + i, A2, c2, row ++ List.replicate i val, s6, 2, rfl, hn9, hid (by rw [rep_len, Rl.out]), O9, R9, K9, G9⟩, ?_⟩
                    unfold rMs
                    rw [badOf2_eq R9.out, badOf2_eq RJ.out, if_neg (by decide), if_pos rfl]
                    show 0 < sz + 1 - n
                    omega
                  · have g2 : decide ((sz : Int) < ((n + i : Nat) : Int)) = false := decide_eq_false (by omega)
                    have g3 : decide ((sz : Int) < (n : Int) + (i : Int)) = false := decide_eq_false (by omega)
                    have g2n : decide (sz < n + i) = false := decide_eq_false (by omega)
                    have G9 := hid (show DyR v s aN sz sm (row ++ List.replicate i val) s6 0 from by rw [hic2]; exact NX.2 hov)
                    have hn9 : n + i ≤ 500 := by omega
                    have hcp := (Q6.out.2 rfl).2.2.1
                    have HCP := hid (show n < n + i by omega)
                    have HS9 := hid (show n + i ≤ sz by omega)
                    clear NX hov hic2 hi Q6 hcp
                    go_wp2_with fail
                    refine ⟨⟨n + i, A2, c2, row ++ List.replicate i val, s6, 0, rfl, hn9, hid (by rw [rep_len, Rl.out]), O6, R6, K6, G9⟩, ?_⟩
                    unfold rMs
                    rw [badOf2_eq R6.out, badOf2_eq RJ.out, if_pos rfl, if_pos rfl]
                    show sz + 1 - (n + i) < sz + 1 - n
                    have := HCP.out
                    have := HS9.out
                    omega
              · obtain rfl := Hi.out hb0
                have g1 : decide (((0 : Nat) : Int) < (cnt : Int)) = true := decide_eq_true (by omega)
                have g0 : (b6 == 0) = false := by rw [beq_eq_false_iff_ne]; exact hb0
                have g2 : decide ((sz : Int) < (n : Int)) = false := decide_eq_false (by omega)
                have g2n : decide (sz < n) = false := decide_eq_false (by omega)
                have G9 := hid (show DyR v s aN sz sm row s6 b6 from ⟨fun _ => Q6.out.1 hb0, fun h => absurd h hb0⟩)
                rw [Nat.add_zero, List.replicate_zero, List.append_nil] at O6
                have Hb0 := hid hb0
                clear hb0 Q6 Hi
                go_wp2_with fail
                refine ⟨⟨n, A2, c2, row, s6, b6, rfl, hn5, Rl, O6, R6, K6, G9⟩, ?_⟩
                unfold rMs
                rw [badOf2_eq R6.out, badOf2_eq RJ.out, if_neg Hb0.out, if_pos rfl]
                show 0 < sz + 1 - n
                omega
        · by_cases h17 : y = 17
          · have f16 : ((y : Int) == 16) = false := by rw [beq_eq_false_iff_ne]; omega
            have f17 : ((y : Int) == 17) = true := by rw [beq_iff_eq]; omega
            have f18 : ((y : Int) == 18) = false := by rw [beq_eq_false_iff_ne]; omega
            obtain rfl := hyb (by omega)
            have HQ := hid (DQ.out.2 rfl)
            have HNE := hid (show ¬ (y = 16 ∧ row = []) from fun h => h16 h.1)
            have HB1 := hid (show (if y = 16 then 2 else if y = 17 then 3 else if y = 18 then 7 else 0) = 3 from by rw [if_neg h16, if_pos h17])
            have HB2 := hid (show (if y = 16 then 3 else if y = 17 then 3 else if y = 18 then 11 else 1 : Int) = ((3 : Nat) : Int) from by rw [if_neg h16, if_pos h17]; rfl)
            have HB3 := hid (show (if y = 16 then row.getD (row.length - 1) 0 else if y = 17 then 0 else if y = 18 then 0 else (y : Int)) = 0 from by rw [if_neg h16, if_pos h17])
            have hvb : (0 : Int) ≤ 0 ∧ (0 : Int) ≤ 100 := by decide
            clear DQ hyb
            go_wp2_with fail
            refine (rtake_gen R8.out 3 (by decide) HL.out).mono ?_
            rintro e w6' ⟨x, s6, b6, rfl, hr6, hk6, ht6⟩
            have R6 := hid hr6
            have K6 := hid (K8.out.trans hk6)
            have O6 := hid (own_kp O8.out hk6 (by decide) (by decide))
            have hx128 : x < 128 := Nat.lt_of_lt_of_le ht6.1 (by decide)
            obtain ⟨cnt, hcnt⟩ : ∃ cnt, 3 + x = cnt := ⟨_, rfl⟩
            have twc : IntKind.i64.wrap (3 + (x : Int)) = (cnt : Int) := (IntWalk.i64_in _ (by omega)).trans (by omega)
            have Q6 := hid (dyq_take (base := 3) (cnt := cnt) (val := (0 : Int)) HQ.out.2 HNE.out HB1.out HB2.out HB3.out hvb (by decide) (by
              rcases ht6.2.2 rfl with ⟨a1, _, a3⟩ | a
              · exact .inl ⟨a1, a3⟩
              · exact .inr a) hcnt)
            have hc500 : cnt ≤ 150 ∧ 1 ≤ cnt := by omega
            clear hr6 hk6 ht6 hcnt hx128 HQ HNE HB1 HB2 HB3
            go_upto_region 37 with (fail)
            go_loopw [11, 15] (fun v11 v15 wr => ∃ (i : Nat) (A : Option Addr) (c : Nat), i ≤ cnt ∧ v11 = .slice A (n + i) c ∧ v15 = .int .i64 (i : Int) ∧ Hid (b6 ≠ 0 → i = 0) ∧ Hid (wr.ownsRow w7.heap.size 3 1 (.slice A (n + i) c) (n + i) (intsV (row ++ List.replicate i (0 : Int)))) ∧ Hid (RI v wr s6 b6) ∧ Hid (Kp w7 wr)) (fun _ i _ => cnt - (intOf i).toNat)
            case atStart => exact ⟨0, _, c', by omega, rfl, rfl, hid (fun _ => rfl), hid (by rw [Nat.add_zero, List.replicate_zero, List.append_nil]; exact O6.out), R6, K6⟩
            case round =>
              clear O6 R6 K6
              obtain ⟨i, A2, c2, hic, rfl, rfl, Hi, O6, R6, K6⟩ := hrel
              obtain ⟨T6, tc6, hb6, _⟩ := R6.out.tok
              unfold inCs at hb6
              have p2 := hb6.cell 2
              simp only [List.getElem?_toArray, List.getElem?_cons_zero, List.getElem?_cons_succ] at p2
              have hg6 := hb6.lt
              clear hb6
              by_cases hb0 : b6 = 0
              · subst hb0
                by_cases hi : i < cnt
                · have g1 : decide ((i : Int) < (cnt : Int)) = true := decide_eq_true (by omega)
                  have g1n : decide (i < cnt) = true := decide_eq_true hi
                  have hsz7 := hid (Nat.le_refl w7.heap.size)
                  have hw7 : w7.heap.size ≤ wr.heap.size := K6.out.1
                  have O6b := hid (fun o => own_below O6.out ((Below.refl wr.heap.size wr).alloc (Nat.le_refl _) o) (Nat.le_refl _))
                  have R6b := hid (fun o => (R6.out.below ((Below.refl wr.heap.size wr).alloc (Nat.le_refl _) o) (Nat.le_refl _)))
                  go_wp2_with (at_builtin; (refine wpList_app _ rfl _ _ _ rfl (w7.heap.size) 3 i0 (.int .i64 0) 1 8 Tryz.underlying80 Hi0.out Hz0.out Hz1.out Hz2.out rfl (by omega) A2 (n+i) c2 (intsV (row ++ List.replicate i (0 : Int))) rfl (O6b.out _) _ _ 1 1 ([.int .i64 (0 : Int)]) rfl (rd_one _ _ _ _ (Blk.new _ _ _)) (by simp) (by simp [Value.oneCell']) (by simp only [maxLen]; omega) (by omega) (by first | omega | (simp; done) | (simp; omega)) ?_; intro A4 c4 w9 ha4; have Ha4 := hid ha4; clear ha4))
                  obtain ⟨hown4, hg4, hb4, _⟩ := Ha4.out
                  have k9 := (K6.out.trans (R6b.out _).2).thenBelow hb4 (Nat.le_refl _)
                  refine ⟨⟨i + 1, A4, c4, by omega, rfl, by go_num, hid (fun h => absurd rfl h), hid ?_, hid ((R6b.out _).1.app (O6b.out _) hg4 hb4 HW7.out (own_kp LR7.out k9 (by decide) (by decide))), hid k9⟩, by simp [intOf]; omega⟩
                  rw [rep_succR, ← List.append_assoc]
                  unfold intsV at hown4 ⊢
                  rw [List.map_append (l₂ := [(0 : Int)])]
                  exact hown4
                · have hic2 : i = cnt := by omega
                  have g1 : decide ((i : Int) < (cnt : Int)) = false := decide_eq_false (by omega)
                  have g1n : decide (i < cnt) = false := decide_eq_false hi
                  have NX := dyr_next Q6.out
                  rw [Rl.out] at NX
                  by_cases hov : sz < n + cnt
                  · have g2 : decide ((sz : Int) < ((n + i : Nat) : Int)) = true := decide_eq_true (by omega)
                    have g3 : decide ((sz : Int) < (n : Int) + (i : Int)) = true := decide_eq_true (by omega)
                    have g2n : decide (sz < n + i) = true := decide_eq_true (by omega)
                    have G9 := hid (show DyR v s aN sz sm (row ++ List.replicate i (0 : Int)) s6 2 from by rw [hic2]; exact NX.1 hov)
                    have Hic := hid hic2
                    have F9 := hid (fail_any R6.out 2)
                    have hn9 : n + i ≤ 500 := by omega
                    clear NX hov hic2 hi Q6
                    go_wp2_with fail
                    refine F9.out.mono ?_
                    rintro e w9 ⟨rfl, hr9, hk9⟩
                    have R9 := hid hr9
                    have K9 := hid (K6.out.trans hk9)
                    have O9 := hid (own_kp O6.out hk9 (by decide) (by decide))
                    clear hr9 hk9
                    go_wp2_with fail
                    refine ⟨⟨n + i, A2, c2, row ++ List.replicate i (0 : Int), s6, 2, rfl, hn9, hid (by rw [rep_len, Rl.out]), O9, R9, K9, G9⟩, ?_⟩
                    unfold rMs
                    rw [badOf2_eq R9.out, badOf2_eq RJ.out, if_neg (by decide), if_pos rfl]
                    show 0 < sz + 1 - n
                    omega
                  · have g2 : decide ((sz : Int) < ((n + i : Nat) : Int)) = false := decide_eq_false (by omega)
                    have g3 : decide ((sz : Int) < (n : Int) + (i : Int)) = false := decide_eq_false (by omega)
                    have g2n : decide (sz < n + i) = false := decide_eq_false (by omega)
                    have G9 := hid (show DyR v s aN sz sm (row ++ List.replicate i (0 : Int)) s6 0 from by rw [hic2]; exact NX.2 hov)
                    have hn9 : n + i ≤ 500 := by omega
                    have hcp := (Q6.out.2 rfl).2.2.1
                    have HCP := hid (show n < n + i by omega)
                    have HS9 := hid (show n + i ≤ sz by omega)
                    clear NX hov hic2 hi Q6 hcp
                    go_wp2_with fail
                    refine ⟨⟨n + i, A2, c2, row ++ List.replicate i (0 : Int), s6, 0, rfl, hn9, hid (by rw [rep_len, Rl.out]), O6, R6, K6, G9⟩, ?_⟩
                    unfold rMs
                    rw [badOf2_eq R6.out, badOf2_eq RJ.out, if_pos rfl, if_pos rfl]
                    show sz + 1 - (n + i) < sz + 1 - n
                    have := HCP.out
                    have := HS9.out
                    omega
              · obtain rfl := Hi.out hb0
                have g1 : decide (((0 : Nat) : Int) < (cnt : Int)) = true := decide_eq_true (by omega)
                have g0 : (b6 == 0) = false := by rw [beq_eq_false_iff_ne]; exact hb0
                have g2 : decide ((sz : Int) < (n : Int)) = false := decide_eq_false (by omega)
                have g2n : decide (sz < n) = false := decide_eq_false (by omega)
                have G9 := hid (show DyR v s aN sz sm row s6 b6 from ⟨fun _ => Q6.out.1 hb0, fun h => absurd h hb0⟩)
                rw [Nat.add_zero, List.replicate_zero, List.append_nil] at O6
                have Hb0 := hid hb0
                clear hb0 Q6 Hi
                go_wp2_with fail
                refine ⟨⟨n, A2, c2, row, s6, b6, rfl, hn5, Rl, O6, R6, K6, G9⟩, ?_⟩
                unfold rMs
                rw [badOf2_eq R6.out, badOf2_eq RJ.out, if_neg Hb0.out, if_pos rfl]
                show 0 < sz + 1 - n
                omega
          · by_cases h18 : y = 18
            · have f16 : ((y : Int) == 16) = false := by rw [beq_eq_false_iff_ne]; omega
              have f17 : ((y : Int) == 17) = false := by rw [beq_eq_false_iff_ne]; omega
              have f18 : ((y : Int) == 18) = true := by rw [beq_iff_eq]; omega
              obtain rfl := hyb (by omega)
              have HQ := hid (DQ.out.2 rfl)
              have HNE := hid (show ¬ (y = 16 ∧ row = []) from fun h => h16 h.1)
              have HB1 := hid (show (if y = 16 then 2 else if y = 17 then 3 else if y = 18 then 7 else 0) = 7 from by rw [if_neg h16, if_neg h17, if_pos h18])
              have HB2 := hid (show (if y = 16 then 3 else if y = 17 then 3 else if y = 18 then 11 else 1 : Int) = ((11 : Nat) : Int) from by rw [if_neg h16, if_neg h17, if_pos h18]; rfl)
              have HB3 := hid (show (if y = 16 then row.getD (row.length - 1) 0 else if y = 17 then 0 else if y = 18 then 0 else (y : Int)) = 0 from by rw [if_neg h16, if_neg h17, if_pos h18])
              have hvb : (0 : Int) ≤ 0 ∧ (0 : Int) ≤ 100 := by decide
              clear DQ hyb
              go_wp2_with fail
              refine (rtake_gen R8.out 7 (by decide) HL.out).mono ?_
              rintro e w6' ⟨x, s6, b6, rfl, hr6, hk6, ht6⟩
              have R6 := hid hr6
              have K6 := hid (K8.out.trans hk6)
              have O6 := hid (own_kp O8.out hk6 (by decide) (by decide))
              have hx128 : x < 128 := Nat.lt_of_lt_of_le ht6.1 (by decide)
              obtain ⟨cnt, hcnt⟩ : ∃ cnt, 11 + x = cnt := ⟨_, rfl⟩
              have twc : IntKind.i64.wrap (11 + (x : Int)) = (cnt : Int) := (IntWalk.i64_in _ (by omega)).trans (by omega)
              have Q6 := hid (dyq_take (base := 11) (cnt := cnt) (val := (0 : Int)) HQ.out.2 HNE.out HB1.out HB2.out HB3.out hvb (by decide) (by
                rcases ht6.2.2 rfl with ⟨a1, _, a3⟩ | a
                · exact .inl ⟨a1, a3⟩
                · exact .inr a) hcnt)
              have hc500 : cnt ≤ 150 ∧ 1 ≤ cnt := by omega
              clear hr6 hk6 ht6 hcnt hx128 HQ HNE HB1 HB2 HB3
              go_upto_region 37 with (fail)
              go_loopw [11, 15] (fun v11 v15 wr => ∃ (i : Nat) (A : Option Addr) (c : Nat), i ≤ cnt ∧ v11 = .slice A (n + i) c ∧ v15 = .int .i64 (i : Int) ∧ Hid (b6 ≠ 0 → i = 0) ∧ Hid (wr.ownsRow w7.heap.size 3 1 (.slice A (n + i) c) (n + i) (intsV (row ++ List.replicate i (0 : Int)))) ∧ Hid (RI v wr s6 b6) ∧ Hid (Kp w7 wr)) (fun _ i _ => cnt - (intOf i).toNat)
              case atStart => exact ⟨0, _, c', by omega, rfl, rfl, hid (fun _ => rfl), hid (by rw [Nat.add_zero, List.replicate_zero, List.append_nil]; exact O6.out), R6, K6⟩
              case round =>
                clear O6 R6 K6
                obtain ⟨i, A2, c2, hic, rfl, rfl, Hi, O6, R6, K6⟩ := hrel
                obtain ⟨T6, tc6, hb6, _⟩ := R6.out.tok
                unfold inCs at hb6
                have p2 := hb6.cell 2
                simp only [List.getElem?_toArray, List.getElem?_cons_zero, List.getElem?_cons_succ] at p2
                have hg6 := hb6.lt
                clear hb6
                by_cases hb0 : b6 = 0
                · subst hb0
                  by_cases hi : i < cnt
                  · have g1 : decide ((i : Int) < (cnt : Int)) = true := decide_eq_true (by omega)
                    have g1n : decide (i < cnt) = true := decide_eq_true hi
                    have hsz7 := hid (Nat.le_refl w7.heap.size)
                    have hw7 : w7.heap.size ≤ wr.heap.size := K6.out.1
                    have O6b := hid (fun o => own_below O6.out ((Below.refl wr.heap.size wr).alloc (Nat.le_refl _) o) (Nat.le_refl _))
                    have R6b := hid (fun o => (R6.out.below ((Below.refl wr.heap.size wr).alloc (Nat.le_refl _) o) (Nat.le_refl _)))
                    go_wp2_with (at_builtin; (refine wpList_app _ rfl _ _ _ rfl (w7.heap.size) 3 i0 (.int .i64 0) 1 8 Tryz.underlying80 Hi0.out Hz0.out Hz1.out Hz2.out rfl (by omega) A2 (n+i) c2 (intsV (row ++ List.replicate i (0 : Int))) rfl (O6b.out _) _ _ 1 1 ([.int .i64 (0 : Int)]) rfl (rd_one _ _ _ _ (Blk.new _ _ _)) (by simp) (by simp [Value.oneCell']) (by simp only [maxLen]; omega) (by omega) (by first | omega | (simp; done) | (simp; omega)) ?_; intro A4 c4 w9 ha4; have Ha4 := hid ha4; clear ha4))
                    obtain ⟨hown4, hg4, hb4, _⟩ := Ha4.out
                    have k9 := (K6.out.trans (R6b.out _).2).thenBelow hb4 (Nat.le_refl _)
                    refine ⟨⟨i + 1, A4, c4, by omega, rfl, by go_num, hid (fun h => absurd rfl h), hid ?_, hid ((R6b.out _).1.app (O6b.out _) hg4 hb4 HW7.out (own_kp LR7.out k9 (by decide) (by decide))), hid k9⟩, by simp [intOf]; omega⟩
                    rw [rep_succR, ← List.append_assoc]
                    unfold intsV at hown4 ⊢
                    rw [List.map_append (l₂ := [(0 : Int)])]
                    exact hown4
                  · have hic2 : i = cnt := by omega
                    have g1 : decide ((i : Int) < (cnt : Int)) = false := decide_eq_false (by omega)
                    have g1n : decide (i < cnt) = false := decide_eq_false hi
                    have NX := dyr_next Q6.out
                    rw [Rl.out] at NX
                    by_cases hov : sz < n + cnt
                    · have g2 : decide ((sz : Int) < ((n + i : Nat) : Int)) = true := decide_eq_true (by omega)
                      have g3 : decide ((sz : Int) < (n : Int) + (i : Int)) = true := decide_eq_true (by omega)
                      have g2n : decide (sz < n + i) = true := decide_eq_true (by omega)
                      have G9 := hid (show DyR v s aN sz sm (row ++ List.replicate i (0 : Int)) s6 2 from by rw [hic2]; exact NX.1 hov)
                      have Hic := hid hic2
                      have F9 := hid (fail_any R6.out 2)
                      have hn9 : n + i ≤ 500 := by omega
                      clear NX hov hic2 hi Q6
                      go_wp2_with fail
                      refine F9.out.mono ?_
                      rintro e w9 ⟨rfl, hr9, hk9⟩
                      have R9 := hid hr9
                      have K9 := hid (K6.out.trans hk9)
                      have O9 := hid (own_kp O6.out hk9 (by decide) (by decide))
                      clear hr9 hk9
                      go_wp2_with fail
                      refine ⟨⟨n + i, A2, c2, row ++ List.replicate i (0 : Int), s6, 2, rfl, hn9, hid (by rw [rep_len, Rl.out]), O9, R9, K9, G9⟩, ?_⟩
                      unfold rMs
                      rw [badOf2_eq R9.out, badOf2_eq RJ.out, if_neg (by decide), if_pos rfl]
                      show 0 < sz + 1 - n
                      omega
                    · have g2 : decide ((sz : Int) < ((n + i : Nat) : Int)) = false := decide_eq_false (by omega)
                      have g3 : decide ((sz : Int) < (n : Int) + (i : Int)) = false := decide_eq_false (by omega)
                      have g2n : decide (sz < n + i) = false := decide_eq_false (by omega)
                      have G9 := hid (show DyR v s aN sz sm (row ++ List.replicate i (0 : Int)) s6 0 from by rw [hic2]; exact NX.2 hov)
                      have hn9 : n + i ≤ 500 := by omega
                      have hcp := (Q6.out.2 rfl).2.2.1
                      have HCP := hid (show n < n + i by omega)
                      have HS9 := hid (show n + i ≤ sz by omega)
                      clear NX hov hic2 hi Q6 hcp
                      go_wp2_with fail
                      refine ⟨⟨n + i, A2, c2, row ++ List.replicate i (0 : Int), s6, 0, rfl, hn9, hid (by rw [rep_len, Rl.out]), O6, R6, K6, G9⟩, ?_⟩
                      unfold rMs
                      rw [badOf2_eq R6.out, badOf2_eq RJ.out, if_pos rfl, if_pos rfl]
                      show sz + 1 - (n + i) < sz + 1 - n
                      have := HCP.out
                      have := HS9.out
                      omega
                · obtain rfl := Hi.out hb0
                  have g1 : decide (((0 : Nat) : Int) < (cnt : Int)) = true := decide_eq_true (by omega)
                  have g0 : (b6 == 0) = false := by rw [beq_eq_false_iff_ne]; exact hb0
                  have g2 : decide ((sz : Int) < (n : Int)) = false := decide_eq_false (by omega)
                  have g2n : decide (sz < n) = false := decide_eq_false (by omega)
                  have G9 := hid (show DyR v s aN sz sm row s6 b6 from ⟨fun _ => Q6.out.1 hb0, fun h => absurd h hb0⟩)
                  rw [Nat.add_zero, List.replicate_zero, List.append_nil] at O6
                  have Hb0 := hid hb0
                  clear hb0 Q6 Hi
                  go_wp2_with fail
                  refine ⟨⟨n, A2, c2, row, s6, b6, rfl, hn5, Rl, O6, R6, K6, G9⟩, ?_⟩
                  unfold rMs
                  rw [badOf2_eq R6.out, badOf2_eq RJ.out, if_neg Hb0.out, if_pos rfl]
                  show 0 < sz + 1 - n
                  omega
            · have f16 : ((y : Int) == 16) = false := by rw [beq_eq_false_iff_ne]; omega
              have f17 : ((y : Int) == 17) = false := by rw [beq_eq_false_iff_ne]; omega
              have f18 : ((y : Int) == 18) = false := by rw [beq_eq_false_iff_ne]; omega
              have Q6 := hid (show DyQ v s aN sz sm row s8 b8 1 (y : Int) from by
                by_cases hb : b8 = 0
                · subst hb
                  have hq := DQ.out.2 rfl
                  refine dyq_take (base := 1) (bits := 0) (x := 0) hq.2 (fun h => h16 h.1) (by rw [if_neg h16, if_neg h17, if_neg h18]) (by rw [if_neg h16, if_neg h17, if_neg h18]; rfl) (by rw [if_neg h16, if_neg h17, if_neg h18]) (by have := hq.1; omega) (by decide) (.inr ⟨?_, rfl, rfl⟩) rfl
                  rw [tkM_some (by have := R8.out.kl; omega)]
                  rfl
                · exact ⟨fun _ => (DQ.out.1 hb).2, fun h => absurd h hb⟩)
              have R6 := R8
              have K6 := K8
              have O6 := O8
              clear DQ hyb
              go_upto_region 37 with (fail)
              go_loopw [11, 15] (fun v11 v15 wr => ∃ (i : Nat) (A : Option Addr) (c : Nat), i ≤ 1 ∧ v11 = .slice A (n + i) c ∧ v15 = .int .i64 (i : Int) ∧ Hid (b8 ≠ 0 → i = 0) ∧ Hid (wr.ownsRow w7.heap.size 3 1 (.slice A (n + i) c) (n + i) (intsV (row ++ List.replicate i (y : Int)))) ∧ Hid (RI v wr s8 b8) ∧ Hid (Kp w7 wr)) (fun _ i _ => 1 - (intOf i).toNat)
              case atStart => exact ⟨0, _, c', by omega, rfl, rfl, hid (fun _ => rfl), hid (by rw [Nat.add_zero, List.replicate_zero, List.append_nil]; exact O6.out), R6, K6⟩
              case round =>
                clear O6 R6 K6
                obtain ⟨i, A2, c2, hic, rfl, rfl, Hi, O6, R6, K6⟩ := hrel
                obtain ⟨T6, tc6, hb6, _⟩ := R6.out.tok
                unfold inCs at hb6
                have p2 := hb6.cell 2
                simp only [List.getElem?_toArray, List.getElem?_cons_zero, List.getElem?_cons_succ] at p2
                have hg6 := hb6.lt
                clear hb6
                by_cases hb0 : b8 = 0
                · subst hb0
                  by_cases hi : i < 1
                  · have g1 : decide ((i : Int) < 1) = true := decide_eq_true (by omega)
                    have g1n : decide (i < 1) = true := decide_eq_true hi
                    have hsz7 := hid (Nat.le_refl w7.heap.size)
                    have hw7 : w7.heap.size ≤ wr.heap.size := K6.out.1
                    have O6b := hid (fun o => own_below O6.out ((Below.refl wr.heap.size wr).alloc (Nat.le_refl _) o) (Nat.le_refl _))
                    have R6b := hid (fun o => (R6.out.below ((Below.refl wr.heap.size wr).alloc (Nat.le_refl _) o) (Nat.le_refl _)))
                    go_wp2_with (at_builtin; (refine wpList_app _ rfl _ _ _ rfl (w7.heap.size) 3 i0 (.int .i64 0) 1 8 Tryz.underlying80 Hi0.out Hz0.out Hz1.out Hz2.out rfl (by omega) A2 (n+i) c2 (intsV (row ++ List.replicate i (y : Int))) rfl (O6b.out _) _ _ 1 1 ([.int .i64 (y : Int)]) rfl (rd_one _ _ _ _ (Blk.new _ _ _)) (by simp) (by simp [Value.oneCell']) (by simp only [maxLen]; omega) (by omega) (by first | omega | (simp; done) | (simp; omega)) ?_; intro A4 c4 w9 ha4; have Ha4 := hid ha4; clear ha4))
                    obtain ⟨hown4, hg4, hb4, _⟩ := Ha4.out
                    have k9 := (K6.out.trans (R6b.out _).2).thenBelow hb4 (Nat.le_refl _)
                    refine ⟨⟨i + 1, A4, c4, by omega, rfl, by go_num, hid (fun h => absurd rfl h), hid ?_, hid ((R6b.out _).1.app (O6b.out _) hg4 hb4 HW7.out (own_kp LR7.out k9 (by decide) (by decide))), hid k9⟩, by simp [intOf]; omega⟩
                    rw [rep_succR, ← List.append_assoc]
                    unfold intsV at hown4 ⊢
                    rw [List.map_append (l₂ := [(y : Int)])]
                    exact hown4
                  · have hic2 : i = 1 := by omega
                    have g1 : decide ((i : Int) < 1) = false := decide_eq_false (by omega)
                    have g1n : decide (i < 1) = false := decide_eq_false hi
                    have NX := dyr_next Q6.out
                    rw [Rl.out] at NX
                    by_cases hov : sz < n + 1
                    · have g2 : decide ((sz : Int) < ((n + i : Nat) : Int)) = true := decide_eq_true (by omega)
                      have g3 : decide ((sz : Int) < (n : Int) + (i : Int)) = true := decide_eq_true (by omega)
                      have g2n : decide (sz < n + i) = true := decide_eq_true (by omega)
                      have G9 := hid (show DyR v s aN sz sm (row ++ List.replicate i (y : Int)) s8 2 from by rw [hic2]; exact NX.1 hov)
                      have Hic := hid hic2
                      have F9 := hid (fail_any R6.out 2)
                      have hn9 : n + i ≤ 500 := by omega
                      clear NX hov hic2 hi Q6
                      go_wp2_with fail
                      refine F9.out.mono ?_
                      rintro e w9 ⟨rfl, hr9, hk9⟩
                      have R9 := hid hr9
                      have K9 := hid (K6.out.trans hk9)
                      have O9 := hid (own_kp O6.out hk9 (by decide) (by decide))
                      clear hr9 hk9
                      go_wp2_with fail
                      refine ⟨⟨n + i, A2, c2, row ++ List.replicate i (y : Int), s8, 2, rfl, hn9, hid (by rw [rep_len, Rl.out]), O9, R9, K9, G9⟩, ?_⟩
                      unfold rMs
                      rw [badOf2_eq R9.out, badOf2_eq RJ.out, if_neg (by decide), if_pos rfl]
                      show 0 < sz + 1 - n
                      omega
                    · have g2 : decide ((sz : Int) < ((n + i : Nat) : Int)) = false := decide_eq_false (by omega)
                      have g3 : decide ((sz : Int) < (n : Int) + (i : Int)) = false := decide_eq_false (by omega)
                      have g2n : decide (sz < n + i) = false := decide_eq_false (by omega)
                      have G9 := hid (show DyR v s aN sz sm (row ++ List.replicate i (y : Int)) s8 0 from by rw [hic2]; exact NX.2 hov)
                      have hn9 : n + i ≤ 500 := by omega
                      have hcp := (Q6.out.2 rfl).2.2.1
                      have HCP := hid (show n < n + i by omega)
                      have HS9 := hid (show n + i ≤ sz by omega)
                      clear NX hov hic2 hi Q6 hcp
                      go_wp2_with fail
                      refine ⟨⟨n + i, A2, c2, row ++ List.replicate i (y : Int), s8, 0, rfl, hn9, hid (by rw [rep_len, Rl.out]), O6, R6, K6, G9⟩, ?_⟩
                      unfold rMs
                      rw [badOf2_eq R6.out, badOf2_eq RJ.out, if_pos rfl, if_pos rfl]
                      show sz + 1 - (n + i) < sz + 1 - n
                      have := HCP.out
                      have := HS9.out
                      omega
                · obtain rfl := Hi.out hb0
                  have g1 : decide (((0 : Nat) : Int) < 1) = true := decide_eq_true (by omega)
                  have g0 : (b8 == 0) = false := by rw [beq_eq_false_iff_ne]; exact hb0
                  have g2 : decide ((sz : Int) < (n : Int)) = false := decide_eq_false (by omega)
                  have g2n : decide (sz < n) = false := decide_eq_false (by omega)
                  have G9 := hid (show DyR v s aN sz sm row s8 b8 from ⟨fun _ => Q6.out.1 hb0, fun h => absurd h hb0⟩)
                  rw [Nat.add_zero, List.replicate_zero, List.append_nil] at O6
                  have Hb0 := hid hb0
                  clear hb0 Q6 Hi
                  go_wp2_with fail
                  refine ⟨⟨n, A2, c2, row, s8, b8, rfl, hn5, Rl, O6, R6, K6, G9⟩, ?_⟩
                  unfold rMs
                  rw [badOf2_eq R6.out, badOf2_eq RJ.out, if_neg Hb0.out, if_pos rfl]
                  show 0 < sz + 1 - n
                  omega
      · by_cases hb0 : bj = 0
        · subst hb0
          have hns : ¬ n < sz := fun h => hex ⟨h, rfl⟩
          obtain ⟨h1, h2, h3, h4, f, h5, h6⟩ := GR.out.2 rfl
          have hnz : n = sz := by have := Rl.out; omega
          have GF := hid (show dynM v.L s.k = fin2 aN (.ok (sj.k, row)) from by
            rw [h6]
            cases f with
            | zero => rfl
            | succ f => rw [rowM, if_pos (by rw [Rl.out]; omega)])
          have HS := hid (show sj.size = s.size ∧ sj.toks = s.toks from ⟨h1, h2⟩)
          have HB := hid h3
          have e1 : decide (n < sz) = false := decide_eq_false hns
          have e2 : decide ((n : Int) < (sz : Int)) = false := decide_eq_false (by omega)
          clear h1 h2 h3 h4 h5 h6 hex GR hns
          obtain ⟨rb, hAr, hrbb, hrbw⟩ := own_block OW.out (show 0 < n by have := Hsz.out; omega)
          subst hAr
          obtain ⟨_, _, hf, hncap⟩ := own_form OW.out
          cases hf
          have hnab : n = aN + bN := hnz.trans Hsz.out.symm
          have hsl : ∀ w : World, (Instr.slice 80 (.slice (some ⟨rb, 0, none⟩) n c') (some (.int .i64 (aN : Int))) none none).run Tryz.prog w = .ok (.slice (some ⟨rb, aN, none⟩) bN (c' - aN)) w := slice_l2 rb n c' aN bN (by omega) hncap (by omega)
          have hsh : ∀ w : World, (Instr.slice 80 (.slice (some ⟨rb, 0, none⟩) n c') none (some (.int .i64 (aN : Int))) none).run Tryz.prog w = .ok (.slice (some ⟨rb, 0, none⟩) aN c') w := slice_h2 rb n c' aN (by omega)
          have hI : IRowB wr (some ⟨rb, 0, none⟩) row := IRowB.own (c := c') (base := w7.heap.size) (by rw [Rl.out]; exact OW.out)
          have hI1 : IRowB wr (some ⟨rb, 0, none⟩) (row.take aN) := by have := IRowB.part hI 0 aN; rw [List.drop_zero] at this; exact this
          have hI2 : IRowB wr (some ⟨rb, aN, none⟩) (row.drop aN) := by have := IRowB.part hI aN bN; rw [Nat.zero_add, List.take_of_length_le (by rw [List.length_drop, Rl.out]; omega)] at this; exact this
          have hl1 : (row.take aN).length = aN := by rw [List.length_take, Rl.out]; omega
          have hl2 : (row.drop aN).length = bN := by rw [List.length_drop, Rl.out]; omega
          have I1 := hid hI1
          have I2 := hid hI2
          have L1 := hid hl1
          have L2 := hid hl2
          have W1 := hid (whole_at (some ⟨rb, 0, none⟩) c' aN (row.take aN) wr hl1 hI1 (by omega))
          have W2 := hid (whole_at (some ⟨rb, aN, none⟩) (c' - aN) bN (row.drop aN) wr hl2 hI2 (by omega))
          have S2 := hid (sum_at (some ⟨rb, aN, none⟩) (c' - aN) bN (row.drop aN) wr hl2 hI2 (fun x hx => HB.out x (List.mem_of_mem_drop hx)) (by omega))
          have rc := OW.out.cellAt 256 (by omega)
          have rc2 : wr.cell? ⟨rb, 256, none⟩ = some (.int .i64 (row.getD 256 0)) := by
            rw [rc]
            unfold intsV
            rw [List.getElem?_map, List.getD_eq_getElem?_getD, List.getElem?_eq_getElem (show 256 < row.length by rw [Rl.out]; omega)]
            rfl
          have LE := hid (fun (wq : World) (hk : Kp wr wq) => len_two (v := v) (s := s) (c := c') (d := c' - aN) (hI1.kp hk) (hI2.kp hk) hl1 hl2 (by omega) (by omega) (K7.out.trans (KJ2.out.trans hk)))
          have F := hid (fail_any RJ.out 2)
          obtain ⟨r256, hr256⟩ : ∃ r, r = row.getD 256 0 := ⟨_, rfl⟩
          rw [← hr256] at rc2
          have hgf := GF.out
          unfold fin2 at hgf
          dsimp only at hgf
          rw [← hr256] at hgf
          have Hgf := hid hgf
          have hn256 : 256 < n := by omega
          clear hnab hI hI1 hI2 hl1 hl2 rc hr256 hgf GF hnz HB OW
          cases hw1 : fullB (row.take aN) with
          | false =>
            rw [hw1] at W1
            have GE := hid (show dynM v.L s.k = .error 2 from by rw [Hgf.out, if_pos (.inl hw1)])
            clear hw1 Hgf
            go_wp2_with fail
            refine W1.out.mono ?_
            rintro e w9 ⟨rfl, rfl⟩
            go_wp2_with fail
            refine F.out.mono ?_
            rintro e w9 ⟨rfl, hr9, hk9⟩
            have R9 := hid hr9
            have K9 := hid hk9
            clear hr9 hk9
            go_upto_region 46 with (fail)
            go_quiet (fail)
            go_wp2_with fail
            go_ret2
            refine (LE.out _ (K9.out.trans (R9.out.drewN _).2)).1 2 GE.out (by decide) ?_
            exact ⟨_, (R9.out.drewN _).1⟩
          | true =>
            rw [hw1] at W1
            by_cases h256 : r256 = 0
            · have d6 : (r256 == 0) = true := by rw [beq_iff_eq]; exact h256
              have GE := hid (show dynM v.L s.k = .error 2 from by rw [Hgf.out, if_pos (.inr (.inl h256))])
              clear hw1 Hgf h256
              go_wp2_with fail
              refine W1.out.mono ?_
              rintro e w9 ⟨rfl, rfl⟩
              go_wp2_with fail
              refine F.out.mono ?_
              rintro e w9 ⟨rfl, hr9, hk9⟩
              have R9 := hid hr9
              have K9 := hid hk9
              clear hr9 hk9
              go_upto_region 46 with (fail)
              go_quiet (fail)
              go_wp2_with fail
              go_ret2
              refine (LE.out _ (K9.out.trans (R9.out.drewN _).2)).1 2 GE.out (by decide) ?_
              exact ⟨_, (R9.out.drewN _).1⟩
            · have d6 : (r256 == 0) = false := by rw [beq_eq_false_iff_ne]; exact h256
              cases hw2 : fullB (row.drop aN) with
              | true =>
                rw [hw2] at W2
                have GE := hid (show dynM v.L s.k = .ok (sj.k, row.take aN, row.drop aN) from by
                  rw [Hgf.out, if_neg]
                  rintro (h | h | h)
                  · rw [hw1] at h; cases h
                  · exact h256 h
                  · rw [hw2] at h; cases h.1)
                clear hw1 hw2 Hgf h256
                go_wp2_with fail
                refine W1.out.mono ?_
                rintro e w9 ⟨rfl, rfl⟩
                go_wp2_with fail
                refine W2.out.mono ?_
                rintro e w9 ⟨rfl, rfl⟩
                go_upto_region 46 with (fail)
                go_quiet (fail)
                go_wp2_with fail
                go_ret2
                refine (LE.out _ (RJ.out.drewN _).2).2 sj.k GE.out ?_
                have hh := (RJ.out.drewN nq).1
                rw [show sj = (⟨sj.k, s.size, s.toks⟩ : Sk) from by rw [← HS.out.1, ← HS.out.2]] at hh
                exact hh
              | false =>
                rw [hw2] at W2
                by_cases hs1 : 1 < (row.drop aN).sum
                · have d7 : decide (1 < (row.drop aN).sum) = true := decide_eq_true hs1
                  have GE := hid (show dynM v.L s.k = .error 2 from by rw [Hgf.out, if_pos (.inr (.inr ⟨hw2, hs1⟩))])
                  clear hw1 hw2 Hgf h256 hs1
                  go_wp2_with fail
                  refine W1.out.mono ?_
                  rintro e w9 ⟨rfl, rfl⟩
                  go_wp2_with fail
                  refine W2.out.mono ?_
                  rintro e w9 ⟨rfl, rfl⟩
                  go_wp2_with fail
                  refine S2.out.mono ?_
                  rintro e w9 ⟨rfl, rfl⟩
                  go_wp2_with fail
                  refine F.out.mono ?_
                  rintro e w9 ⟨rfl, hr9, hk9⟩
                  have R9 := hid hr9
                  have K9 := hid hk9
                  clear hr9 hk9
                  go_upto_region 46 with (fail)
                  go_quiet (fail)
                  go_wp2_with fail
                  go_ret2
                  refine (LE.out _ (K9.out.trans (R9.out.drewN _).2)).1 2 GE.out (by decide) ?_
                  exact ⟨_, (R9.out.drewN _).1⟩
                · have d7 : decide (1 < (row.drop aN).sum) = false := decide_eq_false hs1
                  have GE := hid (show dynM v.L s.k = .ok (sj.k, row.take aN, row.drop aN) from by
                    rw [Hgf.out, if_neg]
                    rintro (h | h | h)
                    · rw [hw1] at h; cases h
                    · exact h256 h
                    · exact hs1 h.2)
                  clear hw1 hw2 Hgf h256 hs1
                  go_wp2_with fail
                  refine W1.out.mono ?_
                  rintro e w9 ⟨rfl, rfl⟩
                  go_wp2_with fail
                  refine W2.out.mono ?_
                  rintro e w9 ⟨rfl, rfl⟩
                  go_wp2_with fail
                  refine S2.out.mono ?_
                  rintro e w9 ⟨rfl, rfl⟩
                  go_upto_region 46 with (fail)
                  go_quiet (fail)
                  go_wp2_with fail
                  go_ret2
                  refine (LE.out _ (RJ.out.drewN _).2).2 sj.k GE.out ?_
                  have hh := (RJ.out.drewN nq).1
                  rw [show sj = (⟨sj.k, s.size, s.toks⟩ : Sk) from by rw [← HS.out.1, ← HS.out.2]] at hh
                  exact hh
        · have e3 : (bj == 0) = false := by rw [beq_eq_false_iff_ne]; exact hb0
          have e3b : (bj != 0) = true := by rw [bne, e3]; rfl
          have GE := hid (GR.out.1 hb0)
          have H0 := hid hb0
          by_cases hns : n < sz
          case' pos =>
            have e1 : decide (n < sz) = true := decide_eq_true hns
            have e2 : decide ((n : Int) < (sz : Int)) = true := decide_eq_true (by omega)
          case' neg =>
            have e1 : decide (n < sz) = false := decide_eq_false hns
            have e2 : decide ((n : Int) < (sz : Int)) = false := decide_eq_false (by omega)
          all_goals
            clear hex GR hb0
            go_wp2_with fail
            go_ret2
            exact len_err (K7.out.trans KJ2.out) GE.out H0.out RJ.out
end Go.Proofs.YthhllollhjpheaaGreat
