/-
  burnishref04.plus and List: codes of given lengths.
-/
import Derived.Test.YtlekobompjehdaaMgF
import Derived.Test.YtlekobompjehdaaMgL
namespace Go.Proofs.Ytlekobompjehdaa
open Go.RowKit Mg

/-- a number put into an own row -/
theorem own_put {w : World} {base g n c j : Nat} {xs : List Value} (h : w.ownsRow base 3 1 (.slice (some ⟨g, 0, none⟩) n c) n xs) (hj : j < n) (u : Value) : (w.setCell ⟨g, j, none⟩ u).ownsRow base 3 1 (.slice (some ⟨g, 0, none⟩) n c) n (xs.set j u) := by
  obtain ⟨h1, h2⟩ := h
  rcases h2 with ⟨hv, h0⟩ | ⟨g', cap, cur, hv, hb, hg, hn, hm, hs, ht⟩
  · omega
  · injection hv with hA _ hc
    injection hA with hA
    injection hA with hA _ _
    subst hA hc
    refine ⟨by rw [List.length_set]; exact h1, .inr ⟨g, c, cur.setIfInBounds j u, rfl, hb, Blk.set_ hg j u, hn, hm, by simpa using hs, ?_⟩⟩
    rw [← ht]
    simp [List.take_set]
def PlusEnd (n : Nat) (W : World) (e : Ending) (w' : World) : Prop := ∃ A' c' s', e = .returned (.slice A' n c') ∧ s'.length = n ∧ w'.ownsRow W.heap.size 3 1 (.slice A' n c') n (intsV (ints s')) ∧ Below W.heap.size W w'
set_option maxRecDepth 100000 in
set_option maxHeartbeats 2000000 in
theorem plus_any (A : Option Addr) (c n : Nat) (s : List Nat) (W : World) (h : RdI W W.heap.size A (ints s)) (hs : s.length = n) (hm : n ≤ 1000) : Calls Try.prog 82 #[.slice A n c] W (PlusEnd n W) := by
  obtain ⟨i0, hi0, hz0, hz1, hz2⟩ := info_parts int_info
  have Hi0 := hid hi0
  have Hz0 := hid hz0
  have Hz1 := hid hz1
  have Hz2 := hid hz2
  have hl : (ints s).length = n := by simp [ints, hs]
  have hrd : Rd W W.heap.size 1 A n (intsV (ints s)) := by
    have := h
    unfold RdI at this
    rw [intsV_eq, hl] at this
    exact this
  have HR := hid (hrd.alloc (Nat.le_refl _) (.cells #[] 3))
  have HN := hid (show A = none → n = 0 from fun hA => rd_nil hrd (by omega) hA)
  have H1 := hid (show ∀ u ∈ intsV (ints s), u.oneCell' = true from fun u hu => by obtain ⟨x, _, rfl⟩ := List.mem_map.1 hu; rfl)
  have HO := hid (show (W.alloc (.cells #[] 3)).ownsRow W.heap.size 3 1 (.slice (some ⟨W.heap.size, 0, none⟩) 0 0) 0 [] from ⟨rfl, .inr ⟨W.heap.size, 0, #[], rfl, Nat.le_refl _, Blk.new W _ #[], Nat.le_refl _, by simp [maxLen], rfl, rfl⟩⟩)
  have Hs := hid hs
  clear h hs hl hrd hi0 hz0 hz1 hz2
  go_enter Try.func82, Try.ntmps82
  go_wp2_with (at_builtin; refine wpList_app _ rfl _ _ _ rfl W.heap.size 3 i0 (.int .i64 0) 1 8 Try.underlying22 Hi0.out Hz0.out Hz1.out Hz2.out rfl (by omega) (some ⟨W.heap.size, 0, none⟩) 0 0 [] rfl HO.out _ A n c (intsV (ints s)) rfl HR.out HN.out H1.out (by simp only [maxLen]; omega) (by omega) (by simp) ?_; intro A3 c3 w3 ha3; have O3 := hid ha3.1; have B3 := hid ((Below.refl W.heap.size W).alloc (Nat.le_refl _) (.cells #[] 3) |>.trans ha3.2.2.1); clear ha3)
  have o3 := O3.out
  rw [Nat.zero_add, List.nil_append] at o3
  have O3' := hid o3
  clear o3 O3 HR HN H1 HO
  go_loopw [4] (fun iv wr => ∃ (j : Nat) (s' : List Nat), j ≤ n ∧ iv = .int .i64 ((j : Int) - 1) ∧ Hid (s'.length = n) ∧ Hid (wr.ownsRow W.heap.size 3 1 (.slice A3 n c3) n (intsV (ints s'))) ∧ Hid (Below W.heap.size W wr)) (fun iv _ => (intOf iv + 1).toNat)
  case atStart => exact ⟨n, s, Nat.le_refl _, by first | rfl | go_num, Hs, O3', B3⟩
  case round =>
    obtain ⟨j, s', hj, rfl, HL, O, B⟩ := hrel
    by_cases hlt : 0 < j
    · obtain ⟨i, rfl⟩ : ∃ i, j = i + 1 := ⟨j - 1, by omega⟩
      rw [show ((i + 1 : Nat) : Int) - 1 = (i : Int) by omega]
      obtain ⟨g, hA, hg, hgw⟩ := own_block O.out (by omega)
      subst hA
      have hr := own_rdi' O.out (by simp [ints, HL.out])
      obtain ⟨g', og, hA, _, x0⟩ := int_at hr (j := i) (by simp [ints, HL.out]; omega)
      injection hA with hA
      injection hA with e1 e2 _
      subst e1 e2
      have hv : (ints s')[i]'(by simp [ints, HL.out]; omega) = ((s'[i]'(by rw [HL.out]; omega) : Nat) : Int) := by simp [ints]
      rw [hv, Nat.zero_add] at x0
      have fz := World.ownsRow.frozenAt O.out i
      have hin : i < n := by omega
      have hset : ∀ v : Nat, (intsV (ints s')).set i (.int .i64 (v : Int)) = intsV (ints (s'.set i v)) := fun v => by simp [intsV, ints, List.map_set]
      have P := hid (fun v : Nat => show (wr.setCell ⟨g, i, none⟩ (.int .i64 (v : Int))).ownsRow W.heap.size 3 1 (.slice (some ⟨g, 0, none⟩) n c3) n (intsV (ints (s'.set i v))) from by
        have h := own_put O.out hin (.int .i64 (v : Int))
        rw [hset v] at h
        exact h)
      have Q := hid (fun v : Nat => B.out.setCell (p := ⟨g, i, none⟩) hg (.int .i64 (v : Int)))
      have HL2 := hid (fun v : Nat => show (s'.set i v).length = n by rw [List.length_set]; exact HL.out)
      generalize s'[i]'(by rw [HL.out]; omega) = u at *
      clear hr hv hset
      by_cases hu : u = 0
      · have d1 : ((u : Int) == 0) = true := by rw [hu]; rfl
        clear hu
        go_wp2
        go_ret
        exact ⟨some ⟨g, 0, none⟩, c3, s'.set i 1, rfl, HL2.out 1, P.out 1, Q.out 1⟩
      · have d1 : ((u : Int) == 0) = false := beq_eq_false_iff_ne.2 (by omega)
        clear hu
        go_wp2
        go_roundw
        case rel => exact ⟨i, s'.set i 0, by omega, by first | rfl | go_num, hid (HL2.out 0), hid (P.out 0), hid (Q.out 0)⟩
        case measure => simp [intOf] <;> omega
    · obtain rfl : j = 0 := by omega
      rw [show ((0 : Nat) : Int) - 1 = -1 by omega]
      go_wp2
      go_ret
      exact ⟨A3, c3, s', rfl, HL.out, O.out, B.out⟩
end Go.Proofs.Ytlekobompjehdaa
