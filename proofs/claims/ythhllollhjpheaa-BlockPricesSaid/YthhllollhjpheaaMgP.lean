/-
  burnishref05.Used: the counts that aren't 0, the greatest first.
-/
import Derived.Test.YthhllollhjpheaaMgO
namespace Go.Proofs.Ythhllollhjpheaa
open Go.RowKit Mg

theorem own_prefix {w : World} {base k n c : Nat} {e : TypeId} {A : Option Addr} {xs : List Value} (h : w.ownsRow base e 1 (.slice A n c) n xs) (hk : k ≤ n) : w.ownsRow base e 1 (.slice A k c) k (xs.take k) := by
  obtain ⟨h1, h2⟩ := h
  refine ⟨by rw [List.length_take]; omega, ?_⟩
  rcases h2 with ⟨hv, h0⟩ | ⟨g, cap, cur, hv, hb, hg, hn, hm, hs, ht⟩
  · injection hv with hA _ hc
    subst hA hc
    have : k = 0 := by omega
    subst this
    exact .inl ⟨rfl, rfl⟩
  · injection hv with hA _ hc
    subst hA hc
    refine .inr ⟨g, c, cur, rfl, hb, hg, by omega, hm, hs, ?_⟩
    rw [← ht, List.take_take]
    congr 1
    omega
/-- in order, and a permutation -/
theorem ins_desc {L : List Int} {x : Int} {k : Nat} (hL : L.Pairwise (· ≥ ·)) (hk : k ≤ L.length) (h1 : k = 0 ∨ x ≤ L.getD (k - 1) 0) (h2 : ∀ j, k ≤ j → j < L.length → L.getD j 0 < x) : (L.take k ++ (x :: L.drop k)).Pairwise (· ≥ ·) ∧ (L.take k ++ (x :: L.drop k)).Perm (x :: L) := by
  have hp : (L.take k ++ (x :: L.drop k)).Perm (x :: L) := by
    have := List.perm_middle (a := x) (l₁ := L.take k) (l₂ := L.drop k)
    rwa [List.take_append_drop] at this
  refine ⟨?_, hp⟩
  have hh := hL
  rw [← List.take_append_drop k L] at hh
  obtain ⟨p1, p2, p3⟩ := List.pairwise_append.1 hh
  have hd : ∀ y ∈ L.drop k, y < x := by
    intro y hy
    obtain ⟨j, hj, rfl⟩ := List.mem_iff_getElem.1 hy
    rw [List.getElem_drop]
    rw [List.length_drop] at hj
    have := h2 (k + j) (by omega) (by omega)
    rwa [List.getD_eq_getElem?_getD, List.getElem?_eq_getElem (show k + j < L.length by omega)] at this
  have ht : ∀ y ∈ L.take k, x ≤ y := by
    intro y hy
    obtain ⟨j, hj, rfl⟩ := List.mem_iff_getElem.1 hy
    rw [List.length_take] at hj
    rw [List.getElem_take]
    rcases h1 with h1 | h1
    · omega
    · rw [List.getD_eq_getElem?_getD, List.getElem?_eq_getElem (show k - 1 < L.length by omega)] at h1
      simp only [Option.getD_some] at h1
      by_cases e : j = k - 1
      · subst e
        exact h1
      · have := List.pairwise_iff_getElem.1 hL j (k - 1) (by omega) (by omega) (by omega)
        have : L[j] ≥ L[k - 1] := this
        omega
  refine List.pairwise_append.2 ⟨p1, List.pairwise_cons.2 ⟨fun y hy => Int.le_of_lt (hd y hy), p2⟩, fun a ha b hb => ?_⟩
  rcases List.mem_cons.1 hb with rfl | hb
  · exact ht a ha
  · have := ht a ha
    have := hd b hb
    omega
/-- two lists in order of the same numbers are one list -/
theorem desc_eq : ∀ {a b : List Int}, a.Pairwise (· ≥ ·) → b.Pairwise (· ≥ ·) → a.Perm b → a = b := by
  intro a b ha hb hp
  exact List.Perm.eq_of_pairwise (le := fun x y => decide (x ≥ y)) (fun x y _ _ h1 h2 => by simp at h1 h2; omega) (ha.imp (by intro x y h; simpa using h)) (hb.imp (by intro x y h; simpa using h)) hp
theorem dsc_sorted {l : List It} (h : l.Pairwise Le) : (dsc l).Pairwise (· ≥ ·) := by
  unfold dsc
  rw [List.pairwise_reverse, List.pairwise_map]
  exact h.imp fun h => h.w
theorem dsc_perm (c : List Int) : (dsc (itemsOf c)).Perm ((itemsTo c c.length).map (·.w)) :=
  (List.reverse_perm _).trans ((isort_perm _).map _)
/-- what the inner append leaves for the outer one -/
theorem inner_app {w1 w2 : World} {base g n c c2 b0 k nk : Nat} {A2 : Option Addr} {xs ys : List Value} {v : Value} (ho : w1.ownsRow base 3 1 (.slice (some ⟨g, 0, none⟩) n c) n xs) (hk : k ≤ n) (hg : g < b0)
    (ha : Apped w1 base 3 1 (some ⟨b0, 0, none⟩) 1 1 [v] nk ys A2 c2 w2) :
    w2.ownsRow base 3 1 (.slice (some ⟨g, 0, none⟩) k c) k (xs.take k) ∧ Rd w2 w2.heap.size 1 A2 (1 + nk) ([v] ++ ys) ∧ (A2 = none → 1 + nk = 0) := by
  obtain ⟨h1, h2, h3, h4⟩ := ha
  refine ⟨own_prefix (ho.kept h2 (.inr (by simp [Value.ownBlock]; omega))) hk, own_rd h1, fun hA => ?_⟩
  subst hA
  rcases h1.2 with ⟨hv, h0⟩ | ⟨g', cap, cur, hv, _⟩
  · omega
  · injection hv with hv
    cases hv
theorem inner_app0 {w1 w2 : World} {base c2 b0 nk : Nat} {A2 : Option Addr} {ys : List Value} {v : Value} (ha : Apped w1 base 3 1 (some ⟨b0, 0, none⟩) 1 1 [v] nk ys A2 c2 w2) :
    w2.ownsRow base 3 1 (.slice none 0 0) 0 ([] : List Value) ∧ Rd w2 w2.heap.size 1 A2 (1 + nk) ([v] ++ ys) ∧ (A2 = none → 1 + nk = 0) := by
  obtain ⟨h1, h2, h3, h4⟩ := ha
  refine ⟨⟨rfl, .inl ⟨rfl, rfl⟩⟩, own_rd h1, fun hA => ?_⟩
  subst hA
  rcases h1.2 with ⟨hv, h0⟩ | ⟨g', cap, cur, hv, _⟩
  · omega
  · injection hv with hv
    cases hv
theorem used_own {w : World} {base k m c : Nat} {A : Option Addr} {L : List Int} {v : Int} (h : w.ownsRow base 3 1 (.slice A (k + m) c) (k + m) ((intsV L).take k ++ ([Value.int .i64 v] ++ intsV (L.drop k)))) : w.ownsRow base 3 1 (.slice A (k + m) c) (k + m) (intsV (L.take k ++ (v :: L.drop k))) := by
  have e : intsV (L.take k ++ (v :: L.drop k)) = (intsV L).take k ++ ([Value.int .i64 v] ++ intsV (L.drop k)) := by simp [intsV]
  rw [e]
  exact h
theorem one2 {v : Int} {ys : List Value} (h : ∀ u ∈ ys, u.oneCell' = true) : ∀ u ∈ [Value.int .i64 v] ++ ys, u.oneCell' = true := by
  intro u hu
  rcases List.mem_append.1 hu with hu | hu
  · rw [List.mem_singleton.1 hu]; rfl
  · exact h u hu
theorem used_map (l : List Int) (j : Nat) : (itemsTo l (j + 1)).map (·.w) = (itemsTo l j).map (·.w) ++ (if 0 < l.getD j 0 then [l.getD j 0] else []) := by
  show (if 0 < l.getD j 0 then itemsTo l j ++ [⟨l.getD j 0, [j]⟩] else itemsTo l j).map (·.w) = _
  split <;> simp
set_option maxRecDepth 100000 in
set_option maxHeartbeats 4000000 in
theorem usedref_any (A : Option Addr) (c : Nat) (l : List Int) (W : World) (h : RdI W W.heap.size A l) (hm : l.length ≤ 1000) :
    Calls Try.prog 24 #[.slice A l.length c] W fun e w' => ∃ A' c', e = .returned (.slice A' (dsc (itemsOf l)).length c') ∧ w'.ownsRow W.heap.size 3 1 (.slice A' (dsc (itemsOf l)).length c') (dsc (itemsOf l)).length (intsV (dsc (itemsOf l))) ∧ Below W.heap.size W w' := by
  have H := hid h
  clear h
  obtain ⟨i0, hi0, hz0, hz1, hz2⟩ := info_parts int_info
  have Hi0 := hid hi0
  have Hz0 := hid hz0
  have Hz1 := hid hz1
  have Hz2 := hid hz2
  clear hi0 hz0 hz1 hz2
  obtain ⟨N, hN⟩ : ∃ N, N = l.length := ⟨_, rfl⟩
  have HN := hid hN
  rw [← hN] at hm ⊢
  clear hN
  go_enter Try.func24, Try.ntmps24
  go_upto_region 3 with (fail)
  go_loopw [3, 4] (fun ov iv wr => ∃ (j n : Nat) (A' : Option Addr) (c' : Nat) (L : List Int), j ≤ N ∧ iv = .int .i64 (j : Int) ∧ ov = .slice A' n c' ∧ Hid (L.length = n) ∧ n ≤ j ∧ Hid (wr.ownsRow W.heap.size 3 1 (.slice A' n c') n (intsV L)) ∧ Hid (Below W.heap.size W wr) ∧ Hid (L.Pairwise (· ≥ ·) ∧ L.Perm ((itemsTo l j).map (·.w)))) (fun _ i _ => N - (intOf i).toNat)
  case atStart => exact ⟨0, 0, none, 0, [], by omega, rfl, rfl, hid rfl, Nat.le_refl _, hid ⟨rfl, .inl ⟨rfl, rfl⟩⟩, hid (Below.refl _ _), hid ⟨.nil, .refl _⟩⟩
  case round =>
    obtain ⟨j, n, A', c', L, hj, rfl, rfl, hL, hnj, O, B, P⟩ := hrel
    by_cases hlt : j < N
    · have d1 : decide (j < N) = true := decide_eq_true hlt
      obtain ⟨b, off, rfl, hb, x0⟩ := int_at (H.out.below B.out (Nat.le_refl _)) (j := j) (by rw [← HN.out]; exact hlt)
      have hs := B.out.size
      have st := used_map l j
      have ev : l.getD j 0 = l[j]'(by rw [← HN.out]; exact hlt) := by rw [List.getD_eq_getElem?_getD, List.getElem?_eq_getElem (by rw [← HN.out]; exact hlt)]; rfl
      rw [ev] at st
      have hbs : b < wr.heap.size := by omega
      generalize l[j]'(by rw [← HN.out]; exact hlt) = v at *
      clear ev
      by_cases hv : 0 < v
      · have d2 : decide (0 < v) = true := decide_eq_true hv
        rw [if_pos hv] at st
        have St := hid st
        clear st hv
        go_upto_region 7 with (fail)
        generalize wr = wk at *
        go_loopw [5] (fun kv wr => ∃ k : Nat, k ≤ n ∧ kv = .int .i64 (k : Int) ∧ Hid (∀ y, k ≤ y → y < n → L.getD y 0 < v) ∧ Hid (Below wk.heap.size wk wr)) (fun kv _ => (intOf kv).toNat)
        case atStart => exact ⟨n, Nat.le_refl _, rfl, hid (fun y h1 h2 => by omega), hid (Below.refl _ _)⟩
        case round =>
          obtain ⟨k, hk, rfl, K, D⟩ := hrel
          have x1 : wr.cell? ⟨b, off + j, none⟩ = some (.int .i64 v) := (D.out.cell (p := ⟨b, off + j, none⟩) hbs).trans x0
          have hbw : b < wr.heap.size := by have := D.out.size; omega
          have O2 := hid (own_below O.out D.out (Nat.le_refl _))
          go_upto_region 7 with (fail)
          go_cut [32] from 19 to 32 (fun tv wq => ∃ bb : Bool, tv = .bool bb ∧ Hid (bb = true ↔ (0 < k ∧ L.getD (k - 1) 0 < v)) ∧ Hid (Below wr.heap.size wr wq))
          case first =>
            by_cases hk0 : 0 < k
            · have d3 : decide (0 < k) = true := decide_eq_true hk0
              obtain ⟨k1, hk1⟩ : ∃ k1, k1 = k - 1 := ⟨_, rfl⟩
              have t1 : IntKind.i64.wrap ((k : Int) - 1) = (k1 : Int) := (IntWalk.i64_in _ (by omega)).trans (by omega)
              have r := own_rdi' O2.out hL.out.symm
              obtain ⟨g, og, hA, hg, y0⟩ := int_at r (j := k1) (by rw [hL.out]; omega)
              have e1 : L.getD (k - 1) 0 = L[k1]'(by rw [hL.out]; omega) := by rw [← hk1, List.getD_eq_getElem?_getD, List.getElem?_eq_getElem (by rw [hL.out]; omega)]; rfl
              subst hA
              have hk1n : k1 < n := by omega
              generalize L[k1]'(by rw [hL.out]; omega) = u at *
              have Hk0 := hid hk0
              have E1 := hid e1
              clear r e1 hk1 hk0
              by_cases hu : u < v
              · have d4 : decide (u < v) = true := decide_eq_true hu
                have Hu := hid hu
                clear hu
                go_wp2
                go_quiet (fail)
                go_wp2
                go_meet
                exact ⟨true, rfl, hid (iff_of_true rfl ⟨Hk0.out, by rw [E1.out]; exact Hu.out⟩), hid (below_drewN (Below.refl _ _) _)⟩
              · have d4 : decide (u < v) = false := decide_eq_false hu
                have Hu := hid hu
                clear hu
                go_wp2
                go_quiet (fail)
                go_wp2
                go_meet
                exact ⟨false, rfl, hid (iff_of_false Bool.false_ne_true (fun h => by have h2 := h.2; rw [E1.out] at h2; have := Hu.out; omega)), hid (below_drewN (Below.refl _ _) _)⟩
            · have d3 : decide (0 < k) = false := decide_eq_false hk0
              have Hk0 := hid hk0
              clear hk0
              go_wp2
              go_quiet (fail)
              go_wp2
              go_meet
              exact ⟨false, rfl, hid (iff_of_false Bool.false_ne_true (fun h => Hk0.out h.1)), hid (below_drewN (Below.refl _ _) _)⟩
          case rest =>
            obtain ⟨bb, rfl, Hbb, E⟩ := hcut
            have D2 := hid (D.out.trans (E.out.mono D.out.size))
            cases bb
            · have Hst := hid (show k = 0 ∨ v ≤ L.getD (k - 1) 0 from by
                have h := Hbb.out
                rcases Nat.eq_zero_or_pos k with h0 | h0
                · exact .inl h0
                · right
                  apply Decidable.byContradiction
                  intro hn
                  have := h.2 ⟨h0, by omega⟩
                  cases this)
              have O3 := hid (own_below O.out D2.out (Nat.le_refl _))
              have B3 := hid (B.out.trans (D2.out.mono hs))
              have NP := hid (ins_desc P.out.1 (by rw [hL.out]; exact hk) Hst.out (fun y h1 h2 => K.out y h1 (by rw [← hL.out]; exact h2)))
              have x2 : wc.cell? ⟨b, off + j, none⟩ = some (.int .i64 v) := (D2.out.cell (p := ⟨b, off + j, none⟩) hbs).trans x0
              clear x0 x1 D E D2 Hst Hbb K O B O2
              rcases O3.out.2 with ⟨hv, h0⟩ | ⟨g, cap, cur, hv, hgb, hgc, hn, hcm, hcs, hct⟩
              · injection hv with hA _ hc
                subst hA hc h0
                obtain rfl : L = [] := List.eq_nil_of_length_eq_zero hL.out
                obtain rfl : k = 0 := by omega
                have hws : W.heap.size ≤ wc.heap.size := B3.out.size
                have OL := hid (show ((wc.alloc (.cells #[.int .i64 v] 3)).drew).ownsRow W.heap.size 3 1 (.slice (some ⟨wc.heap.size, 0, none⟩) 1 1) 1 [.int .i64 v] from ⟨rfl, .inr ⟨wc.heap.size, 1, #[.int .i64 v], rfl, B3.out.size, Blk.new _ _ _, Nat.le_refl _, by simp [maxLen], rfl, rfl⟩⟩)
                have KA : (wc.alloc (.cells #[.int .i64 v] 3)).drew.cell? ⟨b, off + j, none⟩ = some (.int .i64 v) := ((Below.drew ((Below.refl wc.heap.size wc).alloc (Nat.le_refl _) (.cells #[.int .i64 v] 3))).cell (p := ⟨b, off + j, none⟩) (by show b < _; omega)).trans x2
                have hw1 : W.heap.size ≤ (wc.alloc (.cells #[.int .i64 v] 3)).drew.heap.size := by show W.heap.size ≤ (wc.alloc _).heap.size; rw [World.size_alloc]; omega
                go_upto_region 9 with (fail)
                go_region_held3 (fun w' => w'.cell? ⟨b, off + j, none⟩ = some (.int .i64 v)) (first | go_keep | exact x2 | exact KA | exact K2.out | exact K3.out) (first
                  | (refine step_app _ (by rfl) (.tmp 42) (.tmp 45) _ (by rfl) W.heap.size 3 i0 (.int .i64 0) 1 8 Try.underlying48 Hi0.out Hz0.out Hz1.out Hz2.out rfl (by omega) (some ⟨wc.heap.size, 0, none⟩) 1 1 [.int .i64 v] (by rfl) OL.out _ none 0 0 [] (by rfl) (Rd.nil (B := 0)) (by simp) (by simp) (by simp only [maxLen]; omega) (by omega) hw1 ?_; intro A2 c2 w2 ha2; have K2 := hid ((ha2.2.2.1.cell (p := ⟨b, off + j, none⟩) hb).trans KA); have IA := hid (inner_app0 ha2); have Bb := hid ha2.2.2.1; clear ha2)
                  | (refine step_app _ (by rfl) (.tmp 37) (.tmp 46) _ (by rfl) W.heap.size 3 i0 (.int .i64 0) 1 8 Try.underlying48 Hi0.out Hz0.out Hz1.out Hz2.out rfl (by omega) none 0 0 ([] : List Value) (by rfl) IA.out.1 _ A2 (1 + 0) c2 ([.int .i64 v] ++ []) (by rfl) IA.out.2.1 IA.out.2.2 (one2 (by simp)) (by simp only [maxLen]; omega) (by omega) (Nat.le_trans hw1 Bb.out.size) ?_; intro A3 c3 w3 ha3; have K3 := hid ((ha3.2.2.1.cell (p := ⟨b, off + j, none⟩) hb).trans K2.out); have R3 := hid ha3.1; have B5 := hid (((B3.out.alloc hws (.cells #[.int .i64 v] 3)).drew.trans Bb.out).trans ha3.2.2.1); clear ha3))
                go_wp2
                go_roundw
                case rel => exact ⟨j + 1, 0 + (1 + 0), A3, c3, [v], by omega, by go_num, rfl, hid rfl, by omega, hid R3.out, B5, hid ⟨by simp, by rw [St.out]; exact ((P.out.2.cons v).trans (List.perm_append_singleton v _).symm)⟩⟩
                case measure => simp [intOf]; omega
              · injection hv with hA _ hc
                subst hA hc
                have hgw : g < wc.heap.size := Blk.lt hgc
                have hr := own_rd O3.out
                obtain ⟨nk, hnk⟩ : ∃ nk, nk = n - k := ⟨_, rfl⟩
                have OL := hid (show ((wc.alloc (.cells #[.int .i64 v] 3)).drew).ownsRow W.heap.size 3 1 (.slice (some ⟨wc.heap.size, 0, none⟩) 1 1) 1 [.int .i64 v] from ⟨rfl, .inr ⟨wc.heap.size, 1, #[.int .i64 v], rfl, B3.out.size, Blk.new _ _ _, Nat.le_refl _, by simp [maxLen], rfl, rfl⟩⟩)
                have O4 := hid (own_below O3.out (Below.drew ((Below.refl wc.heap.size wc).alloc (Nat.le_refl _) (.cells #[.int .i64 v] 3))) (Nat.le_refl _))
                have KA : (wc.alloc (.cells #[.int .i64 v] 3)).drew.cell? ⟨b, off + j, none⟩ = some (.int .i64 v) := ((Below.drew ((Below.refl wc.heap.size wc).alloc (Nat.le_refl _) (.cells #[.int .i64 v] 3))).cell (p := ⟨b, off + j, none⟩) (by have := B3.out.size; show b < _; omega)).trans x2
                have hws : W.heap.size ≤ wc.heap.size := B3.out.size
                by_cases hkn : k < n
                · have RS := hid (show Rd ((wc.alloc (.cells #[.int .i64 v] 3)).drew) wc.heap.size 1 (some ⟨g, k, none⟩) nk (intsV (L.drop k)) from by
                    refine ⟨by rw [intsV_length, List.length_drop, hL.out]; omega, fun _ => ⟨g, k, rfl, hgw, fun q u hu => ?_⟩⟩
                    obtain ⟨g', og, hA, hg', hcl⟩ := hr.at_ (k := k) hkn (by omega)
                    injection hA with hA
                    injection hA with e1 e2 _
                    subst e1 e2
                    have h1 := hcl (k + q) u (by
                      have : (intsV (L.drop k))[q]? = (intsV L)[k + q]? := by unfold intsV; rw [List.map_drop, List.getElem?_drop]
                      rw [← this]; exact hu)
                    rw [Nat.zero_add] at h1
                    exact ((Below.drew ((Below.refl wc.heap.size wc).alloc (Nat.le_refl _) (.cells #[.int .i64 v] 3))).cell (p := ⟨g, k + q, none⟩) hgw).trans h1)
                  have one : ∀ u ∈ intsV (L.drop k), u.oneCell' = true := by intro u hu; obtain ⟨x, _, rfl⟩ := List.mem_map.1 hu; rfl
                  have One := hid one
                  have q1 : (k : Int) ≤ (c' : Int) := by omega
                  have q2 : (k : Int) ≤ (n : Int) := by omega
                  have q3 : k < c' := by omega
                  have hw1 : W.heap.size ≤ (wc.alloc (.cells #[.int .i64 v] 3)).drew.heap.size := by show W.heap.size ≤ (wc.alloc _).heap.size; rw [World.size_alloc]; omega
                  rw [hnk] at RS
                  have q4 : ¬ c' = k := by omega
                  clear hr one hct hcs hgc hnk
                  go_upto_region 9 with (fail)
                  go_region_held3 (fun w' => w'.cell? ⟨b, off + j, none⟩ = some (.int .i64 v)) (first | go_keep | exact x2 | exact KA | exact K2.out | exact K3.out) (first
                    | (refine step_app _ (by rfl) (.tmp 42) (.tmp 45) _ (by rfl) W.heap.size 3 i0 (.int .i64 0) 1 8 Try.underlying48 Hi0.out Hz0.out Hz1.out Hz2.out rfl (by omega) (some ⟨wc.heap.size, 0, none⟩) 1 1 [.int .i64 v] (by rfl) OL.out _ (some ⟨g, k, none⟩) (n - k) (c' - k) (intsV (L.drop k)) (by rfl) RS.out (by simp) One.out (by simp only [maxLen]; omega) (by omega) hw1 ?_; intro A2 c2 w2 ha2; have K2 := hid ((ha2.2.2.1.cell (p := ⟨b, off + j, none⟩) hb).trans KA); have IA := hid (inner_app O4.out hk hgw ha2); have Bb := hid ha2.2.2.1; clear ha2)
                    | (refine step_app _ (by rfl) (.tmp 37) (.tmp 46) _ (by rfl) W.heap.size 3 i0 (.int .i64 0) 1 8 Try.underlying48 Hi0.out Hz0.out Hz1.out Hz2.out rfl (by omega) (some ⟨g, 0, none⟩) k c' ((intsV L).take k) (by rfl) IA.out.1 _ A2 (1 + (n - k)) c2 ([.int .i64 v] ++ intsV (L.drop k)) (by rfl) IA.out.2.1 IA.out.2.2 (one2 One.out) (by simp only [maxLen]; omega) (by omega) (Nat.le_trans hw1 Bb.out.size) ?_; intro A3 c3 w3 ha3; have K3 := hid ((ha3.2.2.1.cell (p := ⟨b, off + j, none⟩) hb).trans K2.out); have R3 := hid ha3.1; have B5 := hid (((B3.out.alloc hws (.cells #[.int .i64 v] 3)).drew.trans Bb.out).trans ha3.2.2.1); clear ha3))
                  go_wp2
                  go_roundw
                  case rel => exact ⟨j + 1, k + (1 + (n - k)), A3, c3, L.take k ++ (v :: L.drop k), by omega, by go_num, rfl, hid (by simp [hL.out]; omega), by omega, hid (used_own R3.out), B5, hid ⟨NP.out.1, by rw [St.out]; exact (NP.out.2.trans (P.out.2.cons v)).trans (List.perm_append_singleton v _).symm⟩⟩
                  case measure => simp [intOf]; omega
                · obtain rfl : k = n := by omega
                  have hw1 : W.heap.size ≤ (wc.alloc (.cells #[.int .i64 v] 3)).drew.heap.size := by show W.heap.size ≤ (wc.alloc _).heap.size; rw [World.size_alloc]; omega
                  have hdrop : intsV (L.drop k) = [] := by rw [List.drop_eq_nil_of_le (by rw [hL.out]; exact Nat.le_refl _)]; rfl
                  have q1 : (k : Int) ≤ (c' : Int) := by omega
                  clear hr hct hcs hgc hnk
                  by_cases hkc : c' = k
                  · clear q1
                    subst hkc
                    go_upto_region 9 with (fail)
                    go_region_held3 (fun w' => w'.cell? ⟨b, off + j, none⟩ = some (.int .i64 v)) (first | go_keep | exact x2 | exact KA | exact K2.out | exact K3.out) (first
                      | (refine step_app _ (by rfl) (.tmp 42) (.tmp 45) _ (by rfl) W.heap.size 3 i0 (.int .i64 0) 1 8 Try.underlying48 Hi0.out Hz0.out Hz1.out Hz2.out rfl (by omega) (some ⟨wc.heap.size, 0, none⟩) 1 1 [.int .i64 v] (by rfl) OL.out _ (some ⟨g, 0, none⟩) 0 0 [] (by rfl) (Rd.nil (B := 0)) (by simp) (by simp) (by simp only [maxLen]; omega) (by omega) hw1 ?_; intro A2 c2 w2 ha2; have K2 := hid ((ha2.2.2.1.cell (p := ⟨b, off + j, none⟩) hb).trans KA); have IA := hid (inner_app O4.out (Nat.le_refl _) hgw ha2); have Bb := hid ha2.2.2.1; clear ha2)
                      | (refine step_app _ (by rfl) (.tmp 37) (.tmp 46) _ (by rfl) W.heap.size 3 i0 (.int .i64 0) 1 8 Try.underlying48 Hi0.out Hz0.out Hz1.out Hz2.out rfl (by omega) (some ⟨g, 0, none⟩) c' c' ((intsV L).take c') (by rfl) IA.out.1 _ A2 (1 + 0) c2 ([.int .i64 v] ++ []) (by rfl) IA.out.2.1 IA.out.2.2 (one2 (by simp)) (by simp only [maxLen]; omega) (by omega) (Nat.le_trans hw1 Bb.out.size) ?_; intro A3 c3 w3 ha3; have K3 := hid ((ha3.2.2.1.cell (p := ⟨b, off + j, none⟩) hb).trans K2.out); have R3 := hid ha3.1; have B5 := hid (((B3.out.alloc hws (.cells #[.int .i64 v] 3)).drew.trans Bb.out).trans ha3.2.2.1); clear ha3))
                    go_wp2
                    go_roundw
                    case rel => exact ⟨j + 1, c' + (1 + 0), A3, c3, L.take c' ++ (v :: L.drop c'), by omega, by go_num, rfl, hid (by simp [hL.out]), by omega, hid (used_own (by rw [hdrop]; exact R3.out)), B5, hid ⟨NP.out.1, by rw [St.out]; exact (NP.out.2.trans (P.out.2.cons v)).trans (List.perm_append_singleton v _).symm⟩⟩
                    case measure => simp [intOf]; omega
                  · have q4 : ¬ c' = k := hkc
                    go_upto_region 9 with (fail)
                    go_region_held3 (fun w' => w'.cell? ⟨b, off + j, none⟩ = some (.int .i64 v)) (first | go_keep | exact x2 | exact KA | exact K2.out | exact K3.out) (first
                      | (refine step_app _ (by rfl) (.tmp 42) (.tmp 45) _ (by rfl) W.heap.size 3 i0 (.int .i64 0) 1 8 Try.underlying48 Hi0.out Hz0.out Hz1.out Hz2.out rfl (by omega) (some ⟨wc.heap.size, 0, none⟩) 1 1 [.int .i64 v] (by rfl) OL.out _ (some ⟨g, k, none⟩) 0 (c' - k) [] (by rfl) (Rd.nil (B := 0)) (by simp) (by simp) (by simp only [maxLen]; omega) (by omega) hw1 ?_; intro A2 c2 w2 ha2; have K2 := hid ((ha2.2.2.1.cell (p := ⟨b, off + j, none⟩) hb).trans KA); have IA := hid (inner_app O4.out (Nat.le_refl _) hgw ha2); have Bb := hid ha2.2.2.1; clear ha2)
                      | (refine step_app _ (by rfl) (.tmp 37) (.tmp 46) _ (by rfl) W.heap.size 3 i0 (.int .i64 0) 1 8 Try.underlying48 Hi0.out Hz0.out Hz1.out Hz2.out rfl (by omega) (some ⟨g, 0, none⟩) k c' ((intsV L).take k) (by rfl) IA.out.1 _ A2 (1 + 0) c2 ([.int .i64 v] ++ []) (by rfl) IA.out.2.1 IA.out.2.2 (one2 (by simp)) (by simp only [maxLen]; omega) (by omega) (Nat.le_trans hw1 Bb.out.size) ?_; intro A3 c3 w3 ha3; have K3 := hid ((ha3.2.2.1.cell (p := ⟨b, off + j, none⟩) hb).trans K2.out); have R3 := hid ha3.1; have B5 := hid (((B3.out.alloc hws (.cells #[.int .i64 v] 3)).drew.trans Bb.out).trans ha3.2.2.1); clear ha3))
                    go_wp2
                    go_roundw
                    case rel => exact ⟨j + 1, k + (1 + 0), A3, c3, L.take k ++ (v :: L.drop k), by omega, by go_num, rfl, hid (by simp [hL.out]), by omega, hid (used_own (by rw [hdrop]; exact R3.out)), B5, hid ⟨NP.out.1, by rw [St.out]; exact (NP.out.2.trans (P.out.2.cons v)).trans (List.perm_append_singleton v _).symm⟩⟩
                    case measure => simp [intOf]; omega
            · have Hst := hid (Hbb.out.1 rfl)
              have hk0 : 0 < k := Hst.out.1
              obtain ⟨k1, hk1⟩ : ∃ k1, k = k1 + 1 := ⟨k - 1, by omega⟩
              subst hk1
              have e1 : IntKind.i64.wrap (((k1 + 1 : Nat) : Int) - 1) = (k1 : Int) := (IntWalk.i64_in _ (by omega)).trans (by omega)
              clear x0 x1
              go_wp2
              go_roundw
              case rel => exact ⟨k1, by omega, by go_num, hid (fun y h1 h2 => by
                by_cases e : y = k1
                · subst e
                  have := Hst.out.2
                  simpa using this
                · exact K.out y (by omega) h2), D2⟩
              case measure => simp [intOf] <;> omega
      · have d2 : decide (0 < v) = false := decide_eq_false hv
        rw [if_neg hv, List.append_nil] at st
        have St := hid st
        clear st hv
        go_wp2
        go_roundw
        case rel => exact ⟨j + 1, n, A', c', L, by omega, by go_num, rfl, hL, by omega, O, B, hid ⟨P.out.1, by rw [St.out]; exact P.out.2⟩⟩
        case measure => simp [intOf]; omega
    · have d1 : decide (j < N) = false := decide_eq_false hlt
      obtain rfl : j = N := by omega
      have R := hid (show L = dsc (itemsOf l) from desc_eq P.out.1 (dsc_sorted (items_gl l).sorted) (by
        have h := P.out.2
        rw [HN.out] at h
        exact h.trans (dsc_perm l).symm))
      have Rl := hid (show (dsc (itemsOf l)).length = n by rw [← R.out]; exact hL.out)
      go_wp2
      go_ret
      exact ⟨A', c', by rw [Rl.out]; rfl, by rw [Rl.out, ← R.out]; exact O.out, B.out⟩
end Go.Proofs.Ythhllollhjpheaa
