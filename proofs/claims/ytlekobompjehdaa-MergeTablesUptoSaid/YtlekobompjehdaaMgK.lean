/-
  merge.Lengths: what is refused, and the best lengths.
-/
import Derived.Test.YtlekobompjehdaaMgJ
namespace Go.Proofs.Ytlekobompjehdaa
open Go.RowKit Mg

theorem pow_le16 {d : Nat} (h : d ≤ 16) : 2 ^ d ≤ 65536 := by
  have := Nat.pow_le_pow_right (n := 2) (by omega) h
  omega
theorem shl_w {d : Nat} (h : d ≤ 16) : wrap64 (2 ^ d) = ((2 ^ d : Nat) : Int) := by
  have := pow_le16 h
  have e : (2 : Int) ^ d = ((2 ^ d : Nat) : Int) := (Int.natCast_pow 2 d).symm
  unfold wrap64
  rw [e]
  generalize 2 ^ d = p at *
  omega
theorem ws_le {b : Int} : ∀ l : List It, (∀ x ∈ l, x.w ≤ b) → ws l ≤ l.length * b
  | [], _ => by simp [ws]
  | x :: t, h => by
    have ih := ws_le t (fun y hy => h y (by simp [hy]))
    have hx := h x (by simp)
    rw [ws_cons, List.length_cons, Int.natCast_add, Int.add_mul]
    omega
theorem good_at {l : List Int} {m : Int} (h : goodc l m = true) {s : Nat} (hs : s < l.length) : 0 ≤ l.getD s 0 ∧ l.getD s 0 ≤ 1099511627776 := by
  have h1 := List.any_eq_false.1 (goodc_true.1 h).2 l[s] (List.getElem_mem hs)
  rw [List.getD_eq_getElem?_getD, List.getElem?_eq_getElem hs]
  exact badc_false.1 (by simpa using h1)
theorem best_in {l : List Int} {m : Int} {K n : Nat} (h : goodc l m = true) (hl : l.length ≤ 300) (hK : (itemsOf l).length ≤ 2 ^ (K + 1)) (hk : K ≤ 15) (hn : l.length ≤ n) (hn2 : n ≤ 1000000) : BestIn (itemsOf l) n K := by
  refine ⟨items_gl l, by have := itemsOf_le l; omega, hK, hk, hn2, ?_, fun s hs => by have := ((itemsOf_sy l s).1 hs).1; omega⟩
  have h1 := ws_le (b := 1099511627776) (itemsOf l) (fun x hx => by
    obtain ⟨s, h1, _, rfl⟩ := items_mem l _ x ((isort_perm (itemsTo l l.length)).mem_iff.1 hx)
    exact (good_at h h1).2)
  have h2 := itemsOf_le l
  omega
theorem RRow.of_own {w W : World} {A : Option Addr} {c : Nat} {X : List IR} (h : IOwn w W A c X) : RRow w w w.heap.size A X :=
  ⟨own_ri h, fun y hy => own_syms (h.sym y hy), Below.refl _ _, AV.of_rd (own_ri h) (by omega), fun y hy => AV.of_rd (own_syms (h.sym y hy)) (by omega)⟩
section
variable (A : Option Addr) (c : Nat) (l : List Int) (high : Int) (W : World)
theorem lengths_form (h : RdI W W.heap.size A l) (hm : l.length ≤ maxLen) (hg : goodc l 300 = false) :
    Calls Try.prog 18 #[.slice A l.length c, .int .i64 high] W fun e w' => e = .returned (.tuple #[.slice none 0 0, .iface 34 (.int .i64 6)]) ∧ W = w' := by
  have H := hid h
  have Hg := hid hg
  clear h hg
  go_enter Try.func18, Try.ntmps18
  go_wp2_with fail
  refine (sound_any A c l 300 _ W.heap.size H.out hm false Hg.out).mono ?_
  rintro e w1 ⟨rfl, rfl⟩
  go_wp2
  go_ret2
  exact ⟨rfl, rfl⟩
set_option maxRecDepth 100000 in
set_option maxHeartbeats 2000000 in
theorem lengths_range (h : RdI W W.heap.size A l) (hg : goodc l 300 = true) (hb : high < 1 ∨ 16 < high ∨ ∃ d : Nat, high = (d : Int) ∧ 1 ≤ d ∧ d ≤ 16 ∧ 2 ^ d < (itemsOf l).length) :
    Calls Try.prog 18 #[.slice A l.length c, .int .i64 high] W fun e w' => e = .returned (.tuple #[.slice none 0 0, .iface 34 (.int .i64 7)]) ∧ Below W.heap.size W w' := by
  have H := hid h
  have Hg := hid hg
  have hm := (goodc_true.1 hg).1
  have Hb := hid hb
  clear h hg hb
  go_enter Try.func18, Try.ntmps18
  go_wp2_with fail
  refine (sound_any A c l 300 _ W.heap.size H.out (by simp only [maxLen]; omega) true Hg.out).mono ?_
  rintro e w1 ⟨rfl, rfl⟩
  go_wp2_with fail
  refine (items_any A c l _ H.out (by omega)).mono ?_
  rintro e w1 ⟨A2, c2, X, rfl, hX, hI⟩
  have hX2 : X.length = (itemsOf l).length := by rw [← List.length_map (f := (·.it)), st_isort hX]; rfl
  have I := hid hI
  clear hX hI
  rcases Hb.out with hb | hb | ⟨d, rfl, hd1, hd2, hd3⟩
  · go_wp2
    go_ret2
    exact ⟨rfl, I.out.old⟩
  · go_wp2
    go_ret2
    exact ⟨rfl, I.out.old⟩
  · have hsl := shl_w hd2
    rw [← hX2] at hd3
    generalize 2 ^ d = p at *
    go_wp2
    go_ret2
    exact ⟨rfl, I.out.old⟩
set_option maxRecDepth 100000 in
set_option maxHeartbeats 2000000 in
theorem lengths_best (K : Nat) (h : RdI W W.heap.size A l) (hg : goodc l 300 = true) (hk : K ≤ 15) (hK : (itemsOf l).length ≤ 2 ^ (K + 1)) :
    Calls Try.prog 18 #[.slice A l.length c, .int .i64 ((K + 1 : Nat) : Int)] W fun e w' => ∃ A' c', e = .returned (.tuple #[.slice A' l.length c', .nilIface]) ∧ w'.ownsRow W.heap.size 3 1 (.slice A' l.length c') l.length (intsV (bestLs (itemsOf l) K l.length)) ∧ Below W.heap.size W w' := by
  have H := hid h
  have Hg := hid hg
  have HK := hid hK
  have hm := (goodc_true.1 hg).1
  have hsl := shl_w (d := K + 1) (by omega)
  have hp := pow_le16 (d := K + 1) (by omega)
  clear h hg hK
  obtain ⟨K1, hK1⟩ : ∃ K1, K1 = K + 1 := ⟨_, rfl⟩
  rw [← hK1] at hsl hp ⊢
  have HK1 := hid hK1
  have hk2 : K1 ≤ 16 := by omega
  have hk3 : 1 ≤ K1 := by omega
  clear hk hK1
  go_enter Try.func18, Try.ntmps18
  go_wp2_with fail
  refine (sound_any A c l 300 _ W.heap.size H.out (by simp only [maxLen]; omega) true Hg.out).mono ?_
  rintro e w1 ⟨rfl, rfl⟩
  go_wp2_with fail
  refine (items_any A c l _ H.out (by omega)).mono ?_
  rintro e w1 ⟨A2, c2, X, rfl, hX, hI⟩
  have hXe : X.map (·.it) = itemsOf l := st_isort hX
  have hX2 : X.length ≤ 2 ^ K1 := by
    rw [← List.length_map (f := (·.it)), hXe, HK1.out]
    exact HK.out
  have I := hid hI
  have HX := hid hXe
  clear hX hI hXe
  have hcB := fun w => best_any A2 c2 l.length K X w
  rw [← HK1.out] at hcB
  have hc2 : X.length ≤ c2 := by
    obtain ⟨_, _, hv, hn⟩ := own_form I.out.row
    injection hv with _ _ hv
    rw [hv]; exact hn
  generalize 2 ^ K1 = p at *
  have HcB := hid hcB
  clear hcB
  go_wp2_with fail
  refine (HcB.out w1 (RRow.of_own I.out) hc2 (by rw [HX.out]; exact best_in Hg.out (by omega) HK.out (by have := HK1.out; omega) (Nat.le_refl _) (by omega))).mono ?_
  rintro e w2 ⟨A3, c3, rfl, ho, hb⟩
  rw [HX.out, bestLs_len] at ho
  have R := hid (show w2.ownsRow W.heap.size 3 1 (.slice A3 l.length c3) l.length (intsV (bestLs (itemsOf l) K l.length)) ∧ Below W.heap.size W w2 from ⟨own_base ho I.out.old.size, I.out.old.trans (hb.mono I.out.old.size)⟩)
  clear ho hb
  go_wp2
  go_ret2
  exact ⟨A3, c3, by show Ending.returned (.tuple #[.slice A3 (bestLs (X.map (·.it)) K l.length).length c3, .nilIface]) = _; rw [bestLs_len], R.out⟩
end
end Go.Proofs.Ytlekobompjehdaa
