/-
  ZlibWindows: for every list of tokens the law returns true: the window is the least one in which all distances are. No condition.
-/
import Derived.Test.YtnlhneoiofijeaaWindow
namespace Go.Proofs.Ytnlhneoiofijeaa.ZlibWindows
open Go.ChangeShapes Go.WideShapes Go.ChangeAt Go.RowKit Go.Proofs.Ytnlhneoiofijeaa

theorem window_nil (W : World) : Calls Try.prog 17 #[.slice none 0 0] W fun e w' => e = .returned (.int .i64 256) ∧ Below W.heap.size W w' :=
  (window_any none 0 [] W Rd.nil (by simp [maxLen]) (by simp)).mono fun e w' ⟨v, hv, he, hb⟩ => ⟨by
    have : v = 256 := by
      obtain ⟨h1, _, h3⟩ := hv
      have : far [] = 0 := rfl
      unfold IsWin at h1
      omega
    rw [he, this], hb⟩

theorem walk_far (A : Option Addr) (c : Nat) (l : List (Int × Int)) (W : World) (hm : 5000 < l.length) :
    Calls Try.prog 4 #[.slice A l.length c] W fun e w' => e = .returned (.bool true) ∧ Below W.heap.size W w' := by
  go_enter Try.func4, Try.ntmps4
  go_wp2_with fail
  refine (window_nil _).mono ?_
  rintro e w1 ⟨rfl, hb1⟩
  go_wp2_with fail
  refine (window_nil _).mono ?_
  rintro e w2 ⟨rfl, hb2⟩
  go_wp2_with fail
  go_ret
  exact ⟨rfl, hb1.trans (hb2.mono hb1.size)⟩

set_option maxHeartbeats 2000000 in
theorem walk_near (A : Option Addr) (c : Nat) (l : List (Int × Int)) (W : World) (hr : Rd W W.heap.size 2 A l.length (l.flatMap encTok)) (hm : l.length ≤ 5000) (hok : ∀ t ∈ l, okTok t) :
    Calls Try.prog 4 #[.slice A l.length c] W fun e w' => e = .returned (.bool true) ∧ Below W.heap.size W w' := by
  have Hok := hid hok
  clear hok
  have Hr := hid hr
  clear hr
  go_enter Try.func4, Try.ntmps4
  go_wp2_with fail
  refine (window_nil _).mono ?_
  rintro e w1 ⟨rfl, hb1⟩
  go_wp2_with fail
  refine (window_any A c l _ ((Hr.out.below hb1 (Nat.le_refl _)).more hb1.size) (by unfold maxLen; omega) Hok.out).mono ?_
  rintro e w2 ⟨v, hv, rfl, hb2⟩
  have Hb := hid (hb1.trans (hb2.mono hb1.size))
  clear hb1 hb2
  have Hv := hid hv
  clear hv
  go_wp2_with fail
  go_loopw [4, 20] (fun m i wr => ∃ j : Nat, j ≤ l.length ∧ i = .int .i64 j ∧ m = .int .i64 (far (l.take j)) ∧ Below W.heap.size W wr) (fun _ i _ => l.length - (intOf i).toNat)
  case atStart => exact ⟨0, by omega, rfl, rfl, Hb.out⟩
  case round =>
    obtain ⟨j, hj, rfl, rfl, hb⟩ := hrel
    by_cases hlt : j < l.length
    · obtain ⟨b, off, rfl, hbb, h0, h1⟩ := tok_at (Hr.out.below hb (Nat.le_refl _)) hlt
      have Hs := hid (far_take l j hlt)
      generalize far (l.take j) = m at *
      generalize l[j] = t at *
      obtain ⟨tl, td⟩ := t
      by_cases hp : 0 < tl
      all_goals
        go_wp2
        go_roundw
        case rel => exact ⟨j + 1, by omega, by go_num, by rw [Hs.out]; simp only [farStep]; first | rw [if_pos hp] | rw [if_neg hp], hb.alloc (by exact hb.size) _⟩
        case measure => simp [intOf]; omega
    · have e : j = l.length := by omega
      subst e
      have Hv' := Hv.out
      rw [← List.take_length (l := l)] at Hv'
      generalize far (List.take l.length l) = m at *
      obtain ⟨hw, hm1, hm2⟩ := Hv'
      unfold IsWin at hw
      rcases hw with rfl | rfl | rfl | rfl | rfl | rfl | rfl | rfl
      · have g1 : m ≤ 256 := by omega
        clear hm1 hm2
        go_wp2
        go_ret
        exact ⟨rfl, hb⟩
      · have g1 : m ≤ 512 := by omega
        have g2 : 256 < m := by omega
        clear hm1 hm2
        go_wp2
        go_ret
        exact ⟨rfl, hb⟩
      · have g1 : m ≤ 1024 := by omega
        have g2 : 512 < m := by omega
        clear hm1 hm2
        go_wp2
        go_ret
        exact ⟨rfl, hb⟩
      · have g1 : m ≤ 2048 := by omega
        have g2 : 1024 < m := by omega
        clear hm1 hm2
        go_wp2
        go_ret
        exact ⟨rfl, hb⟩
      · have g1 : m ≤ 4096 := by omega
        have g2 : 2048 < m := by omega
        clear hm1 hm2
        go_wp2
        go_ret
        exact ⟨rfl, hb⟩
      · have g1 : m ≤ 8192 := by omega
        have g2 : 4096 < m := by omega
        clear hm1 hm2
        go_wp2
        go_ret
        exact ⟨rfl, hb⟩
      · have g1 : m ≤ 16384 := by omega
        have g2 : 8192 < m := by omega
        clear hm1 hm2
        go_wp2
        go_ret
        exact ⟨rfl, hb⟩
      · have g2 : 16384 < m := by omega
        clear hm1 hm2
        go_wp2
        go_ret
        exact ⟨rfl, hb⟩

theorem walk (A : Option Addr) (c : Nat) (l : List (Int × Int)) (W : World) (hr : Rd W W.heap.size 2 A l.length (l.flatMap encTok)) (hok : ∀ t ∈ l, okTok t) :
    Calls Try.prog 4 #[.slice A l.length c] W fun e w' => e = .returned (.bool true) ∧ Below W.heap.size W w' := by
  by_cases h : l.length ≤ 5000
  · exact walk_near A c l W hr h hok
  · exact walk_far A c l W (by omega)

theorem tok_of {H : Type} {enc : TypeId × Value → H} {w : World} {base : Nat} {spare : Nat → Bool} {held : Bool} (n : Nat) (cs : List Value) (y : DataW H × List MemPlace) (hl : cs.length = 2)
    (h : DataW.trod enc Try.prog w base spare held n 38 cs = some y) : ∃ t : Int × Int, cs = encTok t ∧ okTok t := by
  have L := leaf_at 1 38 n cs y (by kernel_rfl) (by rw [hl]; kernel_rfl) h
  obtain ⟨_, _, v0, e0, t0⟩ := L 0 3 (by kernel_rfl)
  obtain ⟨_, _, v1, e1, t1⟩ := L 1 3 (by kernel_rfl)
  obtain ⟨a, rfl, wa⟩ := leaf_int Try.underlying3 t0
  obtain ⟨b, rfl, wb⟩ := leaf_int Try.underlying3 t1
  match cs, hl with
  | [_, _], _ =>
    simp at e0 e1
    subst e0 e1
    exact ⟨(a, b), rfl, wa, wb⟩

set_option maxRecDepth 100000 in
theorem lifted (os : Os) (started : os.Started) (H : Type) (enc : TypeId × Value → H) :
    ReturnsInHanded {} Try.checked os 4 .any (Rows.zlibWindowsSpec.pre6 enc Try.prog Try.f4 Rows.zlibWindowsRow.domain false) (Rows.zlibWindowsSpec.post enc Try.prog Try.f4 false true false false) :=
  law_lifted own laidOut started (by kernel_rfl) Try.func4 rfl rfl Try.underlying4
    (by rw [Try.params4]; intro t ht; simp at ht; rcases ht with rfl <;> exact ⟨by kernel_rfl, of_decide_eq_true (by kernel_rfl)⟩)
    (by
      intro ds h
      match ds, h with
      | [_], _ => exact ⟨rfl, rfl, rfl⟩)
    (ChangeSpec.witness6 (enc := enc) (C := Try.checked) false ⟨#[], #[.slice none 0 0], []⟩ 8 (by kernel_rfl) (by kernel_rfl) (by kernel_rfl) (by kernel_rfl))
    (by
      intro W base args ds ps hval0 hA0
      have hval : ∀ (j : Nat) t v, Try.f4.params[j]? = some t → args[j]? = some v → Value.okWide Try.prog W .any base t v := hval0
      have hA : DataW.TrodAll enc Try.prog W 0 (fun _ => true) true Try.f4.params.toList args.toList ds ps := hA0
      clear hval0 hA0
      rw [Try.params4] at hA hval
      obtain ⟨v0, vs0, d0, ds0, p0, q0, hargs, rfl, rfl, h0, r0⟩ := trodAll_cons hA
      obtain ⟨rfl, rfl, rfl⟩ := trodAll_nil r0
      obtain rfl : args = #[v0] := by cases args; simp_all
      obtain ⟨fuel0, hf0⟩ := h0
      obtain ⟨A0, n0, m0, rfl⟩ := okWide_slice Try.underlying35 (hval 0 35 v0 rfl rfl)
      obtain ⟨A, c, l, e, _, _, hok, hr⟩ := open_slice_of encTok okTok 2 (by omega) Try.underlying35 (by kernel_rfl) tok_of (fun _ => rfl) (by simpa [Value.cells] using hf0)
      rw [e]
      exact walk A c l W hr hok)

theorem over : Rows.zlibWindowsRow.holds Try.pinned (OpenSpec.ofChange Rows.zlibWindowsSpec) :=
  OpenClaim.holds_of_wide 4 Try.f4 rfl rfl rfl rfl rfl rfl rfl ⟨rfl, rfl, rfl, rfl, rfl⟩ rfl rfl rfl rfl rfl (by kernel_rfl) Try.func4 (by kernel_rfl)
    (of_decide_eq_true (by kernel_rfl)) (by unfold Func.isWrapper; first | (rw [if_pos (by decide +kernel)]; kernel_rfl) | (rw [if_neg (by decide +kernel)]; exact ⟨rfl, rfl⟩))
    (fun os started H enc _ => lifted os started H enc)

theorem proved : Rows.ZlibWindowsSaid := over
#print axioms proved
end Go.Proofs.Ytnlhneoiofijeaa.ZlibWindows
