/-
  cmp.Compare, cmp.Or, merge.byWeight: which of two items stands first; items in a row of memory.
-/
import Derived.Test.YtlekobompjehdaaBase
import Derived.Test.YtlekobompjehdaaMgA
import Derived.Deep.RegionHeld3
import Derived.Deep.RegionWith
import Derived.Deep.DeepCutAuto
namespace Go.Proofs.Ytlekobompjehdaa
open Go.RowKit Mg

def cmpI (x y : Int) : Int := if x < y then -1 else if y < x then 1 else 0
theorem isnan_any (x : Int) (W : World) : Calls Try.prog 139 #[.int .i64 x] W fun e w' => e = .returned (.bool false) ∧ W = w' := by
  go_enter Try.func139, Try.ntmps139
  go_wp2
  go_ret
  exact ⟨by simp, rfl⟩
theorem compare_any (x y : Int) (W : World) : Calls Try.prog 116 #[.int .i64 x, .int .i64 y] W fun e w' => e = .returned (.int .i64 (cmpI x y)) ∧ W = w' := by
  by_cases h1 : x < y
  · have Hc := hid (show cmpI x y = -1 from if_pos h1)
    have d1 : decide (x < y) = true := decide_eq_true h1
    clear h1
    go_enter Try.func116, Try.ntmps116
    go_wp2_with (first | (go_at_call 139; refine (isnan_any _ _).mono ?_; rintro e w' ⟨rfl, rfl⟩))
    go_ret
    exact ⟨by rw [Hc.out]; first | done | rfl, rfl⟩
  · by_cases h2 : y < x
    · have Hc := hid (show cmpI x y = 1 from (if_neg h1).trans (if_pos h2))
      have d1 : decide (x < y) = false := decide_eq_false h1
      have d2 : decide (y < x) = true := decide_eq_true h2
      clear h1 h2
      go_enter Try.func116, Try.ntmps116
      go_wp2_with (first | (go_at_call 139; refine (isnan_any _ _).mono ?_; rintro e w' ⟨rfl, rfl⟩))
      go_ret
      exact ⟨by rw [Hc.out]; first | done | rfl, rfl⟩
    · have Hc := hid (show cmpI x y = 0 from (if_neg h1).trans (if_neg h2))
      have d1 : decide (x < y) = false := decide_eq_false h1
      have d2 : decide (y < x) = false := decide_eq_false h2
      clear h1 h2
      go_enter Try.func116, Try.ntmps116
      go_wp2_with (first | (go_at_call 139; refine (isnan_any _ _).mono ?_; rintro e w' ⟨rfl, rfl⟩))
      go_ret
      exact ⟨by rw [Hc.out]; first | done | rfl, rfl⟩
def orI (a b : Int) : Int := if a = 0 then b else a
theorem or_any (a b : Int) (g c B : Nat) (W : World) (h : RdI W B (some ⟨g, 0, none⟩) [a, b]) : Calls Try.prog 115 #[.slice (some ⟨g, 0, none⟩) 2 c] W fun e w' => e = .returned (.int .i64 (orI a b)) ∧ W = w' := by
  obtain ⟨b1, o1, hA, _, x0⟩ := int_at h (j := 0) (by simp)
  simp only [Option.some.injEq, Addr.mk.injEq] at hA
  obtain ⟨rfl, rfl, _⟩ := hA
  obtain ⟨b1, o1, hA, _, x1⟩ := int_at h (j := 1) (by simp)
  simp only [Option.some.injEq, Addr.mk.injEq] at hA
  obtain ⟨rfl, rfl, _⟩ := hA
  simp only [Nat.zero_add, List.getElem_cons_zero, List.getElem_cons_succ] at x0 x1
  clear h
  go_enter Try.func115, Try.ntmps115
  go_upto_region 3 with (fail)
  go_loop [8] (fun i => i = .int .i64 0 ∨ (i = .int .i64 1 ∧ a = 0) ∨ (i = .int .i64 2 ∧ a = 0 ∧ b = 0)) (fun i => 2 - (intOf i).toNat)
  case atStart => exact .inl rfl
  case round =>
    rcases hrel with rfl | ⟨rfl, ha⟩ | ⟨rfl, ha, hb⟩
    · by_cases ha : a = 0
      · have d1 : (a != 0) = false := by rw [bne_eq_false_iff_eq]; exact ha
        have Ha := hid ha
        clear ha
        go_wp2
        go_round
        case rel => exact .inr (.inl ⟨rfl, Ha.out⟩)
        case measure => simp [intOf]
      · have d1 : (a != 0) = true := bne_iff_ne.2 ha
        have Ho := hid (show orI a b = a from if_neg ha)
        clear ha
        go_wp2
        go_ret
        exact ⟨by rw [Ho.out]; first | done | rfl, rfl⟩
    · have Ho := hid (show orI a b = b from if_pos ha)
      have Ha := hid ha
      clear ha
      by_cases hb : b = 0
      · have d1 : (b != 0) = false := by rw [bne_eq_false_iff_eq]; exact hb
        have Hb := hid hb
        clear hb
        go_wp2
        go_round
        case rel => exact .inr (.inr ⟨rfl, Ha.out, Hb.out⟩)
        case measure => simp [intOf]
      · have d1 : (b != 0) = true := bne_iff_ne.2 hb
        clear hb
        go_wp2
        go_ret
        exact ⟨by rw [Ho.out]; first | done | rfl, rfl⟩
    · have Ho := hid (show orI a b = 0 by rw [ha, hb]; rfl)
      clear ha hb
      go_wp2
      go_ret
      exact ⟨by rw [Ho.out]; first | done | rfl, rfl⟩
/-- an item in memory: what it says, and where its symbols lie -/
structure IR where
  it : It
  A : Option Addr
  c : Nat
deriving Inhabited
def encR (x : IR) : List Value := [.int .i64 x.it.w, .slice x.A x.it.s.length x.c]
def cfR (x y : IR) : Int := orI (cmpI x.it.w y.it.w) (cmpI (x.it.s.length : Int) (y.it.s.length : Int))
theorem cfR_lt (x y : IR) : cfR x y < 0 ↔ ¬ Le y.it x.it := by
  unfold cfR orI cmpI Le
  by_cases h1 : x.it.w < y.it.w
  · rw [if_pos h1]; simp; omega
  · rw [if_neg h1]
    by_cases h2 : y.it.w < x.it.w
    · rw [if_pos h2]; simp; omega
    · rw [if_neg h2, if_pos rfl]
      by_cases h3 : (x.it.s.length : Int) < (y.it.s.length : Int)
      · rw [if_pos h3]; omega
      · rw [if_neg h3]
        by_cases h4 : (y.it.s.length : Int) < (x.it.s.length : Int)
        · rw [if_pos h4]; omega
        · rw [if_neg h4]; omega

set_option maxRecDepth 100000 in
set_option maxHeartbeats 4000000 in
theorem byWeight_any (x y : IR) (W : World) :
    Calls Try.prog 79 #[.agg #[.int .i64 x.it.w, .slice x.A x.it.s.length x.c], .agg #[.int .i64 y.it.w, .slice y.A y.it.s.length y.c]] W fun e w' => e = .returned (.int .i64 (cfR x y)) ∧ Below W.heap.size W w' := by
  obtain ⟨⟨xw, xs⟩, XA, xc⟩ := x
  obtain ⟨⟨yw, ys⟩, YA, yc⟩ := y
  have Hc : Hid (cfR ⟨⟨xw, xs⟩, XA, xc⟩ ⟨⟨yw, ys⟩, YA, yc⟩ = orI (cmpI xw yw) (cmpI (xs.length : Int) (ys.length : Int))) := rfl
  have hb1 := Blk.new (W.alloc (.cells #[.int .i64 xw, .slice XA xs.length xc] 92)) 92 #[.int .i64 yw, .slice YA ys.length yc]
  rw [World.size_alloc] at hb1
  have H0 := hid ((Blk.new W 92 #[.int .i64 xw, .slice XA xs.length xc]).alloc (.cells #[.int .i64 yw, .slice YA ys.length yc] 92))
  have H1 := hid hb1
  have Hb := hid (((Below.refl W.heap.size W).alloc (Nat.le_refl _) (.cells #[.int .i64 xw, .slice XA xs.length xc] 92)).alloc (by simp) (.cells #[.int .i64 yw, .slice YA ys.length yc] 92))
  clear hb1
  rw [Hc.out]
  clear Hc
  simp only
  generalize xs.length = xn at *
  generalize ys.length = yn at *
  go_enter Try.func79, Try.ntmps79
  go_upto_region 1 with (fail)
  generalize (W.alloc (.cells #[.int .i64 xw, .slice XA xn xc] 92)).alloc (.cells #[.int .i64 yw, .slice YA yn yc] 92) = w0 at *
  have q0 := H0.out.cell 0
  have q1 := H0.out.cell 1
  have r0 := H1.out.cell 0
  have r1 := H1.out.cell 1
  simp only [List.getElem?_toArray, List.getElem?_cons_zero, List.getElem?_cons_succ] at q0 q1 r0 r1
  first | go_region_held3 (fun w' => w'.cell? ⟨W.heap.size, 0, none⟩ = some (.int .i64 xw) ∧ w'.cell? ⟨W.heap.size, 1, none⟩ = some (.slice XA xn xc) ∧ w'.cell? ⟨W.heap.size + 1, 0, none⟩ = some (.int .i64 yw) ∧ w'.cell? ⟨W.heap.size + 1, 1, none⟩ = some (.slice YA yn yc)) (first | go_keep | exact ⟨q0, q1, r0, r1⟩) (first
    | (go_at_call 116; refine (compare_any _ _ _).mono ?_; rintro e w' ⟨rfl, rfl⟩)
    | (go_at_call 115; refine (or_any _ _ _ 2 _ _ (by have h := RdI.new (w := w0.drew) (t := 3) (l := [cmpI xw yw, cmpI (xn : Int) (yn : Int)]) rfl; exact h)).mono ?_; rintro e w' ⟨rfl, rfl⟩)) | fail
  all_goals
    go_wp2
    go_ret
    exact ⟨rfl, Hb.out.drew.alloc Hb.out.size _⟩

end Go.Proofs.Ytlekobompjehdaa
