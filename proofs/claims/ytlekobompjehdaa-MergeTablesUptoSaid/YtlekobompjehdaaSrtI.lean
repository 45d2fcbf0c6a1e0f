/-
  slices.SortStableFunc over items: an own row comes to a stable order.
-/
import Derived.Test.YtlekobompjehdaaSrtH
namespace Go.Proofs.Ytlekobompjehdaa
open Go.RowKit Mg

set_option maxRecDepth 100000 in
theorem insertion_nil (W : World) (fv : Value) : Calls Try.prog 137 #[.slice none 0 0, .int .i64 0, .int .i64 0, fv] W fun e w' => e = .returned (.tuple #[]) ∧ W = w' := by
  go_enter Try.func137, Try.ntmps137
  go_upto_region 1 with (fail)
  go_loopw [8] (fun iv wr => iv = .int .i64 1 ∧ W = wr) (fun _ _ => 0)
  case atStart => exact ⟨rfl, rfl⟩
  case round =>
    obtain ⟨rfl, rfl⟩ := hrel
    go_wp2
    go_end0
    exact ⟨rfl, rfl⟩
set_option maxRecDepth 100000 in
theorem stable_nil (W : World) (fv : Value) : Calls Try.prog 114 #[.slice none 0 0, .int .i64 0, fv] W fun e w' => e = .returned (.tuple #[]) ∧ W = w' := by
  go_enter Try.func114, Try.ntmps114
  go_upto_region 2 with (fail)
  go_loopw [7, 8] (fun av bv wr => av = .int .i64 0 ∧ bv = .int .i64 20 ∧ W = wr) (fun _ _ _ => 0)
  case atStart => exact ⟨rfl, rfl, rfl⟩
  case round =>
    obtain ⟨rfl, rfl, rfl⟩ := hrel
    go_wp2_with fail
    refine (insertion_nil _ _).mono ?_
    rintro e w1 ⟨rfl, rfl⟩
    go_upto_region 7 with (fail)
    go_loopw [6] (fun sv wr => sv = .int .i64 20 ∧ W = wr) (fun _ _ => 0)
    case atStart => exact ⟨rfl, rfl⟩
    case round =>
      obtain ⟨rfl, rfl⟩ := hrel
      go_wp2
      go_end0
      exact ⟨rfl, rfl⟩
/-- an own row of items -/
def IRow (w : World) (base : Nat) (A : Option Addr) (c : Nat) (X : List IR) : Prop := w.ownsRow base 92 2 (.slice A X.length c) X.length (fl X)
def SortEnd (base : Nat) (A : Option Addr) (c : Nat) (X : List IR) (W : World) (e : Ending) (w' : World) : Prop := e = .returned (.tuple #[]) ∧ ∃ X', Bub X X' ∧ X'.Pairwise LeR ∧ IRow w' base A c X' ∧ W.grownBy w' (Value.slice A X.length c).ownBlock
theorem irow_sw {w : World} {base c : Nat} {A : Option Addr} {X : List IR} (h : IRow w base A c X) : (X = [] ∧ A = none ∧ c = 0) ∨ ∃ g tl, A = some ⟨g, 0, none⟩ ∧ base ≤ g ∧ X.length ≤ c ∧ c ≤ maxLen ∧ (fl X ++ tl).length = c * 2 ∧ SW w w g X tl := by
  obtain ⟨h1, h2⟩ := h
  rcases h2 with ⟨hv, h0⟩ | ⟨g, cap, cur, hv, hb, hg, hn, hm, hs, ht⟩
  · injection hv with hA _ hc
    exact .inl ⟨List.eq_nil_of_length_eq_zero h0, hA, hc⟩
  · injection hv with hA _ hc
    subst hA hc
    have e : fl X ++ cur.toList.drop (X.length * 2) = cur.toList := by rw [← ht, List.take_append_drop]
    refine .inr ⟨g, cur.toList.drop (X.length * 2), rfl, hb, hn, hm, by rw [e]; simpa using hs, ?_, ⟨rfl, rfl, rfl, Nat.le_refl _, fun _ _ _ => rfl⟩⟩
    rw [e]
    exact hg
theorem sw_irow {w w0 : World} {base c g : Nat} {X X' : List IR} {tl : List Value} (h : SW w w0 g X' tl) (hb : base ≤ g) (hl : X'.length = X.length) (hn : X.length ≤ c) (hm : c ≤ maxLen) (hs : (fl X ++ tl).length = c * 2) : IRow w base (some ⟨g, 0, none⟩) c X' := by
  refine ⟨fl_len X', .inr ⟨g, c, (fl X' ++ tl).toArray, rfl, hb, h.1, by omega, hm, ?_, ?_⟩⟩
  · rw [List.size_toArray, ← hs, List.length_append, List.length_append, fl_len, fl_len, hl]
  · show (fl X' ++ tl).take _ = _
    rw [List.take_left' (fl_len X')]
set_option maxRecDepth 100000 in
theorem sort_any (base : Nat) (A : Option Addr) (c : Nat) (X : List IR) (W : World) (h : IRow W base A c X) (hm : X.length ≤ 1000000) :
    Calls Try.prog 78 #[.slice A X.length c, .func (.func 79) #[] #[]] W (SortEnd base A c X W) := by
  rcases irow_sw h with ⟨rfl, rfl, rfl⟩ | ⟨g, tl, rfl, hb, hn, hc, hs, hsw⟩
  · have H := hid h
    clear h
    go_enter Try.func78, Try.ntmps78
    go_wp2_with fail
    refine (stable_nil _ _).mono ?_
    rintro e w1 ⟨rfl, rfl⟩
    go_wp2
    go_end0
    exact ⟨rfl, [], .refl _, .nil, H.out, ⟨rfl, rfl, rfl, Nat.le_refl _, fun _ _ _ => rfl⟩⟩
  · obtain ⟨n, hn'⟩ : ∃ n, n = X.length := ⟨_, rfl⟩
    have Hn := hid hn'
    have S := hid hsw
    have Hb := hid hb
    have Hc := hid hc
    have Hs := hid hs
    rw [← hn'] at hn hm ⊢
    clear h hsw hb hc hs hn'
    go_enter Try.func78, Try.ntmps78
    go_wp2_with fail
    refine (stable_any g c n X tl W _ S.out Hn.out hm).mono ?_
    rintro e w1 ⟨rfl, X', h1, h2, h3⟩
    have R := hid (show SortEnd base (some ⟨g, 0, none⟩) c X W (.returned (.tuple #[])) w1 from by
      have h3 : SW w1 W g X' tl := by simpa using h3
      exact ⟨rfl, X', h1, h2, sw_irow h3 Hb.out h1.len (by rw [← Hn.out]; exact hn) Hc.out Hs.out, h3.2⟩)
    clear h1 h2 h3
    go_wp2
    go_end0
    exact R.out
end Go.Proofs.Ytlekobompjehdaa
