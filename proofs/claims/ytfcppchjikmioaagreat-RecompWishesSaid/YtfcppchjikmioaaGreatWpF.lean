/-
  wish's reader: is there a wish of this name?
-/
import Derived.Test.YtfcppchjikmioaaGreatWpE
namespace Go.Proofs.YtfcppchjikmioaaGreat
open Go.RowKit

abbrev Wsh := ByteArray × WV
def encWv (x : Wsh) : List Value := [.string x.1, wvV x.2]
def fw (L : List Wsh) : List Value := L.flatMap encWv
def knownP (nm : ByteArray) (L : List Wsh) : Bool := L.any (fun x => x.1.toList == nm.toList)
set_option maxRecDepth 100000 in
theorem clos_any (nm : ByteArray) (x : Wsh) (gw : Nat) (W : World) (h : W.cell? ⟨gw, 0, none⟩ = some (.string nm)) (hg : gw < W.heap.size) :
    Calls Tryz.prog 62 #[.agg #[.string x.1, wvV x.2], .pointer (some ⟨gw, 0, none⟩)] W fun e w' => e = .returned (.bool (x.1.toList == nm.toList)) ∧ Below W.heap.size W w' := by
  obtain ⟨xn, xv⟩ := x
  dsimp only
  generalize wvV xv = v
  go_enter Tryz.func62, Tryz.ntmps62
  go_wp2
  go_ret
  exact ⟨rfl, (Below.refl _ _).alloc (Nat.le_refl _) _⟩
set_option maxRecDepth 100000 in
set_option maxHeartbeats 2000000 in
theorem indexW_any (A : Option Addr) (c : Nat) (L : List Wsh) (nm : ByteArray) (gw : Nat) (W : World) (h : Rd W W.heap.size 2 A L.length (fw L)) (hm : L.length ≤ 1000000) (hc : W.cell? ⟨gw, 0, none⟩ = some (.string nm)) (hg : gw < W.heap.size) :
    Calls Tryz.prog 76 #[.slice A L.length c, .func (.func 62) #[] #[.pointer (some ⟨gw, 0, none⟩)]] W fun e w' => (∃ k : Int, e = .returned (.int .i64 k) ∧ decide (0 ≤ k) = knownP nm L) ∧ Below W.heap.size W w' := by
  have H := hid h
  have Hc := hid hc
  clear h hc
  go_enter Tryz.func76, Tryz.ntmps76
  go_wp2
  go_loopw [8] (fun iv wr => ∃ i : Nat, i ≤ L.length ∧ iv = .int .i64 (i : Int) ∧ Hid (∀ k, k < i → ∀ x, L[k]? = some x → (x.1.toList == nm.toList) = false) ∧ Hid (Below W.heap.size W wr)) (fun i _ => L.length - (intOf i).toNat)
  case atStart => exact ⟨0, by omega, rfl, hid (fun k hk => by omega), hid (Below.refl _ _)⟩
  case round =>
    obtain ⟨i, hi, rfl, Hall, B⟩ := hrel
    by_cases hlt : i < L.length
    · have d1 : decide (i < L.length) = true := decide_eq_true hlt
      obtain ⟨b, off, rfl, hb, hcl⟩ := (H.out.below B.out (Nat.le_refl _)).at_ (k := i) hlt (by omega)
      have c0 : wr.cell? ⟨b, off + i * 2, none⟩ = some (.string L[i].1) := hcl (i * 2 + 0) _ ((flat_at encWv 2 L (fun _ _ => rfl) i 0 L[i] (List.getElem?_eq_getElem hlt) (by omega)).trans rfl)
      have c1 : wr.cell? ⟨b, off + i * 2 + 1, none⟩ = some (wvV L[i].2) := hcl (i * 2 + 1) _ ((flat_at encWv 2 L (fun _ _ => rfl) i 1 L[i] (List.getElem?_eq_getElem hlt) (by omega)).trans rfl)
      have hx : L[i]? = some L[i] := List.getElem?_eq_getElem hlt
      generalize L[i] = x at *
      obtain ⟨xn, xv⟩ := x
      dsimp only at c0 c1
      have Hx := hid hx
      have hcw : wr.cell? ⟨gw, 0, none⟩ = some (.string nm) := (B.out.cell (p := ⟨gw, 0, none⟩) hg).trans Hc.out
      have hgw : gw < wr.heap.size := by have := B.out.size; omega
      have cl := clos_any nm (xn, xv) gw wr hcw hgw
      dsimp only at cl
      have CL := hid cl
      clear cl hcl hx hcw
      generalize hxv : wvV xv = v at *
      go_wp2_with fail
      refine (CL.out).mono ?_
      rintro e w1 ⟨rfl, hb1⟩
      have B1 := hid (B.out.trans (hb1.mono B.out.size))
      clear hb1
      cases hq : (xn.toList == nm.toList)
      · have Hq := hid hq
        clear hq
        go_wp2
        go_roundw
        case rel =>
          refine ⟨i + 1, by omega, by go_num, hid (fun k hk y hy => ?_), B1⟩
          by_cases h : k < i
          · exact Hall.out k h y hy
          · obtain rfl : k = i := by omega
            rw [Hx.out] at hy
            injection hy with hy
            rw [← hy]
            exact Hq.out
        case measure => simp [intOf]; omega
      · have Ha := hid (show knownP nm L = true from List.any_eq_true.2 ⟨_, List.mem_of_getElem? Hx.out, hq⟩)
        clear hq
        go_wp2
        go_ret
        exact ⟨⟨_, rfl, by rw [Ha.out]; exact decide_eq_true (by omega)⟩, B1.out⟩
    · have d1 : decide (i < L.length) = false := decide_eq_false hlt
      have Ha := hid (show knownP nm L = false from List.any_eq_false.2 fun x hx => by
        obtain ⟨k, hk, rfl⟩ := List.getElem_of_mem hx
        have := Hall.out k (by omega) _ (List.getElem?_eq_getElem hk)
        rw [this]
        exact Bool.false_ne_true)
      go_wp2
      go_ret
      exact ⟨⟨_, rfl, by rw [Ha.out]; rfl⟩, B.out⟩
theorem containsW_any (A : Option Addr) (c : Nat) (L : List Wsh) (nm : ByteArray) (gw : Nat) (W : World) (h : Rd W W.heap.size 2 A L.length (fw L)) (hm : L.length ≤ 1000000) (hc : W.cell? ⟨gw, 0, none⟩ = some (.string nm)) (hg : gw < W.heap.size) :
    Calls Tryz.prog 61 #[.slice A L.length c, .func (.func 62) #[] #[.pointer (some ⟨gw, 0, none⟩)]] W fun e w' => e = .returned (.bool (knownP nm L)) ∧ Below W.heap.size W w' := by
  go_enter Tryz.func61, Tryz.ntmps61
  go_wp2_with fail
  refine (indexW_any A c L nm gw _ h hm hc hg).mono ?_
  rintro e w1 ⟨⟨k, rfl, hk⟩, hb⟩
  go_wp2
  go_ret
  exact ⟨by rw [← hk]; rfl, hb⟩
end Go.Proofs.YtfcppchjikmioaaGreat
