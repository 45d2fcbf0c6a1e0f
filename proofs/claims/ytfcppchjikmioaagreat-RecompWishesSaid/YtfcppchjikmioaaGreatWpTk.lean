/-
  Wishes as the reference holds them; burnishref02.known.
-/
import Derived.Test.YtfcppchjikmioaaGreatWpQ
import Derived.Deep.QuietTactic
import Derived.BigQuiet
namespace Go.Proofs.YtfcppchjikmioaaGreat
open Go.RowKit Go.Lib

/-- a wish as the reference holds it -/
def kdV : WV → Int
  | .n _ => 1
  | .s _ => 2
  | .t _ => 3
def nuV : WV → Int
  | .n x => x
  | _ => 0
def sxV : WV → ByteArray
  | .s x => x
  | _ => ⟨#[]⟩
def blV : WV → Bool
  | .t b => b
  | _ => false
def encRw (x : Wsh) : List Value := [.string x.1, .int .i64 (kdV x.2), .int .i64 (nuV x.2), .string (sxV x.2), .bool (blV x.2)]
def rwV (x : Wsh) : Value := .agg #[.string x.1, .int .i64 (kdV x.2), .int .i64 (nuV x.2), .string (sxV x.2), .bool (blV x.2)]
theorem below_two (W : World) (o p : Obj) : Below W.heap.size W ((W.alloc o).alloc p) := ((Below.refl _ _).alloc (Nat.le_refl _) _).alloc (by simp) _
set_option maxRecDepth 100000 in
set_option maxHeartbeats 2000000 in
theorem known_any (A N : Option Addr) (c d bn : Nat) (L : List Wsh) (nm : List Int) (W : World) (h : Rd W W.heap.size 5 A L.length (L.flatMap encRw)) (hm : L.length ≤ 1000000) (hn : W.ownsRow bn 21 1 (.slice N nm.length d) nm.length (runesV nm)) :
    Calls Tryz.prog 54 #[.slice A L.length c, .slice N nm.length d] W fun e w' => e = .returned (.bool (knownP (runesBytes nm) L)) ∧ Below W.heap.size W w' := by
  have H := hid h
  have cn : ∀ w, Below W.heap.size W w → (Go.convert 64 9 (.slice N nm.length d)).run Tryz.prog w = .ok (.string (runesBytes nm)) w := fun w hw => conv_runes (own_below hn hw (Nat.le_refl _)) rfl
  have CN := hid cn
  clear h hn cn
  generalize runesBytes nm = nb at *
  generalize nm.length = nl at *
  go_enter Tryz.func54, Tryz.ntmps54
  go_wp2_with fail
  go_loopw [5] (fun iv wr => ∃ i : Nat, i ≤ L.length ∧ iv = .int .i64 (i : Int) ∧ Hid (∀ k, k < i → ∀ x, L[k]? = some x → (x.1.toList == nb.toList) = false) ∧ Hid (Below W.heap.size W wr)) (fun i _ => L.length - (intOf i).toNat)
  case atStart => exact ⟨0, by omega, rfl, hid (fun k hk => by omega), hid (Below.refl _ _)⟩
  case round =>
    obtain ⟨i, hi, rfl, Hall, B⟩ := hrel
    by_cases hlt : i < L.length
    · have d1 : decide (i < L.length) = true := decide_eq_true hlt
      have d2 : decide ((i : Int) < (L.length : Int)) = true := decide_eq_true (by omega)
      obtain ⟨b, off, rfl, hb, hcl⟩ := (H.out.below B.out (Nat.le_refl _)).at_ (k := i) hlt (by omega)
      have c0 : wr.cell? ⟨b, off + i * 5, none⟩ = some (.string L[i].1) := hcl (i * 5 + 0) _ ((flat_at encRw 5 L (fun _ _ => rfl) i 0 L[i] (List.getElem?_eq_getElem hlt) (by omega)).trans rfl)
      have hx : L[i]? = some L[i] := List.getElem?_eq_getElem hlt
      generalize L[i] = x at *
      obtain ⟨xn, xv⟩ := x
      dsimp only at c0
      have Hx := hid hx
      have cw : ∀ k, (Go.convert 64 9 (.slice N nl d)).run Tryz.prog (wr.drewN k) = .ok (.string nb) (wr.drewN k) := fun k => CN.out (wr.drewN k) (below_drewN B.out k)
      clear hcl hx
      go_upto_region 4 with (fail)
      first | go_quiet (fail) | fail
      have B1 := hid (show Below W.heap.size W (wr.drewN nq) from below_drewN B.out nq)
      cases hq : (xn.toList == nb.toList)
      · have Hq := hid hq
        clear hq
        go_wp2
        go_roundw
        case rel =>
          refine ⟨i + 1, by omega, by go_num, hid (fun k hk y hy => ?_), B1⟩
          by_cases h : k < i
          · exact Hall.out k h y hy
          · obtain rfl : k = i := by omega
            rw [Hx.out] at hy
            injection hy with hy
            rw [← hy]
            exact Hq.out
        case measure => simp [intOf]; omega
      · have Ha := hid (show knownP nb L = true from List.any_eq_true.2 ⟨_, List.mem_of_getElem? Hx.out, hq⟩)
        clear hq
        go_wp2
        go_ret
        exact ⟨by rw [Ha.out]; rfl, B1.out⟩
    · have d1 : decide (i < L.length) = false := decide_eq_false hlt
      have d2 : decide ((i : Int) < (L.length : Int)) = false := decide_eq_false (by omega)
      have Ha := hid (show knownP nb L = false from List.any_eq_false.2 fun x hx => by
        obtain ⟨k, hk, rfl⟩ := List.getElem_of_mem hx
        have := Hall.out k (by omega) _ (List.getElem?_eq_getElem hk)
        rw [this]
        exact Bool.false_ne_true)
      go_wp2
      go_ret
      exact ⟨by rw [Ha.out]; rfl, B.out⟩
end Go.Proofs.YtfcppchjikmioaaGreat
