/-
  Names among names: slices.Contains of strings, the reference's in.
-/
import Derived.Test.YtlekobompjehdaaDoorKpB
namespace Go.Proofs.YtlekobompjehdaaDoor
open Go.RowKit

theorem index_any (A : Option Addr) (c : Nat) (L : List ByteArray) (v : ByteArray) (W : World) (B : Nat) (h : Rd W B 1 A L.length (L.map Value.string)) (hm : L.length ≤ 1000) :
    Calls Tryd.prog 18 #[.slice A L.length c, .string v] W fun e w' => (∃ k : Int, e = .returned (.int .i64 k) ∧ decide (0 ≤ k) = L.any (fun x => v.toList == x.toList)) ∧ W = w' := by
  have H := hid h
  clear h
  go_enter Tryd.func18, Tryd.ntmps18
  go_upto_region 2 with (fail)
  go_loop [8] (fun iv => ∃ i : Nat, i ≤ L.length ∧ iv = .int .i64 (i : Int) ∧ ∀ k, k < i → ∀ x, L[k]? = some x → (v.toList == x.toList) = false) (fun i => L.length - (intOf i).toNat)
  case atStart => exact ⟨0, by omega, rfl, fun k hk => by omega⟩
  case round =>
    obtain ⟨i, hi, rfl, hall⟩ := hrel
    have Hall := hid hall
    clear hall
    by_cases hlt : i < L.length
    · have d1 : decide (i < L.length) = true := decide_eq_true hlt
      obtain ⟨b, off, rfl, hb, hc⟩ := H.out.at_ (k := i) hlt (by omega)
      have x0 : W.cell? ⟨b, off + i, none⟩ = some (.string L[i]) := hc i _ (by simp [hlt])
      have hx : L[i]? = some L[i] := List.getElem?_eq_getElem hlt
      generalize L[i] = x at *
      have Hx := hid hx
      clear hc hx
      cases hq : (v.toList == x.toList)
      · have Hq := hid hq
        go_wp2
        go_round
        case rel =>
          refine ⟨i + 1, by omega, by go_num, fun k hk y hy => ?_⟩
          by_cases h : k < i
          · exact Hall.out k h y hy
          · obtain rfl : k = i := by omega
            rw [Hx.out] at hy
            injection hy with hy
            rw [← hy]
            exact Hq.out
        case measure => simp [intOf]; omega
      · have ha : L.any (fun x => v.toList == x.toList) = true := List.any_eq_true.2 ⟨x, List.mem_of_getElem? Hx.out, hq⟩
        have Ha := hid ha
        clear ha
        go_wp2
        go_ret
        exact ⟨⟨_, rfl, by rw [Ha.out]; exact decide_eq_true (by omega)⟩, rfl⟩
    · have d1 : decide (i < L.length) = false := decide_eq_false hlt
      have ha : L.any (fun x => v.toList == x.toList) = false := List.any_eq_false.2 fun x hx => by
        obtain ⟨k, hk, rfl⟩ := List.getElem_of_mem hx
        have := Hall.out k (by omega) _ (List.getElem?_eq_getElem hk)
        rw [this]
        exact Bool.false_ne_true
      have Ha := hid ha
      clear ha
      go_wp2
      go_ret
      exact ⟨⟨_, rfl, by rw [Ha.out]; rfl⟩, rfl⟩
theorem contains_any (A : Option Addr) (c : Nat) (L : List ByteArray) (v : ByteArray) (W : World) (B : Nat) (h : Rd W B 1 A L.length (L.map Value.string)) (hm : L.length ≤ 1000) :
    Calls Tryd.prog 16 #[.slice A L.length c, .string v] W fun e w' => e = .returned (.bool (L.any (fun x => v.toList == x.toList))) ∧ W = w' := by
  go_enter Tryd.func16, Tryd.ntmps16
  go_wp2_with fail
  refine (index_any A c L v _ B h hm).mono ?_
  rintro e w1 ⟨⟨k, rfl, hk⟩, rfl⟩
  go_wp2
  go_ret
  exact ⟨rfl, rfl⟩
def ownL : List ByteArray := [⟨#[73, 72, 68, 82]⟩, ⟨#[80, 76, 84, 69]⟩, ⟨#[116, 82, 78, 83]⟩, ⟨#[73, 68, 65, 84]⟩, ⟨#[73, 69, 78, 68]⟩]
def own? (v : ByteArray) : Bool := ownL.any (fun x => v.toList == x.toList)
theorem own_any (v : ByteArray) (W : World) : Calls Tryd.prog 13 #[.string v] W fun e w' => e = .returned (.bool (own? v)) ∧ Below W.heap.size W w' := by
  have H := hid (show Rd (W.alloc (.cells #[.string ⟨#[73, 72, 68, 82]⟩, .string ⟨#[80, 76, 84, 69]⟩, .string ⟨#[116, 82, 78, 83]⟩, .string ⟨#[73, 68, 65, 84]⟩, .string ⟨#[73, 69, 78, 68]⟩] 9)) (W.heap.size + 1) 1 (some ⟨W.heap.size, 0, none⟩) ownL.length (ownL.map Value.string) from
    ⟨rfl, fun _ => ⟨W.heap.size, 0, rfl, by omega, fun j u hu => by rw [Nat.zero_add, (Blk.new W _ _).cell j, ← hu, List.getElem?_toArray]; rfl⟩⟩)
  have hc := fun c => contains_any (some ⟨W.heap.size, 0, none⟩) c ownL v _ _ H.out (by decide)
  have B := hid (show Below W.heap.size W (W.alloc (.cells #[.string ⟨#[73, 72, 68, 82]⟩, .string ⟨#[80, 76, 84, 69]⟩, .string ⟨#[116, 82, 78, 83]⟩, .string ⟨#[73, 68, 65, 84]⟩, .string ⟨#[73, 69, 78, 68]⟩] 9)) from (Below.refl _ _).alloc (Nat.le_refl _) _)
  have Hc := hid hc
  clear hc
  go_enter Tryd.func13, Tryd.ntmps13
  go_wp2_with fail
  refine (Hc.out _).mono ?_
  rintro e w1 ⟨rfl, rfl⟩
  go_wp2
  go_ret
  exact ⟨rfl, B.out⟩
def part (ns : ByteArray) (k : Nat) : ByteArray := ns.extract (4 * k) (4 * k + 4)
def inP (v ns : ByteArray) : Bool := (List.range (ns.size / 4)).any fun k => (part ns k).toList == v.toList
set_option maxRecDepth 100000 in
theorem in_any (v ns : ByteArray) (W : World) (hm : ns.size ≤ 1000) : Calls Tryd.prog 10 #[.string v, .string ns] W fun e w' => e = .returned (.bool (inP v ns)) ∧ W = w' := by
  go_enter Tryd.func10, Tryd.ntmps10
  go_upto_region 2 with (fail)
  go_loop [5] (fun iv => ∃ k i : Nat, i = 4 * k ∧ k ≤ ns.size / 4 ∧ iv = .int .i64 (i : Int) ∧ ∀ j, j < k → ((part ns j).toList == v.toList) = false) (fun i => ns.size + 4 - (intOf i).toNat)
  case atStart => exact ⟨0, 0, rfl, by omega, rfl, fun j hj => by omega⟩
  case round =>
    obtain ⟨k, i, hik, hk, rfl, hall⟩ := hrel
    have Hall := hid hall
    clear hall
    have ti : IntKind.i64.wrap ((i : Int) + 4) = ((i + 4 : Nat) : Int) := (IntWalk.i64_in _ (by omega)).trans (by omega)
    obtain ⟨i4, hi4⟩ : ∃ i4, i4 = i + 4 := ⟨_, rfl⟩
    rw [← hi4] at ti
    have hpk : ns.extract i i4 = part ns k := by unfold part; rw [hi4, hik]
    have Hik := hid hik
    have Hi4 := hid hi4
    have Hk := hid hk
    by_cases hlt : i4 ≤ ns.size
    · have d1 : decide (i4 ≤ ns.size) = true := decide_eq_true hlt
      have hle : i ≤ i4 := by omega
      have d3 : (0 ≤ (i : Int) ∧ (i : Int) ≤ (i4 : Int) ∧ (i4 : Int) ≤ (ns.size : Int)) := by omega
      clear hik hi4 hk
      cases hq : ((part ns k).toList == v.toList)
      · have Hq := hid hq
        go_wp2
        go_round
        case rel =>
          have h1 := Hik.out
          have h2 := Hi4.out
          refine ⟨k + 1, i4, by omega, by omega, rfl, fun j hj => ?_⟩
          by_cases h : j < k
          · exact Hall.out j h
          · obtain rfl : j = k := by omega
            exact Hq.out
        case measure =>
          have h1 := Hik.out
          have h2 := Hi4.out
          simp [intOf]
          omega
      · have ha : inP v ns = true := List.any_eq_true.2 ⟨k, List.mem_range.2 (by have h1 := Hik.out; have h2 := Hi4.out; omega), hq⟩
        have Ha := hid ha
        clear ha
        go_wp2
        go_ret
        rw [Ha.out]
        exact ⟨rfl, rfl⟩
    · have d1 : decide (i4 ≤ ns.size) = false := decide_eq_false hlt
      have ha : inP v ns = false := List.any_eq_false.2 fun j hj => by
        have := Hall.out j (by have h1 := Hik.out; have h2 := Hi4.out; have := List.mem_range.1 hj; omega)
        rw [this]
        exact Bool.false_ne_true
      have Ha := hid ha
      clear ha hik hi4 hk
      go_wp2
      go_ret
      rw [Ha.out]
      exact ⟨rfl, rfl⟩
end Go.Proofs.YtlekobompjehdaaDoor
