/-
  Which names are kept: png.keeps and the reference's Keeps.
-/
import Derived.Test.YtlekobompjehdaaDoorKpC
namespace Go.Proofs.YtlekobompjehdaaDoor
open Go.RowKit

def c2 : List (List UInt8) := [[98, 75, 71, 68], [115, 66, 73, 84]]
def cH : List UInt8 := [104, 73, 83, 84]
def c3 : List (List UInt8) := [[99, 72, 82, 77], [103, 65, 77, 65], [105, 67, 67, 80], [115, 82, 71, 66], [112, 72, 89, 115], [115, 80, 76, 84], [116, 73, 77, 69], [116, 69, 88, 116], [122, 84, 88, 116], [105, 84, 88, 116]]
def eqs (v : ByteArray) (c : List UInt8) : Bool := v.toList == c
def inL (v : ByteArray) (L : List (List UInt8)) : Bool := L.any (eqs v)
def keepP (v : ByteArray) (col : Int) (stays : Bool) : Bool :=
  if inL v c2 then stays else if eqs v cH then stays && (col == 3) else if inL v c3 then true else !own? v && safe v
set_option maxRecDepth 100000 in
set_option maxHeartbeats 4000000 in
theorem keeps_any (v : ByteArray) (col : Int) (stays : Bool) (W : World) (hP : PropsIn W) :
    Calls Tryd.prog 8 #[.string v, .agg #[.int .i64 0, .int .i64 0, .int .i64 0, .int .i64 col, .int .i64 0, .slice none 0 0, .slice none 0 0], .bool stays] W fun e w' => e = .returned (.bool (keepP v col stays)) ∧ Below W.heap.size W w' := by
  have P := hid hP
  clear hP
  cases h0 : (v.toList == [98, 75, 71, 68])
  rotate_left
  · have K := hid (show keepP v col stays = stays by unfold keepP inL c2 eqs; simp only [List.any_cons, List.any_nil, h0]; rfl)
    go_enter Tryd.func8, Tryd.ntmps8
    go_wp2
    go_ret
    rw [K.out]
    exact ⟨rfl, (Below.refl _ _).alloc (Nat.le_refl _) _⟩
  cases h1 : (v.toList == [115, 66, 73, 84])
  rotate_left
  · have K := hid (show keepP v col stays = stays by unfold keepP inL c2 eqs; simp only [List.any_cons, List.any_nil, h0, h1]; rfl)
    go_enter Tryd.func8, Tryd.ntmps8
    go_wp2
    go_ret
    rw [K.out]
    exact ⟨rfl, (Below.refl _ _).alloc (Nat.le_refl _) _⟩
  cases h2 : (v.toList == [104, 73, 83, 84])
  rotate_left
  · have K := hid (show keepP v col stays = (stays && (col == 3)) by unfold keepP inL c2 cH eqs; simp only [List.any_cons, List.any_nil, h0, h1, h2]; rfl)
    cases stays
    · skip
      go_enter Tryd.func8, Tryd.ntmps8
      go_wp2
      go_ret
      rw [K.out]
      exact ⟨rfl, (Below.refl _ _).alloc (Nat.le_refl _) _⟩
    · skip
      go_enter Tryd.func8, Tryd.ntmps8
      go_wp2
      go_ret
      rw [K.out]
      exact ⟨rfl, (Below.refl _ _).alloc (Nat.le_refl _) _⟩
  cases h3 : (v.toList == [99, 72, 82, 77])
  rotate_left
  · have K := hid (show keepP v col stays = true by unfold keepP inL c2 cH c3 eqs; simp only [List.any_cons, List.any_nil, h0, h1, h2, h3]; rfl)
    go_enter Tryd.func8, Tryd.ntmps8
    go_wp2
    go_ret
    rw [K.out]
    exact ⟨rfl, (Below.refl _ _).alloc (Nat.le_refl _) _⟩
  cases h4 : (v.toList == [103, 65, 77, 65])
  rotate_left
  · have K := hid (show keepP v col stays = true by unfold keepP inL c2 cH c3 eqs; simp only [List.any_cons, List.any_nil, h0, h1, h2, h3, h4]; rfl)
    go_enter Tryd.func8, Tryd.ntmps8
    go_wp2
    go_ret
    rw [K.out]
    exact ⟨rfl, (Below.refl _ _).alloc (Nat.le_refl _) _⟩
  cases h5 : (v.toList == [105, 67, 67, 80])
  rotate_left
  · have K := hid (show keepP v col stays = true by unfold keepP inL c2 cH c3 eqs; simp only [List.any_cons, List.any_nil, h0, h1, h2, h3, h4, h5]; rfl)
    go_enter Tryd.func8, Tryd.ntmps8
    go_wp2
    go_ret
    rw [K.out]
    exact ⟨rfl, (Below.refl _ _).alloc (Nat.le_refl _) _⟩
  cases h6 : (v.toList == [115, 82, 71, 66])
  rotate_left
  · have K := hid (show keepP v col stays = true by unfold keepP inL c2 cH c3 eqs; simp only [List.any_cons, List.any_nil, h0, h1, h2, h3, h4, h5, h6]; rfl)
    go_enter Tryd.func8, Tryd.ntmps8
    go_wp2
    go_ret
    rw [K.out]
    exact ⟨rfl, (Below.refl _ _).alloc (Nat.le_refl _) _⟩
  cases h7 : (v.toList == [112, 72, 89, 115])
  rotate_left
  · have K := hid (show keepP v col stays = true by unfold keepP inL c2 cH c3 eqs; simp only [List.any_cons, List.any_nil, h0, h1, h2, h3, h4, h5, h6, h7]; rfl)
    go_enter Tryd.func8, Tryd.ntmps8
    go_wp2
    go_ret
    rw [K.out]
    exact ⟨rfl, (Below.refl _ _).alloc (Nat.le_refl _) _⟩
  cases h8 : (v.toList == [115, 80, 76, 84])
  rotate_left
  · have K := hid (show keepP v col stays = true by unfold keepP inL c2 cH c3 eqs; simp only [List.any_cons, List.any_nil, h0, h1, h2, h3, h4, h5, h6, h7, h8]; rfl)
    go_enter Tryd.func8, Tryd.ntmps8
    go_wp2
    go_ret
    rw [K.out]
    exact ⟨rfl, (Below.refl _ _).alloc (Nat.le_refl _) _⟩
  cases h9 : (v.toList == [116, 73, 77, 69])
  rotate_left
  · have K := hid (show keepP v col stays = true by unfold keepP inL c2 cH c3 eqs; simp only [List.any_cons, List.any_nil, h0, h1, h2, h3, h4, h5, h6, h7, h8, h9]; rfl)
    go_enter Tryd.func8, Tryd.ntmps8
    go_wp2
    go_ret
    rw [K.out]
    exact ⟨rfl, (Below.refl _ _).alloc (Nat.le_refl _) _⟩
  cases h10 : (v.toList == [116, 69, 88, 116])
  rotate_left
  · have K := hid (show keepP v col stays = true by unfold keepP inL c2 cH c3 eqs; simp only [List.any_cons, List.any_nil, h0, h1, h2, h3, h4, h5, h6, h7, h8, h9, h10]; rfl)
    go_enter Tryd.func8, Tryd.ntmps8
    go_wp2
    go_ret
    rw [K.out]
    exact ⟨rfl, (Below.refl _ _).alloc (Nat.le_refl _) _⟩
  cases h11 : (v.toList == [122, 84, 88, 116])
  rotate_left
  · have K := hid (show keepP v col stays = true by unfold keepP inL c2 cH c3 eqs; simp only [List.any_cons, List.any_nil, h0, h1, h2, h3, h4, h5, h6, h7, h8, h9, h10, h11]; rfl)
    go_enter Tryd.func8, Tryd.ntmps8
    go_wp2
    go_ret
    rw [K.out]
    exact ⟨rfl, (Below.refl _ _).alloc (Nat.le_refl _) _⟩
  cases h12 : (v.toList == [105, 84, 88, 116])
  rotate_left
  · have K := hid (show keepP v col stays = true by unfold keepP inL c2 cH c3 eqs; simp only [List.any_cons, List.any_nil, h0, h1, h2, h3, h4, h5, h6, h7, h8, h9, h10, h11, h12]; rfl)
    go_enter Tryd.func8, Tryd.ntmps8
    go_wp2
    go_ret
    rw [K.out]
    exact ⟨rfl, (Below.refl _ _).alloc (Nat.le_refl _) _⟩
  have K := hid (show keepP v col stays = (!own? v && safe v) by unfold keepP inL c2 cH c3 eqs; simp only [List.any_cons, List.any_nil, h0, h1, h2, h3, h4, h5, h6, h7, h8, h9, h10, h11, h12]; rfl)
  go_enter Tryd.func8, Tryd.ntmps8
  have B := hid (show Below W.heap.size W (W.alloc (.cells #[.int .i64 0, .int .i64 0, .int .i64 0, .int .i64 col, .int .i64 0, .slice none 0 0, .slice none 0 0] 36)) from (Below.refl _ _).alloc (Nat.le_refl _) _)
  have P1 := hid (P.out.below B.out P.out.sz)
  go_wp2_with fail
  refine (own_any v _).mono ?_
  rintro e w1 ⟨rfl, hb1⟩
  have B1 := hid (B.out.trans (hb1.mono B.out.size))
  have P2 := hid (P1.out.below hb1 P1.out.sz)
  clear hb1
  cases ho : own? v
  · have K2 := hid (show keepP v col stays = safe v by rw [K.out, ho]; rfl)
    clear ho
    go_wp2_with fail
    refine (Safe_any v _ P2.out).mono ?_
    rintro e w2 ⟨rfl, hb2⟩
    have B2 := hid (B1.out.trans (hb2.mono B1.out.size))
    clear hb2
    go_wp2
    go_ret
    rw [K2.out]
    exact ⟨rfl, B2.out⟩
  · have K2 := hid (show keepP v col stays = false by rw [K.out, ho]; rfl)
    clear ho
    go_wp2
    go_ret
    rw [K2.out]
    exact ⟨rfl, B1.out⟩
/-- the reference's parts of a row of names -/
theorem inP_list (v ns : ByteArray) : inP v ns = ((List.range (ns.size / 4)).map fun k => (part ns k).toList).any (fun x => x == v.toList) := by
  unfold inP
  rw [List.any_map]
  rfl
theorem any_eqs (v : ByteArray) : ∀ L : List (List UInt8), L.any (fun x => x == v.toList) = inL v L
  | [] => rfl
  | x :: r => by
    have h := any_eqs v r
    unfold inL at *
    rw [List.any_cons, List.any_cons, h]
    congr 1
    unfold eqs
    by_cases e : x = v.toList
    · rw [e]
    · rw [beq_eq_false_iff_ne.2 e, beq_eq_false_iff_ne.2 (fun h => e h.symm)]
def cO : List (List UInt8) := [[73, 72, 68, 82], [80, 76, 84, 69], [116, 82, 78, 83], [73, 68, 65, 84], [73, 69, 78, 68]]
theorem own_list (v : ByteArray) : own? v = inL v cO := by
  unfold own? inL eqs ownL cO
  simp only [List.any_cons, List.any_nil, ByteArray.toList_eq]
def kO : ByteArray := ⟨#[73, 72, 68, 82, 80, 76, 84, 69, 116, 82, 78, 83, 73, 68, 65, 84, 73, 69, 78, 68]⟩
def k2 : ByteArray := ⟨#[98, 75, 71, 68, 115, 66, 73, 84]⟩
def k3 : ByteArray := ⟨#[99, 72, 82, 77, 103, 65, 77, 65, 105, 67, 67, 80, 115, 82, 71, 66, 112, 72, 89, 115, 115, 80, 76, 84, 116, 73, 77, 69, 116, 69, 88, 116, 122, 84, 88, 116, 105, 84, 88, 116]⟩
theorem in_O (v : ByteArray) : inP v kO = inL v cO := by
  rw [inP_list, any_eqs]
  congr 1
  simp only [ByteArray.toList_eq]
  decide
theorem in_2 (v : ByteArray) : inP v k2 = inL v c2 := by
  rw [inP_list, any_eqs]
  congr 1
  simp only [ByteArray.toList_eq]
  decide
theorem in_3 (v : ByteArray) : inP v k3 = inL v c3 := by
  rw [inP_list, any_eqs]
  congr 1
  simp only [ByteArray.toList_eq]
  decide
def refP (v : ByteArray) (col : Int) (bare stays : Bool) : Bool :=
  if bare || inL v cO then false else if inL v c2 then stays else if eqs v cH then stays && (col == 3) else if inL v c3 then true else safe v
theorem ref_keep (v : ByteArray) (col : Int) (bare stays : Bool) : refP v col bare stays = (!bare && keepP v col stays) := by
  unfold refP keepP
  rw [own_list]
  cases bare
  · cases ho : inL v cO
    · simp
    · obtain ⟨x, hx, hv⟩ := List.any_eq_true.1 ho
      have hv2 : v.toList = x := by simpa [eqs] using hv
      have e2 : inL v c2 = false := by
        unfold inL eqs; rw [hv2]; unfold cO at hx; simp at hx
        rcases hx with rfl | rfl | rfl | rfl | rfl <;> decide
      have eH : eqs v cH = false := by
        unfold eqs; rw [hv2]; unfold cO at hx; simp at hx
        rcases hx with rfl | rfl | rfl | rfl | rfl <;> decide
      have e3 : inL v c3 = false := by
        unfold inL eqs; rw [hv2]; unfold cO at hx; simp at hx
        rcases hx with rfl | rfl | rfl | rfl | rfl <;> decide
      rw [e2, eH, e3]
      rfl
  · rfl
set_option maxRecDepth 100000 in
set_option maxHeartbeats 4000000 in
theorem keepsRef_any (v : ByteArray) (col : Int) (bare stays : Bool) (W : World) :
    Calls Tryd.prog 6 #[.string v, .int .i64 col, .bool bare, .bool stays] W fun e w' => e = .returned (.bool (!bare && keepP v col stays)) ∧ W = w' := by
  rw [← ref_keep]
  have hO := fun w => in_any v kO w (by decide)
  have h2 := fun w => in_any v k2 w (by decide)
  have h3 := fun w => in_any v k3 w (by decide)
  rw [in_O] at hO
  rw [in_2] at h2
  rw [in_3] at h3
  unfold kO at hO
  unfold k2 at h2
  unfold k3 at h3
  have HO := hid hO
  have H2 := hid h2
  have H3 := hid h3
  clear hO h2 h3
  cases bare
  rotate_left
  · have K := hid (show refP v col true stays = false from rfl)
    go_enter Tryd.func6, Tryd.ntmps6
    go_wp2
    go_ret
    rw [K.out]
    exact ⟨rfl, rfl⟩
  cases ho : inL v cO
  rotate_left
  · have K := hid (show refP v col false stays = false by unfold refP; rw [ho]; rfl)
    rw [ho] at HO
    clear ho
    go_enter Tryd.func6, Tryd.ntmps6
    go_wp2_with fail
    refine (HO.out _).mono ?_
    rintro e w1 ⟨rfl, rfl⟩
    go_wp2
    go_ret
    rw [K.out]
    exact ⟨rfl, rfl⟩
  cases e2 : inL v c2
  rotate_left
  · have K := hid (show refP v col false stays = stays by unfold refP; rw [ho, e2]; rfl)
    rw [ho] at HO
    rw [e2] at H2
    clear ho e2
    go_enter Tryd.func6, Tryd.ntmps6
    go_wp2_with fail
    refine (HO.out _).mono ?_
    rintro e w1 ⟨rfl, rfl⟩
    go_wp2_with fail
    refine (H2.out _).mono ?_
    rintro e w1 ⟨rfl, rfl⟩
    go_wp2
    go_ret
    rw [K.out]
    exact ⟨rfl, rfl⟩
  cases eH : (v.toList == [104, 73, 83, 84])
  rotate_left
  · have K := hid (show refP v col false stays = (stays && (col == 3)) by unfold refP eqs cH; rw [ho, e2, eH]; rfl)
    rw [ho] at HO
    rw [e2] at H2
    clear ho e2
    cases stays
    · skip
      go_enter Tryd.func6, Tryd.ntmps6
      go_wp2_with fail
      refine (HO.out _).mono ?_
      rintro e w1 ⟨rfl, rfl⟩
      go_wp2_with fail
      refine (H2.out _).mono ?_
      rintro e w1 ⟨rfl, rfl⟩
      go_wp2
      go_ret
      rw [K.out]
      exact ⟨rfl, rfl⟩
    · skip
      go_enter Tryd.func6, Tryd.ntmps6
      go_wp2_with fail
      refine (HO.out _).mono ?_
      rintro e w1 ⟨rfl, rfl⟩
      go_wp2_with fail
      refine (H2.out _).mono ?_
      rintro e w1 ⟨rfl, rfl⟩
      go_wp2
      go_ret
      rw [K.out]
      exact ⟨rfl, rfl⟩
  cases e3 : inL v c3
  rotate_left
  · have K := hid (show refP v col false stays = true by unfold refP eqs cH; rw [ho, e2, eH, e3]; rfl)
    rw [ho] at HO
    rw [e2] at H2
    rw [e3] at H3
    clear ho e2 e3
    go_enter Tryd.func6, Tryd.ntmps6
    go_wp2_with fail
    refine (HO.out _).mono ?_
    rintro e w1 ⟨rfl, rfl⟩
    go_wp2_with fail
    refine (H2.out _).mono ?_
    rintro e w1 ⟨rfl, rfl⟩
    go_wp2_with fail
    refine (H3.out _).mono ?_
    rintro e w1 ⟨rfl, rfl⟩
    go_wp2
    go_ret
    rw [K.out]
    exact ⟨rfl, rfl⟩
  have K := hid (show refP v col false stays = safe v by unfold refP eqs cH; rw [ho, e2, eH, e3]; rfl)
  rw [ho] at HO
  rw [e2] at H2
  rw [e3] at H3
  clear ho e2 e3
  go_enter Tryd.func6, Tryd.ntmps6
  go_wp2_with fail
  refine (HO.out _).mono ?_
  rintro e w1 ⟨rfl, rfl⟩
  go_wp2_with fail
  refine (H2.out _).mono ?_
  rintro e w1 ⟨rfl, rfl⟩
  go_wp2_with fail
  refine (H3.out _).mono ?_
  rintro e w1 ⟨rfl, rfl⟩
  go_wp2_with fail
  refine (namedRef_any v _).mono ?_
  rintro e w1 ⟨rfl, rfl⟩
  cases hn : named v
  · have K2 := hid (show refP v col false stays = false by rw [K.out]; unfold safe; rw [hn]; rfl)
    clear hn
    go_wp2
    go_ret
    rw [K2.out]
    exact ⟨rfl, rfl⟩
  · have h4 := (named_let hn).1
    have h3 : 3 < v.size := by omega
    have hb := bt_at h3
    have K2 := hid (show refP v col false stays = smI (bt v 3) by rw [K.out]; unfold safe; rw [hn]; rfl)
    clear hn
    go_wp2_with fail
    refine (smallB_any _ _).mono ?_
    rintro e w1 ⟨rfl, rfl⟩
    go_wp2
    go_ret
    rw [K2.out]
    exact ⟨rfl, rfl⟩
end Go.Proofs.YtlekobompjehdaaDoor
