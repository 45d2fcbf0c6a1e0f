/-
  (*strings.Replacer).Replace of the two pairs, and wish.show.
-/
import Derived.Test.YtfcppchjikmioaaGreatRpH
import Derived.Test.YtfcppchjikmioaaGreatUtD
namespace Go.Proofs.YtfcppchjikmioaaGreat
open Go.RowKit

set_option maxRecDepth 100000 in
theorem repl_any (B R g4 c4 : Nat) (s : ByteArray) (W0 W : World) (h : Repn B W0 W R g4 c4) (hs : s.size ≤ 4194304) :
    Calls Tryz.prog 50 #[.pointer (some ⟨R, 0, none⟩), .string s] W fun e w' => e = .returned (.string ⟨(qL s.data.toList).toArray⟩) ∧ Below B W0 w' := by
  have H := hid (once_any B R g4 c4 _ W0 W h.below h.le h.rep h.ne h.s0 h.s1 h.s2 h.s3 h.lt)
  clear h
  go_enter Tryz.func50, Tryz.ntmps50
  go_wp2_with (first
    | (go_at_call 71; refine H.out.mono ?_; rintro e w' ⟨rfl, b, p34, p126, A, c, hd⟩; have h3 := hd.rep.cell 3; simp only [List.getElem?_toArray, List.getElem?_cons_zero, List.getElem?_cons_succ] at h3; have HD := hid hd; clear hd)
    | (refine (replace_any b (R + 1) c p34 p126 A s _ hs HD.out.blk HD.out.y34 HD.out.y126 HD.out.row).mono ?_; rintro e w' ⟨rfl, hB⟩))
  go_ret
  exact ⟨rfl, HD.out.below.trans (hB.mono (by have h1 := HD.out.le; have h2 := HD.out.rep.lt; omega))⟩
/-- what show says of a value, and whether it says anything -/
def shoB : WV → List UInt8
  | .t _ => 61 :: falseS
  | v => shB v
def shoK : WV → Bool
  | .t b => !b
  | _ => true
set_option maxRecDepth 100000 in
theorem show_truth (b : Bool) (W : World) : Calls Tryz.prog 24 #[.iface 4 (.bool b)] W fun e w' => e = .returned (.tuple #[.string ⟨(61 :: falseS).toArray⟩, .bool (!b)]) ∧ Below W.heap.size W w' := by
  have tabool : ∀ w, (Instr.typeAssert (.iface 4 (.bool b)) 39 4 true).run Tryz.prog w = .ok (.tuple #[.bool b, .bool true]) w := fun _ => by kernel_rfl
  go_enter Tryz.func24, Tryz.ntmps24
  go_wp2
  go_ret2
  exact ⟨rfl, Below.refl _ _⟩
set_option maxRecDepth 100000 in
theorem show_odd (x : Int) (W : World) : Calls Tryz.prog 24 #[.iface 21 (.int .i32 x)] W fun e w' => e = .returned (.tuple #[.string ⟨#[]⟩, .bool false]) ∧ Below W.heap.size W w' := by
  have tabool : ∀ w, (Instr.typeAssert (.iface 21 (.int .i32 x)) 39 4 true).run Tryz.prog w = .ok (.tuple #[.bool false, .bool false]) w := fun _ => by kernel_rfl
  have taint : ∀ w, (Instr.typeAssert (.iface 21 (.int .i32 x)) 39 3 true).run Tryz.prog w = .ok (.tuple #[.int .i64 0, .bool false]) w := fun _ => by kernel_rfl
  have tastring : ∀ w, (Instr.typeAssert (.iface 21 (.int .i32 x)) 39 9 true).run Tryz.prog w = .ok (.tuple #[.string ByteArray.empty, .bool false]) w := fun _ => by kernel_rfl
  go_enter Tryz.func24, Tryz.ntmps24
  go_wp2
  go_ret2
  exact ⟨rfl, Below.refl _ _⟩
theorem rd_four (w : World) (l : List Value) (h : l.length = 4) : Rd (w.alloc (.cells l.toArray 9)) (w.heap.size + 1) 1 (some ⟨w.heap.size, 0, none⟩) 4 l :=
  ⟨by rw [h], fun _ => ⟨w.heap.size, 0, rfl, Nat.lt_succ_self _, fun j u hu => by rw [(Blk.new w 9 l.toArray).cell (0 + j), Nat.zero_add, ← hu, List.getElem?_toArray]⟩⟩
theorem decZ_len (v : Int) : (decZ v).length ≤ 1000000001 := by
  unfold decZ
  have := decL_len v.natAbs
  split
  · simp
  · split <;> simp <;> omega
set_option maxRecDepth 100000 in
theorem show_num (z : Int) (W : World) : Calls Tryz.prog 24 #[.iface 3 (.int .i64 z)] W fun e w' => e = .returned (.tuple #[.string ⟨(61 :: decZ z).toArray⟩, .bool true]) ∧ Below W.heap.size W w' := by
  have tabool : ∀ w, (Instr.typeAssert (.iface 3 (.int .i64 z)) 39 4 true).run Tryz.prog w = .ok (.tuple #[.bool false, .bool false]) w := fun _ => by kernel_rfl
  have taint : ∀ w, (Instr.typeAssert (.iface 3 (.int .i64 z)) 39 3 true).run Tryz.prog w = .ok (.tuple #[.int .i64 z, .bool true]) w := fun _ => by kernel_rfl
  have hl := decZ_len z
  have hlen : ¬ 9223372036854775807 < 1 + (decZ z).length := by omega
  obtain ⟨d, hd⟩ : ∃ d, d = decZ z := ⟨_, rfl⟩
  have H := hid (hd ▸ decimal_any z)
  rw [← hd] at hl hlen ⊢
  clear hd
  go_enter Tryz.func24, Tryz.ntmps24
  go_wp2_with (go_at_call 47; refine (H.out _).mono ?_; rintro e w' ⟨rfl, rfl⟩)
  go_ret2
  refine ⟨?_, Below.refl _ _⟩
  show Ending.returned (.tuple #[.string (_ ++ _), _]) = _
  congr 4
set_option maxRecDepth 100000 in
theorem show_word (x : ByteArray) (hx : x.size ≤ 1000000) (W : World) : Calls Tryz.prog 24 #[.iface 9 (.string x)] W fun e w' => e = .returned (.tuple #[.string ⟨(shB (.s x)).toArray⟩, .bool true]) ∧ Below W.heap.size W w' := by
  have tabool : ∀ w, (Instr.typeAssert (.iface 9 (.string x)) 39 4 true).run Tryz.prog w = .ok (.tuple #[.bool false, .bool false]) w := fun _ => by kernel_rfl
  have taint : ∀ w, (Instr.typeAssert (.iface 9 (.string x)) 39 3 true).run Tryz.prog w = .ok (.tuple #[.int .i64 0, .bool false]) w := fun _ => by kernel_rfl
  have tastring : ∀ w, (Instr.typeAssert (.iface 9 (.string x)) 39 9 true).run Tryz.prog w = .ok (.tuple #[.string x, .bool true]) w := fun _ => by kernel_rfl
  have P := hid (plain_any x)
  by_cases hp : plainS x = true
  · have hlen : ¬ 9223372036854775807 < 1 + x.size := by omega
    go_enter Tryz.func24, Tryz.ntmps24
    go_wp2_with (go_at_call 48; refine (P.out _).mono ?_; rintro e w' ⟨rfl, hB⟩)
    go_ret2
    refine ⟨?_, hB⟩
    rw [show shB (.s x) = 61 :: x.data.toList from if_pos hp]
    show Ending.returned (.tuple #[.string (⟨#[61]⟩ ++ x), _]) = _
    rw [show (⟨#[61]⟩ : ByteArray) ++ x = ⟨(61 :: x.data.toList).toArray⟩ from ba_ext (by simp)]
    rfl
  · have hp' : plainS x = false := by simpa using hp
    obtain ⟨q, hq⟩ : ∃ q, q = qL x.data.toList := ⟨_, rfl⟩
    have hql : q.length ≤ 2000000 := by
      rw [hq, qL_len]
      have := nQ_le x.data.toList
      have : x.data.toList.length = x.size := rfl
      omega
    have hl1 : ¬ 9223372036854775807 < 2 + q.length := by omega
    have hl2 : ¬ 9223372036854775807 < 2 + q.length + 1 := by omega
    have Hq := hid hq
    have RA := hid (fun (B R g4 c4 : Nat) (W0 W : World) (h : Repn B W0 W R g4 c4) => hq ▸ repl_any B R g4 c4 x W0 W h (by omega))
    clear hq
    go_enter Tryz.func24, Tryz.ntmps24
    go_wp2_with (first
      | (go_at_call 48; refine (P.out _).mono ?_; rintro e w' ⟨rfl, hB⟩)
      | (go_at_call 49; refine (newRep_any _ _ _ _ (rd_four w' four rfl) (by intro h; cases h)).mono ?_; rintro e w2 ⟨R, g4, c4, rfl, hR⟩)
      | (go_at_call 50; refine (RA.out _ R g4 c4 _ _ hR).mono ?_; rintro e w3 ⟨rfl, hB3⟩))
    go_ret2
    refine ⟨?_, hB.trans (((Below.refl _ _).alloc (Nat.le_refl _) _).mono hB.size |>.trans (hB3.mono (by have := hB.size; simp; omega)))⟩
    rw [show shB (.s x) = 61 :: 34 :: (q ++ [34]) from by rw [Hq.out]; exact if_neg hp]
    show Ending.returned (.tuple #[.string (⟨#[61, 34]⟩ ++ ⟨q.toArray⟩ ++ ⟨#[34]⟩), _]) = _
    rw [show (⟨#[61, 34]⟩ : ByteArray) ++ ⟨q.toArray⟩ ++ ⟨#[34]⟩ = ⟨(61 :: 34 :: (q ++ [34])).toArray⟩ from ba_ext (by simp)]
    rfl
end Go.Proofs.YtfcppchjikmioaaGreat
