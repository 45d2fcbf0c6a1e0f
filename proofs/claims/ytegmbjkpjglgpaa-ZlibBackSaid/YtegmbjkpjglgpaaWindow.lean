/-
  zlib.Window: the least window of any tokens.
-/
import Derived.Test.YtegmbjkpjglgpaaBase
namespace Go.Proofs.Ytegmbjkpjglgpaa
open Go.RowKit

def farStep (m : Int) (t : Int × Int) : Int := if 0 < t.1 then (if m < t.2 then t.2 else m) else m
def far (l : List (Int × Int)) : Int := l.foldl farStep 0
theorem far_take (l : List (Int × Int)) (j : Nat) (hj : j < l.length) : far (l.take (j + 1)) = farStep (far (l.take j)) l[j] := by
  unfold far
  rw [List.take_succ_eq_append_getElem hj, List.foldl_append]; rfl

def IsWin (v : Int) : Prop := v = 256 ∨ v = 512 ∨ v = 1024 ∨ v = 2048 ∨ v = 4096 ∨ v = 8192 ∨ v = 16384 ∨ v = 32768
/-- v is the least window for distances up to m -/
def Win (v m : Int) : Prop := IsWin v ∧ (v = 32768 ∨ m ≤ v) ∧ (v = 256 ∨ v / 2 < m)
/-- y comes of the window x by doubling, as long as the token (tl, td) reaches beyond it -/
def Mid (x tl td y : Int) : Prop := (IsWin x → IsWin y) ∧ 0 ≤ y ∧ x ≤ y ∧ (y = x ∨ (0 < tl ∧ y / 2 < td))
theorem Mid.start (x tl td : Int) (hx : 256 ≤ x) : Mid x tl td x := ⟨id, by omega, by omega, .inl rfl⟩
theorem Mid.half {x tl td y : Int} (h : Mid x tl td y) (hw : IsWin x) (hy : y < 32768) : y ≤ 16384 := by
  have := h.1 hw
  unfold IsWin at this; omega
theorem Mid.step {x tl td y : Int} (h : Mid x tl td y) (g1 : 0 < tl) (g2 : y < td) (g3 : y < 32768) : Mid x tl td (2 * y) := by
  obtain ⟨h1, h0, h2, h3⟩ := h
  refine ⟨fun hx => ?_, by omega, ?_, .inr ⟨g1, by omega⟩⟩
  · have := h1 hx
    unfold IsWin at *; omega
  · omega
theorem Win.next {x m tl td y : Int} (h : Win x m) (hm : Mid x tl td y) (hgo : ¬ (0 < tl ∧ y < td ∧ y < 32768)) : Win y (farStep m (tl, td)) := by
  obtain ⟨w1, w2, w3⟩ := h
  obtain ⟨h1, h0, h2, h3⟩ := hm
  have hy := h1 w1
  have hyb : 256 ≤ y ∧ y ≤ 32768 := by unfold IsWin at hy; omega
  refine ⟨hy, ?_, ?_⟩ <;> unfold farStep <;> simp only <;> (repeat' split) <;> omega
def SomeWin (m : Int) (W : World) (e : Ending) (w' : World) : Prop := ∃ v : Int, Win v m ∧ e = .returned (.int .i64 v) ∧ Below W.heap.size W w'

set_option maxHeartbeats 1000000 in
theorem window_any (A : Option Addr) (c : Nat) (l : List (Int × Int)) (W : World) (hr : Rd W W.heap.size 2 A l.length (l.flatMap encTok)) (hm : l.length ≤ maxLen) (hok : ∀ t ∈ l, okTok t) :
    Calls Try.prog 34 #[.slice A l.length c] W (SomeWin (far l) W) := by
  unfold maxLen at hm
  have Hok := hid hok
  clear hok
  have Hr := hid hr
  clear hr
  go_enter Try.func34, Try.ntmps34
  go_wp2
  go_loopw [3, 8] (fun v i wr => ∃ (j : Nat) (x : Int), j ≤ l.length ∧ i = .int .i64 j ∧ v = .int .i64 x ∧ Win x (far (l.take j)) ∧ Below W.heap.size W wr) (fun _ i _ => l.length - (intOf i).toNat)
  case atStart => exact ⟨0, 256, by omega, rfl, rfl, ⟨.inl rfl, by simp [far], .inl rfl⟩, Below.refl _ _⟩
  case round =>
    obtain ⟨j, x, hj, rfl, rfl, hw, hb⟩ := hrel
    have Hw := hid hw
    have hx : 256 ≤ x ∧ x ≤ 32768 := by obtain ⟨h, _⟩ := hw; unfold IsWin at h; omega
    obtain ⟨hx1, hx2⟩ := hx
    clear hw
    by_cases hlt : j < l.length
    · obtain ⟨b, off, rfl, hbb, h0, h1⟩ := tok_at (Hr.out.below hb (Nat.le_refl _)) hlt
      have Hs := hid (far_take l j hlt)
      have Htd := hid (Hok.out l[j] (List.getElem_mem hlt)).2
      generalize l[j] = t at *
      obtain ⟨tl, td⟩ := t
      go_wp2
      go_loop [3] (fun v => ∃ y : Int, v = .int .i64 y ∧ 256 ≤ y ∧ y ≤ 32768 ∧ Mid x tl td y) (fun v => (32768 - intOf v).toNat)
      case atStart => exact ⟨x, rfl, hx1, hx2, Mid.start x tl td hx1⟩
      case round =>
        obtain ⟨y, rfl, hy1, hy2, hmid⟩ := hrel
        have Hm := hid hmid
        clear hmid
        by_cases hgo : 0 < tl ∧ y < td ∧ y < 32768
        · obtain ⟨g1, g2, g3⟩ := hgo
          have hy3 : y ≤ 16384 := Mid.half Hm.out Hw.out.1 g3
          go_wp2
          go_round
          case rel => exact ⟨2 * y, by first | rfl | (congr 1; omega), by omega, by omega, Mid.step Hm.out g1 g2 g3⟩
          case measure => simp [intOf]; omega
        · have hgo' : ¬ 0 < tl ∨ (0 < tl ∧ ¬ y < td) ∨ (0 < tl ∧ y < td ∧ ¬ y < 32768) := by omega
          have hwin := Win.next Hw.out Hm.out hgo
          rw [← Hs.out] at hwin
          have Hwin := hid hwin
          clear hwin hgo
          rcases hgo' with g | ⟨g1, g2⟩ | ⟨g1, g2, g3⟩
          all_goals
            go_wp2
            go_roundw
            case rel => exact ⟨j + 1, y, by omega, by go_num, rfl, Hwin.out, (hb.alloc (by exact hb.size) _)⟩
            case measure => simp [intOf]; omega
    · go_wp2
      go_ret
      have e : j = l.length := by omega
      subst e
      exact ⟨x, by have := Hw.out; rwa [List.take_length] at this, rfl, hb⟩

end Go.Proofs.Ytegmbjkpjglgpaa
