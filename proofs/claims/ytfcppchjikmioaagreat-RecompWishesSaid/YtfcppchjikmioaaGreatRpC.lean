/-
  A strings.Replacer of the two pairs, built once: (*strings.Replacer).buildOnce under (*sync.Once).Do.
-/
import Derived.Test.YtfcppchjikmioaaGreatRpB
namespace Go.Proofs.YtfcppchjikmioaaGreat
open Go.RowKit

theorem Byt.far {w : World} {b : Nat} {p u : Value} {l : List Int} (h : Byt w b p l) {a : Addr} (ha : a.block ≤ b) : Byt (w.setCell a u) b p l := by
  obtain ⟨g, c, cs, fr, e, h1, h2, h3⟩ := h
  exact ⟨g, c, cs, fr, e, h1, (Below.heap_setCell w a u g (by omega)).trans h2, h3⟩
/-- a replacer at R, what it was built to at b -/
structure Repd (B : Nat) (W w : World) (R b : Nat) (p34 p126 : Value) (A : Option Addr) (c : Nat) (cs : Array Value) : Prop where
  below : Below B W w
  le : B ≤ R
  rb : R < b
  blk : Blk w b 148 (bsC p34 p126 (.slice A 2 c))
  y34 : Byt w b p34 [126, 34]
  y126 : Byt w b p126 [126, 126]
  row : w.ownsRow (R + 1) 9 1 (.slice A 2 c) 2 [.string ⟨#[126]⟩, .string ⟨#[34]⟩]
  rep : Blk w R 121 cs
theorem Repd.set {B : Nat} {W w : World} {R b : Nat} {p34 p126 : Value} {A : Option Addr} {c : Nat} {cs : Array Value} (h : Repd B W w R b p34 p126 A c cs) (i : Nat) (u : Value) : Repd B W (w.setCell ⟨R, i, none⟩ u) R b p34 p126 A c (cs.setIfInBounds i u) := by
  have hrb := h.rb
  refine ⟨h.below.setCell h.le _, h.le, hrb, h.blk.far (by show b ≠ R; omega) _, h.y34.far (by show R ≤ b; omega), h.y126.far (by show R ≤ b; omega), own_far h.row ?_ _, h.rep.set_ i u⟩
  obtain ⟨g, e, h1, _⟩ := own_block h.row (by decide)
  subst e
  intro he
  have : R = g := by simpa [Value.ownBlock] using he
  omega
theorem Repd.drew {B : Nat} {W w : World} {R b : Nat} {p34 p126 : Value} {A : Option Addr} {c : Nat} {cs : Array Value} (h : Repd B W w R b p34 p126 A c cs) : Repd B W w.drew R b p34 p126 A c cs :=
  ⟨h.below.drew, h.le, h.rb, h.blk, h.y34, h.y126, h.row, h.rep⟩
set_option maxRecDepth 100000 in
theorem buildOnce_any (B R g4 c4 : Nat) (x0 x1 x2 : Value) (W0 W : World) (h0 : Below B W0 W) (hB : B ≤ R) (hR : Blk W R 121 #[x0, x1, x2, .nilIface, .slice (some ⟨g4, 0, none⟩) 4 c4])
    (s0 : W.cell? ⟨g4, 0, none⟩ = some (.string ⟨#[34]⟩)) (s1 : W.cell? ⟨g4, 1, none⟩ = some (.string ⟨#[126, 34]⟩)) (s2 : W.cell? ⟨g4, 2, none⟩ = some (.string ⟨#[126]⟩)) (s3 : W.cell? ⟨g4, 3, none⟩ = some (.string ⟨#[126, 126]⟩)) (hg : g4 < W.heap.size) :
    Calls Tryz.prog 72 #[.pointer (some ⟨R, 0, none⟩)] W fun e w' => e = .returned (.tuple #[]) ∧ ∃ b p34 p126 A c, Repd B W0 w' R b p34 p126 A c #[x0, x1, x2, .iface 149 (.pointer (some ⟨b, 0, none⟩)), .slice none 0 0] := by
  go_enter Tryz.func72, Tryz.ntmps72
  go_wp2_with (go_at_call 85; refine (build_any R g4 c4 x0 x1 x2 _ hR s0 s1 s2 s3 hg).mono ?_; rintro e w' ⟨b, p34, p126, A, c, rfl, Q, X, Y, T⟩; have hRl := hR.lt; have K := hR.below Q.bl hRl; have q3 := K.cell 3; have q4 := K.cell 4; have fz := K.frozen; simp only [List.getElem?_toArray, List.getElem?_cons_succ, List.getElem?_cons_zero] at q3 q4; have D := hid (show Repd B W0 w' R b p34 p126 A c _ from ⟨h0.trans (Q.bl.mono (Nat.le_trans hB (Nat.le_of_lt hRl))), hB, Nat.lt_trans hRl Q.lt, Q.blk, X, Y, own_base T hRl, K⟩); clear Q X Y T)
  go_end0
  exact ⟨rfl, b, p34, p126, A, c, (D.out.set 3 _).set 4 _⟩
theorem load_any (a : Addr) (w : World) (x : Int) (b : Bool) (hc : w.cell? a = some (.int .u32 x)) (hx : (x = 0 ∧ b = false) ∨ (x = 1 ∧ b = true)) :
    Calls Tryz.prog 83 #[.pointer (some a)] w fun e w' => e = .returned (.bool b) ∧ w' = w := by
  have hl := run_call_load (P := Tryz.prog) Tryz.func90 (by kernel_rfl) (by kernel_rfl) (by kernel_rfl) .u32 (by kernel_rfl) (w := w) (a := a) (x := x) hc
  rcases hx with ⟨rfl, rfl⟩ | ⟨rfl, rfl⟩
  all_goals
    go_enter Tryz.func83, Tryz.ntmps83
    go_wp2
    go_ret
    exact ⟨rfl, rfl⟩
set_option maxRecDepth 100000 in
set_option maxHeartbeats 1600000 in
theorem slow_any (B R g4 c4 : Nat) (x2 : Value) (W0 W : World) (h0 : Below B W0 W) (hB : B ≤ R) (hR : Blk W R 121 #[.int .u32 0, .int .i32 0, x2, .nilIface, .slice (some ⟨g4, 0, none⟩) 4 c4]) (hne : g4 ≠ R)
    (s0 : W.cell? ⟨g4, 0, none⟩ = some (.string ⟨#[34]⟩)) (s1 : W.cell? ⟨g4, 1, none⟩ = some (.string ⟨#[126, 34]⟩)) (s2 : W.cell? ⟨g4, 2, none⟩ = some (.string ⟨#[126]⟩)) (s3 : W.cell? ⟨g4, 3, none⟩ = some (.string ⟨#[126, 126]⟩)) (hg : g4 < W.heap.size) :
    Calls Tryz.prog 84 #[.pointer (some ⟨R, 0, none⟩), .func (.func 72) #[.pointer (some ⟨R, 0, none⟩)] #[]] W fun e w' => e = .returned (.tuple #[]) ∧ ∃ b p34 p126 A c, Repd B W0 w' R b p34 p126 A c #[.int .u32 1, .int .i32 0, x2, .iface 149 (.pointer (some ⟨b, 0, none⟩)), .slice none 0 0] := by
  have l0 := hR.cell 0
  have l1 := hR.cell 1
  simp only [List.getElem?_toArray, List.getElem?_cons_succ, List.getElem?_cons_zero] at l0 l1
  have f1 := hR.frozen 1
  have B1 : Below B W0 (W.setCell ⟨R, 1, none⟩ (.int .i32 1)) := h0.setCell hB _
  have K1 : Blk (W.setCell ⟨R, 1, none⟩ (.int .i32 1)) R 121 #[.int .u32 0, .int .i32 1, x2, .nilIface, .slice (some ⟨g4, 0, none⟩) 4 c4] := hR.set_ 1 _
  have oth : ∀ j, (W.setCell ⟨R, 1, none⟩ (.int .i32 1)).cell? ⟨g4, j, none⟩ = W.cell? ⟨g4, j, none⟩ := fun j => World.cell?_setCell_other _ _ _ _ (by intro e; injection e with e1; exact hne e1.symm)
  have t0 := (oth 0).trans s0
  have t1 := (oth 1).trans s1
  have t2 := (oth 2).trans s2
  have t3 := (oth 3).trans s3
  have hg1 : g4 < (W.setCell ⟨R, 1, none⟩ (.int .i32 1)).heap.size := by simpa using hg
  have k0 := K1.cell 0
  simp only [List.getElem?_toArray, List.getElem?_cons_zero] at k0
  have L := hid (load_any ⟨R, 0, none⟩ (W.setCell ⟨R, 1, none⟩ (.int .i32 1)) 0 false k0 (.inl ⟨rfl, rfl⟩))
  have hnot : ∀ (x : Bool) (w : World), (Op.unary .not (.bool x)).run Tryz.prog w = .ok (.bool (!x)) w := fun _ _ => rfl
  have H := hid (buildOnce_any B R g4 c4 (.int .u32 0) (.int .i32 1) x2 W0 _ B1 hB K1 t0 t1 t2 t3 hg1)
  clear oth t0 t1 t2 t3 s0 s1 s2 s3 B1 hg1
  go_enter_defers Tryz.func84, Tryz.ntmps84
  go_wp2_with (first
    | (go_at_call 91; refine (lock_free ⟨R, 1, none⟩ _ l1 f1).mono ?_; rintro e w' ⟨rfl, rfl⟩)
    | (go_at_call 83; refine L.out.mono ?_; rintro e w' ⟨rfl, rfl⟩)
    | (go_at_call 72; refine H.out.mono ?_; rintro e w' ⟨rfl, b, p34, p126, A, c, D⟩))
  have q0 := D.rep.cell 0
  have q1 := D.rep.cell 1
  simp only [List.getElem?_toArray, List.getElem?_cons_succ, List.getElem?_cons_zero] at q0 q1
  have fz := D.rep.frozen
  refine leaves_cons (f := 93) (args := #[.pointer (some ⟨R, 0, none⟩), .bool true]) (by simp) (by simp [go_sem]) ?_
  refine (store_deferred ⟨R, 0, none⟩ (.int .u32 0) .returning _ q0 (fz 0)).mono ?_
  rintro e u' w'' ⟨rfl, rfl, rfl⟩
  have D1 := D.drew.set 0 (.int .u32 1)
  have q1' := D1.rep.cell 1
  have e1 : (#[Value.int .u32 0, .int .i32 1, x2, .iface 149 (.pointer (some ⟨b, 0, none⟩)), .slice none 0 0] : Array Value).setIfInBounds 0 (.int .u32 1) = #[.int .u32 1, .int .i32 1, x2, .iface 149 (.pointer (some ⟨b, 0, none⟩)), .slice none 0 0] := rfl
  rw [e1] at D1 q1'
  simp only [List.getElem?_toArray, List.getElem?_cons_succ, List.getElem?_cons_zero] at q1'
  refine leaves_cons (f := 92) (args := #[.pointer (some ⟨R, 1, none⟩)]) (by simp [settle]) (by simp [go_sem]) ?_
  refine (unlock_deferred ⟨R, 1, none⟩ _ _ q1' (D1.rep.frozen 1)).mono ?_
  rintro e u' w'' ⟨rfl, rfl, rfl⟩
  have D2 := D1.set 1 (.int .i32 0)
  have F : Ending.returned (.tuple #[]) = Ending.returned (.tuple #[]) ∧ ∃ b p34 p126 A c, Repd B W0 _ R b p34 p126 A c #[.int .u32 1, .int .i32 0, x2, .iface 149 (.pointer (some ⟨b, 0, none⟩)), .slice none 0 0] := ⟨rfl, b, p34, p126, A, c, D2⟩
  simp [Leaves, settle, results, Tryz.results84]
  exact F.2
set_option maxRecDepth 100000 in
theorem once_any (B R g4 c4 : Nat) (x2 : Value) (W0 W : World) (h0 : Below B W0 W) (hB : B ≤ R) (hR : Blk W R 121 #[.int .u32 0, .int .i32 0, x2, .nilIface, .slice (some ⟨g4, 0, none⟩) 4 c4]) (hne : g4 ≠ R)
    (s0 : W.cell? ⟨g4, 0, none⟩ = some (.string ⟨#[34]⟩)) (s1 : W.cell? ⟨g4, 1, none⟩ = some (.string ⟨#[126, 34]⟩)) (s2 : W.cell? ⟨g4, 2, none⟩ = some (.string ⟨#[126]⟩)) (s3 : W.cell? ⟨g4, 3, none⟩ = some (.string ⟨#[126, 126]⟩)) (hg : g4 < W.heap.size) :
    Calls Tryz.prog 71 #[.pointer (some ⟨R, 0, none⟩), .func (.func 72) #[.pointer (some ⟨R, 0, none⟩)] #[]] W fun e w' => e = .returned (.tuple #[]) ∧ ∃ b p34 p126 A c, Repd B W0 w' R b p34 p126 A c #[.int .u32 1, .int .i32 0, x2, .iface 149 (.pointer (some ⟨b, 0, none⟩)), .slice none 0 0] := by
  have l0 := hR.cell 0
  simp only [List.getElem?_toArray, List.getElem?_cons_zero] at l0
  have hnot : ∀ (x : Bool) (w : World), (Op.unary .not (.bool x)).run Tryz.prog w = .ok (.bool (!x)) w := fun _ _ => rfl
  have H := hid (slow_any B R g4 c4 x2 W0 W h0 hB hR hne s0 s1 s2 s3 hg)
  go_enter Tryz.func71, Tryz.ntmps71
  go_wp2_with (first
    | (go_at_call 83; refine (load_any ⟨R, 0, none⟩ _ 0 false l0 (.inl ⟨rfl, rfl⟩)).mono ?_; rintro e w' ⟨rfl, rfl⟩)
    | (go_at_call 84; refine H.out.mono ?_; rintro e w' ⟨rfl, F⟩))
  go_end0
  exact ⟨rfl, F⟩
/-- once built it is not built again -/
theorem once_done (R : Nat) (f : Value) (W : World) (h : W.cell? ⟨R, 0, none⟩ = some (.int .u32 1)) :
    Calls Tryz.prog 71 #[.pointer (some ⟨R, 0, none⟩), f] W fun e w' => e = .returned (.tuple #[]) ∧ w' = W := by
  have hnot : ∀ (x : Bool) (w : World), (Op.unary .not (.bool x)).run Tryz.prog w = .ok (.bool (!x)) w := fun _ _ => rfl
  go_enter Tryz.func71, Tryz.ntmps71
  go_wp2_with (first
    | (go_at_call 83; refine (load_any ⟨R, 0, none⟩ _ 1 true h (.inr ⟨rfl, rfl⟩)).mono ?_; rintro e w' ⟨rfl, rfl⟩))
  go_end0
  exact ⟨rfl, rfl⟩
end Go.Proofs.YtfcppchjikmioaaGreat
