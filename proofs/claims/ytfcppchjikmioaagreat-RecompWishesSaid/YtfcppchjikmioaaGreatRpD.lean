/-
  strings.NewReplacer of two pairs.
-/
import Derived.Test.YtfcppchjikmioaaGreatRpC
namespace Go.Proofs.YtfcppchjikmioaaGreat
open Go.RowKit

theorem own_nil1 (w : World) (base : Nat) (e : TypeId) : w.ownsRow base e 1 (.slice none 0 0) 0 [] := ⟨rfl, .inl ⟨rfl, rfl⟩⟩
def four : List Value := [.string ⟨#[34]⟩, .string ⟨#[126, 34]⟩, .string ⟨#[126]⟩, .string ⟨#[126, 126]⟩]
/-- a replacer that is not built yet -/
structure Repn (B : Nat) (W w : World) (R g4 c4 : Nat) : Prop where
  below : Below B W w
  le : B ≤ R
  ne : g4 ≠ R
  lt : g4 < w.heap.size
  rep : Blk w R 121 #[.int .u32 0, .int .i32 0, .int .u32 0, .nilIface, .slice (some ⟨g4, 0, none⟩) 4 c4]
  s0 : w.cell? ⟨g4, 0, none⟩ = some (.string ⟨#[34]⟩)
  s1 : w.cell? ⟨g4, 1, none⟩ = some (.string ⟨#[126, 34]⟩)
  s2 : w.cell? ⟨g4, 2, none⟩ = some (.string ⟨#[126]⟩)
  s3 : w.cell? ⟨g4, 3, none⟩ = some (.string ⟨#[126, 126]⟩)
theorem Repn.new {W w : World} {g4 c4 : Nat} (hb : Below W.heap.size W w) (h : w.ownsRow W.heap.size 9 1 (.slice (some ⟨g4, 0, none⟩) 4 c4) 4 four) :
    Repn W.heap.size W (w.alloc (.cells #[.int .u32 0, .int .i32 0, .int .u32 0, .nilIface, .slice (some ⟨g4, 0, none⟩) 4 c4] 121)) w.heap.size g4 c4 := by
  obtain ⟨g, e, h1, h2⟩ := own_block h (by decide)
  have : g4 = g := by injection e with e; injection e
  subst this
  have hc : ∀ j u, four[j]? = some u → j < 4 → (w.alloc (.cells #[.int .u32 0, .int .i32 0, .int .u32 0, .nilIface, .slice (some ⟨g4, 0, none⟩) 4 c4] 121)).cell? ⟨g4, j, none⟩ = some u := by
    intro j u hu hj
    obtain ⟨g', u', e', _, _, hx, hcell⟩ := own_cell h hj
    have : g4 = g' := by injection e' with e'; injection e'
    subst this
    rw [hu] at hx
    injection hx with hx
    subst hx
    exact (((Below.refl w.heap.size w).alloc (Nat.le_refl _) _).cell (p := ⟨g4, j, none⟩) h2).trans hcell
  exact ⟨hb.alloc hb.size _, hb.size, Nat.ne_of_lt h2, by simp; omega, Blk.new _ _ _, hc 0 _ rfl (by decide), hc 1 _ rfl (by decide), hc 2 _ rfl (by decide), hc 3 _ rfl (by decide)⟩
set_option maxRecDepth 100000 in
theorem newRep_any (W : World) (X : Option Addr) (Bd d : Nat) (hX : Rd W Bd 1 X 4 four) (hnil : X ≠ none) :
    Calls Tryz.prog 49 #[.slice X 4 d] W fun e w' => ∃ R g4 c4, e = .returned (.pointer (some ⟨R, 0, none⟩)) ∧ Repn W.heap.size W w' R g4 c4 := by
  obtain ⟨i0, hi0, hz0, hz1, hz2⟩ := info_parts str_info
  have Hi0 := hid hi0
  have Hz0 := hid hz0
  have Hz1 := hid hz1
  have Hz2 := hid hz2
  clear hi0 hz0 hz1 hz2
  go_enter Tryz.func49, Tryz.ntmps49
  go_wp2_with (at_builtin; ((refine wpList_app _ rfl _ _ _ rfl W.heap.size 9 i0 (.string ⟨#[]⟩) 1 16 Tryz.underlying58 Hi0.out Hz0.out Hz1.out Hz2.out rfl (by omega) none 0 0 [] rfl (own_nil1 _ _ _) _ _ 4 d four rfl hX (by intro h; exact absurd h hnil) (by intro u hu; simp [four] at hu; rcases hu with rfl | rfl | rfl | rfl <;> rfl) (by decide) (by decide) (by simp) ?_; intro A4 c4 w4 ha4; obtain ⟨o4, _, b4, _⟩ := ha4; obtain ⟨g4, rfl, _, _⟩ := own_block o4 (by decide); have O4 := hid o4; have B4 := hid b4; clear o4 b4)))
  go_ret
  exact ⟨_, _, _, rfl, Repn.new B4.out O4.out⟩
end Go.Proofs.YtfcppchjikmioaaGreat
