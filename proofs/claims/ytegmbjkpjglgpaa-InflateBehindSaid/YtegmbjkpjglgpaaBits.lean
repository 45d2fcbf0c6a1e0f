/-
  'or' and 'and' on ints that are not negative.
-/
import Derived.Test.YtegmbjkpjglgpaaBase
import Derived.Laws.BitsLemmas
namespace Go.Proofs.Ytegmbjkpjglgpaa

theorem wraps62 (n : Int) (h0 : 0 ≤ n) (h1 : n < 2 ^ 62) : IntKind.i64.wrap n = n := by rw [IntKind.wrap_i64]; omega
/-- the lower bits of one, the upper of the other -/
theorem i64_join (i : Nat) (x y : Int) (h0 : 0 ≤ x) (hx : x % 2 ^ i = 0) (h1 : x < 4611686018427387904) (y0 : 0 ≤ y) (hy : y < 2 ^ i) (y1 : y < 4611686018427387904) : bits .or .i64 x y = x + y :=
  bits_join .i64 62 (by decide) wraps62 i x y h0 hx (by omega) y0 hy (by omega)
theorem i64_mask (i : Nat) (hi : i ≤ 62) (x : Int) (h0 : 0 ≤ x) (h1 : x < 4611686018427387904) : bits .and .i64 x (2 ^ i - 1) = x % 2 ^ i :=
  bits_mask .i64 62 (by decide) wraps62 i hi x h0 (by omega)

end Go.Proofs.Ytegmbjkpjglgpaa
