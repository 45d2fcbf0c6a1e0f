/-
  inflate: a token put into the work's sink.
-/
import Derived.Test.YthhllollhjpheaaInfSt
import Derived.Test.YthhllollhjpheaaExpRef
import Derived.BigRegion
import Derived.Deep.RegionLaw
import Derived.Deep.DeepCutAuto
import Derived.Deep.CutRange
namespace Go.Proofs.Ythhllollhjpheaa
open Go.RowKit

theorem tok_infoW : (Try.prog.info? 54).map (fun i => (i.zero, i.size, i.bytes)) = some (some (.agg #[.int .i64 0, .int .i64 0]), 2, 16) := by kernel_rfl
end Go.Proofs.Ythhllollhjpheaa
