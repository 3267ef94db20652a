/- The closed facts of 'tenementlaw31.BothNil', part A: each a computation of its own. -/
import Derived.Test.YtdpcebflmhhbgaaGreatDoorRows
import Derived.ProofKit
import Derived.JoinedOf
set_option linter.all false
namespace Go.Proofs.YtdpcebflmhhbgaaGreatDoor.BothNil
set_option maxRecDepth 100000
theorem j0 : (Rows.bothNilRow.wf (OpenSpec.ofChange (OpenSpec.ofChange Rows.bothNilSpec).bare)) = true := by kernel_rfl
theorem j2 : (mapsRowed Tryz.prog) = true := by kernel_rfl
theorem j3 : (Tryz.f3.params.all (Tryz.prog.readableRec ·)) = true := by kernel_rfl
theorem j4 : (namedTie Tryz.prog Rows.bothNilRow.named (OpenSpec.ofChange Rows.bothNilSpec).bare.vars) = true := by kernel_rfl
theorem j5 : ((Rows.bothNilRow.stops == [])) = true := by kernel_rfl
theorem j6 : ((Tryz.prog.stops == [])) = true := by kernel_rfl
theorem j7 : ((Rows.bothNilRow.knobs == [])) = true := by kernel_rfl
theorem j8 : ((Tryz.prog.stopKnobs == [])) = true := by kernel_rfl
end Go.Proofs.YtdpcebflmhhbgaaGreatDoor.BothNil
