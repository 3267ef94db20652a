/- The closed facts of 'tenementlaw30.FairRounds', part A: each a computation of its own. -/
import Derived.Test.YtobkmmlodmdlgaaGreatDoorRows
import Derived.ProofKit
import Derived.JoinedOf
set_option linter.all false
namespace Go.Proofs.YtobkmmlodmdlgaaGreatDoor.FairRounds
set_option maxRecDepth 100000
theorem j0 : (Rows.fairRoundsRow.wf (OpenSpec.ofChange (OpenSpec.ofChange Rows.fairRoundsSpec).bare)) = true := by kernel_rfl
theorem j2 : (mapsRowed Tryz.prog) = true := by kernel_rfl
theorem j3 : (Tryz.f3.params.all (Tryz.prog.readableRec ·)) = true := by kernel_rfl
theorem j4 : (namedTie Tryz.prog Rows.fairRoundsRow.named (OpenSpec.ofChange Rows.fairRoundsSpec).bare.vars) = true := by kernel_rfl
theorem j5 : ((Rows.fairRoundsRow.stops == [])) = true := by kernel_rfl
theorem j6 : ((Tryz.prog.stops == [])) = true := by kernel_rfl
theorem j7 : ((Rows.fairRoundsRow.knobs == [])) = true := by kernel_rfl
theorem j8 : ((Tryz.prog.stopKnobs == [])) = true := by kernel_rfl
end Go.Proofs.YtobkmmlodmdlgaaGreatDoor.FairRounds
