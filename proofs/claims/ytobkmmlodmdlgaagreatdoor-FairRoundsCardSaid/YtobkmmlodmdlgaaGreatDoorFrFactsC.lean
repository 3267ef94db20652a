/- The closed facts of 'tenementlaw30.FairRounds', part C: each a computation of its own. -/
import Derived.Test.YtobkmmlodmdlgaaGreatDoorRows
import Derived.ProofKit
import Derived.JoinedOf
set_option linter.all false
namespace Go.Proofs.YtobkmmlodmdlgaaGreatDoor.FairRounds
set_option maxRecDepth 100000
theorem j10 : ((Rows.fairRoundsRow.unfollowed == Tryz.prog.unfollowed 3)) = true := by kernel_rfl
theorem j11 : ((Rows.fairRoundsRow.recurses == Tryz.prog.recurses 3)) = true := by kernel_rfl
theorem j13 : ((Rows.fairRoundsRow.maps == (Tryz.f3.params.toList ++ (OpenSpec.ofChange Rows.fairRoundsSpec).bare.plain.varTypes Tryz.prog).any (Tryz.prog.mapsRec ·))) = true := by kernel_rfl
theorem j14 : ((Rows.fairRoundsRow.ifaces == (Tryz.f3.params.toList ++ (OpenSpec.ofChange Rows.fairRoundsSpec).bare.plain.varTypes Tryz.prog).any (Tryz.prog.ifacesRec ·))) = true := by kernel_rfl
theorem j15 : ((Rows.fairRoundsRow.mapsOut == Tryz.prog.mapsAmong Tryz.f3.resultTypes.toList)) = true := by kernel_rfl
theorem j16 : ((Rows.fairRoundsRow.loops == (Tryz.f3.params.toList ++ (OpenSpec.ofChange Rows.fairRoundsSpec).bare.plain.varTypes Tryz.prog).any (Tryz.prog.loopsFrom ·))) = true := by kernel_rfl
theorem j17 : ((Rows.fairRoundsRow.wideKeys == (Tryz.f3.params.toList ++ (OpenSpec.ofChange Rows.fairRoundsSpec).bare.plain.varTypes Tryz.prog ++ Tryz.f3.resultTypes.toList).any (Tryz.prog.wideKeysFrom ·))) = true := by kernel_rfl
end Go.Proofs.YtobkmmlodmdlgaaGreatDoor.FairRounds
