/- The closed facts of 'tenementlaw31.BothNil', part C: each a computation of its own. -/
import Derived.Test.YtdpcebflmhhbgaaGreatDoorRows
import Derived.ProofKit
import Derived.JoinedOf
set_option linter.all false
namespace Go.Proofs.YtdpcebflmhhbgaaGreatDoor.BothNil
set_option maxRecDepth 100000
theorem j10 : ((Rows.bothNilRow.unfollowed == Tryz.prog.unfollowed 3)) = true := by kernel_rfl
theorem j11 : ((Rows.bothNilRow.recurses == Tryz.prog.recurses 3)) = true := by kernel_rfl
theorem j13 : ((Rows.bothNilRow.maps == (Tryz.f3.params.toList ++ (OpenSpec.ofChange Rows.bothNilSpec).bare.plain.varTypes Tryz.prog).any (Tryz.prog.mapsRec ·))) = true := by kernel_rfl
theorem j14 : ((Rows.bothNilRow.ifaces == (Tryz.f3.params.toList ++ (OpenSpec.ofChange Rows.bothNilSpec).bare.plain.varTypes Tryz.prog).any (Tryz.prog.ifacesRec ·))) = true := by kernel_rfl
theorem j15 : ((Rows.bothNilRow.mapsOut == Tryz.prog.mapsAmong Tryz.f3.resultTypes.toList)) = true := by kernel_rfl
theorem j16 : ((Rows.bothNilRow.loops == (Tryz.f3.params.toList ++ (OpenSpec.ofChange Rows.bothNilSpec).bare.plain.varTypes Tryz.prog).any (Tryz.prog.loopsFrom ·))) = true := by kernel_rfl
theorem j17 : ((Rows.bothNilRow.wideKeys == (Tryz.f3.params.toList ++ (OpenSpec.ofChange Rows.bothNilSpec).bare.plain.varTypes Tryz.prog ++ Tryz.f3.resultTypes.toList).any (Tryz.prog.wideKeysFrom ·))) = true := by kernel_rfl
end Go.Proofs.YtdpcebflmhhbgaaGreatDoor.BothNil
