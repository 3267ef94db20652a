/- What 'tenementlaw31.BothNil' lists is tied to the program's text: closed facts, piece D. -/
import Derived.Test.YtdpcebflmhhbgaaGreatDoorRows
import Derived.LaidByTextLater
import Derived.SevenTiedAt
import Derived.KernelRfl
import Derived.Test.YtdpcebflmhhbgaaGreatDoorBnTieA
set_option linter.all false
namespace Go.Proofs.YtdpcebflmhhbgaaGreatDoor.BothNil
set_option maxRecDepth 100000
theorem t1 : ∀ os tape, (DataW.laidRun Tryz.prog (varsWorld Tryz.prog 400 (varsId Tryz.prog) os tape).memory 8 (laidList.map (·.1))).map (·.1) = some laidList := fun _ _ => by kernel_rfl
end Go.Proofs.YtdpcebflmhhbgaaGreatDoor.BothNil
