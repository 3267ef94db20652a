/- What 'tenementlaw31.BothNil' lists is tied to the program's text: closed facts, piece C. -/
import Derived.Test.YtdpcebflmhhbgaaGreatDoorRows
import Derived.LaidByTextLater
import Derived.SevenTiedAt
import Derived.KernelRfl
import Derived.Test.YtdpcebflmhhbgaaGreatDoorBnTieA
set_option linter.all false
namespace Go.Proofs.YtdpcebflmhhbgaaGreatDoor.BothNil
set_option maxRecDepth 100000
theorem td : ∀ os tape, varsDone Tryz.prog 400 (varsId Tryz.prog) os tape = true := fun _ _ => by kernel_rfl
end Go.Proofs.YtdpcebflmhhbgaaGreatDoor.BothNil
