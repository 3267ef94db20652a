/- What 'tenementlaw31.BothNil' lists is tied to the program's text: closed facts, piece whole. -/
import Derived.Test.YtdpcebflmhhbgaaGreatDoorRows
import Derived.LaidByTextLater
import Derived.SevenTiedAt
import Derived.KernelRfl
import Derived.Test.YtdpcebflmhhbgaaGreatDoorBnTieA
import Derived.Test.YtdpcebflmhhbgaaGreatDoorBnTieB
import Derived.Test.YtdpcebflmhhbgaaGreatDoorBnTieC
import Derived.Test.YtdpcebflmhhbgaaGreatDoorBnTieD
import Derived.Test.YtdpcebflmhhbgaaGreatDoorBnTieE
set_option linter.all false
namespace Go.Proofs.YtdpcebflmhhbgaaGreatDoor.BothNil
set_option maxRecDepth 100000
theorem tie : Tryz.prog.laidByTextLater laidList [.data, .data, .data, .data, .data, .data, .data, .data, .data] true :=
  Program.laidByTextLater_by_run 400 8 tw1 tw2 tw3 tk tg tn td t1 t2 tp
theorem row_tie : Rows.bothNilRow.laidByTextAt .later Tryz.pinned [.data, .data, .data, .data, .data, .data, .data, .data, .data] true :=
  OpenClaim.laidByTextAt_later rfl rfl tie tno
end Go.Proofs.YtdpcebflmhhbgaaGreatDoor.BothNil
