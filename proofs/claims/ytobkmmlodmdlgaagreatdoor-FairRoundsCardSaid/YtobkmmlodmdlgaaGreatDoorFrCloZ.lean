/- Printed by program (gen4): what 'FairRounds' reaches, piece 99. -/
import Derived.Test.YtobkmmlodmdlgaaGreatDoorRows
import Derived.KernelRfl
import GoSem.ClaimGoes
import Derived.Test.YtobkmmlodmdlgaaGreatDoorFrCloD
import Derived.Test.YtobkmmlodmdlgaaGreatDoorFrCloS0
import Derived.Test.YtobkmmlodmdlgaaGreatDoorFrCloR0
set_option linter.all false
namespace Go.Proofs.YtobkmmlodmdlgaaGreatDoor.FairRounds
set_option maxRecDepth 100000
theorem fuel : 1 + (Tryz.prog.funcs.toList.map fun g => (Tryz.prog.leadsTo g).length + 1).sum = 1373 := by kernel_rfl
theorem clo : Tryz.prog.closure 3 = L0 ++ L1 ++ L2 ++ L3 := by
  unfold Program.closure
  rw [fuel]
  show Tryz.prog.closureVia 1373 td0 sn0 = _
  rw [show 1373 = 100 + 1273 from rfl, clo_step 100 1273, cs0]
  rw [show 1273 = 100 + 1173 from rfl, clo_step 100 1173, cs1]
  rw [show 1173 = 100 + 1073 from rfl, clo_step 100 1073, cs2]
  rw [show 1073 = 100 + 973 from rfl, clo_step 100 973, cs3]
  rw [show 973 = 100 + 873 from rfl, clo_step 100 873, cs4]
  rw [show 873 = 100 + 773 from rfl, clo_step 100 773, cs5]
  rw [show 773 = 100 + 673 from rfl, clo_step 100 673, cs6]
  rw [show 673 = 100 + 573 from rfl, clo_step 100 573, cs7]
  rw [show 573 = 77 + 496 from rfl, clo_step 77 496, cs8]
  show Tryz.prog.closureVia 496 [] sn9 = _
  show sn9.reverse = _
  kernel_rfl
theorem j9 : (Rows.fairRoundsRow.inPlace == Tryz.prog.inPlace 3) = true := by
  unfold Program.inPlace
  rw [clo]
  simp only [List.filterMap_append]
  rw [ip0, ip1, ip2, ip3]
  kernel_rfl
theorem j12 : (Rows.fairRoundsRow.named == Tryz.prog.varsNamed 3) = true := by
  unfold Program.varsNamed
  rw [clo]
  simp only [List.filterMap_append, List.flatMap_append]
  rw [gn0, gn1, gn2, gn3, er0, er1, er2, er3]
  kernel_rfl
end Go.Proofs.YtobkmmlodmdlgaaGreatDoor.FairRounds
