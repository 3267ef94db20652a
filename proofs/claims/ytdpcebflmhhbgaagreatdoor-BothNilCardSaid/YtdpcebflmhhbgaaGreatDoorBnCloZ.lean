/- Printed by program (gen4): what 'BothNil' reaches, piece 99. -/
import Derived.Test.YtdpcebflmhhbgaaGreatDoorRows
import Derived.KernelRfl
import GoSem.ClaimGoes
import Derived.Test.YtdpcebflmhhbgaaGreatDoorBnCloS0
import Derived.Test.YtdpcebflmhhbgaaGreatDoorBnCloS2
import Derived.Test.YtdpcebflmhhbgaaGreatDoorBnCloR0
import Derived.Test.YtdpcebflmhhbgaaGreatDoorBnCloR2
set_option linter.all false
namespace Go.Proofs.YtdpcebflmhhbgaaGreatDoor.BothNil
set_option maxRecDepth 100000
theorem fuel : 1 + (Tryz.prog.funcs.toList.map fun g => (Tryz.prog.leadsTo g).length + 1).sum = 1802 := by kernel_rfl
theorem clo : Tryz.prog.closure 3 = L0 ++ L1 ++ L2 ++ L3 := by
  unfold Program.closure
  rw [fuel]
  show Tryz.prog.closureVia 1802 td0 sn0 = _
  rw [show 1802 = 100 + 1702 from rfl, clo_step 100 1702, cs0]
  rw [show 1702 = 100 + 1602 from rfl, clo_step 100 1602, cs1]
  rw [show 1602 = 100 + 1502 from rfl, clo_step 100 1502, cs2]
  rw [show 1502 = 100 + 1402 from rfl, clo_step 100 1402, cs3]
  rw [show 1402 = 100 + 1302 from rfl, clo_step 100 1302, cs4]
  rw [show 1302 = 100 + 1202 from rfl, clo_step 100 1202, cs5]
  rw [show 1202 = 100 + 1102 from rfl, clo_step 100 1102, cs6]
  rw [show 1102 = 100 + 1002 from rfl, clo_step 100 1002, cs7]
  rw [show 1002 = 100 + 902 from rfl, clo_step 100 902, cs8]
  rw [show 902 = 100 + 802 from rfl, clo_step 100 802, cs9]
  rw [show 802 = 100 + 702 from rfl, clo_step 100 702, cs10]
  rw [show 702 = 66 + 636 from rfl, clo_step 66 636, cs11]
  show Tryz.prog.closureVia 636 [] sn12 = _
  show sn12.reverse = _
  kernel_rfl
theorem j9 : (Rows.bothNilRow.inPlace == Tryz.prog.inPlace 3) = true := by
  unfold Program.inPlace
  rw [clo]
  simp only [List.filterMap_append]
  rw [ip0, ip1, ip2, ip3]
  kernel_rfl
theorem j12 : (Rows.bothNilRow.named == Tryz.prog.varsNamed 3) = true := by
  unfold Program.varsNamed
  rw [clo]
  simp only [List.filterMap_append, List.flatMap_append]
  rw [gn0, gn1, gn2, gn3, er0, er1, er2, er3]
  kernel_rfl
end Go.Proofs.YtdpcebflmhhbgaaGreatDoor.BothNil
