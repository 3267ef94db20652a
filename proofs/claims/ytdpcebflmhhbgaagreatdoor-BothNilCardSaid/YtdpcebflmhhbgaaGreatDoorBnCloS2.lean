/- Printed by program (gen4): what 'BothNil' reaches, piece 3. -/
import Derived.Test.YtdpcebflmhhbgaaGreatDoorRows
import Derived.KernelRfl
import GoSem.ClaimGoes
import Derived.Test.YtdpcebflmhhbgaaGreatDoorBnCloD
set_option linter.all false
namespace Go.Proofs.YtdpcebflmhhbgaaGreatDoor.BothNil
set_option maxRecDepth 100000
theorem cs8 : stepsV Tryz.prog 100 td8 sn8 = (td9, sn9) := by kernel_rfl
theorem cs9 : stepsV Tryz.prog 100 td9 sn9 = (td10, sn10) := by kernel_rfl
theorem cs10 : stepsV Tryz.prog 100 td10 sn10 = (td11, sn11) := by kernel_rfl
theorem cs11 : stepsV Tryz.prog 66 td11 sn11 = (td12, sn12) := by kernel_rfl
end Go.Proofs.YtdpcebflmhhbgaaGreatDoor.BothNil
