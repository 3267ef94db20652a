/- Printed by program (gen4): what 'FairRounds' reaches, piece 1. -/
import Derived.Test.YtobkmmlodmdlgaaGreatDoorRows
import Derived.KernelRfl
import GoSem.ClaimGoes
import Derived.Test.YtobkmmlodmdlgaaGreatDoorFrCloD
set_option linter.all false
namespace Go.Proofs.YtobkmmlodmdlgaaGreatDoor.FairRounds
set_option maxRecDepth 100000
theorem cs0 : stepsV Tryz.prog 100 td0 sn0 = (td1, sn1) := by kernel_rfl
theorem cs1 : stepsV Tryz.prog 100 td1 sn1 = (td2, sn2) := by kernel_rfl
theorem cs2 : stepsV Tryz.prog 100 td2 sn2 = (td3, sn3) := by kernel_rfl
theorem cs3 : stepsV Tryz.prog 100 td3 sn3 = (td4, sn4) := by kernel_rfl
theorem cs4 : stepsV Tryz.prog 100 td4 sn4 = (td5, sn5) := by kernel_rfl
theorem cs5 : stepsV Tryz.prog 100 td5 sn5 = (td6, sn6) := by kernel_rfl
theorem cs6 : stepsV Tryz.prog 100 td6 sn6 = (td7, sn7) := by kernel_rfl
theorem cs7 : stepsV Tryz.prog 100 td7 sn7 = (td8, sn8) := by kernel_rfl
theorem cs8 : stepsV Tryz.prog 77 td8 sn8 = (td9, sn9) := by kernel_rfl
end Go.Proofs.YtobkmmlodmdlgaaGreatDoor.FairRounds
