/- Printed by program (gen4): what 'FairRounds' reaches, piece 98. -/
import Derived.Test.YtobkmmlodmdlgaaGreatDoorRows
import Derived.KernelRfl
import GoSem.ClaimGoes
set_option linter.all false
namespace Go.Proofs.YtobkmmlodmdlgaaGreatDoor.FairRounds
set_option maxRecDepth 100000
theorem rf0 : (List.range' 0 140).all (rowFine Tryz.prog) = true := by kernel_rfl
theorem rf1 : (List.range' 140 140).all (rowFine Tryz.prog) = true := by kernel_rfl
theorem rf2 : (List.range' 280 140).all (rowFine Tryz.prog) = true := by kernel_rfl
theorem rf3 : (List.range' 420 140).all (rowFine Tryz.prog) = true := by kernel_rfl
theorem rf4 : (List.range' 560 104).all (rowFine Tryz.prog) = true := by kernel_rfl
theorem tsz : Tryz.prog.types.size = 664 := by kernel_rfl
theorem rangeT : List.range 664 = List.range' 0 140 ++ List.range' 140 140 ++ List.range' 280 140 ++ List.range' 420 140 ++ List.range' 560 104 := by kernel_rfl
theorem lg : Tryz.prog.globals.all (fun g => decide (g.type < Tryz.prog.types.size)) = true := by kernel_rfl
theorem lf : Tryz.prog.funcs.all (fun f => f.params.all fun t => decide (t < Tryz.prog.types.size)) = true := by rw [tsz]; kernel_rfl
theorem j1 : laidOutB Tryz.prog = true := by
  unfold laidOutB
  rw [lg, lf, tsz, rangeT]
  simp only [List.all_append]
  rw [rf0, rf1, rf2, rf3, rf4]
  rfl
end Go.Proofs.YtobkmmlodmdlgaaGreatDoor.FairRounds
