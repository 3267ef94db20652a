/- Printed by program (gen4): what 'BothNil' reaches, piece 93. -/
import Derived.Test.YtdpcebflmhhbgaaGreatDoorRows
import Derived.KernelRfl
import GoSem.ClaimGoes
import Derived.Test.YtdpcebflmhhbgaaGreatDoorBnCloD
set_option linter.all false
namespace Go.Proofs.YtdpcebflmhhbgaaGreatDoor.BothNil
set_option maxRecDepth 100000
theorem ip2 : (L2.filterMap fun g => (Tryz.prog.funcs[g]?).bind fun fn => if fn.ours || fn.body.isNone || fn.name == "runtime.NumGoroutine" then some fn.name else none) = ["maps.clone", "sync/atomic.AddInt64", "slices.overlaps[tenement/api.Region]", "sync/atomic.AddUint64"] := by kernel_rfl
theorem gn2 : (L2.flatMap fun g => ((Tryz.prog.funcs[g]?).bind (·.body)).elim [] Code.globalsNamed) = [2, 7, 7, 3, 8] := by kernel_rfl
theorem er2 : (L2.filterMap fun g => (Tryz.prog.funcs[g]?).bind fun fn => if fn.body.isNone then entryReads.lookup fn.name else none) = [] := by kernel_rfl
theorem ip3 : (L3.filterMap fun g => (Tryz.prog.funcs[g]?).bind fun fn => if fn.ours || fn.body.isNone || fn.name == "runtime.NumGoroutine" then some fn.name else none) = ["sync/atomic.StoreInt64"] := by kernel_rfl
theorem gn3 : (L3.flatMap fun g => ((Tryz.prog.funcs[g]?).bind (·.body)).elim [] Code.globalsNamed) = [] := by kernel_rfl
theorem er3 : (L3.filterMap fun g => (Tryz.prog.funcs[g]?).bind fun fn => if fn.body.isNone then entryReads.lookup fn.name else none) = [] := by kernel_rfl
end Go.Proofs.YtdpcebflmhhbgaaGreatDoor.BothNil
