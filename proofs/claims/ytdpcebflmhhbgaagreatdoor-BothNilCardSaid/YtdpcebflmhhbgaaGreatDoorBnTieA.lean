/- What 'tenementlaw31.BothNil' lists is tied to the program's text: closed facts, piece A. -/
import Derived.Test.YtdpcebflmhhbgaaGreatDoorRows
import Derived.LaidByTextLater
import Derived.SevenTiedAt
import Derived.KernelRfl
set_option linter.all false
namespace Go.Proofs.YtdpcebflmhhbgaaGreatDoor.BothNil
set_option maxRecDepth 100000
abbrev laidList : List (String × DataW Unit) := [("tenement/isa.masks", Rows.laid_tenement_isa_masks), ("tenement/isa.words", Rows.laid_tenement_isa_words), ("tenement/alu.shapes", Rows.laid_tenement_alu_shapes), ("tenement/buffer.kinds", Rows.laid_tenement_buffer_kinds), ("tenement/desc.kinds", Rows.laid_tenement_desc_kinds), ("tenement/desc.low", Rows.laid_tenement_desc_low), ("tenement/desc.named", Rows.laid_tenement_desc_named), ("tenement/desc.places", Rows.laid_tenement_desc_places), ("math/bits.deBruijn64tab", Rows.laid_math_bits_deBruijn64tab)]
theorem tw1 : Tryz.prog.worded (varsWordLater true) = true := by kernel_rfl
theorem tw2 : Tryz.prog.worded (varsWordLater !true) = false := by kernel_rfl
theorem tw3 : Tryz.prog.worded rootWordLater = true := by kernel_rfl
theorem tk : laidList.map (fun x => Tryz.prog.kindOfLater x.1) = ([.data, .data, .data, .data, .data, .data, .data, .data, .data] : List LaidKind).map some := by kernel_rfl
theorem tg : (Tryz.prog.funcNamed "gosem.cut.vars").isSome = true := by kernel_rfl
theorem tp : (laidList.all fun x => x.2.handleName?.isNone) = true := by kernel_rfl
theorem tno : Tryz.pinned.checked.prog.headLifts.contains "ownunsafe" = false := by kernel_rfl
end Go.Proofs.YtdpcebflmhhbgaaGreatDoor.BothNil
