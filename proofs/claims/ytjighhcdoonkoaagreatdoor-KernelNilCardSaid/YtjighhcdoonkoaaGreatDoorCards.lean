/-
  DERIVED. GIVEN WITH THE SEED: THE CARDS: each row of YtjighhcdoonkoaaGreatDoorRows.lean that lists a variable, with what it lists TIED to the program's text (the seventh form; the later family's looks); each row that meets fmt, with fmt's text TOLD by the authors' own Lean function (tested against real Go, not proved from fmt's source: count such statements apart). THE CARD IS WHAT COUNTS. Prove the row's statement (the work); the ties are given (YtjighhcdoonkoaaGreatDoorTie.lean); close each card by the builder's one call (the guide's Derived/Test/ToyasCard.lean, 'card_holds'). Laid BY PROGRAM, IN A SANDBOX (cutbox-door.mjs). By AI agents, Wed Nov 11 2026. No macro, syntax, notation, axiom, sorry.
-/
import Derived.Test.YtjighhcdoonkoaaGreatDoorRows
import GoSem.ClaimSeven
namespace Go.Proofs.YtjighhcdoonkoaaGreatDoor
namespace Rows

/-- THE TIED CARD OF 'tenementlaw25.KernelBooks'. -/
def kernelBooksCard : Claim7 := { stood := { row := kernelBooksRow, standIns := [], harness := (true, "f670457933616b2fd5ab9e3d9ead141f17b01da667d207f3e4bcf4ad33a66c3a"), looks := true }, kinds := [], alts := [], laidByText := true, laidKinds := [.data, .data, .data, .data, .data, .data], laidTests := true, laidLooks := .later }
def KernelBooksCardSaid : Prop := Claim7.holds Tryz.pinned (.plain (OpenSpec.ofChange kernelBooksSpec)) kernelBooksCard

/-- THE TIED CARD OF 'tenementlaw25.KernelNil'. -/
def kernelNilCard : Claim7 := { stood := { row := kernelNilRow, standIns := [], harness := (true, "f670457933616b2fd5ab9e3d9ead141f17b01da667d207f3e4bcf4ad33a66c3a"), looks := true }, kinds := [], alts := [], laidByText := true, laidKinds := [.data, .data, .data, .data, .data, .data], laidTests := true, laidLooks := .later }
def KernelNilCardSaid : Prop := Claim7.holds Tryz.pinned (.plain (OpenSpec.ofChange kernelNilSpec)) kernelNilCard

/-- THE SECOND FORM's CARD OF 'tenementlaw25.KernelBooks'. -/
def kernelBooksUptoCard : Claim7 := { stood := { row := kernelBooksUptoRow, standIns := [], harness := (true, "f670457933616b2fd5ab9e3d9ead141f17b01da667d207f3e4bcf4ad33a66c3a"), looks := true }, kinds := [], alts := [], laidByText := true, laidKinds := [.data, .data, .data, .data, .data, .data], laidTests := true, laidLooks := .later }
def KernelBooksUptoCardSaid : Prop := Claim7.holds Tryz.pinned (.plain (OpenSpec.upto kernelBooksSpec)) kernelBooksUptoCard

/-- THE SECOND FORM's CARD OF 'tenementlaw25.KernelNil'. -/
def kernelNilUptoCard : Claim7 := { stood := { row := kernelNilUptoRow, standIns := [], harness := (true, "f670457933616b2fd5ab9e3d9ead141f17b01da667d207f3e4bcf4ad33a66c3a"), looks := true }, kinds := [], alts := [], laidByText := true, laidKinds := [.data, .data, .data, .data, .data, .data], laidTests := true, laidLooks := .later }
def KernelNilUptoCardSaid : Prop := Claim7.holds Tryz.pinned (.plain (OpenSpec.upto kernelNilSpec)) kernelNilUptoCard
end Rows
end Go.Proofs.YtjighhcdoonkoaaGreatDoor
