/-
  DERIVED. GIVEN WITH THE SEED: THE CARDS: each row of YtdpcebflmhhbgaaGreatDoorRows.lean that lists a variable, with what it lists TIED to the program's text (the seventh form; the later family's looks); each row that meets fmt, with fmt's text TOLD by the authors' own Lean function (tested against real Go, not proved from fmt's source: count such statements apart). THE CARD IS WHAT COUNTS. Prove the row's statement (the work); the ties are given (YtdpcebflmhhbgaaGreatDoorTie.lean); close each card by the builder's one call (the guide's Derived/Test/ToyasCard.lean, 'card_holds'). Laid BY PROGRAM, IN A SANDBOX (cutbox-door.mjs). By AI agents, Wed Nov 11 2026. No macro, syntax, notation, axiom, sorry.
-/
import Derived.Test.YtdpcebflmhhbgaaGreatDoorRows
import GoSem.ClaimSeven
namespace Go.Proofs.YtdpcebflmhhbgaaGreatDoor
namespace Rows

/-- THE TIED CARD OF 'tenementlaw31.BothNil'. -/
def bothNilCard : Claim7 := { stood := { row := bothNilRow, standIns := [], harness := (true, "7cde048992687125252fdd3e9a7e9ea4c06acbb92d5cd81912655d18a2722a33"), looks := true }, kinds := [], alts := [], laidByText := true, laidKinds := [.data, .data, .data, .data, .data, .data, .data, .data, .data], laidTests := true, laidLooks := .later }
def BothNilCardSaid : Prop := Claim7.holds Tryz.pinned (.plain (OpenSpec.ofChange bothNilSpec)) bothNilCard

/-- THE SECOND FORM's CARD OF 'tenementlaw31.BothNil'. -/
def bothNilUptoCard : Claim7 := { stood := { row := bothNilUptoRow, standIns := [], harness := (true, "7cde048992687125252fdd3e9a7e9ea4c06acbb92d5cd81912655d18a2722a33"), looks := true }, kinds := [], alts := [], laidByText := true, laidKinds := [.data, .data, .data, .data, .data, .data, .data, .data, .data], laidTests := true, laidLooks := .later }
def BothNilUptoCardSaid : Prop := Claim7.holds Tryz.pinned (.plain (OpenSpec.upto bothNilSpec)) bothNilUptoCard
end Rows
end Go.Proofs.YtdpcebflmhhbgaaGreatDoor
