/-
  DERIVED. GIVEN WITH THE SEED: THE CARDS: each row of YtbaohpnfiacchaaGreatDoorRows.lean that lists a variable, with what it lists TIED to the program's text (the seventh form; the later family's looks); each row that meets fmt, with fmt's text TOLD by the authors' own Lean function (tested against real Go, not proved from fmt's source: count such statements apart). THE CARD IS WHAT COUNTS. Prove the row's statement (the work); the ties are given (YtbaohpnfiacchaaGreatDoorTie.lean); close each card by the builder's one call (the guide's Derived/Test/ToyasCard.lean, 'card_holds'). Laid BY PROGRAM, IN A SANDBOX (cutbox-door.mjs). By AI agents, Wed Nov 11 2026. No macro, syntax, notation, axiom, sorry.
-/
import Derived.Test.YtbaohpnfiacchaaGreatDoorRows
import GoSem.ClaimSeven
namespace Go.Proofs.YtbaohpnfiacchaaGreatDoor
namespace Rows

/-- THE TIED CARD OF 'herbariumlaw13.ReadersOf'. -/
def readersOfCard : Claim7 := { stood := { row := readersOfRow, standIns := [], harness := (true, "cc43d709b6e7f269d9358a274b9243cf1e78ec4e5eb4ae144a7abc2ab504fa58"), looks := true }, kinds := [], alts := [], laidByText := true, laidKinds := [.data, .data, .data], laidTests := true, laidLooks := .later }
def ReadersOfCardSaid : Prop := Claim7.holds Tryz.pinned (.plain (OpenSpec.ofChange readersOfSpec)) readersOfCard

/-- THE SECOND FORM's CARD OF 'herbariumlaw13.ReadersOf'. -/
def readersOfUptoCard : Claim7 := { stood := { row := readersOfUptoRow, standIns := [], harness := (true, "cc43d709b6e7f269d9358a274b9243cf1e78ec4e5eb4ae144a7abc2ab504fa58"), looks := true }, kinds := [], alts := [], laidByText := true, laidKinds := [.data, .data, .data], laidTests := true, laidLooks := .later }
def ReadersOfUptoCardSaid : Prop := Claim7.holds Tryz.pinned (.plain (OpenSpec.upto readersOfSpec)) readersOfUptoCard
end Rows
end Go.Proofs.YtbaohpnfiacchaaGreatDoor
