/-
  DERIVED. GIVEN WITH THE SEED: THE CARDS: each row of YtcmiillgniglaaaGreatDoorRows.lean that lists a variable, with what it lists TIED to the program's text (the seventh form; the later family's looks); each row that meets fmt, with fmt's text TOLD by the authors' own Lean function (tested against real Go, not proved from fmt's source: count such statements apart). THE CARD IS WHAT COUNTS. Prove the row's statement (the work); the ties are given (YtcmiillgniglaaaGreatDoorTie.lean); close each card by the builder's one call (the guide's Derived/Test/ToyasCard.lean, 'card_holds'). Laid BY PROGRAM, IN A SANDBOX (cutbox-door.mjs). By AI agents, Wed Nov 11 2026. No macro, syntax, notation, axiom, sorry.
-/
import Derived.Test.YtcmiillgniglaaaGreatDoorRows
import GoSem.ClaimSeven
namespace Go.Proofs.YtcmiillgniglaaaGreatDoor
namespace Rows

/-- THE TIED CARD OF 'herbariumlaw24.ChoresAgain'. -/
def choresAgainCard : Claim7 := { stood := { row := choresAgainRow, standIns := [], harness := (true, "ae1904c334f8b1d965eb5db9502be01e76c105fb4f34065929efbcc56341d4f4"), looks := true }, kinds := [], alts := [], laidByText := true, laidKinds := [.data, .data, .data], laidTests := true, laidLooks := .later }
def ChoresAgainCardSaid : Prop := Claim7.holds Tryz.pinned (.plain (OpenSpec.ofChange choresAgainSpec)) choresAgainCard

/-- THE SECOND FORM's CARD OF 'herbariumlaw24.ChoresAgain'. -/
def choresAgainUptoCard : Claim7 := { stood := { row := choresAgainUptoRow, standIns := [], harness := (true, "ae1904c334f8b1d965eb5db9502be01e76c105fb4f34065929efbcc56341d4f4"), looks := true }, kinds := [], alts := [], laidByText := true, laidKinds := [.data, .data, .data], laidTests := true, laidLooks := .later }
def ChoresAgainUptoCardSaid : Prop := Claim7.holds Tryz.pinned (.plain (OpenSpec.upto choresAgainSpec)) choresAgainUptoCard
end Rows
end Go.Proofs.YtcmiillgniglaaaGreatDoor
