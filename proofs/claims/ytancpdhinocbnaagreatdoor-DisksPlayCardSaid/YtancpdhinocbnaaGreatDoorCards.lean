/-
  DERIVED. GIVEN WITH THE SEED: THE CARDS: each row of YtancpdhinocbnaaGreatDoorRows.lean that lists a variable, with what it lists TIED to the program's text (the seventh form; the later family's looks); each row that meets fmt, with fmt's text TOLD by the authors' own Lean function (tested against real Go, not proved from fmt's source: count such statements apart). THE CARD IS WHAT COUNTS. Prove the row's statement (the work); the ties are given (YtancpdhinocbnaaGreatDoorTie.lean); close each card by the builder's one call (the guide's Derived/Test/ToyasCard.lean, 'card_holds'). Laid BY PROGRAM, IN A SANDBOX (cutbox-door.mjs). By AI agents, Wed Nov 11 2026. No macro, syntax, notation, axiom, sorry.
-/
import Derived.Test.YtancpdhinocbnaaGreatDoorRows
import GoSem.ClaimSeven
namespace Go.Proofs.YtancpdhinocbnaaGreatDoor
namespace Rows

/-- THE TIED CARD OF 'herbariumlaw04.DisksPlay'. -/
def disksPlayCard : Claim7 := { stood := { row := disksPlayRow, standIns := [], harness := (true, "1d66378e930fbd212d9fe29c2e99b5bc6fa426787a0a632cf9283150e7d42763"), looks := true }, kinds := [], alts := [], laidByText := true, laidKinds := [.data, .data, .data], laidTests := true, laidLooks := .later }
def DisksPlayCardSaid : Prop := Claim7.holds Tryz.pinned (.plain (OpenSpec.ofChange disksPlaySpec)) disksPlayCard

/-- THE SECOND FORM's CARD OF 'herbariumlaw04.DisksPlay'. -/
def disksPlayUptoCard : Claim7 := { stood := { row := disksPlayUptoRow, standIns := [], harness := (true, "1d66378e930fbd212d9fe29c2e99b5bc6fa426787a0a632cf9283150e7d42763"), looks := true }, kinds := [], alts := [], laidByText := true, laidKinds := [.data, .data, .data], laidTests := true, laidLooks := .later }
def DisksPlayUptoCardSaid : Prop := Claim7.holds Tryz.pinned (.plain (OpenSpec.upto disksPlaySpec)) disksPlayUptoCard
end Rows
end Go.Proofs.YtancpdhinocbnaaGreatDoor
