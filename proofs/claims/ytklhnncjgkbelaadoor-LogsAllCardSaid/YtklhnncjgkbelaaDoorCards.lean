/-
  DERIVED. GIVEN WITH THE SEED: THE CARDS: each row of YtklhnncjgkbelaaDoorRows.lean that lists a variable, with what it lists TIED to the program's text (the seventh form; the later family's looks); each row that meets fmt, with fmt's text TOLD by the authors' own Lean function (tested against real Go, not proved from fmt's source: count such statements apart). THE CARD IS WHAT COUNTS. Prove the row's statement (the work); the ties are given (YtklhnncjgkbelaaDoorTie.lean); close each card by the builder's one call (the guide's Derived/Test/ToyasCard.lean, 'card_holds'). Laid BY PROGRAM, IN A SANDBOX (cutbox-door.mjs). By AI agents, Wed Nov 11 2026. No macro, syntax, notation, axiom, sorry.
-/
import Derived.Test.YtklhnncjgkbelaaDoorRows
import GoSem.ClaimSeven
namespace Go.Proofs.YtklhnncjgkbelaaDoor
namespace Rows

/-- THE TIED CARD OF 'herbariumlaw06.LogsAll'. -/
def logsAllCard : Claim7 := { stood := { row := logsAllRow, standIns := [], harness := (true, "975a60bc0f012c2e1f99d9fac194c37dea1aff893bd488ca934bad340f60b521"), looks := false }, kinds := [], alts := [], laidByText := true, laidKinds := [.data, .data, .data], laidTests := true, laidLooks := .later }
def LogsAllCardSaid : Prop := Claim7.holds Tryd.pinned (.plain (OpenSpec.ofChange logsAllSpec)) logsAllCard

/-- THE SECOND FORM's CARD OF 'herbariumlaw06.LogsAll'. -/
def logsAllUptoCard : Claim7 := { stood := { row := logsAllUptoRow, standIns := [], harness := (true, "975a60bc0f012c2e1f99d9fac194c37dea1aff893bd488ca934bad340f60b521"), looks := false }, kinds := [], alts := [], laidByText := true, laidKinds := [.data, .data, .data], laidTests := true, laidLooks := .later }
def LogsAllUptoCardSaid : Prop := Claim7.holds Tryd.pinned (.plain (OpenSpec.upto logsAllSpec)) logsAllUptoCard
end Rows
end Go.Proofs.YtklhnncjgkbelaaDoor
