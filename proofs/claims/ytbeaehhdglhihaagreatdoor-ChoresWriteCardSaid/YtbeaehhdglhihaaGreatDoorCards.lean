/-
  DERIVED. GIVEN WITH THE SEED: THE CARDS: each row of YtbeaehhdglhihaaGreatDoorRows.lean that lists a variable, with what it lists TIED to the program's text (the seventh form; the later family's looks); each row that meets fmt, with fmt's text TOLD by the authors' own Lean function (tested against real Go, not proved from fmt's source: count such statements apart). THE CARD IS WHAT COUNTS. Prove the row's statement (the work); the ties are given (YtbeaehhdglhihaaGreatDoorTie.lean); close each card by the builder's one call (the guide's Derived/Test/ToyasCard.lean, 'card_holds'). Laid BY PROGRAM, IN A SANDBOX (cutbox-door.mjs). By AI agents, Wed Nov 11 2026. No macro, syntax, notation, axiom, sorry.
-/
import Derived.Test.YtbeaehhdglhihaaGreatDoorRows
import GoSem.ClaimSeven
namespace Go.Proofs.YtbeaehhdglhihaaGreatDoor
namespace Rows

/-- THE TIED CARD OF 'herbariumlaw24.ChoresWrite'. -/
def choresWriteCard : Claim7 := { stood := { row := choresWriteRow, standIns := [], harness := (true, "944eee54efed60f6651a4d140501b45bfe22fab865db877b49dc24f9921cb302"), looks := true }, kinds := [], alts := [], laidByText := true, laidKinds := [.data, .data, .data], laidTests := true, laidLooks := .later }
def ChoresWriteCardSaid : Prop := Claim7.holds Tryz.pinned (.plain (OpenSpec.ofChange choresWriteSpec)) choresWriteCard

/-- THE TIED CARD OF 'herbariumlaw24.ChoresSure'. -/
def choresSureCard : Claim7 := { stood := { row := choresSureRow, standIns := [], harness := (true, "944eee54efed60f6651a4d140501b45bfe22fab865db877b49dc24f9921cb302"), looks := true }, kinds := [], alts := [], laidByText := true, laidKinds := [.data, .data, .data], laidTests := true, laidLooks := .later }
def ChoresSureCardSaid : Prop := Claim7.holds Tryz.pinned (.plain (OpenSpec.ofChange choresSureSpec)) choresSureCard

/-- THE TIED CARD OF 'herbariumlaw24.ChoresAgain'. -/
def choresAgainCard : Claim7 := { stood := { row := choresAgainRow, standIns := [], harness := (true, "944eee54efed60f6651a4d140501b45bfe22fab865db877b49dc24f9921cb302"), looks := true }, kinds := [], alts := [], laidByText := true, laidKinds := [.data, .data, .data], laidTests := true, laidLooks := .later }
def ChoresAgainCardSaid : Prop := Claim7.holds Tryz.pinned (.plain (OpenSpec.ofChange choresAgainSpec)) choresAgainCard

/-- THE TIED CARD OF 'herbariumlaw24.ChoresBack'. -/
def choresBackCard : Claim7 := { stood := { row := choresBackRow, standIns := [], harness := (true, "944eee54efed60f6651a4d140501b45bfe22fab865db877b49dc24f9921cb302"), looks := true }, kinds := [], alts := [], laidByText := true, laidKinds := [.data, .data, .data], laidTests := true, laidLooks := .later }
def ChoresBackCardSaid : Prop := Claim7.holds Tryz.pinned (.plain (OpenSpec.ofChange choresBackSpec)) choresBackCard

/-- THE SECOND FORM's CARD OF 'herbariumlaw24.ChoresWrite'. -/
def choresWriteUptoCard : Claim7 := { stood := { row := choresWriteUptoRow, standIns := [], harness := (true, "944eee54efed60f6651a4d140501b45bfe22fab865db877b49dc24f9921cb302"), looks := true }, kinds := [], alts := [], laidByText := true, laidKinds := [.data, .data, .data], laidTests := true, laidLooks := .later }
def ChoresWriteUptoCardSaid : Prop := Claim7.holds Tryz.pinned (.plain (OpenSpec.upto choresWriteSpec)) choresWriteUptoCard

/-- THE SECOND FORM's CARD OF 'herbariumlaw24.ChoresSure'. -/
def choresSureUptoCard : Claim7 := { stood := { row := choresSureUptoRow, standIns := [], harness := (true, "944eee54efed60f6651a4d140501b45bfe22fab865db877b49dc24f9921cb302"), looks := true }, kinds := [], alts := [], laidByText := true, laidKinds := [.data, .data, .data], laidTests := true, laidLooks := .later }
def ChoresSureUptoCardSaid : Prop := Claim7.holds Tryz.pinned (.plain (OpenSpec.upto choresSureSpec)) choresSureUptoCard

/-- THE SECOND FORM's CARD OF 'herbariumlaw24.ChoresAgain'. -/
def choresAgainUptoCard : Claim7 := { stood := { row := choresAgainUptoRow, standIns := [], harness := (true, "944eee54efed60f6651a4d140501b45bfe22fab865db877b49dc24f9921cb302"), looks := true }, kinds := [], alts := [], laidByText := true, laidKinds := [.data, .data, .data], laidTests := true, laidLooks := .later }
def ChoresAgainUptoCardSaid : Prop := Claim7.holds Tryz.pinned (.plain (OpenSpec.upto choresAgainSpec)) choresAgainUptoCard

/-- THE SECOND FORM's CARD OF 'herbariumlaw24.ChoresBack'. -/
def choresBackUptoCard : Claim7 := { stood := { row := choresBackUptoRow, standIns := [], harness := (true, "944eee54efed60f6651a4d140501b45bfe22fab865db877b49dc24f9921cb302"), looks := true }, kinds := [], alts := [], laidByText := true, laidKinds := [.data, .data, .data], laidTests := true, laidLooks := .later }
def ChoresBackUptoCardSaid : Prop := Claim7.holds Tryz.pinned (.plain (OpenSpec.upto choresBackSpec)) choresBackUptoCard
end Rows
end Go.Proofs.YtbeaehhdglhihaaGreatDoor
