/-
  DERIVED. GIVEN WITH THE SEED: THE CARDS: each row of YtljdlilcpcokhaaDoorRows.lean that lists a variable, with what it lists TIED to the program's text (the seventh form; the later family's looks); each row that meets fmt, with fmt's text TOLD by the authors' own Lean function (tested against real Go, not proved from fmt's source: count such statements apart). THE CARD IS WHAT COUNTS. Prove the row's statement (the work); the ties are given (YtljdlilcpcokhaaDoorTie.lean); close each card by the builder's one call (the guide's Derived/Test/ToyasCard.lean, 'card_holds'). Laid BY PROGRAM, IN A SANDBOX (cutbox-door.mjs). By AI agents, Wed Nov 11 2026. No macro, syntax, notation, axiom, sorry.
-/
import Derived.Test.YtljdlilcpcokhaaDoorRows
import GoSem.ClaimSeven
namespace Go.Proofs.YtljdlilcpcokhaaDoor
namespace Rows

/-- THE TIED CARD OF 'herbariumlaw12.TablesBuild'. -/
def tablesBuildCard : Claim7 := { stood := { row := tablesBuildRow, standIns := [], harness := (true, "3d9f41b1247ffab0c87d3b43ec65f27c00104c902ff56d0c7caecf145a79669c"), looks := false }, kinds := [], alts := [], laidByText := true, laidKinds := [.data, .data, .data], laidTests := true, laidLooks := .later }
def TablesBuildCardSaid : Prop := Claim7.holds Tryd.pinned (.plain (OpenSpec.ofChange tablesBuildSpec)) tablesBuildCard

/-- THE SECOND FORM's CARD OF 'herbariumlaw12.TablesBuild'. -/
def tablesBuildUptoCard : Claim7 := { stood := { row := tablesBuildUptoRow, standIns := [], harness := (true, "3d9f41b1247ffab0c87d3b43ec65f27c00104c902ff56d0c7caecf145a79669c"), looks := false }, kinds := [], alts := [], laidByText := true, laidKinds := [.data, .data, .data], laidTests := true, laidLooks := .later }
def TablesBuildUptoCardSaid : Prop := Claim7.holds Tryd.pinned (.plain (OpenSpec.upto tablesBuildSpec)) tablesBuildUptoCard
end Rows
end Go.Proofs.YtljdlilcpcokhaaDoor
