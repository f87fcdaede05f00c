/-
  No cell of these rows narrows 'for every input' (looked for: loops, veiled, ifaces, maps, wideKeys, modest, calm, conditions, laid).
  DERIVED. THE GIVEN ROWS OF THIS SEAT. 4 by the template 'for every input the law returns true; each argument reads behind the call as it read before'; 0 by the template 'total and deterministic' (their statements: YtljdlilcpcokhaaTotals.lean).
  GIVEN WITH THE SEED: the statements are not yours to turn. If you find one false, say at which input.
  Laid BY PROGRAM, IN A SANDBOX (cutbox-rows.mjs): the forced cells as the released guide's own fill.sh prints them over the translation f7b14c989100ce63… (all of the seat's roots in one cut). By AI agents, Wed Nov 11 2026. No macro, syntax, notation, axiom, sorry.
-/
import Derived.Test.YtljdlilcpcokhaaChecked
import GoSem.Claim
import GoSem.ClaimJoined
import GoSem.ClaimMapViews
import Derived.JoinedTies
import Derived.KernelRfl
namespace Go.Proofs.Ytljdlilcpcokhaa
/- THE CELL 'sum', in the pinned program and in every row, IS THE sha256 OF THE DUMP (.gsa) THAT YtljdlilcpcokhaaProg.lean LOADS. Nothing in Lean hashes anything: it is a label: what it is worth is what the hold of that sum in a sandbox is worth. -/
noncomputable def Try.pinned : Pinned := { name := "ytljdlilcpcokhaa", sum := "f7b14c989100ce63574293e930a8c50502f5eac8f517a53c99e839b621bc41df", checked := Try.checked }
namespace Rows
def none {H : Type} : Left H := { results := [], args := [] }

/-- 'herbariumlaw12.TablesMay': WHATEVER THE INPUT: true; the input reads as it did. -/
def tablesMaySpec : ChangeSpec := { name := "tablesMay", fn := fun _ => fun
  | [d1, d2] => { results := [.lit (.bool true)], args := [d1, d2] }
  | _ => none }
def tablesMayRow : OpenClaim := { program := "ytljdlilcpcokhaa", sum := "f7b14c989100ce63574293e930a8c50502f5eac8f517a53c99e839b621bc41df", func := "herbarium/herbariumlaw12.TablesMay", spec := "tablesMay", unfollowed := true, recurses := true, apart := false }
def TablesMaySaid : Prop := tablesMayRow.holds Try.pinned (OpenSpec.ofChange tablesMaySpec)

/-- ITS FALSE NEIGHBOUR: 'it returns false'. Refute it at one input. -/
def tablesMayWrong : ChangeSpec := { name := "tablesMay", fn := fun _ => fun
  | [d1, d2] => { results := [.lit (.bool false)], args := [d1, d2] }
  | _ => none }
def TablesMayWrongFalsely : Prop := tablesMayRow.holds Try.pinned (OpenSpec.ofChange tablesMayWrong)

/-- 'herbariumlaw12.TablesOther': WHATEVER THE INPUT: true; the input reads as it did. -/
def tablesOtherSpec : ChangeSpec := { name := "tablesOther", fn := fun _ => fun
  | [d1, d2, d3] => { results := [.lit (.bool true)], args := [d1, d2, d3] }
  | _ => none }
def tablesOtherRow : OpenClaim := { program := "ytljdlilcpcokhaa", sum := "f7b14c989100ce63574293e930a8c50502f5eac8f517a53c99e839b621bc41df", func := "herbarium/herbariumlaw12.TablesOther", spec := "tablesOther", unfollowed := true, recurses := true, apart := false }
def TablesOtherSaid : Prop := tablesOtherRow.holds Try.pinned (OpenSpec.ofChange tablesOtherSpec)

/-- ITS FALSE NEIGHBOUR: 'it returns false'. Refute it at one input. -/
def tablesOtherWrong : ChangeSpec := { name := "tablesOther", fn := fun _ => fun
  | [d1, d2, d3] => { results := [.lit (.bool false)], args := [d1, d2, d3] }
  | _ => none }
def TablesOtherWrongFalsely : Prop := tablesOtherRow.holds Try.pinned (OpenSpec.ofChange tablesOtherWrong)

/-- 'herbariumlaw12.TablesProps': WHATEVER THE INPUT: true; the input reads as it did. -/
def tablesPropsSpec : ChangeSpec := { name := "tablesProps", fn := fun _ => fun
  | [d1, d2] => { results := [.lit (.bool true)], args := [d1, d2] }
  | _ => none }
def tablesPropsRow : OpenClaim := { program := "ytljdlilcpcokhaa", sum := "f7b14c989100ce63574293e930a8c50502f5eac8f517a53c99e839b621bc41df", func := "herbarium/herbariumlaw12.TablesProps", spec := "tablesProps", unfollowed := true, recurses := true, apart := false }
def TablesPropsSaid : Prop := tablesPropsRow.holds Try.pinned (OpenSpec.ofChange tablesPropsSpec)

/-- ITS FALSE NEIGHBOUR: 'it returns false'. Refute it at one input. -/
def tablesPropsWrong : ChangeSpec := { name := "tablesProps", fn := fun _ => fun
  | [d1, d2] => { results := [.lit (.bool false)], args := [d1, d2] }
  | _ => none }
def TablesPropsWrongFalsely : Prop := tablesPropsRow.holds Try.pinned (OpenSpec.ofChange tablesPropsWrong)

/-- 'herbariumlaw12.TablesParts': WHATEVER THE INPUT: true; the input reads as it did. -/
def tablesPartsSpec : ChangeSpec := { name := "tablesParts", fn := fun _ => fun
  | [d1, d2] => { results := [.lit (.bool true)], args := [d1, d2] }
  | _ => none }
def tablesPartsRow : OpenClaim := { program := "ytljdlilcpcokhaa", sum := "f7b14c989100ce63574293e930a8c50502f5eac8f517a53c99e839b621bc41df", func := "herbarium/herbariumlaw12.TablesParts", spec := "tablesParts", unfollowed := true, recurses := true, apart := false }
def TablesPartsSaid : Prop := tablesPartsRow.holds Try.pinned (OpenSpec.ofChange tablesPartsSpec)

/-- ITS FALSE NEIGHBOUR: 'it returns false'. Refute it at one input. -/
def tablesPartsWrong : ChangeSpec := { name := "tablesParts", fn := fun _ => fun
  | [d1, d2] => { results := [.lit (.bool false)], args := [d1, d2] }
  | _ => none }
def TablesPartsWrongFalsely : Prop := tablesPartsRow.holds Try.pinned (OpenSpec.ofChange tablesPartsWrong)

/- THE SECOND FORM. 'bulk': how many values and letters a reading holds, each counted each time it is reached (what is shared counts as often as it is met; a slice's spare places count too). A statement '..UptoSaid' is the law's where the arguments, and the package variables that the reading takes, are together of bulk at most 1048576: NARROWER than '..Said'. Prove '..Said' where nothing that the law and all that it calls make is longer than what came in: it says more and counts as full. Else prove '..UptoSaid'. A law counts once. -/
mutual
def uptoBulk {H : Type} : DataW H → Nat
  | .lit (.string bytes) => bytes.length + 1
  | .lit _ => 1
  | .nil => 1
  | .ptr d => uptoBulk d + 1
  | .slice elems spare => uptoBulkAll elems + uptoBulkAll spare + 1
  | .agg parts => uptoBulkAll parts + 1
  | .iface _ d => uptoBulk d + 1
  | .map entries => uptoBulkEntries entries + 1
  | .held _ => 1
def uptoBulkAll {H : Type} : List (DataW H) → Nat
  | [] => 0
  | d :: r => uptoBulk d + uptoBulkAll r
def uptoBulkEntries {H : Type} : List (Lit × DataW H) → Nat
  | [] => 0
  | x :: r => uptoBulkEntry x + uptoBulkEntries r
def uptoBulkEntry {H : Type} : Lit × DataW H → Nat
  | (.string bytes, d) => bytes.length + uptoBulk d + 1
  | (_, d) => uptoBulk d + 1
 end
def uptoSmall : (H : Type) → List (DataW H) → Bool := fun _ ds => decide (uptoBulkAll ds ≤ 1048576)
def OpenSpec.upto (s : _root_.Go.ChangeSpec) : _root_.Go.OpenSpec := { _root_.Go.OpenSpec.ofChange s with cond := some uptoSmall }

/-- 'herbariumlaw12.TablesMay', WHERE WHAT IT READS IS OF BULK AT MOST 1048576: true; the input reads as it did. -/
def tablesMayUptoRow : OpenClaim := { program := "ytljdlilcpcokhaa", sum := "f7b14c989100ce63574293e930a8c50502f5eac8f517a53c99e839b621bc41df", func := "herbarium/herbariumlaw12.TablesMay", spec := "tablesMay", unfollowed := true, recurses := true, apart := false, narrowed := true }
def TablesMayUptoSaid : Prop := tablesMayUptoRow.holds Try.pinned (OpenSpec.upto tablesMaySpec)

/-- 'herbariumlaw12.TablesOther', WHERE WHAT IT READS IS OF BULK AT MOST 1048576: true; the input reads as it did. -/
def tablesOtherUptoRow : OpenClaim := { program := "ytljdlilcpcokhaa", sum := "f7b14c989100ce63574293e930a8c50502f5eac8f517a53c99e839b621bc41df", func := "herbarium/herbariumlaw12.TablesOther", spec := "tablesOther", unfollowed := true, recurses := true, apart := false, narrowed := true }
def TablesOtherUptoSaid : Prop := tablesOtherUptoRow.holds Try.pinned (OpenSpec.upto tablesOtherSpec)

/-- 'herbariumlaw12.TablesProps', WHERE WHAT IT READS IS OF BULK AT MOST 1048576: true; the input reads as it did. -/
def tablesPropsUptoRow : OpenClaim := { program := "ytljdlilcpcokhaa", sum := "f7b14c989100ce63574293e930a8c50502f5eac8f517a53c99e839b621bc41df", func := "herbarium/herbariumlaw12.TablesProps", spec := "tablesProps", unfollowed := true, recurses := true, apart := false, narrowed := true }
def TablesPropsUptoSaid : Prop := tablesPropsUptoRow.holds Try.pinned (OpenSpec.upto tablesPropsSpec)

/-- 'herbariumlaw12.TablesParts', WHERE WHAT IT READS IS OF BULK AT MOST 1048576: true; the input reads as it did. -/
def tablesPartsUptoRow : OpenClaim := { program := "ytljdlilcpcokhaa", sum := "f7b14c989100ce63574293e930a8c50502f5eac8f517a53c99e839b621bc41df", func := "herbarium/herbariumlaw12.TablesParts", spec := "tablesParts", unfollowed := true, recurses := true, apart := false, narrowed := true }
def TablesPartsUptoSaid : Prop := tablesPartsUptoRow.holds Try.pinned (OpenSpec.upto tablesPartsSpec)

end Rows
end Go.Proofs.Ytljdlilcpcokhaa
