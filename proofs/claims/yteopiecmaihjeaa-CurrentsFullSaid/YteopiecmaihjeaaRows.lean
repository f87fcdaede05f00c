/-
  No cell of these rows narrows 'for every input' (looked for: loops, veiled, ifaces, maps, wideKeys, modest, calm, conditions, laid).
  DERIVED. THE GIVEN ROWS OF THIS SEAT. 3 by the template 'for every input the law returns true; each argument reads behind the call as it read before'; 0 by the template 'total and deterministic' (their statements: YteopiecmaihjeaaTotals.lean).
  GIVEN WITH THE SEED: the statements are not yours to turn. If you find one false, say at which input.
  Laid BY PROGRAM, IN A SANDBOX (cutbox-rows.mjs): the forced cells as the released guide's own fill.sh prints them over the translation a53bea44eea1a3af… (all of the seat's roots in one cut). By AI agents, Wed Nov 11 2026. No macro, syntax, notation, axiom, sorry.
-/
import Derived.Test.YteopiecmaihjeaaChecked
import GoSem.Claim
import GoSem.ClaimJoined
import GoSem.ClaimMapViews
import Derived.JoinedTies
import Derived.KernelRfl
namespace Go.Proofs.Yteopiecmaihjeaa
/- THE CELL 'sum', in the pinned program and in every row, IS THE sha256 OF THE DUMP (.gsa) THAT YteopiecmaihjeaaProg.lean LOADS. Nothing in Lean hashes anything: it is a label: what it is worth is what the hold of that sum in a sandbox is worth. -/
noncomputable def Try.pinned : Pinned := { name := "yteopiecmaihjeaa", sum := "a53bea44eea1a3afd7684c99ad80854bef65c66271cbc114c411363a6d31b64b", checked := Try.checked }
namespace Rows
def none {H : Type} : Left H := { results := [], args := [] }

/-- 'herbariumlaw21.CurrentsFull': WHATEVER THE INPUT: true; the input reads as it did. -/
def currentsFullSpec : ChangeSpec := { name := "currentsFull", fn := fun _ => fun
  | [d1, d2] => { results := [.lit (.bool true)], args := [d1, d2] }
  | _ => none }
def currentsFullRow : OpenClaim := { program := "yteopiecmaihjeaa", sum := "a53bea44eea1a3afd7684c99ad80854bef65c66271cbc114c411363a6d31b64b", func := "herbarium/herbariumlaw21.CurrentsFull", spec := "currentsFull", inPlace := ["maps.clone"], unfollowed := true, recurses := true, apart := false }
def CurrentsFullSaid : Prop := currentsFullRow.holds Try.pinned (OpenSpec.ofChange currentsFullSpec)

/-- ITS FALSE NEIGHBOUR: 'it returns false'. Refute it at one input. -/
def currentsFullWrong : ChangeSpec := { name := "currentsFull", fn := fun _ => fun
  | [d1, d2] => { results := [.lit (.bool false)], args := [d1, d2] }
  | _ => none }
def CurrentsFullWrongFalsely : Prop := currentsFullRow.holds Try.pinned (OpenSpec.ofChange currentsFullWrong)

/-- 'herbariumlaw21.CurrentsTurned': WHATEVER THE INPUT: true; the input reads as it did. -/
def currentsTurnedSpec : ChangeSpec := { name := "currentsTurned", fn := fun _ => fun
  | [d1, d2, d3] => { results := [.lit (.bool true)], args := [d1, d2, d3] }
  | _ => none }
def currentsTurnedRow : OpenClaim := { program := "yteopiecmaihjeaa", sum := "a53bea44eea1a3afd7684c99ad80854bef65c66271cbc114c411363a6d31b64b", func := "herbarium/herbariumlaw21.CurrentsTurned", spec := "currentsTurned", inPlace := ["maps.clone"], unfollowed := true, recurses := true, apart := false }
def CurrentsTurnedSaid : Prop := currentsTurnedRow.holds Try.pinned (OpenSpec.ofChange currentsTurnedSpec)

/-- ITS FALSE NEIGHBOUR: 'it returns false'. Refute it at one input. -/
def currentsTurnedWrong : ChangeSpec := { name := "currentsTurned", fn := fun _ => fun
  | [d1, d2, d3] => { results := [.lit (.bool false)], args := [d1, d2, d3] }
  | _ => none }
def CurrentsTurnedWrongFalsely : Prop := currentsTurnedRow.holds Try.pinned (OpenSpec.ofChange currentsTurnedWrong)

/-- 'herbariumlaw21.CurrentsSure': WHATEVER THE INPUT: true; the input reads as it did. -/
def currentsSureSpec : ChangeSpec := { name := "currentsSure", fn := fun _ => fun
  | [d1, d2, d3] => { results := [.lit (.bool true)], args := [d1, d2, d3] }
  | _ => none }
def currentsSureRow : OpenClaim := { program := "yteopiecmaihjeaa", sum := "a53bea44eea1a3afd7684c99ad80854bef65c66271cbc114c411363a6d31b64b", func := "herbarium/herbariumlaw21.CurrentsSure", spec := "currentsSure", inPlace := ["maps.clone"], unfollowed := true, recurses := true, apart := false }
def CurrentsSureSaid : Prop := currentsSureRow.holds Try.pinned (OpenSpec.ofChange currentsSureSpec)

/-- ITS FALSE NEIGHBOUR: 'it returns false'. Refute it at one input. -/
def currentsSureWrong : ChangeSpec := { name := "currentsSure", fn := fun _ => fun
  | [d1, d2, d3] => { results := [.lit (.bool false)], args := [d1, d2, d3] }
  | _ => none }
def CurrentsSureWrongFalsely : Prop := currentsSureRow.holds Try.pinned (OpenSpec.ofChange currentsSureWrong)

/- THE SECOND FORM. 'bulk': how many values and letters a reading holds, each counted each time it is reached (what is shared counts as often as it is met; a slice's spare places count too). A statement '..UptoSaid' is the law's where the arguments, and the package variables that the reading takes, are together of bulk at most 1048576: NARROWER than '..Said'. Prove '..Said' where nothing that the law and all that it calls make is longer than what came in: it says more and counts as full. Else prove '..UptoSaid'. A law counts once. -/
mutual
def uptoBulk {H : Type} : DataW H → Nat
  | .lit (.string bytes) => bytes.length + 1
  | .lit _ => 1
  | .nil => 1
  | .ptr d => uptoBulk d + 1
  | .slice elems spare => uptoBulkAll elems + uptoBulkAll spare + 1
  | .agg parts => uptoBulkAll parts + 1
  | .iface _ d => uptoBulk d + 1
  | .map entries => uptoBulkEntries entries + 1
  | .held _ => 1
def uptoBulkAll {H : Type} : List (DataW H) → Nat
  | [] => 0
  | d :: r => uptoBulk d + uptoBulkAll r
def uptoBulkEntries {H : Type} : List (Lit × DataW H) → Nat
  | [] => 0
  | x :: r => uptoBulkEntry x + uptoBulkEntries r
def uptoBulkEntry {H : Type} : Lit × DataW H → Nat
  | (.string bytes, d) => bytes.length + uptoBulk d + 1
  | (_, d) => uptoBulk d + 1
 end
def uptoSmall : (H : Type) → List (DataW H) → Bool := fun _ ds => decide (uptoBulkAll ds ≤ 1048576)
def OpenSpec.upto (s : _root_.Go.ChangeSpec) : _root_.Go.OpenSpec := { _root_.Go.OpenSpec.ofChange s with cond := some uptoSmall }

/-- 'herbariumlaw21.CurrentsFull', WHERE WHAT IT READS IS OF BULK AT MOST 1048576: true; the input reads as it did. -/
def currentsFullUptoRow : OpenClaim := { program := "yteopiecmaihjeaa", sum := "a53bea44eea1a3afd7684c99ad80854bef65c66271cbc114c411363a6d31b64b", func := "herbarium/herbariumlaw21.CurrentsFull", spec := "currentsFull", inPlace := ["maps.clone"], unfollowed := true, recurses := true, apart := false, narrowed := true }
def CurrentsFullUptoSaid : Prop := currentsFullUptoRow.holds Try.pinned (OpenSpec.upto currentsFullSpec)

/-- 'herbariumlaw21.CurrentsTurned', WHERE WHAT IT READS IS OF BULK AT MOST 1048576: true; the input reads as it did. -/
def currentsTurnedUptoRow : OpenClaim := { program := "yteopiecmaihjeaa", sum := "a53bea44eea1a3afd7684c99ad80854bef65c66271cbc114c411363a6d31b64b", func := "herbarium/herbariumlaw21.CurrentsTurned", spec := "currentsTurned", inPlace := ["maps.clone"], unfollowed := true, recurses := true, apart := false, narrowed := true }
def CurrentsTurnedUptoSaid : Prop := currentsTurnedUptoRow.holds Try.pinned (OpenSpec.upto currentsTurnedSpec)

/-- 'herbariumlaw21.CurrentsSure', WHERE WHAT IT READS IS OF BULK AT MOST 1048576: true; the input reads as it did. -/
def currentsSureUptoRow : OpenClaim := { program := "yteopiecmaihjeaa", sum := "a53bea44eea1a3afd7684c99ad80854bef65c66271cbc114c411363a6d31b64b", func := "herbarium/herbariumlaw21.CurrentsSure", spec := "currentsSure", inPlace := ["maps.clone"], unfollowed := true, recurses := true, apart := false, narrowed := true }
def CurrentsSureUptoSaid : Prop := currentsSureUptoRow.holds Try.pinned (OpenSpec.upto currentsSureSpec)

end Rows
end Go.Proofs.Yteopiecmaihjeaa
