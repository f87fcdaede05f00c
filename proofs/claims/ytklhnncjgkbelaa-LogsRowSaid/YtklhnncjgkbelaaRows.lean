/-
  No cell of these rows narrows 'for every input' (looked for: loops, veiled, ifaces, maps, wideKeys, modest, calm, conditions, laid).
  DERIVED. THE GIVEN ROWS OF THIS SEAT. 4 by the template 'for every input the law returns true; each argument reads behind the call as it read before'; 0 by the template 'total and deterministic' (their statements: YtklhnncjgkbelaaTotals.lean).
  GIVEN WITH THE SEED: the statements are not yours to turn. If you find one false, say at which input.
  Laid BY PROGRAM, IN A SANDBOX (cutbox-rows.mjs): the forced cells as the released guide's own fill.sh prints them over the translation a5092cc3b55fd829… (all of the seat's roots in one cut). By AI agents, Wed Nov 11 2026. No macro, syntax, notation, axiom, sorry.
-/
import Derived.Test.YtklhnncjgkbelaaChecked
import GoSem.Claim
import GoSem.ClaimJoined
import GoSem.ClaimMapViews
import Derived.JoinedTies
import Derived.KernelRfl
namespace Go.Proofs.Ytklhnncjgkbelaa
/- THE CELL 'sum', in the pinned program and in every row, IS THE sha256 OF THE DUMP (.gsa) THAT YtklhnncjgkbelaaProg.lean LOADS. Nothing in Lean hashes anything: it is a label: what it is worth is what the hold of that sum in a sandbox is worth. -/
noncomputable def Try.pinned : Pinned := { name := "ytklhnncjgkbelaa", sum := "a5092cc3b55fd829ba0f25d15846e8f5db2b6be0fc5192e669b46299480c7edf", checked := Try.checked }
namespace Rows
def none {H : Type} : Left H := { results := [], args := [] }

/-- 'herbariumlaw06.LogsAdd': WHATEVER THE INPUT: true; the input reads as it did. -/
def logsAddSpec : ChangeSpec := { name := "logsAdd", fn := fun _ => fun
  | [d1, d2, d3] => { results := [.lit (.bool true)], args := [d1, d2, d3] }
  | _ => none }
def logsAddRow : OpenClaim := { program := "ytklhnncjgkbelaa", sum := "a5092cc3b55fd829ba0f25d15846e8f5db2b6be0fc5192e669b46299480c7edf", func := "herbarium/herbariumlaw06.LogsAdd", spec := "logsAdd", unfollowed := true, recurses := true, apart := false }
def LogsAddSaid : Prop := logsAddRow.holds Try.pinned (OpenSpec.ofChange logsAddSpec)

/-- ITS FALSE NEIGHBOUR: 'it returns false'. Refute it at one input. -/
def logsAddWrong : ChangeSpec := { name := "logsAdd", fn := fun _ => fun
  | [d1, d2, d3] => { results := [.lit (.bool false)], args := [d1, d2, d3] }
  | _ => none }
def LogsAddWrongFalsely : Prop := logsAddRow.holds Try.pinned (OpenSpec.ofChange logsAddWrong)

/-- 'herbariumlaw06.LogsBehind': WHATEVER THE INPUT: true; the input reads as it did. -/
def logsBehindSpec : ChangeSpec := { name := "logsBehind", fn := fun _ => fun
  | [d1, d2] => { results := [.lit (.bool true)], args := [d1, d2] }
  | _ => none }
def logsBehindRow : OpenClaim := { program := "ytklhnncjgkbelaa", sum := "a5092cc3b55fd829ba0f25d15846e8f5db2b6be0fc5192e669b46299480c7edf", func := "herbarium/herbariumlaw06.LogsBehind", spec := "logsBehind", unfollowed := true, recurses := true, apart := false }
def LogsBehindSaid : Prop := logsBehindRow.holds Try.pinned (OpenSpec.ofChange logsBehindSpec)

/-- ITS FALSE NEIGHBOUR: 'it returns false'. Refute it at one input. -/
def logsBehindWrong : ChangeSpec := { name := "logsBehind", fn := fun _ => fun
  | [d1, d2] => { results := [.lit (.bool false)], args := [d1, d2] }
  | _ => none }
def LogsBehindWrongFalsely : Prop := logsBehindRow.holds Try.pinned (OpenSpec.ofChange logsBehindWrong)

/-- 'herbariumlaw06.LogsRefused': WHATEVER THE INPUT: true; the input reads as it did. -/
def logsRefusedSpec : ChangeSpec := { name := "logsRefused", fn := fun _ => fun
  | [d1, d2] => { results := [.lit (.bool true)], args := [d1, d2] }
  | _ => none }
def logsRefusedRow : OpenClaim := { program := "ytklhnncjgkbelaa", sum := "a5092cc3b55fd829ba0f25d15846e8f5db2b6be0fc5192e669b46299480c7edf", func := "herbarium/herbariumlaw06.LogsRefused", spec := "logsRefused", inPlace := ["maps.clone"], unfollowed := true, recurses := true, apart := false }
def LogsRefusedSaid : Prop := logsRefusedRow.holds Try.pinned (OpenSpec.ofChange logsRefusedSpec)

/-- ITS FALSE NEIGHBOUR: 'it returns false'. Refute it at one input. -/
def logsRefusedWrong : ChangeSpec := { name := "logsRefused", fn := fun _ => fun
  | [d1, d2] => { results := [.lit (.bool false)], args := [d1, d2] }
  | _ => none }
def LogsRefusedWrongFalsely : Prop := logsRefusedRow.holds Try.pinned (OpenSpec.ofChange logsRefusedWrong)

/-- 'herbariumlaw06.LogsRow': WHATEVER THE INPUT: true; the input reads as it did. -/
def logsRowSpec : ChangeSpec := { name := "logsRow", fn := fun _ => fun
  | [d1, d2, d3] => { results := [.lit (.bool true)], args := [d1, d2, d3] }
  | _ => none }
def logsRowRow : OpenClaim := { program := "ytklhnncjgkbelaa", sum := "a5092cc3b55fd829ba0f25d15846e8f5db2b6be0fc5192e669b46299480c7edf", func := "herbarium/herbariumlaw06.LogsRow", spec := "logsRow", inPlace := ["maps.clone"], unfollowed := true, recurses := true, apart := false }
def LogsRowSaid : Prop := logsRowRow.holds Try.pinned (OpenSpec.ofChange logsRowSpec)

/-- ITS FALSE NEIGHBOUR: 'it returns false'. Refute it at one input. -/
def logsRowWrong : ChangeSpec := { name := "logsRow", fn := fun _ => fun
  | [d1, d2, d3] => { results := [.lit (.bool false)], args := [d1, d2, d3] }
  | _ => none }
def LogsRowWrongFalsely : Prop := logsRowRow.holds Try.pinned (OpenSpec.ofChange logsRowWrong)

/- THE SECOND FORM. 'bulk': how many values and letters a reading holds, each counted each time it is reached (what is shared counts as often as it is met; a slice's spare places count too). A statement '..UptoSaid' is the law's where the arguments, and the package variables that the reading takes, are together of bulk at most 1048576: NARROWER than '..Said'. Prove '..Said' where nothing that the law and all that it calls make is longer than what came in: it says more and counts as full. Else prove '..UptoSaid'. A law counts once. -/
mutual
def uptoBulk {H : Type} : DataW H → Nat
  | .lit (.string bytes) => bytes.length + 1
  | .lit _ => 1
  | .nil => 1
  | .ptr d => uptoBulk d + 1
  | .slice elems spare => uptoBulkAll elems + uptoBulkAll spare + 1
  | .agg parts => uptoBulkAll parts + 1
  | .iface _ d => uptoBulk d + 1
  | .map entries => uptoBulkEntries entries + 1
  | .held _ => 1
def uptoBulkAll {H : Type} : List (DataW H) → Nat
  | [] => 0
  | d :: r => uptoBulk d + uptoBulkAll r
def uptoBulkEntries {H : Type} : List (Lit × DataW H) → Nat
  | [] => 0
  | x :: r => uptoBulkEntry x + uptoBulkEntries r
def uptoBulkEntry {H : Type} : Lit × DataW H → Nat
  | (.string bytes, d) => bytes.length + uptoBulk d + 1
  | (_, d) => uptoBulk d + 1
 end
def uptoSmall : (H : Type) → List (DataW H) → Bool := fun _ ds => decide (uptoBulkAll ds ≤ 1048576)
def OpenSpec.upto (s : _root_.Go.ChangeSpec) : _root_.Go.OpenSpec := { _root_.Go.OpenSpec.ofChange s with cond := some uptoSmall }

/-- 'herbariumlaw06.LogsAdd', WHERE WHAT IT READS IS OF BULK AT MOST 1048576: true; the input reads as it did. -/
def logsAddUptoRow : OpenClaim := { program := "ytklhnncjgkbelaa", sum := "a5092cc3b55fd829ba0f25d15846e8f5db2b6be0fc5192e669b46299480c7edf", func := "herbarium/herbariumlaw06.LogsAdd", spec := "logsAdd", unfollowed := true, recurses := true, apart := false, narrowed := true }
def LogsAddUptoSaid : Prop := logsAddUptoRow.holds Try.pinned (OpenSpec.upto logsAddSpec)

/-- 'herbariumlaw06.LogsBehind', WHERE WHAT IT READS IS OF BULK AT MOST 1048576: true; the input reads as it did. -/
def logsBehindUptoRow : OpenClaim := { program := "ytklhnncjgkbelaa", sum := "a5092cc3b55fd829ba0f25d15846e8f5db2b6be0fc5192e669b46299480c7edf", func := "herbarium/herbariumlaw06.LogsBehind", spec := "logsBehind", unfollowed := true, recurses := true, apart := false, narrowed := true }
def LogsBehindUptoSaid : Prop := logsBehindUptoRow.holds Try.pinned (OpenSpec.upto logsBehindSpec)

/-- 'herbariumlaw06.LogsRefused', WHERE WHAT IT READS IS OF BULK AT MOST 1048576: true; the input reads as it did. -/
def logsRefusedUptoRow : OpenClaim := { program := "ytklhnncjgkbelaa", sum := "a5092cc3b55fd829ba0f25d15846e8f5db2b6be0fc5192e669b46299480c7edf", func := "herbarium/herbariumlaw06.LogsRefused", spec := "logsRefused", inPlace := ["maps.clone"], unfollowed := true, recurses := true, apart := false, narrowed := true }
def LogsRefusedUptoSaid : Prop := logsRefusedUptoRow.holds Try.pinned (OpenSpec.upto logsRefusedSpec)

/-- 'herbariumlaw06.LogsRow', WHERE WHAT IT READS IS OF BULK AT MOST 1048576: true; the input reads as it did. -/
def logsRowUptoRow : OpenClaim := { program := "ytklhnncjgkbelaa", sum := "a5092cc3b55fd829ba0f25d15846e8f5db2b6be0fc5192e669b46299480c7edf", func := "herbarium/herbariumlaw06.LogsRow", spec := "logsRow", inPlace := ["maps.clone"], unfollowed := true, recurses := true, apart := false, narrowed := true }
def LogsRowUptoSaid : Prop := logsRowUptoRow.holds Try.pinned (OpenSpec.upto logsRowSpec)

end Rows
end Go.Proofs.Ytklhnncjgkbelaa
