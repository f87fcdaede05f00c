/-
  No cell of these rows narrows 'for every input' (looked for: loops, veiled, ifaces, maps, wideKeys, modest, calm, conditions, laid).
  DERIVED. THE GIVEN ROWS OF THIS SEAT. 4 by the template 'for every input the law returns true; each argument reads behind the call as it read before'; 0 by the template 'total and deterministic' (their statements: YtnkkfdlmcpnokaaTotals.lean).
  GIVEN WITH THE SEED: the statements are not yours to turn. If you find one false, say at which input.
  Laid BY PROGRAM, IN A SANDBOX (cutbox-rows.mjs): the forced cells as the released guide's own fill.sh prints them over the translation 73cc767bbfd9b6d3… (all of the seat's roots in one cut). By AI agents, Wed Nov 11 2026. No macro, syntax, notation, axiom, sorry.
-/
import Derived.Test.YtnkkfdlmcpnokaaChecked
import GoSem.Claim
import GoSem.ClaimJoined
import GoSem.ClaimMapViews
import Derived.JoinedTies
import Derived.KernelRfl
namespace Go.Proofs.Ytnkkfdlmcpnokaa
/- THE CELL 'sum', in the pinned program and in every row, IS THE sha256 OF THE DUMP (.gsa) THAT YtnkkfdlmcpnokaaProg.lean LOADS. Nothing in Lean hashes anything: it is a label: what it is worth is what the hold of that sum in a sandbox is worth. -/
noncomputable def Try.pinned : Pinned := { name := "ytnkkfdlmcpnokaa", sum := "73cc767bbfd9b6d3288be3123f3c91d994ca24e3cf208baac3e86d71fefd4f0d", checked := Try.checked }
namespace Rows
def none {H : Type} : Left H := { results := [], args := [] }

/-- 'herbariumlaw19.UnionsOf': WHATEVER THE INPUT: true; the input reads as it did. -/
def unionsOfSpec : ChangeSpec := { name := "unionsOf", fn := fun _ => fun
  | [d] => { results := [.lit (.bool true)], args := [d] }
  | _ => none }
def unionsOfRow : OpenClaim := { program := "ytnkkfdlmcpnokaa", sum := "73cc767bbfd9b6d3288be3123f3c91d994ca24e3cf208baac3e86d71fefd4f0d", func := "herbarium/herbariumlaw19.UnionsOf", spec := "unionsOf", unfollowed := true, recurses := true, apart := false }
def UnionsOfSaid : Prop := unionsOfRow.holds Try.pinned (OpenSpec.ofChange unionsOfSpec)

/-- ITS FALSE NEIGHBOUR: 'it returns false'. Refute it at one input. -/
def unionsOfWrong : ChangeSpec := { name := "unionsOf", fn := fun _ => fun
  | [d] => { results := [.lit (.bool false)], args := [d] }
  | _ => none }
def UnionsOfWrongFalsely : Prop := unionsOfRow.holds Try.pinned (OpenSpec.ofChange unionsOfWrong)

/-- 'herbariumlaw19.UnionsTaken': WHATEVER THE INPUT: true; the input reads as it did. -/
def unionsTakenSpec : ChangeSpec := { name := "unionsTaken", fn := fun _ => fun
  | [d] => { results := [.lit (.bool true)], args := [d] }
  | _ => none }
def unionsTakenRow : OpenClaim := { program := "ytnkkfdlmcpnokaa", sum := "73cc767bbfd9b6d3288be3123f3c91d994ca24e3cf208baac3e86d71fefd4f0d", func := "herbarium/herbariumlaw19.UnionsTaken", spec := "unionsTaken", unfollowed := true, recurses := true, apart := false }
def UnionsTakenSaid : Prop := unionsTakenRow.holds Try.pinned (OpenSpec.ofChange unionsTakenSpec)

/-- ITS FALSE NEIGHBOUR: 'it returns false'. Refute it at one input. -/
def unionsTakenWrong : ChangeSpec := { name := "unionsTaken", fn := fun _ => fun
  | [d] => { results := [.lit (.bool false)], args := [d] }
  | _ => none }
def UnionsTakenWrongFalsely : Prop := unionsTakenRow.holds Try.pinned (OpenSpec.ofChange unionsTakenWrong)

/-- 'herbariumlaw19.UnionsTurned': WHATEVER THE INPUT: true; the input reads as it did. -/
def unionsTurnedSpec : ChangeSpec := { name := "unionsTurned", fn := fun _ => fun
  | [d] => { results := [.lit (.bool true)], args := [d] }
  | _ => none }
def unionsTurnedRow : OpenClaim := { program := "ytnkkfdlmcpnokaa", sum := "73cc767bbfd9b6d3288be3123f3c91d994ca24e3cf208baac3e86d71fefd4f0d", func := "herbarium/herbariumlaw19.UnionsTurned", spec := "unionsTurned", unfollowed := true, recurses := true, apart := false }
def UnionsTurnedSaid : Prop := unionsTurnedRow.holds Try.pinned (OpenSpec.ofChange unionsTurnedSpec)

/-- ITS FALSE NEIGHBOUR: 'it returns false'. Refute it at one input. -/
def unionsTurnedWrong : ChangeSpec := { name := "unionsTurned", fn := fun _ => fun
  | [d] => { results := [.lit (.bool false)], args := [d] }
  | _ => none }
def UnionsTurnedWrongFalsely : Prop := unionsTurnedRow.holds Try.pinned (OpenSpec.ofChange unionsTurnedWrong)

/-- 'herbariumlaw19.UnionsPlain': WHATEVER THE INPUT: true; the input reads as it did. -/
def unionsPlainSpec : ChangeSpec := { name := "unionsPlain", fn := fun _ => fun
  | [d] => { results := [.lit (.bool true)], args := [d] }
  | _ => none }
def unionsPlainRow : OpenClaim := { program := "ytnkkfdlmcpnokaa", sum := "73cc767bbfd9b6d3288be3123f3c91d994ca24e3cf208baac3e86d71fefd4f0d", func := "herbarium/herbariumlaw19.UnionsPlain", spec := "unionsPlain", unfollowed := true, recurses := true, apart := false }
def UnionsPlainSaid : Prop := unionsPlainRow.holds Try.pinned (OpenSpec.ofChange unionsPlainSpec)

/-- ITS FALSE NEIGHBOUR: 'it returns false'. Refute it at one input. -/
def unionsPlainWrong : ChangeSpec := { name := "unionsPlain", fn := fun _ => fun
  | [d] => { results := [.lit (.bool false)], args := [d] }
  | _ => none }
def UnionsPlainWrongFalsely : Prop := unionsPlainRow.holds Try.pinned (OpenSpec.ofChange unionsPlainWrong)

/- THE SECOND FORM. 'bulk': how many values and letters a reading holds, each counted each time it is reached (what is shared counts as often as it is met; a slice's spare places count too). A statement '..UptoSaid' is the law's where the arguments, and the package variables that the reading takes, are together of bulk at most 1048576: NARROWER than '..Said'. Prove '..Said' where nothing that the law and all that it calls make is longer than what came in: it says more and counts as full. Else prove '..UptoSaid'. A law counts once. -/
mutual
def uptoBulk {H : Type} : DataW H → Nat
  | .lit (.string bytes) => bytes.length + 1
  | .lit _ => 1
  | .nil => 1
  | .ptr d => uptoBulk d + 1
  | .slice elems spare => uptoBulkAll elems + uptoBulkAll spare + 1
  | .agg parts => uptoBulkAll parts + 1
  | .iface _ d => uptoBulk d + 1
  | .map entries => uptoBulkEntries entries + 1
  | .held _ => 1
def uptoBulkAll {H : Type} : List (DataW H) → Nat
  | [] => 0
  | d :: r => uptoBulk d + uptoBulkAll r
def uptoBulkEntries {H : Type} : List (Lit × DataW H) → Nat
  | [] => 0
  | x :: r => uptoBulkEntry x + uptoBulkEntries r
def uptoBulkEntry {H : Type} : Lit × DataW H → Nat
  | (.string bytes, d) => bytes.length + uptoBulk d + 1
  | (_, d) => uptoBulk d + 1
 end
def uptoSmall : (H : Type) → List (DataW H) → Bool := fun _ ds => decide (uptoBulkAll ds ≤ 1048576)
def OpenSpec.upto (s : _root_.Go.ChangeSpec) : _root_.Go.OpenSpec := { _root_.Go.OpenSpec.ofChange s with cond := some uptoSmall }

/-- 'herbariumlaw19.UnionsOf', WHERE WHAT IT READS IS OF BULK AT MOST 1048576: true; the input reads as it did. -/
def unionsOfUptoRow : OpenClaim := { program := "ytnkkfdlmcpnokaa", sum := "73cc767bbfd9b6d3288be3123f3c91d994ca24e3cf208baac3e86d71fefd4f0d", func := "herbarium/herbariumlaw19.UnionsOf", spec := "unionsOf", unfollowed := true, recurses := true, apart := false, narrowed := true }
def UnionsOfUptoSaid : Prop := unionsOfUptoRow.holds Try.pinned (OpenSpec.upto unionsOfSpec)

/-- 'herbariumlaw19.UnionsTaken', WHERE WHAT IT READS IS OF BULK AT MOST 1048576: true; the input reads as it did. -/
def unionsTakenUptoRow : OpenClaim := { program := "ytnkkfdlmcpnokaa", sum := "73cc767bbfd9b6d3288be3123f3c91d994ca24e3cf208baac3e86d71fefd4f0d", func := "herbarium/herbariumlaw19.UnionsTaken", spec := "unionsTaken", unfollowed := true, recurses := true, apart := false, narrowed := true }
def UnionsTakenUptoSaid : Prop := unionsTakenUptoRow.holds Try.pinned (OpenSpec.upto unionsTakenSpec)

/-- 'herbariumlaw19.UnionsTurned', WHERE WHAT IT READS IS OF BULK AT MOST 1048576: true; the input reads as it did. -/
def unionsTurnedUptoRow : OpenClaim := { program := "ytnkkfdlmcpnokaa", sum := "73cc767bbfd9b6d3288be3123f3c91d994ca24e3cf208baac3e86d71fefd4f0d", func := "herbarium/herbariumlaw19.UnionsTurned", spec := "unionsTurned", unfollowed := true, recurses := true, apart := false, narrowed := true }
def UnionsTurnedUptoSaid : Prop := unionsTurnedUptoRow.holds Try.pinned (OpenSpec.upto unionsTurnedSpec)

/-- 'herbariumlaw19.UnionsPlain', WHERE WHAT IT READS IS OF BULK AT MOST 1048576: true; the input reads as it did. -/
def unionsPlainUptoRow : OpenClaim := { program := "ytnkkfdlmcpnokaa", sum := "73cc767bbfd9b6d3288be3123f3c91d994ca24e3cf208baac3e86d71fefd4f0d", func := "herbarium/herbariumlaw19.UnionsPlain", spec := "unionsPlain", unfollowed := true, recurses := true, apart := false, narrowed := true }
def UnionsPlainUptoSaid : Prop := unionsPlainUptoRow.holds Try.pinned (OpenSpec.upto unionsPlainSpec)

end Rows
end Go.Proofs.Ytnkkfdlmcpnokaa
