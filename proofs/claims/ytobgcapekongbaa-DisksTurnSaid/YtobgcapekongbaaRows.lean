/-
  No cell of these rows narrows 'for every input' (looked for: loops, veiled, ifaces, maps, wideKeys, modest, calm, conditions, laid).
  DERIVED. THE GIVEN ROWS OF THIS SEAT. 7 by the template 'for every input the law returns true; each argument reads behind the call as it read before'; 0 by the template 'total and deterministic' (their statements: YtobgcapekongbaaTotals.lean).
  GIVEN WITH THE SEED: the statements are not yours to turn. If you find one false, say at which input.
  Laid BY PROGRAM, IN A SANDBOX (cutbox-rows.mjs): the forced cells as the released guide's own fill.sh prints them over the translation 449719674fbadd55… (all of the seat's roots in one cut). By AI agents, Wed Nov 11 2026. No macro, syntax, notation, axiom, sorry.
-/
import Derived.Test.YtobgcapekongbaaChecked
import GoSem.Claim
import GoSem.ClaimJoined
import GoSem.ClaimMapViews
import Derived.JoinedTies
import Derived.KernelRfl
namespace Go.Proofs.Ytobgcapekongbaa
/- THE CELL 'sum', in the pinned program and in every row, IS THE sha256 OF THE DUMP (.gsa) THAT YtobgcapekongbaaProg.lean LOADS. Nothing in Lean hashes anything: it is a label: what it is worth is what the hold of that sum in a sandbox is worth. -/
noncomputable def Try.pinned : Pinned := { name := "ytobgcapekongbaa", sum := "449719674fbadd55359d5ab4a2dee886395bf074ed17a2b41705f8e090dccd3f", checked := Try.checked }
namespace Rows
def none {H : Type} : Left H := { results := [], args := [] }

/-- 'herbariumlaw04.DisksSure': WHATEVER THE INPUT: true; the input reads as it did. -/
def disksSureSpec : ChangeSpec := { name := "disksSure", fn := fun _ => fun
  | [d1, d2] => { results := [.lit (.bool true)], args := [d1, d2] }
  | _ => none }
def disksSureRow : OpenClaim := { program := "ytobgcapekongbaa", sum := "449719674fbadd55359d5ab4a2dee886395bf074ed17a2b41705f8e090dccd3f", func := "herbarium/herbariumlaw04.DisksSure", spec := "disksSure", inPlace := ["maps.clone"], unfollowed := true, recurses := true, apart := false }
def DisksSureSaid : Prop := disksSureRow.holds Try.pinned (OpenSpec.ofChange disksSureSpec)

/-- ITS FALSE NEIGHBOUR: 'it returns false'. Refute it at one input. -/
def disksSureWrong : ChangeSpec := { name := "disksSure", fn := fun _ => fun
  | [d1, d2] => { results := [.lit (.bool false)], args := [d1, d2] }
  | _ => none }
def DisksSureWrongFalsely : Prop := disksSureRow.holds Try.pinned (OpenSpec.ofChange disksSureWrong)

/-- 'herbariumlaw04.DisksPrefix': WHATEVER THE INPUT: true; the input reads as it did. -/
def disksPrefixSpec : ChangeSpec := { name := "disksPrefix", fn := fun _ => fun
  | [d1, d2] => { results := [.lit (.bool true)], args := [d1, d2] }
  | _ => none }
def disksPrefixRow : OpenClaim := { program := "ytobgcapekongbaa", sum := "449719674fbadd55359d5ab4a2dee886395bf074ed17a2b41705f8e090dccd3f", func := "herbarium/herbariumlaw04.DisksPrefix", spec := "disksPrefix", inPlace := ["maps.clone"], unfollowed := true, recurses := true, apart := false }
def DisksPrefixSaid : Prop := disksPrefixRow.holds Try.pinned (OpenSpec.ofChange disksPrefixSpec)

/-- ITS FALSE NEIGHBOUR: 'it returns false'. Refute it at one input. -/
def disksPrefixWrong : ChangeSpec := { name := "disksPrefix", fn := fun _ => fun
  | [d1, d2] => { results := [.lit (.bool false)], args := [d1, d2] }
  | _ => none }
def DisksPrefixWrongFalsely : Prop := disksPrefixRow.holds Try.pinned (OpenSpec.ofChange disksPrefixWrong)

/-- 'herbariumlaw04.DisksDir': WHATEVER THE INPUT: true; the input reads as it did. -/
def disksDirSpec : ChangeSpec := { name := "disksDir", fn := fun _ => fun
  | [d] => { results := [.lit (.bool true)], args := [d] }
  | _ => none }
def disksDirRow : OpenClaim := { program := "ytobgcapekongbaa", sum := "449719674fbadd55359d5ab4a2dee886395bf074ed17a2b41705f8e090dccd3f", func := "herbarium/herbariumlaw04.DisksDir", spec := "disksDir", inPlace := ["maps.clone"], unfollowed := true, recurses := true, apart := false }
def DisksDirSaid : Prop := disksDirRow.holds Try.pinned (OpenSpec.ofChange disksDirSpec)

/-- ITS FALSE NEIGHBOUR: 'it returns false'. Refute it at one input. -/
def disksDirWrong : ChangeSpec := { name := "disksDir", fn := fun _ => fun
  | [d] => { results := [.lit (.bool false)], args := [d] }
  | _ => none }
def DisksDirWrongFalsely : Prop := disksDirRow.holds Try.pinned (OpenSpec.ofChange disksDirWrong)

/-- 'herbariumlaw04.DisksFuse': WHATEVER THE INPUT: true; the input reads as it did. -/
def disksFuseSpec : ChangeSpec := { name := "disksFuse", fn := fun _ => fun
  | [d1, d2] => { results := [.lit (.bool true)], args := [d1, d2] }
  | _ => none }
def disksFuseRow : OpenClaim := { program := "ytobgcapekongbaa", sum := "449719674fbadd55359d5ab4a2dee886395bf074ed17a2b41705f8e090dccd3f", func := "herbarium/herbariumlaw04.DisksFuse", spec := "disksFuse", inPlace := ["maps.clone"], unfollowed := true, recurses := true, apart := false }
def DisksFuseSaid : Prop := disksFuseRow.holds Try.pinned (OpenSpec.ofChange disksFuseSpec)

/-- ITS FALSE NEIGHBOUR: 'it returns false'. Refute it at one input. -/
def disksFuseWrong : ChangeSpec := { name := "disksFuse", fn := fun _ => fun
  | [d1, d2] => { results := [.lit (.bool false)], args := [d1, d2] }
  | _ => none }
def DisksFuseWrongFalsely : Prop := disksFuseRow.holds Try.pinned (OpenSpec.ofChange disksFuseWrong)

/-- 'herbariumlaw04.DisksFull': WHATEVER THE INPUT: true; the input reads as it did. -/
def disksFullSpec : ChangeSpec := { name := "disksFull", fn := fun _ => fun
  | [d1, d2] => { results := [.lit (.bool true)], args := [d1, d2] }
  | _ => none }
def disksFullRow : OpenClaim := { program := "ytobgcapekongbaa", sum := "449719674fbadd55359d5ab4a2dee886395bf074ed17a2b41705f8e090dccd3f", func := "herbarium/herbariumlaw04.DisksFull", spec := "disksFull", inPlace := ["maps.clone"], unfollowed := true, recurses := true, apart := false }
def DisksFullSaid : Prop := disksFullRow.holds Try.pinned (OpenSpec.ofChange disksFullSpec)

/-- ITS FALSE NEIGHBOUR: 'it returns false'. Refute it at one input. -/
def disksFullWrong : ChangeSpec := { name := "disksFull", fn := fun _ => fun
  | [d1, d2] => { results := [.lit (.bool false)], args := [d1, d2] }
  | _ => none }
def DisksFullWrongFalsely : Prop := disksFullRow.holds Try.pinned (OpenSpec.ofChange disksFullWrong)

/-- 'herbariumlaw04.DisksTurn': WHATEVER THE INPUT: true; the input reads as it did. -/
def disksTurnSpec : ChangeSpec := { name := "disksTurn", fn := fun _ => fun
  | [d1, d2, d3] => { results := [.lit (.bool true)], args := [d1, d2, d3] }
  | _ => none }
def disksTurnRow : OpenClaim := { program := "ytobgcapekongbaa", sum := "449719674fbadd55359d5ab4a2dee886395bf074ed17a2b41705f8e090dccd3f", func := "herbarium/herbariumlaw04.DisksTurn", spec := "disksTurn", inPlace := ["maps.clone"], unfollowed := true, recurses := true, apart := false }
def DisksTurnSaid : Prop := disksTurnRow.holds Try.pinned (OpenSpec.ofChange disksTurnSpec)

/-- ITS FALSE NEIGHBOUR: 'it returns false'. Refute it at one input. -/
def disksTurnWrong : ChangeSpec := { name := "disksTurn", fn := fun _ => fun
  | [d1, d2, d3] => { results := [.lit (.bool false)], args := [d1, d2, d3] }
  | _ => none }
def DisksTurnWrongFalsely : Prop := disksTurnRow.holds Try.pinned (OpenSpec.ofChange disksTurnWrong)

/-- 'herbariumlaw04.DisksVoid': WHATEVER THE INPUT: true; the input reads as it did. -/
def disksVoidSpec : ChangeSpec := { name := "disksVoid", fn := fun _ => fun
  | [d] => { results := [.lit (.bool true)], args := [d] }
  | _ => none }
def disksVoidRow : OpenClaim := { program := "ytobgcapekongbaa", sum := "449719674fbadd55359d5ab4a2dee886395bf074ed17a2b41705f8e090dccd3f", func := "herbarium/herbariumlaw04.DisksVoid", spec := "disksVoid", inPlace := ["maps.clone"], unfollowed := true, recurses := true, apart := false }
def DisksVoidSaid : Prop := disksVoidRow.holds Try.pinned (OpenSpec.ofChange disksVoidSpec)

/-- ITS FALSE NEIGHBOUR: 'it returns false'. Refute it at one input. -/
def disksVoidWrong : ChangeSpec := { name := "disksVoid", fn := fun _ => fun
  | [d] => { results := [.lit (.bool false)], args := [d] }
  | _ => none }
def DisksVoidWrongFalsely : Prop := disksVoidRow.holds Try.pinned (OpenSpec.ofChange disksVoidWrong)

/- THE SECOND FORM. 'bulk': how many values and letters a reading holds, each counted each time it is reached (what is shared counts as often as it is met; a slice's spare places count too). A statement '..UptoSaid' is the law's where the arguments, and the package variables that the reading takes, are together of bulk at most 1048576: NARROWER than '..Said'. Prove '..Said' where nothing that the law and all that it calls make is longer than what came in: it says more and counts as full. Else prove '..UptoSaid'. A law counts once. -/
mutual
def uptoBulk {H : Type} : DataW H → Nat
  | .lit (.string bytes) => bytes.length + 1
  | .lit _ => 1
  | .nil => 1
  | .ptr d => uptoBulk d + 1
  | .slice elems spare => uptoBulkAll elems + uptoBulkAll spare + 1
  | .agg parts => uptoBulkAll parts + 1
  | .iface _ d => uptoBulk d + 1
  | .map entries => uptoBulkEntries entries + 1
  | .held _ => 1
def uptoBulkAll {H : Type} : List (DataW H) → Nat
  | [] => 0
  | d :: r => uptoBulk d + uptoBulkAll r
def uptoBulkEntries {H : Type} : List (Lit × DataW H) → Nat
  | [] => 0
  | x :: r => uptoBulkEntry x + uptoBulkEntries r
def uptoBulkEntry {H : Type} : Lit × DataW H → Nat
  | (.string bytes, d) => bytes.length + uptoBulk d + 1
  | (_, d) => uptoBulk d + 1
 end
def uptoSmall : (H : Type) → List (DataW H) → Bool := fun _ ds => decide (uptoBulkAll ds ≤ 1048576)
def OpenSpec.upto (s : _root_.Go.ChangeSpec) : _root_.Go.OpenSpec := { _root_.Go.OpenSpec.ofChange s with cond := some uptoSmall }

/-- 'herbariumlaw04.DisksSure', WHERE WHAT IT READS IS OF BULK AT MOST 1048576: true; the input reads as it did. -/
def disksSureUptoRow : OpenClaim := { program := "ytobgcapekongbaa", sum := "449719674fbadd55359d5ab4a2dee886395bf074ed17a2b41705f8e090dccd3f", func := "herbarium/herbariumlaw04.DisksSure", spec := "disksSure", inPlace := ["maps.clone"], unfollowed := true, recurses := true, apart := false, narrowed := true }
def DisksSureUptoSaid : Prop := disksSureUptoRow.holds Try.pinned (OpenSpec.upto disksSureSpec)

/-- 'herbariumlaw04.DisksPrefix', WHERE WHAT IT READS IS OF BULK AT MOST 1048576: true; the input reads as it did. -/
def disksPrefixUptoRow : OpenClaim := { program := "ytobgcapekongbaa", sum := "449719674fbadd55359d5ab4a2dee886395bf074ed17a2b41705f8e090dccd3f", func := "herbarium/herbariumlaw04.DisksPrefix", spec := "disksPrefix", inPlace := ["maps.clone"], unfollowed := true, recurses := true, apart := false, narrowed := true }
def DisksPrefixUptoSaid : Prop := disksPrefixUptoRow.holds Try.pinned (OpenSpec.upto disksPrefixSpec)

/-- 'herbariumlaw04.DisksDir', WHERE WHAT IT READS IS OF BULK AT MOST 1048576: true; the input reads as it did. -/
def disksDirUptoRow : OpenClaim := { program := "ytobgcapekongbaa", sum := "449719674fbadd55359d5ab4a2dee886395bf074ed17a2b41705f8e090dccd3f", func := "herbarium/herbariumlaw04.DisksDir", spec := "disksDir", inPlace := ["maps.clone"], unfollowed := true, recurses := true, apart := false, narrowed := true }
def DisksDirUptoSaid : Prop := disksDirUptoRow.holds Try.pinned (OpenSpec.upto disksDirSpec)

/-- 'herbariumlaw04.DisksFuse', WHERE WHAT IT READS IS OF BULK AT MOST 1048576: true; the input reads as it did. -/
def disksFuseUptoRow : OpenClaim := { program := "ytobgcapekongbaa", sum := "449719674fbadd55359d5ab4a2dee886395bf074ed17a2b41705f8e090dccd3f", func := "herbarium/herbariumlaw04.DisksFuse", spec := "disksFuse", inPlace := ["maps.clone"], unfollowed := true, recurses := true, apart := false, narrowed := true }
def DisksFuseUptoSaid : Prop := disksFuseUptoRow.holds Try.pinned (OpenSpec.upto disksFuseSpec)

/-- 'herbariumlaw04.DisksFull', WHERE WHAT IT READS IS OF BULK AT MOST 1048576: true; the input reads as it did. -/
def disksFullUptoRow : OpenClaim := { program := "ytobgcapekongbaa", sum := "449719674fbadd55359d5ab4a2dee886395bf074ed17a2b41705f8e090dccd3f", func := "herbarium/herbariumlaw04.DisksFull", spec := "disksFull", inPlace := ["maps.clone"], unfollowed := true, recurses := true, apart := false, narrowed := true }
def DisksFullUptoSaid : Prop := disksFullUptoRow.holds Try.pinned (OpenSpec.upto disksFullSpec)

/-- 'herbariumlaw04.DisksTurn', WHERE WHAT IT READS IS OF BULK AT MOST 1048576: true; the input reads as it did. -/
def disksTurnUptoRow : OpenClaim := { program := "ytobgcapekongbaa", sum := "449719674fbadd55359d5ab4a2dee886395bf074ed17a2b41705f8e090dccd3f", func := "herbarium/herbariumlaw04.DisksTurn", spec := "disksTurn", inPlace := ["maps.clone"], unfollowed := true, recurses := true, apart := false, narrowed := true }
def DisksTurnUptoSaid : Prop := disksTurnUptoRow.holds Try.pinned (OpenSpec.upto disksTurnSpec)

/-- 'herbariumlaw04.DisksVoid', WHERE WHAT IT READS IS OF BULK AT MOST 1048576: true; the input reads as it did. -/
def disksVoidUptoRow : OpenClaim := { program := "ytobgcapekongbaa", sum := "449719674fbadd55359d5ab4a2dee886395bf074ed17a2b41705f8e090dccd3f", func := "herbarium/herbariumlaw04.DisksVoid", spec := "disksVoid", inPlace := ["maps.clone"], unfollowed := true, recurses := true, apart := false, narrowed := true }
def DisksVoidUptoSaid : Prop := disksVoidUptoRow.holds Try.pinned (OpenSpec.upto disksVoidSpec)

end Rows
end Go.Proofs.Ytobgcapekongbaa
