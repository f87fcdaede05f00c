/-
  No cell of these rows narrows 'for every input' (looked for: loops, veiled, ifaces, maps, wideKeys, modest, calm, conditions, laid).
  DERIVED. THE GIVEN ROWS OF THIS SEAT. 4 by the template 'for every input the law returns true; each argument reads behind the call as it read before'; 0 by the template 'total and deterministic' (their statements: YtnmbkaohjbcpmaaTotals.lean).
  GIVEN WITH THE SEED: the statements are not yours to turn. If you find one false, say at which input.
  Laid BY PROGRAM, IN A SANDBOX (cutbox-rows.mjs): the forced cells as the released guide's own fill.sh prints them over the translation 94e865d64474fb6c… (all of the seat's roots in one cut). By AI agents, Wed Nov 11 2026. No macro, syntax, notation, axiom, sorry.
-/
import Derived.Test.YtnmbkaohjbcpmaaChecked
import GoSem.Claim
import GoSem.ClaimJoined
import GoSem.ClaimMapViews
import Derived.JoinedTies
import Derived.KernelRfl
namespace Go.Proofs.Ytnmbkaohjbcpmaa
/- THE CELL 'sum', in the pinned program and in every row, IS THE sha256 OF THE DUMP (.gsa) THAT YtnmbkaohjbcpmaaProg.lean LOADS. Nothing in Lean hashes anything: it is a label: what it is worth is what the hold of that sum in a sandbox is worth. -/
noncomputable def Try.pinned : Pinned := { name := "ytnmbkaohjbcpmaa", sum := "94e865d64474fb6c2857adc8ea4b9760267f199316cfc465fc2461438d16a5e4", checked := Try.checked }
namespace Rows
def none {H : Type} : Left H := { results := [], args := [] }

/-- 'herbariumlaw13.ReadersVoid': WHATEVER THE INPUT: true; the input reads as it did. -/
def readersVoidSpec : ChangeSpec := { name := "readersVoid", fn := fun _ => fun
  | [d1, d2] => { results := [.lit (.bool true)], args := [d1, d2] }
  | _ => none }
def readersVoidRow : OpenClaim := { program := "ytnmbkaohjbcpmaa", sum := "94e865d64474fb6c2857adc8ea4b9760267f199316cfc465fc2461438d16a5e4", func := "herbarium/herbariumlaw13.ReadersVoid", spec := "readersVoid", unfollowed := true, recurses := true, apart := false }
def ReadersVoidSaid : Prop := readersVoidRow.holds Try.pinned (OpenSpec.ofChange readersVoidSpec)

/-- ITS FALSE NEIGHBOUR: 'it returns false'. Refute it at one input. -/
def readersVoidWrong : ChangeSpec := { name := "readersVoid", fn := fun _ => fun
  | [d1, d2] => { results := [.lit (.bool false)], args := [d1, d2] }
  | _ => none }
def ReadersVoidWrongFalsely : Prop := readersVoidRow.holds Try.pinned (OpenSpec.ofChange readersVoidWrong)

/-- 'herbariumlaw13.ReadersBack': WHATEVER THE INPUT: true; the input reads as it did. -/
def readersBackSpec : ChangeSpec := { name := "readersBack", fn := fun _ => fun
  | [d1, d2, d3] => { results := [.lit (.bool true)], args := [d1, d2, d3] }
  | _ => none }
def readersBackRow : OpenClaim := { program := "ytnmbkaohjbcpmaa", sum := "94e865d64474fb6c2857adc8ea4b9760267f199316cfc465fc2461438d16a5e4", func := "herbarium/herbariumlaw13.ReadersBack", spec := "readersBack", unfollowed := true, recurses := true, apart := false }
def ReadersBackSaid : Prop := readersBackRow.holds Try.pinned (OpenSpec.ofChange readersBackSpec)

/-- ITS FALSE NEIGHBOUR: 'it returns false'. Refute it at one input. -/
def readersBackWrong : ChangeSpec := { name := "readersBack", fn := fun _ => fun
  | [d1, d2, d3] => { results := [.lit (.bool false)], args := [d1, d2, d3] }
  | _ => none }
def ReadersBackWrongFalsely : Prop := readersBackRow.holds Try.pinned (OpenSpec.ofChange readersBackWrong)

/-- 'herbariumlaw13.ReadersTurn': WHATEVER THE INPUT: true; the input reads as it did. -/
def readersTurnSpec : ChangeSpec := { name := "readersTurn", fn := fun _ => fun
  | [d1, d2, d3] => { results := [.lit (.bool true)], args := [d1, d2, d3] }
  | _ => none }
def readersTurnRow : OpenClaim := { program := "ytnmbkaohjbcpmaa", sum := "94e865d64474fb6c2857adc8ea4b9760267f199316cfc465fc2461438d16a5e4", func := "herbarium/herbariumlaw13.ReadersTurn", spec := "readersTurn", unfollowed := true, recurses := true, apart := false }
def ReadersTurnSaid : Prop := readersTurnRow.holds Try.pinned (OpenSpec.ofChange readersTurnSpec)

/-- ITS FALSE NEIGHBOUR: 'it returns false'. Refute it at one input. -/
def readersTurnWrong : ChangeSpec := { name := "readersTurn", fn := fun _ => fun
  | [d1, d2, d3] => { results := [.lit (.bool false)], args := [d1, d2, d3] }
  | _ => none }
def ReadersTurnWrongFalsely : Prop := readersTurnRow.holds Try.pinned (OpenSpec.ofChange readersTurnWrong)

/-- 'herbariumlaw13.ReadersCut': WHATEVER THE INPUT: true; the input reads as it did. -/
def readersCutSpec : ChangeSpec := { name := "readersCut", fn := fun _ => fun
  | [d1, d2, d3] => { results := [.lit (.bool true)], args := [d1, d2, d3] }
  | _ => none }
def readersCutRow : OpenClaim := { program := "ytnmbkaohjbcpmaa", sum := "94e865d64474fb6c2857adc8ea4b9760267f199316cfc465fc2461438d16a5e4", func := "herbarium/herbariumlaw13.ReadersCut", spec := "readersCut", unfollowed := true, recurses := true, apart := false }
def ReadersCutSaid : Prop := readersCutRow.holds Try.pinned (OpenSpec.ofChange readersCutSpec)

/-- ITS FALSE NEIGHBOUR: 'it returns false'. Refute it at one input. -/
def readersCutWrong : ChangeSpec := { name := "readersCut", fn := fun _ => fun
  | [d1, d2, d3] => { results := [.lit (.bool false)], args := [d1, d2, d3] }
  | _ => none }
def ReadersCutWrongFalsely : Prop := readersCutRow.holds Try.pinned (OpenSpec.ofChange readersCutWrong)

/- THE SECOND FORM. 'bulk': how many values and letters a reading holds, each counted each time it is reached (what is shared counts as often as it is met; a slice's spare places count too). A statement '..UptoSaid' is the law's where the arguments, and the package variables that the reading takes, are together of bulk at most 1048576: NARROWER than '..Said'. Prove '..Said' where nothing that the law and all that it calls make is longer than what came in: it says more and counts as full. Else prove '..UptoSaid'. A law counts once. -/
mutual
def uptoBulk {H : Type} : DataW H → Nat
  | .lit (.string bytes) => bytes.length + 1
  | .lit _ => 1
  | .nil => 1
  | .ptr d => uptoBulk d + 1
  | .slice elems spare => uptoBulkAll elems + uptoBulkAll spare + 1
  | .agg parts => uptoBulkAll parts + 1
  | .iface _ d => uptoBulk d + 1
  | .map entries => uptoBulkEntries entries + 1
  | .held _ => 1
def uptoBulkAll {H : Type} : List (DataW H) → Nat
  | [] => 0
  | d :: r => uptoBulk d + uptoBulkAll r
def uptoBulkEntries {H : Type} : List (Lit × DataW H) → Nat
  | [] => 0
  | x :: r => uptoBulkEntry x + uptoBulkEntries r
def uptoBulkEntry {H : Type} : Lit × DataW H → Nat
  | (.string bytes, d) => bytes.length + uptoBulk d + 1
  | (_, d) => uptoBulk d + 1
 end
def uptoSmall : (H : Type) → List (DataW H) → Bool := fun _ ds => decide (uptoBulkAll ds ≤ 1048576)
def OpenSpec.upto (s : _root_.Go.ChangeSpec) : _root_.Go.OpenSpec := { _root_.Go.OpenSpec.ofChange s with cond := some uptoSmall }

/-- 'herbariumlaw13.ReadersVoid', WHERE WHAT IT READS IS OF BULK AT MOST 1048576: true; the input reads as it did. -/
def readersVoidUptoRow : OpenClaim := { program := "ytnmbkaohjbcpmaa", sum := "94e865d64474fb6c2857adc8ea4b9760267f199316cfc465fc2461438d16a5e4", func := "herbarium/herbariumlaw13.ReadersVoid", spec := "readersVoid", unfollowed := true, recurses := true, apart := false, narrowed := true }
def ReadersVoidUptoSaid : Prop := readersVoidUptoRow.holds Try.pinned (OpenSpec.upto readersVoidSpec)

/-- 'herbariumlaw13.ReadersBack', WHERE WHAT IT READS IS OF BULK AT MOST 1048576: true; the input reads as it did. -/
def readersBackUptoRow : OpenClaim := { program := "ytnmbkaohjbcpmaa", sum := "94e865d64474fb6c2857adc8ea4b9760267f199316cfc465fc2461438d16a5e4", func := "herbarium/herbariumlaw13.ReadersBack", spec := "readersBack", unfollowed := true, recurses := true, apart := false, narrowed := true }
def ReadersBackUptoSaid : Prop := readersBackUptoRow.holds Try.pinned (OpenSpec.upto readersBackSpec)

/-- 'herbariumlaw13.ReadersTurn', WHERE WHAT IT READS IS OF BULK AT MOST 1048576: true; the input reads as it did. -/
def readersTurnUptoRow : OpenClaim := { program := "ytnmbkaohjbcpmaa", sum := "94e865d64474fb6c2857adc8ea4b9760267f199316cfc465fc2461438d16a5e4", func := "herbarium/herbariumlaw13.ReadersTurn", spec := "readersTurn", unfollowed := true, recurses := true, apart := false, narrowed := true }
def ReadersTurnUptoSaid : Prop := readersTurnUptoRow.holds Try.pinned (OpenSpec.upto readersTurnSpec)

/-- 'herbariumlaw13.ReadersCut', WHERE WHAT IT READS IS OF BULK AT MOST 1048576: true; the input reads as it did. -/
def readersCutUptoRow : OpenClaim := { program := "ytnmbkaohjbcpmaa", sum := "94e865d64474fb6c2857adc8ea4b9760267f199316cfc465fc2461438d16a5e4", func := "herbarium/herbariumlaw13.ReadersCut", spec := "readersCut", unfollowed := true, recurses := true, apart := false, narrowed := true }
def ReadersCutUptoSaid : Prop := readersCutUptoRow.holds Try.pinned (OpenSpec.upto readersCutSpec)

end Rows
end Go.Proofs.Ytnmbkaohjbcpmaa
