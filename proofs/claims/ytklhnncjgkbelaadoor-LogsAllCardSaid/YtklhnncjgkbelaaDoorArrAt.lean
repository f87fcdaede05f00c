/- A slice of bytes read as an array of seven, or of four: two laws. -/
import Derived.Test.YtklhnncjgkbelaaDoorFrm
namespace Go.Proofs.Herb
theorem run_arrayAt7 (w : World) (p : Addr) (c : Nat) : (Instr.arrayAt 85 (.slice (some p) 7 c)).run Tryd.prog w = .ok (.pointer (some p)) w := by
  unfold Instr.arrayAt
  simp [Sem.run_bind, run_underlying Tryd.underlying85]
theorem run_arrayAt4 (w : World) (p : Addr) (c : Nat) : (Instr.arrayAt 91 (.slice (some p) 4 c)).run Tryd.prog w = .ok (.pointer (some p)) w := by
  unfold Instr.arrayAt
  simp [Sem.run_bind, run_underlying Tryd.underlying91]
end Go.Proofs.Herb
