/- A slice of bytes read as an array of seven, or of four: two laws. -/
import Derived.Test.YtklhnncjgkbelaaFrm
namespace Go.Proofs.Herb
theorem run_arrayAt7 (w : World) (p : Addr) (c : Nat) : (Instr.arrayAt 80 (.slice (some p) 7 c)).run Try.prog w = .ok (.pointer (some p)) w := by
  unfold Instr.arrayAt
  simp [Sem.run_bind, run_underlying Try.underlying80]
theorem run_arrayAt4 (w : World) (p : Addr) (c : Nat) : (Instr.arrayAt 99 (.slice (some p) 4 c)).run Try.prog w = .ok (.pointer (some p)) w := by
  unfold Instr.arrayAt
  simp [Sem.run_bind, run_underlying Try.underlying99]
end Go.Proofs.Herb
