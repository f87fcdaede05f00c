/- When two facts are other ones, as the program compares them. No condition. -/
import Derived.Laws.StructEq
import Derived.Test.YtbeaehhdglhihaaGreatDoorQd01
namespace Go.Proofs.Herb
open Go.RowKit
theorem neq_same (f : Fact) (w : World) : (binOp .neq 65 (.agg f.cells.toArray) (.agg f.cells.toArray)).run Tryz.prog w = .ok (.bool false) w := by
  unfold Fact.cells
  go_simp
end Go.Proofs.Herb
