
/- The contracts of slices.Clip and Clone at bytes. For slices that can be read. -/
import Derived.Test.YtnkkfdlmcpnokaaProg
import Derived.WalkLawsBesides
import Derived.WalkSpells
import Derived.Outline
import Derived.Deep.LoopGhost
import Derived.Deep.QuietTactic
import Derived.Deep.DeepCutAuto
import Derived.BigQuiet
import Derived.Test.YtnkkfdlmcpnokaaBase2
namespace Go.Proofs.Herb
open Go.RowKit
theorem infoU8 : (Try.prog.info? 5).map (fun i => (i.zero, i.size, i.bytes)) = some (some (.int .u8 0), 1, 1) := by kernel_rfl
end Go.Proofs.Herb
