/- The contracts of within, and of slices.Clip at strings. -/
import Derived.Test.YtancpdhinocbnaaGreatDoorSyn
namespace Go.Proofs.Herb
open Go.RowKit
def withinI (n most : Int) : Int := min (max n 0) most
theorem within_any (n most : Int) (w : World) :
    Calls Tryz.prog 32 #[.int .i64 n, .int .i64 most] w fun e w' => e = .returned (.int .i64 (withinI n most)) ∧ w = w' := by
  go_enter Tryz.func32, Tryz.ntmps32
  go_wp2
  all_goals
    go_ret
    refine ⟨?_, rfl⟩
    dsimp only [Array.getD, Array.getInternal]
    refine congrArg (fun z => Ending.returned (.int .i64 z)) ?_
    unfold withinI
    split at * <;> omega
set_option maxHeartbeats 400000 in
theorem clip_strings (a : Option Addr) (n c : Nat) (w : World) (hn : n ≤ c) (_hc : c ≤ maxLen) :
    Calls Tryz.prog 70 #[.slice a n c] w fun e w' => e = .returned (.slice a n n) ∧ w = w' := by
  unfold maxLen at _hc
  go_enter Tryz.func70, Tryz.ntmps70
  go_wp2
  go_ret
  exact ⟨rfl, rfl⟩
end Go.Proofs.Herb
