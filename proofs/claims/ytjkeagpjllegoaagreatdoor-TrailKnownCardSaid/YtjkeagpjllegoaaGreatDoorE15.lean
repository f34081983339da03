/- TrailKnown: the abstract machine comes from state 14 to state 15. No condition. -/
import Derived.Test.YtjkeagpjllegoaaGreatDoorS2
import Derived.KernelRfl
set_option maxRecDepth 10000000
namespace Go.Proofs.YtjkeagpjllegoaaGreatDoor
open Go Go.AM
theorem e15 : proj p15 (runBs tab callK 1 [5, 4, 3, 2, 1] p14.to) = want p15 := by kernel_rfl
end Go.Proofs.YtjkeagpjllegoaaGreatDoor
