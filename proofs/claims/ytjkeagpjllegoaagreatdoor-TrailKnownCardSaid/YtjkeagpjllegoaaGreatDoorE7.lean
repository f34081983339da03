/- TrailKnown: the abstract machine comes from state 6 to state 7. No condition. -/
import Derived.Test.YtjkeagpjllegoaaGreatDoorS1
import Derived.KernelRfl
set_option maxRecDepth 10000000
namespace Go.Proofs.YtjkeagpjllegoaaGreatDoor
open Go Go.AM
theorem e7 : proj p7 (runBs tab callK 1 [13, 10, 7, 0] p6.to) = want p7 := by kernel_rfl
end Go.Proofs.YtjkeagpjllegoaaGreatDoor
