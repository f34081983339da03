/- TrailKnown: the abstract machine comes from state 12 to state 13. No condition. -/
import Derived.Test.YtjkeagpjllegoaaGreatDoorS2
import Derived.KernelRfl
set_option maxRecDepth 10000000
namespace Go.Proofs.YtjkeagpjllegoaaGreatDoor
open Go Go.AM
theorem e13 : proj p13 (runBs tab callK 1 [13, 11, 7, 5, 1] p12.to) = want p13 := by kernel_rfl
end Go.Proofs.YtjkeagpjllegoaaGreatDoor
