/- TrailKnown: the abstract machine comes from state 13 to state 14. No condition. -/
import Derived.Test.YtjkeagpjllegoaaGreatDoorS2
import Derived.KernelRfl
set_option maxRecDepth 10000000
namespace Go.Proofs.YtjkeagpjllegoaaGreatDoor
open Go Go.AM
theorem e14 : proj p14 (runBs tab callK 1 [0] p13.to) = want p14 := by kernel_rfl
end Go.Proofs.YtjkeagpjllegoaaGreatDoor
