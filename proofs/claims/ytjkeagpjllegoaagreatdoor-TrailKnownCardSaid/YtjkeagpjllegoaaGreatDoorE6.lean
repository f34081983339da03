/- TrailKnown: the abstract machine comes from state 5 to state 6. No condition. -/
import Derived.Test.YtjkeagpjllegoaaGreatDoorS1
import Derived.KernelRfl
set_option maxRecDepth 10000000
namespace Go.Proofs.YtjkeagpjllegoaaGreatDoor
open Go Go.AM
theorem e6 : proj p6 (runBs tab callK 1 [11, 8, 7, 6, 5, 4, 3] p5.to) = want p6 := by kernel_rfl
end Go.Proofs.YtjkeagpjllegoaaGreatDoor
