/- TrailKnown: the abstract machine comes from state 1 to state 2. No condition. -/
import Derived.Test.YtjkeagpjllegoaaGreatDoorS1
import Derived.KernelRfl
set_option maxRecDepth 10000000
namespace Go.Proofs.YtjkeagpjllegoaaGreatDoor
open Go Go.AM
theorem e2 : proj p2 (runBs tab callK 1 [14, 7, 4] p1.to) = want p2 := by kernel_rfl
end Go.Proofs.YtjkeagpjllegoaaGreatDoor
