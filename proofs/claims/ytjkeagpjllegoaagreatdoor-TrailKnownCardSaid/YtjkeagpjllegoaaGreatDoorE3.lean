/- TrailKnown: the abstract machine comes from state 2 to state 3. No condition. -/
import Derived.Test.YtjkeagpjllegoaaGreatDoorS1
import Derived.KernelRfl
set_option maxRecDepth 10000000
namespace Go.Proofs.YtjkeagpjllegoaaGreatDoor
open Go Go.AM
theorem e3 : proj p3 (runBs tab callK 1 [13, 8, 4, 3, 2, 1, 0] p2.to) = want p3 := by kernel_rfl
end Go.Proofs.YtjkeagpjllegoaaGreatDoor
