/- TrailKnown: the abstract machine comes from state 3 to state 4. No condition. -/
import Derived.Test.YtjkeagpjllegoaaGreatDoorS1
import Derived.KernelRfl
set_option maxRecDepth 10000000
namespace Go.Proofs.YtjkeagpjllegoaaGreatDoor
open Go Go.AM
theorem e4 : proj p4 (runBs tab callK 1 [12, 10, 9, 7, 6, 5, 3, 2, 0] p3.to) = want p4 := by kernel_rfl
end Go.Proofs.YtjkeagpjllegoaaGreatDoor
