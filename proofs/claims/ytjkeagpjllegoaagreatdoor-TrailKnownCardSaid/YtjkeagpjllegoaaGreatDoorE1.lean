/- TrailKnown: the abstract machine comes from state 0 to state 1. No condition. -/
import Derived.Test.YtjkeagpjllegoaaGreatDoorS1
import Derived.KernelRfl
set_option maxRecDepth 10000000
namespace Go.Proofs.YtjkeagpjllegoaaGreatDoor
open Go Go.AM
theorem e1 : proj p1 (runBs tab callK 1 [12, 11, 10, 9, 6, 3, 1, 0] p0.to) = want p1 := by kernel_rfl
end Go.Proofs.YtjkeagpjllegoaaGreatDoor
