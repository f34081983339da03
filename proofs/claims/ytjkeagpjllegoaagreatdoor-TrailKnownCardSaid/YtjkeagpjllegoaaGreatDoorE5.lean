/- TrailKnown: the abstract machine comes from state 4 to state 5. No condition. -/
import Derived.Test.YtjkeagpjllegoaaGreatDoorS1
import Derived.KernelRfl
set_option maxRecDepth 10000000
namespace Go.Proofs.YtjkeagpjllegoaaGreatDoor
open Go Go.AM
theorem e5 : proj p5 (runBs tab callK 1 [12, 10, 5, 3] p4.to) = want p5 := by kernel_rfl
end Go.Proofs.YtjkeagpjllegoaaGreatDoor
