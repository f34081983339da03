/- TrailKnown: the abstract machine comes from state 7 to state 8. No condition. -/
import Derived.Test.YtjkeagpjllegoaaGreatDoorS1
import Derived.KernelRfl
set_option maxRecDepth 10000000
namespace Go.Proofs.YtjkeagpjllegoaaGreatDoor
open Go Go.AM
theorem e8 : proj p8 (runBs tab callK 1 [0] p7.to) = want p8 := by kernel_rfl
end Go.Proofs.YtjkeagpjllegoaaGreatDoor
