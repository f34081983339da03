/- TrailKnown: the abstract machine comes from state 10 to state 11. No condition. -/
import Derived.Test.YtjkeagpjllegoaaGreatDoorS2
import Derived.KernelRfl
set_option maxRecDepth 10000000
namespace Go.Proofs.YtjkeagpjllegoaaGreatDoor
open Go Go.AM
theorem e11 : proj p11 (runBs tab callK 1 [12, 11, 7, 4, 3, 2, 0] p10.to) = want p11 := by kernel_rfl
end Go.Proofs.YtjkeagpjllegoaaGreatDoor
