/- TrailKnown: the abstract machine comes from state 9 to state 10. No condition. -/
import Derived.Test.YtjkeagpjllegoaaGreatDoorS2
import Derived.KernelRfl
set_option maxRecDepth 10000000
namespace Go.Proofs.YtjkeagpjllegoaaGreatDoor
open Go Go.AM
theorem e10 : proj p10 (runBs tab callK 1 [14, 11, 9, 6, 5, 3, 2] p9.to) = want p10 := by kernel_rfl
end Go.Proofs.YtjkeagpjllegoaaGreatDoor
