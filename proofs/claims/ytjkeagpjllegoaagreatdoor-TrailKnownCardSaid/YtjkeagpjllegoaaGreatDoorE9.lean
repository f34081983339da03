/- TrailKnown: the abstract machine comes from state 8 to state 9. No condition. -/
import Derived.Test.YtjkeagpjllegoaaGreatDoorS2
import Derived.KernelRfl
set_option maxRecDepth 10000000
namespace Go.Proofs.YtjkeagpjllegoaaGreatDoor
open Go Go.AM
theorem e9 : proj p9 (runBs tab callK 1 [14, 9, 8, 7, 5, 4, 3, 0] p8.to) = want p9 := by kernel_rfl
end Go.Proofs.YtjkeagpjllegoaaGreatDoor
