/- TrailKnown: the abstract machine comes from state 11 to state 12. No condition. -/
import Derived.Test.YtjkeagpjllegoaaGreatDoorS2
import Derived.KernelRfl
set_option maxRecDepth 10000000
namespace Go.Proofs.YtjkeagpjllegoaaGreatDoor
open Go Go.AM
theorem e12 : proj p12 (runBs tab callK 1 [0] p11.to) = want p12 := by kernel_rfl
end Go.Proofs.YtjkeagpjllegoaaGreatDoor
