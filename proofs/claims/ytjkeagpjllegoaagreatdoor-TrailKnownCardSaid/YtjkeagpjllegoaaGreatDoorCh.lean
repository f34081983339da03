/- TrailKnown: from its beginning the abstract machine comes to its end. No condition. -/
import Derived.Test.YtjkeagpjllegoaaGreatDoorE1
import Derived.Test.YtjkeagpjllegoaaGreatDoorE2
import Derived.Test.YtjkeagpjllegoaaGreatDoorE3
import Derived.Test.YtjkeagpjllegoaaGreatDoorE4
import Derived.Test.YtjkeagpjllegoaaGreatDoorE5
import Derived.Test.YtjkeagpjllegoaaGreatDoorE6
import Derived.Test.YtjkeagpjllegoaaGreatDoorE7
import Derived.Test.YtjkeagpjllegoaaGreatDoorE8
import Derived.Test.YtjkeagpjllegoaaGreatDoorE9
import Derived.Test.YtjkeagpjllegoaaGreatDoorE10
import Derived.Test.YtjkeagpjllegoaaGreatDoorE11
import Derived.Test.YtjkeagpjllegoaaGreatDoorE12
import Derived.Test.YtjkeagpjllegoaaGreatDoorE13
import Derived.Test.YtjkeagpjllegoaaGreatDoorE14
import Derived.Test.YtjkeagpjllegoaaGreatDoorE15
import Derived.KernelRfl
set_option maxRecDepth 10000000
namespace Go.Proofs.YtjkeagpjllegoaaGreatDoor
open Go Go.AM
theorem r1 : AM.Reach Tryz.prog 1 p0.to p1.to := chunks_ hx r0 e1
theorem r2 : AM.Reach Tryz.prog 1 p0.to p2.to := chunks_ hx r1 e2
theorem r3 : AM.Reach Tryz.prog 1 p0.to p3.to := chunks_ hx r2 e3
theorem r4 : AM.Reach Tryz.prog 1 p0.to p4.to := chunks_ hx r3 e4
theorem r5 : AM.Reach Tryz.prog 1 p0.to p5.to := chunks_ hx r4 e5
theorem r6 : AM.Reach Tryz.prog 1 p0.to p6.to := chunks_ hx r5 e6
theorem r7 : AM.Reach Tryz.prog 1 p0.to p7.to := chunks_ hx r6 e7
theorem r8 : AM.Reach Tryz.prog 1 p0.to p8.to := chunks_ hx r7 e8
theorem r9 : AM.Reach Tryz.prog 1 p0.to p9.to := chunks_ hx r8 e9
theorem r10 : AM.Reach Tryz.prog 1 p0.to p10.to := chunks_ hx r9 e10
theorem r11 : AM.Reach Tryz.prog 1 p0.to p11.to := chunks_ hx r10 e11
theorem r12 : AM.Reach Tryz.prog 1 p0.to p12.to := chunks_ hx r11 e12
theorem r13 : AM.Reach Tryz.prog 1 p0.to p13.to := chunks_ hx r12 e13
theorem r14 : AM.Reach Tryz.prog 1 p0.to p14.to := chunks_ hx r13 e14
theorem r15 : AM.Reach Tryz.prog 1 p0.to p15.to := chunks_ hx r14 e15
end Go.Proofs.YtjkeagpjllegoaaGreatDoor
