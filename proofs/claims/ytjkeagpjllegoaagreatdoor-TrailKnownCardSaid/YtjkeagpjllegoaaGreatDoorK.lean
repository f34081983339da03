/- The tables of the program for the abstract machine, and the state in which TrailKnown begins. No condition. -/
import Derived.Test.YtjkeagpjllegoaaGreatDoorAmc
import Derived.Test.YtjkeagpjllegoaaGreatDoorProg
import Derived.Shelf.Lays2
import Derived.KernelRfl
namespace Go.Proofs
open Go.Shelf
def Tryz.lays21_ren : Go.Shelf.Ren := ⟨fun | 21 => 62 | 27 => 86 | 28 => 87 | 35 => 113 | 39 => 122 | n => n, fun | 22 => 48 | 3 => 3 | 4 => 4 | 0 => 0 | n => n, fun | n => n⟩
theorem Tryz.lays21 : Go.Proofs.Lays2.n21 Tryz.prog Tryz.lays21_ren := {
  mixed := by kernel_rfl
  f21 := Tryz.func62.trans (congrArg some (by kernel_rfl))
  f27 := Tryz.func86.trans (congrArg some (by kernel_rfl))
  f28 := Tryz.func87.trans (congrArg some (by kernel_rfl))
  f35 := Tryz.func113.trans (congrArg some (by kernel_rfl))
  f39 := Tryz.func122.trans (congrArg some (by kernel_rfl))
  t0 := Tryz.underlying0
  a0 := Tryz.isAgg0
  z0 := Tryz.sizeOf0
  v0 := Tryz.zeroValue0
  t3 := Tryz.underlying3
  a3 := Tryz.isAgg3
  z3 := Tryz.sizeOf3
  v3 := Tryz.zeroValue3
  t4 := Tryz.underlying4
  a4 := Tryz.isAgg4
  z4 := Tryz.sizeOf4
  v4 := Tryz.zeroValue4
  t22 := Tryz.underlying48
  a22 := Tryz.isAgg48
  z22 := Tryz.sizeOf48
  v22 := Tryz.zeroValue48
  i3 := by kernel_rfl }
end Go.Proofs

set_option maxRecDepth 1000000
namespace Go.Proofs.YtjkeagpjllegoaaGreatDoor
open Go Go.AM
noncomputable def tab : Tab := mkTab Tryz.prog (insOrc 62 3 1)
noncomputable def callK : CallA := callD tab 1 1000000 20
theorem orc_ok : CallOK Tryz.prog 1 tab.orc := insert_ok Tryz.lays21 rfl rfl
theorem tab_ok : TabOK Tryz.prog tab := mkTab_ok _ _
theorem mixed : Tryz.prog.follows .mixedOrders = true := by kernel_rfl
theorem callK_ok : CallOK Tryz.prog 1 callK := callD_ok tab_ok orc_ok (fun call hc => drawn_ok tab_ok mixed call hc) 1000000 20
theorem hx : Cx Tryz.prog tab callK 1 := ⟨tab_ok, drawn_ok tab_ok mixed callK callK_ok, orc_ok⟩
noncomputable def C (f : Nat) (p : List Nat) : Code := subC (bodyO tab f) p
noncomputable def G (f : Nat) (p : List Nat) (k : Nat) : AItem := regionAt k (subC (bodyO tab f) p)
def tab64 : List (Nat × AV) := [(0, .int .u8 0), (1, .int .u8 1), (2, .int .u8 56), (3, .int .u8 2), (4, .int .u8 57), (5, .int .u8 49), (6, .int .u8 28), (7, .int .u8 3), (8, .int .u8 61), (9, .int .u8 58), (10, .int .u8 42), (11, .int .u8 50), (12, .int .u8 38), (13, .int .u8 29), (14, .int .u8 17), (15, .int .u8 4), (16, .int .u8 62), (17, .int .u8 47), (18, .int .u8 59), (19, .int .u8 36), (20, .int .u8 45), (21, .int .u8 43), (22, .int .u8 51), (23, .int .u8 22), (24, .int .u8 53), (25, .int .u8 39), (26, .int .u8 33), (27, .int .u8 30), (28, .int .u8 24), (29, .int .u8 18), (30, .int .u8 12), (31, .int .u8 5), (32, .int .u8 63), (33, .int .u8 55), (34, .int .u8 48), (35, .int .u8 27), (36, .int .u8 60), (37, .int .u8 41), (38, .int .u8 37), (39, .int .u8 16), (40, .int .u8 46), (41, .int .u8 35), (42, .int .u8 44), (43, .int .u8 21), (44, .int .u8 52), (45, .int .u8 32), (46, .int .u8 23), (47, .int .u8 11), (48, .int .u8 54), (49, .int .u8 26), (50, .int .u8 40), (51, .int .u8 15), (52, .int .u8 34), (53, .int .u8 20), (54, .int .u8 31), (55, .int .u8 10), (56, .int .u8 25), (57, .int .u8 14), (58, .int .u8 19), (59, .int .u8 9), (60, .int .u8 13), (61, .int .u8 8), (62, .int .u8 7), (63, .int .u8 6)]
noncomputable def n3 : Nat := match tab.funcs.get 3 with | some fn => fn.ntmps | none => 0
noncomputable def p0 : PM := { fr := { fn := 3, n := n3, tmps := [], todo := [.code (bodyO tab 3)], defers := [], ret := false, roundOf := none }, cs := [], next := 1, bl := [(0, .cells 2 64 tab64)] }
theorem r0 : AM.Reach Tryz.prog 1 p0.to p0.to := .refl _
theorem enter0 : enterF tab 3 [] = some p0.fr.to := by kernel_rfl
end Go.Proofs.YtjkeagpjllegoaaGreatDoor
