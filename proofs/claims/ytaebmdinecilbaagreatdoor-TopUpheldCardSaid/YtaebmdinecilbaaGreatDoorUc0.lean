/- The starting states of the law TopUpheld: its arguments by name, with their bounds; no condition. -/
import Derived.Test.YtaebmdinecilbaaGreatDoorUa
import Derived.Test.YtaebmdinecilbaaGreatDoorSxQs
namespace Go.Proofs.YtaebmdinecilbaaGreatDoor
open Go.Sx
set_option maxRecDepth 1000000
def upSt (c s : Int) : St := { h := .e, nx := 5, fc := [(.rem (.var 0) (.lit 4), c, c), (.rem (.var 1) (.lit 2), s, s), (.var 0, 0, 255), (.var 1, 0, 255), (.var 2, 0, 255), (.var 3, 0, 255), (.var 4, 0, 255)] }
def upArgs : List V := [.int .u8 (.var 0), .int .u8 (.var 1), .agg [.int .u8 (.var 2), .int .u8 (.var 3)], .int .u8 (.var 4)]
noncomputable def CU : Ctx := { T.C with sm := Tr.e.set 12 sumTrue }
theorem sumsU : SumsOk Tryz.prog CU := sums1 s11 sums0
end Go.Proofs.YtaebmdinecilbaaGreatDoor
