/- The starting states of the law TopRanked: its arguments by name, with their bounds; no condition. -/
import Derived.Test.YtaebmdinecilbaaGreatRb
namespace Go.Proofs.YtaebmdinecilbaaGreat
open Go.Sx
set_option maxRecDepth 1000000
def rankSt (c s : Int) : St := { h := .e, nx := 9, fc := [(.rem (.var 0) (.lit 4), c, c), (.rem (.var 1) (.lit 2), s, s), (.var 0, 0, 255), (.var 1, 0, 255), (.var 2, 0, 255), (.var 3, 0, 255), (.var 4, -32768, 32767), (.var 5, -32768, 32767), (.var 6, 0, 255), (.var 7, 0, 255), (.var 8, 0, 1)] }
def rankArgs : List V := [.int .u8 (.var 0), .int .u8 (.var 1), .agg [.int .u8 (.var 2), .int .u8 (.var 3)], .agg [.int .i16 (.var 4), .int .i16 (.var 5)], .agg [.int .u8 (.var 6), .int .u8 (.var 7)], .bool (.var 8)]
noncomputable def CR : Ctx := { T.C with sm := ((Tr.e.set 12 sumTrue).set 69 moveSum).set 19 (pureSum gainSig .i64 gainBig) }
end Go.Proofs.YtaebmdinecilbaaGreat
