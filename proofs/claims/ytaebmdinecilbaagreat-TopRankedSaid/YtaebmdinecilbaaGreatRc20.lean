/- The law TopRanked comes to true at code 2 (mod 4) and side 0 (mod 2), whatever the other arguments are; no condition. -/
import Derived.Test.YtaebmdinecilbaaGreatRc0
namespace Go.Proofs.YtaebmdinecilbaaGreat
open Go.Sx
set_option maxRecDepth 1000000
theorem rank20 : (ev CR 1000000 (.call .normal 3 rankArgs) (rankSt 2 0)).all (retAll isTrue) = true := by kernel_rfl
end Go.Proofs.YtaebmdinecilbaaGreat
