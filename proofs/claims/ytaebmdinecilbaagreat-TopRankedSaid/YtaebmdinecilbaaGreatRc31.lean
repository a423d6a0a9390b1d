/- The law TopRanked comes to true at code 3 (mod 4) and side 1 (mod 2), whatever the other arguments are; no condition. -/
import Derived.Test.YtaebmdinecilbaaGreatRc0
namespace Go.Proofs.YtaebmdinecilbaaGreat
open Go.Sx
set_option maxRecDepth 1000000
theorem rank31 : (ev CR 1000000 (.call .normal 3 rankArgs) (rankSt 3 1)).all (retAll isTrue) = true := by kernel_rfl
end Go.Proofs.YtaebmdinecilbaaGreat
