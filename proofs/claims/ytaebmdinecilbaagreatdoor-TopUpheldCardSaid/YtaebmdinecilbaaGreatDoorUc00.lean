/- The law TopUpheld comes to true at code 0 (mod 4) and side 0 (mod 2), whatever the other arguments are; no condition. -/
import Derived.Test.YtaebmdinecilbaaGreatDoorUc0
namespace Go.Proofs.YtaebmdinecilbaaGreatDoor
open Go.Sx
set_option maxRecDepth 1000000
theorem run00 : (evq CU 1000000 (.call .normal 3 upArgs) (upSt 0 0)).all (retAll isTrue) = true := by kernel_rfl
theorem up00 : (ev CU 1000000 (.call .normal 3 upArgs) (upSt 0 0)).all (retAll isTrue) = true := by
  rw [← evq_eq]
  exact run00
end Go.Proofs.YtaebmdinecilbaaGreatDoor
