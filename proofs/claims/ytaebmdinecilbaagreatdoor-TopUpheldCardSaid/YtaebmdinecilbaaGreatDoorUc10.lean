/- The law TopUpheld comes to true at code 1 (mod 4) and side 0 (mod 2), whatever the other arguments are; no condition. -/
import Derived.Test.YtaebmdinecilbaaGreatDoorUc0
namespace Go.Proofs.YtaebmdinecilbaaGreatDoor
open Go.Sx
set_option maxRecDepth 1000000
theorem run10 : (evq CU 1000000 (.call .normal 3 upArgs) (upSt 1 0)).all (retAll isTrue) = true := by kernel_rfl
theorem up10 : (ev CU 1000000 (.call .normal 3 upArgs) (upSt 1 0)).all (retAll isTrue) = true := by
  rw [← evq_eq]
  exact run10
end Go.Proofs.YtaebmdinecilbaaGreatDoor
