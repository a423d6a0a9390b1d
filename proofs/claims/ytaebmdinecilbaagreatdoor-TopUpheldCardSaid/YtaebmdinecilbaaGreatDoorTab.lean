/- The tables, joined, of the program of this seat, as the evaluator looks at them, and that they are right. Made by program. -/
import Derived.Test.YtaebmdinecilbaaGreatDoorChecked
import Derived.KernelRfl
import Derived.Test.YtaebmdinecilbaaGreatDoorSxTb
import Derived.Test.YtaebmdinecilbaaGreatDoorTabT
import Derived.Test.YtaebmdinecilbaaGreatDoorTabF
namespace Go.Proofs.YtaebmdinecilbaaGreatDoor.T
open Go.Sx
set_option maxRecDepth 100000
noncomputable def C : Ctx := ⟨CT, CF, .e⟩
theorem ok : C.Ok Tryz.prog := ⟨fun _ _ h => Tr.all_get okT h, fun _ _ h => Tr.all_get okF h⟩
theorem plans : PlansOk C := fun _ _ h => Tr.all_get okP h
end Go.Proofs.YtaebmdinecilbaaGreatDoor.T
