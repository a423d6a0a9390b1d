/- The closed calls of the law TopUpheld come to true: the small examples of the layers up to 11; no condition. -/
import Derived.Test.YtaebmdinecilbaaGreatDoorTab
import Derived.Test.YtaebmdinecilbaaGreatDoorSxMv
namespace Go.Proofs.YtaebmdinecilbaaGreatDoor
open Go.Sx
set_option maxRecDepth 1000000

theorem mixed : Tryz.prog.follows .mixedOrders = true := by kernel_rfl
theorem ctxOk (sm : Tr Summ) : Ctx.Ok Tryz.prog { T.C with sm := sm } := ⟨T.ok.ty, T.ok.fn⟩
theorem ctxPl (sm : Tr Summ) : PlansOk { T.C with sm := sm } := T.plans
theorem sums0 : SumsOk Tryz.prog { T.C with sm := .e } := fun g S h => by simp [Tr.get] at h
theorem sums1 {sm : Tr Summ} {g : Nat} {S : Summ} (h : SumOk Tryz.prog g S) (hs : SumsOk Tryz.prog { T.C with sm := sm }) : SumsOk Tryz.prog { T.C with sm := sm.set g S } := by
  intro g' S' h'
  rcases Tr.get_set h' with ⟨rfl, rfl⟩ | ⟨_, h'⟩
  · exact h
  · exact hs g' S' h'

noncomputable def C0 : Ctx := { T.C with sm := .e }
theorem w05 : (ev C0 1000000 (.call .normal 139 []) st0).all (retAll isTrue) = true := by kernel_rfl
theorem s05 : SumOk Tryz.prog 139 sumTrue := sumTrue_ok fun w => calls_true (ctxOk _) mixed (ctxPl _) sums0 w w05
noncomputable def C5 : Ctx := { T.C with sm := Tr.e.set 139 sumTrue }
theorem w07 : (ev C5 1000000 (.call .normal 81 []) st0).all (retAll isTrue) = true := by kernel_rfl
theorem s07 : SumOk Tryz.prog 81 sumTrue := sumTrue_ok fun w => calls_true (ctxOk _) mixed (ctxPl _) (sums1 s05 sums0) w w07
noncomputable def C7 : Ctx := { T.C with sm := Tr.e.set 81 sumTrue }
theorem w09 : (ev C7 1000000 (.call .normal 39 []) st0).all (retAll isTrue) = true := by kernel_rfl
theorem s09 : SumOk Tryz.prog 39 sumTrue := sumTrue_ok fun w => calls_true (ctxOk _) mixed (ctxPl _) (sums1 s07 sums0) w w09
noncomputable def C9 : Ctx := { T.C with sm := Tr.e.set 39 sumTrue }
theorem w11 : (ev C9 1000000 (.call .normal 12 []) st0).all (retAll isTrue) = true := by kernel_rfl
theorem s11 : SumOk Tryz.prog 12 sumTrue := sumTrue_ok fun w => calls_true (ctxOk _) mixed (ctxPl _) (sums1 s09 sums0) w w11
end Go.Proofs.YtaebmdinecilbaaGreatDoor
