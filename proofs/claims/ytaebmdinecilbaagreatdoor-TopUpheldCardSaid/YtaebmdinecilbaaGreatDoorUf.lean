/- The closed facts of the row of TopUpheld and of its card. -/
import Derived.Test.YtaebmdinecilbaaGreatDoorUe
import Derived.Test.YtaebmdinecilbaaGreatDoorTie
import Derived.Test.YtaebmdinecilbaaGreatDoorCards
import Derived.SevenTiedAt
namespace Go.Proofs.YtaebmdinecilbaaGreatDoor
open Go.ChangeShapes Go.WideShapes Go.ChangeAt Go.RowKit Go.WideMaps
set_option maxRecDepth 100000
theorem and2 {a b : Bool} (ha : a = true) (hb : b = true) : (a && b) = true := by rw [ha, hb]; rfl
theorem up_facts : joinedFacts Tryz.prog 3 Tryz.f3 Rows.topUpheldSpec Rows.topUpheldRow = true := by
  unfold joinedFacts
  repeat' with_reducible apply and2
  all_goals first
    | with_reducible exact up_wf
    | with_reducible exact up_laidOut
    | with_reducible exact up_mapsRowed
    | with_reducible exact up_plainKeys
    | with_reducible exact up_stopsHeard
    | with_reducible exact up_mayEnter
    | with_reducible exact up_named
    | with_reducible exact up_recurses
    | with_reducible exact up_unfollowed
    | with_reducible exact up_inPlace
    | (as_aux_lemma => kernel_rfl)
theorem up_inst : Tryz.f3.isInstance Tryz.prog Rows.topUpheldRow.origin Rows.topUpheldRow.targs := of_decide_eq_true (by kernel_rfl)
theorem up_wrap : Tryz.f3.isWrapper Tryz.prog Rows.topUpheldRow.wrapper Rows.topUpheldRow.mainSum := by
  unfold Func.isWrapper
  first
    | (rw [if_pos (by decide +kernel)]; kernel_rfl)
    | (rw [if_neg (by decide +kernel)]; exact ⟨rfl, rfl⟩)
theorem up_func : Tryz.prog.funcNamed "roquet/roquettop.TopUpheld" = some 3 := by kernel_rfl
theorem up_card_wf : Rows.topUpheldRow.wfByText (OpenSpec.ofChange Rows.topUpheldSpec) = true := by kernel_rfl
theorem up_main : Tryz.prog.mainIs = some (true, "6614fe415a622d9a57241400fc89b72ccfff7226e21f18af766c14cdfcb11497".toList) := by kernel_rfl
theorem up_looks : true = Tryz.prog.looks [] := by kernel_rfl
theorem up_stand : ([5, 5, 22, 5].all fun u => !Tryz.prog.wantsStandIn u) = true := by kernel_rfl
theorem up_goes : false = Rows.topUpheldRow.goesBy Tryz.prog := by kernel_rfl
end Go.Proofs.YtaebmdinecilbaaGreatDoor
