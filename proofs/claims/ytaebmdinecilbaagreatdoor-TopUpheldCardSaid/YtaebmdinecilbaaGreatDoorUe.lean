/- Closed facts of the row of TopUpheld that are dear to reckon, each by itself. -/
import Derived.Test.YtaebmdinecilbaaGreatDoorRows
import Derived.ProofKit
import Derived.JoinedOf
namespace Go.Proofs.YtaebmdinecilbaaGreatDoor
open Go.ChangeShapes Go.WideShapes Go.ChangeAt Go.RowKit Go.WideMaps
set_option maxRecDepth 100000
theorem up_wf : Rows.topUpheldRow.wf (OpenSpec.ofChange Rows.topUpheldSpec) = true := by kernel_rfl
theorem up_laidOut : laidOutB Tryz.prog = true := by kernel_rfl
theorem up_mapsRowed : mapsRowed Tryz.prog = true := by kernel_rfl
theorem up_plainKeys : (Rows.topUpheldRow.plainKeys == Tryz.prog.plainKeys) = true := by kernel_rfl
theorem up_stopsHeard : Tryz.prog.stopsHeard = true := by kernel_rfl
theorem up_mayEnter : Tryz.prog.mayEnter = true := by kernel_rfl
theorem up_named : (Rows.topUpheldRow.named == Tryz.prog.varsNamed 3) = true := by kernel_rfl
theorem up_recurses : (Rows.topUpheldRow.recurses == Tryz.prog.recurses 3) = true := by kernel_rfl
theorem up_unfollowed : (Rows.topUpheldRow.unfollowed == Tryz.prog.unfollowed 3) = true := by kernel_rfl
theorem up_inPlace : (Rows.topUpheldRow.inPlace == Tryz.prog.inPlace 3) = true := by kernel_rfl
end Go.Proofs.YtaebmdinecilbaaGreatDoor
