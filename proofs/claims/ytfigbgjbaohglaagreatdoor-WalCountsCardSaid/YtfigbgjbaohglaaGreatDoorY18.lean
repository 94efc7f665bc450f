/- What the row of WalCounts asks of the program itself. -/
import Derived.Test.YtfigbgjbaohglaaGreatDoorRows
import Derived.Test.YtfigbgjbaohglaaGreatDoorChecked
import Derived.KernelRfl
import Derived.JoinedOf
set_option maxRecDepth 100000
namespace Go.Proofs.YtfigbgjbaohglaaGreatDoor.ahZ
open Go.ChangeShapes Go.WideShapes
theorem j_a : (Rows.walCountsRow.wf (OpenSpec.ofChange Rows.walCountsSpec) && laidOutB Tryz.prog && mapsRowed Tryz.prog && Tryz.f4.params.all (Tryz.prog.readableRec ·) && namedTie Tryz.prog Rows.walCountsRow.named Rows.walCountsSpec.vars && (Rows.walCountsRow.stops == []) && (Tryz.prog.stops == []) && (Rows.walCountsRow.knobs == []) && (Tryz.prog.stopKnobs == [])) = true := by kernel_rfl
end Go.Proofs.YtfigbgjbaohglaaGreatDoor.ahZ
