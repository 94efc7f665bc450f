/- What the row of WalBase asks of the program itself. -/
import Derived.Test.YtfigbgjbaohglaaGreatDoorRows
import Derived.Test.YtfigbgjbaohglaaGreatDoorChecked
import Derived.KernelRfl
import Derived.JoinedOf
set_option maxRecDepth 100000
namespace Go.Proofs.YtfigbgjbaohglaaGreatDoor.ajr
open Go.ChangeShapes Go.WideShapes
theorem j_a : (Rows.walBaseRow.wf (OpenSpec.ofChange Rows.walBaseSpec) && laidOutB Tryz.prog && mapsRowed Tryz.prog && Tryz.f7.params.all (Tryz.prog.readableRec ·) && namedTie Tryz.prog Rows.walBaseRow.named Rows.walBaseSpec.vars && (Rows.walBaseRow.stops == []) && (Tryz.prog.stops == []) && (Rows.walBaseRow.knobs == []) && (Tryz.prog.stopKnobs == [])) = true := by kernel_rfl
end Go.Proofs.YtfigbgjbaohglaaGreatDoor.ajr
