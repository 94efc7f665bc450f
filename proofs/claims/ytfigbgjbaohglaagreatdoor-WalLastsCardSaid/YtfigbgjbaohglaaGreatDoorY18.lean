/- What the row of WalLasts asks of the program itself. -/
import Derived.Test.YtfigbgjbaohglaaGreatDoorRows
import Derived.Test.YtfigbgjbaohglaaGreatDoorChecked
import Derived.KernelRfl
import Derived.JoinedOf
set_option maxRecDepth 100000
namespace Go.Proofs.YtfigbgjbaohglaaGreatDoor.ahk
open Go.ChangeShapes Go.WideShapes
theorem j_a : (Rows.walLastsRow.wf (OpenSpec.ofChange Rows.walLastsSpec) && laidOutB Tryz.prog && mapsRowed Tryz.prog && Tryz.f3.params.all (Tryz.prog.readableRec ·) && namedTie Tryz.prog Rows.walLastsRow.named Rows.walLastsSpec.vars && (Rows.walLastsRow.stops == []) && (Tryz.prog.stops == []) && (Rows.walLastsRow.knobs == []) && (Tryz.prog.stopKnobs == [])) = true := by kernel_rfl
end Go.Proofs.YtfigbgjbaohglaaGreatDoor.ahk
