/- What the row of WalCounts asks of the program itself. -/
import Derived.Test.YtfigbgjbaohglaaGreatDoorRows
import Derived.Test.YtfigbgjbaohglaaGreatDoorChecked
import Derived.KernelRfl
import Derived.JoinedOf
set_option maxRecDepth 100000
namespace Go.Proofs.YtfigbgjbaohglaaGreatDoor.ahZ
open Go.ChangeShapes Go.WideShapes
theorem j_e : (Rows.walCountsRow.named == Tryz.prog.varsNamed 4) = true := by kernel_rfl
theorem j_s : (Rows.walCountsRow.lifted == Tryz.prog.liftsFinal) = true := by kernel_rfl
end Go.Proofs.YtfigbgjbaohglaaGreatDoor.ahZ
