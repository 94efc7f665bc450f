/- What the row of WalCounts asks of the program itself. -/
import Derived.Test.YtfigbgjbaohglaaGreatDoorRows
import Derived.Test.YtfigbgjbaohglaaGreatDoorChecked
import Derived.KernelRfl
import Derived.JoinedOf
set_option maxRecDepth 100000
namespace Go.Proofs.YtfigbgjbaohglaaGreatDoor.ahZ
open Go.ChangeShapes Go.WideShapes
theorem j_b : (Rows.walCountsRow.inPlace == Tryz.prog.inPlace 4) = true := by kernel_rfl
theorem j_c : (Rows.walCountsRow.unfollowed == Tryz.prog.unfollowed 4) = true := by kernel_rfl
theorem j_d : (Rows.walCountsRow.recurses == Tryz.prog.recurses 4) = true := by kernel_rfl
end Go.Proofs.YtfigbgjbaohglaaGreatDoor.ahZ
