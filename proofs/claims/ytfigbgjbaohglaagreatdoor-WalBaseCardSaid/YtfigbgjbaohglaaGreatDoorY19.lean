/- What the row of WalBase asks of the program itself. -/
import Derived.Test.YtfigbgjbaohglaaGreatDoorRows
import Derived.Test.YtfigbgjbaohglaaGreatDoorChecked
import Derived.KernelRfl
import Derived.JoinedOf
set_option maxRecDepth 100000
namespace Go.Proofs.YtfigbgjbaohglaaGreatDoor.ajr
open Go.ChangeShapes Go.WideShapes
theorem j_b : (Rows.walBaseRow.inPlace == Tryz.prog.inPlace 7) = true := by kernel_rfl
theorem j_c : (Rows.walBaseRow.unfollowed == Tryz.prog.unfollowed 7) = true := by kernel_rfl
theorem j_d : (Rows.walBaseRow.recurses == Tryz.prog.recurses 7) = true := by kernel_rfl
end Go.Proofs.YtfigbgjbaohglaaGreatDoor.ajr
