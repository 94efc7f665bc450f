/- What the row of WalLasts asks of the program itself. -/
import Derived.Test.YtfigbgjbaohglaaGreatDoorRows
import Derived.Test.YtfigbgjbaohglaaGreatDoorChecked
import Derived.KernelRfl
import Derived.JoinedOf
set_option maxRecDepth 100000
namespace Go.Proofs.YtfigbgjbaohglaaGreatDoor.ahk
open Go.ChangeShapes Go.WideShapes
theorem j_b : (Rows.walLastsRow.inPlace == Tryz.prog.inPlace 3) = true := by kernel_rfl
theorem j_c : (Rows.walLastsRow.unfollowed == Tryz.prog.unfollowed 3) = true := by kernel_rfl
theorem j_d : (Rows.walLastsRow.recurses == Tryz.prog.recurses 3) = true := by kernel_rfl
end Go.Proofs.YtfigbgjbaohglaaGreatDoor.ahk
