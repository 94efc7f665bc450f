/- What the row of WalBase asks of the program itself. -/
import Derived.Test.YtfigbgjbaohglaaGreatDoorRows
import Derived.Test.YtfigbgjbaohglaaGreatDoorChecked
import Derived.KernelRfl
import Derived.JoinedOf
set_option maxRecDepth 100000
namespace Go.Proofs.YtfigbgjbaohglaaGreatDoor.ajr
open Go.ChangeShapes Go.WideShapes
theorem j_e : (Rows.walBaseRow.named == Tryz.prog.varsNamed 7) = true := by kernel_rfl
theorem j_s : (Rows.walBaseRow.lifted == Tryz.prog.liftsFinal) = true := by kernel_rfl
end Go.Proofs.YtfigbgjbaohglaaGreatDoor.ajr
