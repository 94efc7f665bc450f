/- What the row of WalLasts asks of the program itself. -/
import Derived.Test.YtfigbgjbaohglaaGreatDoorRows
import Derived.Test.YtfigbgjbaohglaaGreatDoorChecked
import Derived.KernelRfl
import Derived.JoinedOf
set_option maxRecDepth 100000
namespace Go.Proofs.YtfigbgjbaohglaaGreatDoor.ahk
open Go.ChangeShapes Go.WideShapes
theorem j_e : (Rows.walLastsRow.named == Tryz.prog.varsNamed 3) = true := by kernel_rfl
theorem j_s : (Rows.walLastsRow.lifted == Tryz.prog.liftsFinal) = true := by kernel_rfl
end Go.Proofs.YtfigbgjbaohglaaGreatDoor.ahk
