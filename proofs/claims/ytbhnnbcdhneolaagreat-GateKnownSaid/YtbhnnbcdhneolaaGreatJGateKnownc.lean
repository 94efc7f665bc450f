/- What the row of GateKnown asks of the program itself. -/
import Derived.Test.YtbhnnbcdhneolaaGreatRows
import Derived.Test.YtbhnnbcdhneolaaGreatChecked
import Derived.KernelRfl
import Derived.JoinedOf
set_option maxRecDepth 100000
namespace Go.Proofs.YtbhnnbcdhneolaaGreat.gate.k
open Go.ChangeShapes Go.WideShapes
theorem j_e : (Rows.gateKnownRow.named == Tryz.prog.varsNamed 9) = true := by kernel_rfl
theorem j_s : (Rows.gateKnownRow.lifted == Tryz.prog.liftsFinal) = true := by kernel_rfl
end Go.Proofs.YtbhnnbcdhneolaaGreat.gate.k
