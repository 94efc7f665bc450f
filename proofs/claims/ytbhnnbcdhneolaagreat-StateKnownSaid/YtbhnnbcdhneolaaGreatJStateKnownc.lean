/- What the row of StateKnown asks of the program itself. -/
import Derived.Test.YtbhnnbcdhneolaaGreatRows
import Derived.Test.YtbhnnbcdhneolaaGreatChecked
import Derived.KernelRfl
import Derived.JoinedOf
set_option maxRecDepth 100000
namespace Go.Proofs.YtbhnnbcdhneolaaGreat.state.k
open Go.ChangeShapes Go.WideShapes
theorem j_e : (Rows.stateKnownRow.named == Tryz.prog.varsNamed 12) = true := by kernel_rfl
theorem j_s : (Rows.stateKnownRow.lifted == Tryz.prog.liftsFinal) = true := by kernel_rfl
end Go.Proofs.YtbhnnbcdhneolaaGreat.state.k
