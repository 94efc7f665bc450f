/- What the row of StateKnown asks of the program itself. -/
import Derived.Test.YtbhnnbcdhneolaaGreatRows
import Derived.Test.YtbhnnbcdhneolaaGreatChecked
import Derived.KernelRfl
import Derived.JoinedOf
set_option maxRecDepth 100000
namespace Go.Proofs.YtbhnnbcdhneolaaGreat.state.k
open Go.ChangeShapes Go.WideShapes
theorem j_b : (Rows.stateKnownRow.inPlace == Tryz.prog.inPlace 12) = true := by kernel_rfl
theorem j_c : (Rows.stateKnownRow.unfollowed == Tryz.prog.unfollowed 12) = true := by kernel_rfl
theorem j_d : (Rows.stateKnownRow.recurses == Tryz.prog.recurses 12) = true := by kernel_rfl
end Go.Proofs.YtbhnnbcdhneolaaGreat.state.k
