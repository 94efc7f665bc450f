/- What the row of GateKnown asks of the program itself. -/
import Derived.Test.YtbhnnbcdhneolaaGreatRows
import Derived.Test.YtbhnnbcdhneolaaGreatChecked
import Derived.KernelRfl
import Derived.JoinedOf
set_option maxRecDepth 100000
namespace Go.Proofs.YtbhnnbcdhneolaaGreat.gate.k
open Go.ChangeShapes Go.WideShapes
theorem j_b : (Rows.gateKnownRow.inPlace == Tryz.prog.inPlace 9) = true := by kernel_rfl
theorem j_c : (Rows.gateKnownRow.unfollowed == Tryz.prog.unfollowed 9) = true := by kernel_rfl
theorem j_d : (Rows.gateKnownRow.recurses == Tryz.prog.recurses 9) = true := by kernel_rfl
end Go.Proofs.YtbhnnbcdhneolaaGreat.gate.k
