/- What the row of StateKnown asks of the program itself. -/
import Derived.Test.YtbhnnbcdhneolaaGreatRows
import Derived.Test.YtbhnnbcdhneolaaGreatChecked
import Derived.KernelRfl
import Derived.JoinedOf
set_option maxRecDepth 100000
namespace Go.Proofs.YtbhnnbcdhneolaaGreat.state.k
open Go.ChangeShapes Go.WideShapes
theorem j_a : (Rows.stateKnownRow.wf (OpenSpec.ofChange Rows.stateKnownSpec) && laidOutB Tryz.prog && mapsRowed Tryz.prog && Tryz.f12.params.all (Tryz.prog.readableRec ·) && namedTie Tryz.prog Rows.stateKnownRow.named Rows.stateKnownSpec.vars && (Rows.stateKnownRow.stops == []) && (Tryz.prog.stops == []) && (Rows.stateKnownRow.knobs == []) && (Tryz.prog.stopKnobs == [])) = true := by kernel_rfl
end Go.Proofs.YtbhnnbcdhneolaaGreat.state.k
