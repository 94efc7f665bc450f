/- What the row of GateKnown asks of the program itself. -/
import Derived.Test.YtbhnnbcdhneolaaGreatRows
import Derived.Test.YtbhnnbcdhneolaaGreatChecked
import Derived.KernelRfl
import Derived.JoinedOf
set_option maxRecDepth 100000
namespace Go.Proofs.YtbhnnbcdhneolaaGreat.gate.k
open Go.ChangeShapes Go.WideShapes
theorem j_a : (Rows.gateKnownRow.wf (OpenSpec.ofChange Rows.gateKnownSpec) && laidOutB Tryz.prog && mapsRowed Tryz.prog && Tryz.f9.params.all (Tryz.prog.readableRec ·) && namedTie Tryz.prog Rows.gateKnownRow.named Rows.gateKnownSpec.vars && (Rows.gateKnownRow.stops == []) && (Tryz.prog.stops == []) && (Rows.gateKnownRow.knobs == []) && (Tryz.prog.stopKnobs == [])) = true := by kernel_rfl
end Go.Proofs.YtbhnnbcdhneolaaGreat.gate.k
