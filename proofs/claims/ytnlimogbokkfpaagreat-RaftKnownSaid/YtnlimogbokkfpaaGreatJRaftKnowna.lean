/- What the row of RaftKnown asks of the program itself. -/
import Derived.Test.YtnlimogbokkfpaaGreatRows
import Derived.Test.YtnlimogbokkfpaaGreatChecked
import Derived.KernelRfl
import Derived.JoinedOf
set_option maxRecDepth 100000
namespace Go.Proofs.YtnlimogbokkfpaaGreat.raft.k
open Go.ChangeShapes Go.WideShapes
theorem j_a : (Rows.raftKnownRow.wf (OpenSpec.ofChange Rows.raftKnownSpec) && laidOutB Tryz.prog && mapsRowed Tryz.prog && Tryz.f3.params.all (Tryz.prog.readableRec ·) && namedTie Tryz.prog Rows.raftKnownRow.named Rows.raftKnownSpec.vars && (Rows.raftKnownRow.stops == []) && (Tryz.prog.stops == []) && (Rows.raftKnownRow.knobs == []) && (Tryz.prog.stopKnobs == [])) = true := by kernel_rfl
end Go.Proofs.YtnlimogbokkfpaaGreat.raft.k
