/- What the row of RaftKnown asks of the program itself. -/
import Derived.Test.YtnlimogbokkfpaaGreatRows
import Derived.Test.YtnlimogbokkfpaaGreatChecked
import Derived.KernelRfl
import Derived.JoinedOf
set_option maxRecDepth 100000
namespace Go.Proofs.YtnlimogbokkfpaaGreat.raft.k
open Go.ChangeShapes Go.WideShapes
theorem j_b : (Rows.raftKnownRow.inPlace == Tryz.prog.inPlace 3) = true := by kernel_rfl
theorem j_c : (Rows.raftKnownRow.unfollowed == Tryz.prog.unfollowed 3) = true := by kernel_rfl
theorem j_d : (Rows.raftKnownRow.recurses == Tryz.prog.recurses 3) = true := by kernel_rfl
end Go.Proofs.YtnlimogbokkfpaaGreat.raft.k
