/- What the row of RaftKnown asks of the program itself. -/
import Derived.Test.YtnlimogbokkfpaaGreatRows
import Derived.Test.YtnlimogbokkfpaaGreatChecked
import Derived.KernelRfl
import Derived.JoinedOf
set_option maxRecDepth 100000
namespace Go.Proofs.YtnlimogbokkfpaaGreat.raft.k
open Go.ChangeShapes Go.WideShapes
theorem j_e : (Rows.raftKnownRow.named == Tryz.prog.varsNamed 3) = true := by kernel_rfl
theorem j_s : (Rows.raftKnownRow.lifted == Tryz.prog.liftsFinal) = true := by kernel_rfl
end Go.Proofs.YtnlimogbokkfpaaGreat.raft.k
