/- A closed law run on the fast machine. -/
import Derived.Test.YtnlimogbokkfpaaGreatRkTab
set_option maxRecDepth 100000
namespace Go.Proofs.YtnlimogbokkfpaaGreat.raft
open Go.Ahs
theorem all_ok : fnsX.all (fun p => okF p.2) = true := by kernel_rfl
noncomputable def tree : TF := TF.mk fnsX 8 0 1
end Go.Proofs.YtnlimogbokkfpaaGreat.raft
namespace Go.Proofs.YtnlimogbokkfpaaGreat.raft.k
open Go.Ahs
theorem ap_ok : ∀ f af, tab raft.fnsX f = some af → FnOK Tryz.prog f af := tab_ok raft.fnsX_ok
theorem runs : isTrue (run (tab raft.fnsX) 60 0 3 [] Heap.empty) = true := fast_run (k := 8) (T := raft.tree) rfl raft.all_ok (by kernel_rfl)
end Go.Proofs.YtnlimogbokkfpaaGreat.raft.k
