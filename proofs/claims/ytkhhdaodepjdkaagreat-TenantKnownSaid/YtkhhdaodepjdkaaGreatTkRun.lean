/- TenantKnown's run on the abstract machine. -/
import Derived.Test.YtkhhdaodepjdkaaGreatTkAp
import Derived.Test.YtkhhdaodepjdkaaGreatChsF2
set_option maxRecDepth 100000
namespace Go.Proofs.YtkhhdaodepjdkaaGreat.tenant
open Go.Ahs
theorem all_ok : fns.all (fun p => okF p.2) = true := by kernel_rfl
noncomputable def tree : TF := TF.mk fns 8 0 1
theorem runs : isTrue (run ap 60 0 8 [] Heap.empty) = true := fast_run (k := 8) (T := tree) rfl all_ok (by kernel_rfl)
end Go.Proofs.YtkhhdaodepjdkaaGreat.tenant
