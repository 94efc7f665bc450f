/- The table of a closed law. -/
import Derived.Test.YtnlimogbokkfpaaGreatRkAp
import Derived.Test.YtnlimogbokkfpaaGreatChsF2
import Derived.Test.YtnlimogbokkfpaaGreatRkLevelP
set_option maxRecDepth 100000
namespace Go.Proofs.YtnlimogbokkfpaaGreat.raft
open Go.Ahs
noncomputable def fnsX : List (Nat × AFn) := (121, .prim lv121) :: fns
theorem fnsX_ok : AllOK Tryz.prog fnsX := ⟨lv_ok, fns_ok⟩
end Go.Proofs.YtnlimogbokkfpaaGreat.raft
