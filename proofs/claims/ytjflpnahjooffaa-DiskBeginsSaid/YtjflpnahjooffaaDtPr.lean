/- The table of functions; closed ones by what they are known to return. Printed by genw.py. -/
import Derived.Test.YtjflpnahjooffaaDtAp
import Derived.Test.YtjflpnahjooffaaChecked
set_option maxRecDepth 100000
namespace Go.Proofs.Ytjflpnahjooffaa.disktw
open Go.Ahs
theorem mixed : Try.prog.follows .mixedOrders = true := Try.checked.mixed
def ap : FuncId → Option AFn := over [] ap0
theorem ap_ok : ∀ f af, ap f = some af → FnOK Try.prog f af := over_ok trivial ap0_ok
theorem a56 : ap 56 = some (.code f56) := by kernel_rfl
theorem a79 : ap 79 = some (.code f79) := by kernel_rfl
theorem a100 : ap 100 = some (.code f100) := by kernel_rfl
end Go.Proofs.Ytjflpnahjooffaa.disktw
