import Derived.Test.YtpefhojmfcenfaaLkAp
import Derived.KernelRfl
namespace Go.Proofs.Ytpefhojmfcenfaa.logsKnown0
open Go.Ahs
set_option maxRecDepth 100000 in
theorem runs : isTrue (run ap 40 0 9 [] Heap.empty) = true := by kernel_rfl
end Go.Proofs.Ytpefhojmfcenfaa.logsKnown0
