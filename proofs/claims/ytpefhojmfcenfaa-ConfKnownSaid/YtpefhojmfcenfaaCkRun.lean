/- ConfKnown's run on the abstract machine answers true. -/
import Derived.Test.YtpefhojmfcenfaaCkAp
set_option maxRecDepth 100000
namespace Go.Proofs.Ytpefhojmfcenfaa.ck
open Go.Ahs
theorem runs : isTrue (run ap 40 0 13 [] Heap.empty) = true := by kernel_rfl
end Go.Proofs.Ytpefhojmfcenfaa.ck
