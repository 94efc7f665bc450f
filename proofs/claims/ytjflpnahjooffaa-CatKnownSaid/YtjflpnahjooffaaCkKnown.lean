/- CatKnown's run, on the machine that knows what its functions with ranges over maps come to. -/
import Derived.Test.YtjflpnahjooffaaCkKeys
namespace Go.Proofs.Ytjflpnahjooffaa.cat.k
open Go.Ahs
theorem ap_ok : ∀ f af, apX f = some af → FnOK Try.prog f af := over_ok ⟨many_ok, del_ok, keys_ok, trivial⟩ cat.ap_ok
theorem runs : isTrue (run apX 60 0 5 [] Heap.empty) = true := known
end Go.Proofs.Ytjflpnahjooffaa.cat.k
