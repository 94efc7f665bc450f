/- A closed law run on the fast machine. -/
import Derived.Test.YtjflpnahjooffaaDkTab
set_option maxRecDepth 100000
namespace Go.Proofs.Ytjflpnahjooffaa.disk
open Go.Ahs
theorem all_ok : fnsX.all (fun p => okF p.2) = true := by kernel_rfl
noncomputable def tree : TF := TF.mk fnsX 8 0 1
end Go.Proofs.Ytjflpnahjooffaa.disk
namespace Go.Proofs.Ytjflpnahjooffaa.disk.k
open Go.Ahs
theorem ap_ok : ∀ f af, tab disk.fnsX f = some af → FnOK Try.prog f af := tab_ok disk.fnsX_ok
theorem runs : isTrue (run (tab disk.fnsX) 60 0 9 [] Heap.empty) = true := fast_run (k := 8) (T := disk.tree) rfl disk.all_ok (by kernel_rfl)
end Go.Proofs.Ytjflpnahjooffaa.disk.k
