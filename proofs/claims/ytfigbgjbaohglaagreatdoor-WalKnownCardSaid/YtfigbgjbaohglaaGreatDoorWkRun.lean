/- A closed law run on the fast machine. -/
import Derived.Test.YtfigbgjbaohglaaGreatDoorWkTab
set_option maxRecDepth 100000
namespace Go.Proofs.YtfigbgjbaohglaaGreatDoor.wal
open Go.Ahs
theorem all_ok : fnsX.all (fun p => okF p.2) = true := by kernel_rfl
noncomputable def tree : TF := TF.mk fnsX 8 0 1
end Go.Proofs.YtfigbgjbaohglaaGreatDoor.wal
namespace Go.Proofs.YtfigbgjbaohglaaGreatDoor.wal.k
open Go.Ahs
theorem ap_ok : ∀ f af, tab wal.fnsX f = some af → FnOK Tryz.prog f af := tab_ok wal.fnsX_ok
theorem runs : isTrue (run (tab wal.fnsX) 300 0 6 [] Heap.empty) = true := fast_run (k := 8) (T := wal.tree) rfl wal.all_ok (by kernel_rfl)
end Go.Proofs.YtfigbgjbaohglaaGreatDoor.wal.k
