/- A closed law run on the fast machine. -/
import Derived.Test.YtbhnnbcdhneolaaGreatGtTab
set_option maxRecDepth 100000
namespace Go.Proofs.YtbhnnbcdhneolaaGreat.gate
open Go.Ahs
theorem all_ok : fnsX.all (fun p => okF p.2) = true := by kernel_rfl
noncomputable def tree : TF := TF.mk fnsX 9 0 1
end Go.Proofs.YtbhnnbcdhneolaaGreat.gate
namespace Go.Proofs.YtbhnnbcdhneolaaGreat.gate.k
open Go.Ahs
theorem ap_ok : ∀ f af, tab gate.fnsX f = some af → FnOK Tryz.prog f af := tab_ok gate.fnsX_ok
theorem runs : isTrue (run (tab gate.fnsX) 60 0 9 [] Heap.empty) = true := fast_run (k := 9) (T := gate.tree) rfl gate.all_ok (by kernel_rfl)
end Go.Proofs.YtbhnnbcdhneolaaGreat.gate.k
