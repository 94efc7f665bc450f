/- A closed law run on the fast machine. -/
import Derived.Test.YtbhnnbcdhneolaaGreatStTab
set_option maxRecDepth 100000
namespace Go.Proofs.YtbhnnbcdhneolaaGreat.state
open Go.Ahs
theorem all_ok : fnsX.all (fun p => okF p.2) = true := by kernel_rfl
noncomputable def tree : TF := TF.mk fnsX 9 0 1
end Go.Proofs.YtbhnnbcdhneolaaGreat.state
namespace Go.Proofs.YtbhnnbcdhneolaaGreat.state.k
open Go.Ahs
theorem ap_ok : ∀ f af, tab state.fnsX f = some af → FnOK Tryz.prog f af := tab_ok state.fnsX_ok
theorem runs : isTrue (run (tab state.fnsX) 60 0 12 [] Heap.empty) = true := fast_run (k := 9) (T := state.tree) rfl state.all_ok (by kernel_rfl)
end Go.Proofs.YtbhnnbcdhneolaaGreat.state.k
