/- The table of a closed law. -/
import Derived.Test.YtbhnnbcdhneolaaGreatStAp
import Derived.Test.YtbhnnbcdhneolaaGreatChsF2
import Derived.Test.YtbhnnbcdhneolaaGreatChsF3
import Derived.Test.YtbhnnbcdhneolaaGreatChecked
import Derived.Test.YtbhnnbcdhneolaaGreatStDel
set_option maxRecDepth 100000
namespace Go.Proofs.YtbhnnbcdhneolaaGreat.state
open Go.Ahs
def drawnX : List (Nat × AFunc) := [(133, f133), (224, f224), (226, f226), (288, f288)]
def dpX : FuncId → Option AFunc := fun f => drawnX.lookup f
theorem drawnX_ok : DpOK Tryz.prog dpX := dp_ok (l := drawnX) ⟨⟨c133, by kernel_rfl⟩, ⟨⟨c224, by kernel_rfl⟩, ⟨⟨c226, by kernel_rfl⟩, ⟨⟨c288, by kernel_rfl⟩, trivial⟩⟩⟩⟩
theorem drawn_all : drawnX.all (fun p => okD p.2) = true := by kernel_rfl
theorem fns_all : fns.all (fun p => okF p.2) = true := by kernel_rfl
noncomputable def tree0 : TF := TF.mk fns 9 0 1
noncomputable def fnsX : List (Nat × AFn) := (133, .prim (primK tree0.get dpX 40 133)) :: (211, .prim g211) :: (212, .prim g212) :: fns
theorem fnsX_ok : AllOK Tryz.prog fnsX := ⟨primK_ok Tryz.checked.mixed ap_ok drawnX_ok (tree_le 9) (tree_ok 9 fns_all) (okD_tab drawn_all) 40 (f := 133) (af := f133) rfl, ⟨many_ok, ⟨del_ok, fns_ok⟩⟩⟩
end Go.Proofs.YtbhnnbcdhneolaaGreat.state
