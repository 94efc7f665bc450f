/- The table of a closed law. -/
import Derived.Test.YtbhnnbcdhneolaaGreatGtAp
import Derived.Test.YtbhnnbcdhneolaaGreatChsF2
import Derived.Test.YtbhnnbcdhneolaaGreatChsF3
import Derived.Test.YtbhnnbcdhneolaaGreatChecked
import Derived.Test.YtbhnnbcdhneolaaGreatGtDel
set_option maxRecDepth 100000
namespace Go.Proofs.YtbhnnbcdhneolaaGreat.gate
open Go.Ahs
def drawnX : List (Nat × AFunc) := [(85, f85), (168, f168), (170, f170), (249, f249)]
def dpX : FuncId → Option AFunc := fun f => drawnX.lookup f
theorem drawnX_ok : DpOK Tryz.prog dpX := dp_ok (l := drawnX) ⟨⟨c85, by kernel_rfl⟩, ⟨⟨c168, by kernel_rfl⟩, ⟨⟨c170, by kernel_rfl⟩, ⟨⟨c249, by kernel_rfl⟩, trivial⟩⟩⟩⟩
theorem drawn_all : drawnX.all (fun p => okD p.2) = true := by kernel_rfl
theorem fns_all : fns.all (fun p => okF p.2) = true := by kernel_rfl
noncomputable def tree0 : TF := TF.mk fns 9 0 1
noncomputable def fnsX : List (Nat × AFn) := (85, .prim (primK tree0.get dpX 40 85)) :: (211, .prim g211) :: (212, .prim g212) :: fns
theorem fnsX_ok : AllOK Tryz.prog fnsX := ⟨primK_ok Tryz.checked.mixed ap_ok drawnX_ok (tree_le 9) (tree_ok 9 fns_all) (okD_tab drawn_all) 40 (f := 85) (af := f85) rfl, ⟨many_ok, ⟨del_ok, fns_ok⟩⟩⟩
end Go.Proofs.YtbhnnbcdhneolaaGreat.gate
