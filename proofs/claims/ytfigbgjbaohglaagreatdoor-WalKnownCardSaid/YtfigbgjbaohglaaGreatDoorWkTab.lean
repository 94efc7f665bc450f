/- The table of a closed law. -/
import Derived.Test.YtfigbgjbaohglaaGreatDoorWkAp
import Derived.Test.YtfigbgjbaohglaaGreatDoorChsF2
import Derived.Test.YtfigbgjbaohglaaGreatDoorChsF3
import Derived.Test.YtfigbgjbaohglaaGreatDoorChecked
import Derived.Test.YtfigbgjbaohglaaGreatDoorWkLib
set_option maxRecDepth 100000
namespace Go.Proofs.YtfigbgjbaohglaaGreatDoor.wal
open Go.Ahs
def drawnX : List (Nat × AFunc) := [(112, f112), (157, f157), (159, f159), (203, f203)]
def dpX : FuncId → Option AFunc := fun f => drawnX.lookup f
theorem drawnX_ok : DpOK Tryz.prog dpX := dp_ok (l := drawnX) ⟨⟨c112, by kernel_rfl⟩, ⟨⟨c157, by kernel_rfl⟩, ⟨⟨c159, by kernel_rfl⟩, ⟨⟨c203, by kernel_rfl⟩, trivial⟩⟩⟩⟩
theorem drawn_all : drawnX.all (fun p => okD p.2) = true := by kernel_rfl
theorem fns_all : fns.all (fun p => okF p.2) = true := by kernel_rfl
noncomputable def tree0 : TF := TF.mk fns 8 0 1
noncomputable def fnsX : List (Nat × AFn) := (112, .prim (primK tree0.get dpX 40 112)) :: (81, .prim gRepeat) :: (84, .prim gJoin) :: fns
theorem fnsX_ok : AllOK Tryz.prog fnsX := ⟨primK_ok Tryz.checked.mixed ap_ok drawnX_ok (tree_le 8) (tree_ok 8 fns_all) (okD_tab drawn_all) 40 (f := 112) (af := f112) rfl, ⟨rep81, ⟨join84, fns_ok⟩⟩⟩
end Go.Proofs.YtfigbgjbaohglaaGreatDoor.wal
