/- The table of a closed law. -/
import Derived.Test.YtjflpnahjooffaaDkAp
import Derived.Test.YtjflpnahjooffaaChsF2
import Derived.Test.YtjflpnahjooffaaChsF3
import Derived.Test.YtjflpnahjooffaaChecked
import Derived.Test.YtjflpnahjooffaaDkJoin
set_option maxRecDepth 100000
namespace Go.Proofs.Ytjflpnahjooffaa.disk
open Go.Ahs
def drawnX : List (Nat × AFunc) := [(90, f90), (108, f108), (110, f110), (122, f122)]
def dpX : FuncId → Option AFunc := fun f => drawnX.lookup f
theorem drawnX_ok : DpOK Try.prog dpX := dp_ok (l := drawnX) ⟨⟨c90, by kernel_rfl⟩, ⟨⟨c108, by kernel_rfl⟩, ⟨⟨c110, by kernel_rfl⟩, ⟨⟨c122, by kernel_rfl⟩, trivial⟩⟩⟩⟩
theorem drawn_all : drawnX.all (fun p => okD p.2) = true := by kernel_rfl
theorem fns_all : fns.all (fun p => okF p.2) = true := by kernel_rfl
noncomputable def tree0 : TF := TF.mk fns 8 0 1
noncomputable def fnsX : List (Nat × AFn) := (90, .prim (primK tree0.get dpX 40 90)) :: (83, .prim gJoin) :: fns
theorem fnsX_ok : AllOK Try.prog fnsX := ⟨primK_ok Try.checked.mixed ap_ok drawnX_ok (tree_le 8) (tree_ok 8 fns_all) (okD_tab drawn_all) 40 (f := 90) (af := f90) rfl, ⟨join83, fns_ok⟩⟩
end Go.Proofs.Ytjflpnahjooffaa.disk
