/- What the row of WalBase asks of the program itself. -/
import Derived.Test.YtfigbgjbaohglaaGreatDoorRows
import Derived.Test.YtfigbgjbaohglaaGreatDoorChecked
import Derived.KernelRfl
import Derived.JoinedOf
set_option maxRecDepth 100000
namespace Go.Proofs.YtfigbgjbaohglaaGreatDoor.ajr
open Go.ChangeShapes Go.WideShapes
theorem j_f : (Rows.walBaseRow.maps == (Tryz.f7.params.toList ++ Rows.walBaseSpec.plain.varTypes Tryz.prog).any (Tryz.prog.mapsRec ·)) = true := by kernel_rfl
theorem j_g : (Rows.walBaseRow.ifaces == (Tryz.f7.params.toList ++ Rows.walBaseSpec.plain.varTypes Tryz.prog).any (Tryz.prog.ifacesRec ·)) = true := by kernel_rfl
theorem j_h : (Rows.walBaseRow.mapsOut == Tryz.prog.mapsAmong Tryz.f7.resultTypes.toList) = true := by kernel_rfl
theorem j_i : (Rows.walBaseRow.loops == (Tryz.f7.params.toList ++ Rows.walBaseSpec.plain.varTypes Tryz.prog).any (Tryz.prog.loopsFrom ·)) = true := by kernel_rfl
theorem j_j : (Rows.walBaseRow.wideKeys == (Tryz.f7.params.toList ++ Rows.walBaseSpec.plain.varTypes Tryz.prog ++ Tryz.f7.resultTypes.toList).any (Tryz.prog.wideKeysFrom ·)) = true := by kernel_rfl
theorem j_k : Rows.walBaseSpec.vars.all (Tryz.prog.varReadable ·) = true := by kernel_rfl
theorem j_l : Tryz.f7.resultTypes.all (fun t => Tryz.prog.readableRec t && decide (t < Tryz.prog.types.size)) = true := by kernel_rfl
theorem j_m : (Rows.walBaseRow.ifacesOut == Tryz.f7.resultTypes.toList.any (Tryz.prog.ifacesRec ·)) = true := by kernel_rfl
theorem j_n : (Rows.walBaseRow.loopsOut == Tryz.f7.resultTypes.toList.any (Tryz.prog.loopsFrom ·)) = true := by kernel_rfl
theorem j_o : (Rows.walBaseRow.plainKeys == Tryz.prog.plainKeys) = true := by kernel_rfl
theorem j_p : Rows.walBaseRow.shortTexts.isNone = true := by kernel_rfl
theorem j_q : Tryz.prog.stopsHeard = true := by kernel_rfl
theorem j_r : Tryz.prog.mayEnter = true := by kernel_rfl
theorem j_t : (Tryz.prog.make == some Rows.walBaseRow.make) = true := by kernel_rfl
theorem j_u : (Rows.walBaseRow.kinds == (if Rows.walBaseRow.domain.isEmpty then [] else Tryz.f7.params.toList.map fun t => match Tryz.prog.underlying t with | some (.int k) => some k | _ => none)) = true := by kernel_rfl
theorem j_v : (Rows.walBaseRow.pinned == Rows.walBaseRow.pinnedBy) = true := by kernel_rfl
theorem j_w : (Rows.walBaseRow.veiled == (Tryz.f7.params.toList ++ Rows.walBaseSpec.plain.varTypes Tryz.prog ++ Tryz.f7.resultTypes.toList).any (Tryz.prog.veiledRec ·)) = true := by kernel_rfl
theorem j_x : Rows.walBaseRow.veiledFits Tryz.prog Tryz.f7.params.toList (Tryz.f7.params.toList ++ Rows.walBaseSpec.plain.varTypes Tryz.prog ++ Tryz.f7.resultTypes.toList) = true := by kernel_rfl
end Go.Proofs.YtfigbgjbaohglaaGreatDoor.ajr
