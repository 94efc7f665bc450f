/- What the row of WalLasts asks of the program itself. -/
import Derived.Test.YtfigbgjbaohglaaGreatDoorRows
import Derived.Test.YtfigbgjbaohglaaGreatDoorChecked
import Derived.KernelRfl
import Derived.JoinedOf
set_option maxRecDepth 100000
namespace Go.Proofs.YtfigbgjbaohglaaGreatDoor.ahk
open Go.ChangeShapes Go.WideShapes
theorem j_f : (Rows.walLastsRow.maps == (Tryz.f3.params.toList ++ Rows.walLastsSpec.plain.varTypes Tryz.prog).any (Tryz.prog.mapsRec ·)) = true := by kernel_rfl
theorem j_g : (Rows.walLastsRow.ifaces == (Tryz.f3.params.toList ++ Rows.walLastsSpec.plain.varTypes Tryz.prog).any (Tryz.prog.ifacesRec ·)) = true := by kernel_rfl
theorem j_h : (Rows.walLastsRow.mapsOut == Tryz.prog.mapsAmong Tryz.f3.resultTypes.toList) = true := by kernel_rfl
theorem j_i : (Rows.walLastsRow.loops == (Tryz.f3.params.toList ++ Rows.walLastsSpec.plain.varTypes Tryz.prog).any (Tryz.prog.loopsFrom ·)) = true := by kernel_rfl
theorem j_j : (Rows.walLastsRow.wideKeys == (Tryz.f3.params.toList ++ Rows.walLastsSpec.plain.varTypes Tryz.prog ++ Tryz.f3.resultTypes.toList).any (Tryz.prog.wideKeysFrom ·)) = true := by kernel_rfl
theorem j_k : Rows.walLastsSpec.vars.all (Tryz.prog.varReadable ·) = true := by kernel_rfl
theorem j_l : Tryz.f3.resultTypes.all (fun t => Tryz.prog.readableRec t && decide (t < Tryz.prog.types.size)) = true := by kernel_rfl
theorem j_m : (Rows.walLastsRow.ifacesOut == Tryz.f3.resultTypes.toList.any (Tryz.prog.ifacesRec ·)) = true := by kernel_rfl
theorem j_n : (Rows.walLastsRow.loopsOut == Tryz.f3.resultTypes.toList.any (Tryz.prog.loopsFrom ·)) = true := by kernel_rfl
theorem j_o : (Rows.walLastsRow.plainKeys == Tryz.prog.plainKeys) = true := by kernel_rfl
theorem j_p : Rows.walLastsRow.shortTexts.isNone = true := by kernel_rfl
theorem j_q : Tryz.prog.stopsHeard = true := by kernel_rfl
theorem j_r : Tryz.prog.mayEnter = true := by kernel_rfl
theorem j_t : (Tryz.prog.make == some Rows.walLastsRow.make) = true := by kernel_rfl
theorem j_u : (Rows.walLastsRow.kinds == (if Rows.walLastsRow.domain.isEmpty then [] else Tryz.f3.params.toList.map fun t => match Tryz.prog.underlying t with | some (.int k) => some k | _ => none)) = true := by kernel_rfl
theorem j_v : (Rows.walLastsRow.pinned == Rows.walLastsRow.pinnedBy) = true := by kernel_rfl
theorem j_w : (Rows.walLastsRow.veiled == (Tryz.f3.params.toList ++ Rows.walLastsSpec.plain.varTypes Tryz.prog ++ Tryz.f3.resultTypes.toList).any (Tryz.prog.veiledRec ·)) = true := by kernel_rfl
theorem j_x : Rows.walLastsRow.veiledFits Tryz.prog Tryz.f3.params.toList (Tryz.f3.params.toList ++ Rows.walLastsSpec.plain.varTypes Tryz.prog ++ Tryz.f3.resultTypes.toList) = true := by kernel_rfl
end Go.Proofs.YtfigbgjbaohglaaGreatDoor.ahk
