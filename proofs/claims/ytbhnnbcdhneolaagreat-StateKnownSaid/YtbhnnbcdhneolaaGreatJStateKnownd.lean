/- What the row of StateKnown asks of the program itself. -/
import Derived.Test.YtbhnnbcdhneolaaGreatRows
import Derived.Test.YtbhnnbcdhneolaaGreatChecked
import Derived.KernelRfl
import Derived.JoinedOf
set_option maxRecDepth 100000
namespace Go.Proofs.YtbhnnbcdhneolaaGreat.state.k
open Go.ChangeShapes Go.WideShapes
theorem j_f : (Rows.stateKnownRow.maps == (Tryz.f12.params.toList ++ Rows.stateKnownSpec.plain.varTypes Tryz.prog).any (Tryz.prog.mapsRec ·)) = true := by kernel_rfl
theorem j_g : (Rows.stateKnownRow.ifaces == (Tryz.f12.params.toList ++ Rows.stateKnownSpec.plain.varTypes Tryz.prog).any (Tryz.prog.ifacesRec ·)) = true := by kernel_rfl
theorem j_h : (Rows.stateKnownRow.mapsOut == Tryz.prog.mapsAmong Tryz.f12.resultTypes.toList) = true := by kernel_rfl
theorem j_i : (Rows.stateKnownRow.loops == (Tryz.f12.params.toList ++ Rows.stateKnownSpec.plain.varTypes Tryz.prog).any (Tryz.prog.loopsFrom ·)) = true := by kernel_rfl
theorem j_j : (Rows.stateKnownRow.wideKeys == (Tryz.f12.params.toList ++ Rows.stateKnownSpec.plain.varTypes Tryz.prog ++ Tryz.f12.resultTypes.toList).any (Tryz.prog.wideKeysFrom ·)) = true := by kernel_rfl
theorem j_k : Rows.stateKnownSpec.vars.all (Tryz.prog.varReadable ·) = true := by kernel_rfl
theorem j_l : Tryz.f12.resultTypes.all (fun t => Tryz.prog.readableRec t && decide (t < Tryz.prog.types.size)) = true := by kernel_rfl
theorem j_m : (Rows.stateKnownRow.ifacesOut == Tryz.f12.resultTypes.toList.any (Tryz.prog.ifacesRec ·)) = true := by kernel_rfl
theorem j_n : (Rows.stateKnownRow.loopsOut == Tryz.f12.resultTypes.toList.any (Tryz.prog.loopsFrom ·)) = true := by kernel_rfl
theorem j_o : (Rows.stateKnownRow.plainKeys == Tryz.prog.plainKeys) = true := by kernel_rfl
theorem j_p : Rows.stateKnownRow.shortTexts.isNone = true := by kernel_rfl
theorem j_q : Tryz.prog.stopsHeard = true := by kernel_rfl
theorem j_r : Tryz.prog.mayEnter = true := by kernel_rfl
theorem j_t : (Tryz.prog.make == some Rows.stateKnownRow.make) = true := by kernel_rfl
theorem j_u : (Rows.stateKnownRow.kinds == (if Rows.stateKnownRow.domain.isEmpty then [] else Tryz.f12.params.toList.map fun t => match Tryz.prog.underlying t with | some (.int k) => some k | _ => none)) = true := by kernel_rfl
theorem j_v : (Rows.stateKnownRow.pinned == Rows.stateKnownRow.pinnedBy) = true := by kernel_rfl
theorem j_w : (Rows.stateKnownRow.veiled == (Tryz.f12.params.toList ++ Rows.stateKnownSpec.plain.varTypes Tryz.prog ++ Tryz.f12.resultTypes.toList).any (Tryz.prog.veiledRec ·)) = true := by kernel_rfl
theorem j_x : Rows.stateKnownRow.veiledFits Tryz.prog Tryz.f12.params.toList (Tryz.f12.params.toList ++ Rows.stateKnownSpec.plain.varTypes Tryz.prog ++ Tryz.f12.resultTypes.toList) = true := by kernel_rfl
end Go.Proofs.YtbhnnbcdhneolaaGreat.state.k
