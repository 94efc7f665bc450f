/- What the row of GateKnown asks of the program itself. -/
import Derived.Test.YtbhnnbcdhneolaaGreatRows
import Derived.Test.YtbhnnbcdhneolaaGreatChecked
import Derived.KernelRfl
import Derived.JoinedOf
set_option maxRecDepth 100000
namespace Go.Proofs.YtbhnnbcdhneolaaGreat.gate.k
open Go.ChangeShapes Go.WideShapes
theorem j_f : (Rows.gateKnownRow.maps == (Tryz.f9.params.toList ++ Rows.gateKnownSpec.plain.varTypes Tryz.prog).any (Tryz.prog.mapsRec ·)) = true := by kernel_rfl
theorem j_g : (Rows.gateKnownRow.ifaces == (Tryz.f9.params.toList ++ Rows.gateKnownSpec.plain.varTypes Tryz.prog).any (Tryz.prog.ifacesRec ·)) = true := by kernel_rfl
theorem j_h : (Rows.gateKnownRow.mapsOut == Tryz.prog.mapsAmong Tryz.f9.resultTypes.toList) = true := by kernel_rfl
theorem j_i : (Rows.gateKnownRow.loops == (Tryz.f9.params.toList ++ Rows.gateKnownSpec.plain.varTypes Tryz.prog).any (Tryz.prog.loopsFrom ·)) = true := by kernel_rfl
theorem j_j : (Rows.gateKnownRow.wideKeys == (Tryz.f9.params.toList ++ Rows.gateKnownSpec.plain.varTypes Tryz.prog ++ Tryz.f9.resultTypes.toList).any (Tryz.prog.wideKeysFrom ·)) = true := by kernel_rfl
theorem j_k : Rows.gateKnownSpec.vars.all (Tryz.prog.varReadable ·) = true := by kernel_rfl
theorem j_l : Tryz.f9.resultTypes.all (fun t => Tryz.prog.readableRec t && decide (t < Tryz.prog.types.size)) = true := by kernel_rfl
theorem j_m : (Rows.gateKnownRow.ifacesOut == Tryz.f9.resultTypes.toList.any (Tryz.prog.ifacesRec ·)) = true := by kernel_rfl
theorem j_n : (Rows.gateKnownRow.loopsOut == Tryz.f9.resultTypes.toList.any (Tryz.prog.loopsFrom ·)) = true := by kernel_rfl
theorem j_o : (Rows.gateKnownRow.plainKeys == Tryz.prog.plainKeys) = true := by kernel_rfl
theorem j_p : Rows.gateKnownRow.shortTexts.isNone = true := by kernel_rfl
theorem j_q : Tryz.prog.stopsHeard = true := by kernel_rfl
theorem j_r : Tryz.prog.mayEnter = true := by kernel_rfl
theorem j_t : (Tryz.prog.make == some Rows.gateKnownRow.make) = true := by kernel_rfl
theorem j_u : (Rows.gateKnownRow.kinds == (if Rows.gateKnownRow.domain.isEmpty then [] else Tryz.f9.params.toList.map fun t => match Tryz.prog.underlying t with | some (.int k) => some k | _ => none)) = true := by kernel_rfl
theorem j_v : (Rows.gateKnownRow.pinned == Rows.gateKnownRow.pinnedBy) = true := by kernel_rfl
theorem j_w : (Rows.gateKnownRow.veiled == (Tryz.f9.params.toList ++ Rows.gateKnownSpec.plain.varTypes Tryz.prog ++ Tryz.f9.resultTypes.toList).any (Tryz.prog.veiledRec ·)) = true := by kernel_rfl
theorem j_x : Rows.gateKnownRow.veiledFits Tryz.prog Tryz.f9.params.toList (Tryz.f9.params.toList ++ Rows.gateKnownSpec.plain.varTypes Tryz.prog ++ Tryz.f9.resultTypes.toList) = true := by kernel_rfl
end Go.Proofs.YtbhnnbcdhneolaaGreat.gate.k
