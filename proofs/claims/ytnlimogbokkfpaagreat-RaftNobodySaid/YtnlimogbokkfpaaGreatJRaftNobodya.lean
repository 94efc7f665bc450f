/- What the row of RaftNobody asks of the program itself. -/
import Derived.Test.YtnlimogbokkfpaaGreatRows
import Derived.Test.YtnlimogbokkfpaaGreatChecked
import Derived.KernelRfl
import Derived.JoinedOf
set_option maxRecDepth 100000
namespace Go.Proofs.YtnlimogbokkfpaaGreat.raftNobody
open Go.ChangeShapes Go.WideShapes
theorem j_a : (Rows.raftNobodyRow.wf (OpenSpec.ofChange Rows.raftNobodySpec) && laidOutB Tryz.prog && mapsRowed Tryz.prog && Tryz.f8.params.all (Tryz.prog.readableRec ·) && namedTie Tryz.prog Rows.raftNobodyRow.named Rows.raftNobodySpec.vars && (Rows.raftNobodyRow.stops == []) && (Tryz.prog.stops == []) && (Rows.raftNobodyRow.knobs == []) && (Tryz.prog.stopKnobs == [])) = true := by kernel_rfl
theorem j_b : (Rows.raftNobodyRow.inPlace == Tryz.prog.inPlace 8) = true := by kernel_rfl
theorem j_c : (Rows.raftNobodyRow.unfollowed == Tryz.prog.unfollowed 8) = true := by kernel_rfl
theorem j_d : (Rows.raftNobodyRow.recurses == Tryz.prog.recurses 8) = true := by kernel_rfl
theorem j_e : (Rows.raftNobodyRow.named == Tryz.prog.varsNamed 8) = true := by kernel_rfl
theorem j_s : (Rows.raftNobodyRow.lifted == Tryz.prog.liftsFinal) = true := by kernel_rfl
theorem j_f : (Rows.raftNobodyRow.maps == (Tryz.f8.params.toList ++ Rows.raftNobodySpec.plain.varTypes Tryz.prog).any (Tryz.prog.mapsRec ·)) = true := by kernel_rfl
theorem j_g : (Rows.raftNobodyRow.ifaces == (Tryz.f8.params.toList ++ Rows.raftNobodySpec.plain.varTypes Tryz.prog).any (Tryz.prog.ifacesRec ·)) = true := by kernel_rfl
theorem j_h : (Rows.raftNobodyRow.mapsOut == Tryz.prog.mapsAmong Tryz.f8.resultTypes.toList) = true := by kernel_rfl
theorem j_i : (Rows.raftNobodyRow.loops == (Tryz.f8.params.toList ++ Rows.raftNobodySpec.plain.varTypes Tryz.prog).any (Tryz.prog.loopsFrom ·)) = true := by kernel_rfl
theorem j_j : (Rows.raftNobodyRow.wideKeys == (Tryz.f8.params.toList ++ Rows.raftNobodySpec.plain.varTypes Tryz.prog ++ Tryz.f8.resultTypes.toList).any (Tryz.prog.wideKeysFrom ·)) = true := by kernel_rfl
theorem j_k : Rows.raftNobodySpec.vars.all (Tryz.prog.varReadable ·) = true := by kernel_rfl
theorem j_l : Tryz.f8.resultTypes.all (fun t => Tryz.prog.readableRec t && decide (t < Tryz.prog.types.size)) = true := by kernel_rfl
theorem j_m : (Rows.raftNobodyRow.ifacesOut == Tryz.f8.resultTypes.toList.any (Tryz.prog.ifacesRec ·)) = true := by kernel_rfl
theorem j_n : (Rows.raftNobodyRow.loopsOut == Tryz.f8.resultTypes.toList.any (Tryz.prog.loopsFrom ·)) = true := by kernel_rfl
theorem j_o : (Rows.raftNobodyRow.plainKeys == Tryz.prog.plainKeys) = true := by kernel_rfl
theorem j_p : Rows.raftNobodyRow.shortTexts.isNone = true := by kernel_rfl
theorem j_q : Tryz.prog.stopsHeard = true := by kernel_rfl
theorem j_r : Tryz.prog.mayEnter = true := by kernel_rfl
theorem j_t : (Tryz.prog.make == some Rows.raftNobodyRow.make) = true := by kernel_rfl
theorem j_u : (Rows.raftNobodyRow.kinds == (if Rows.raftNobodyRow.domain.isEmpty then [] else Tryz.f8.params.toList.map fun t => match Tryz.prog.underlying t with | some (.int k) => some k | _ => none)) = true := by kernel_rfl
theorem j_v : (Rows.raftNobodyRow.pinned == Rows.raftNobodyRow.pinnedBy) = true := by kernel_rfl
theorem j_w : (Rows.raftNobodyRow.veiled == (Tryz.f8.params.toList ++ Rows.raftNobodySpec.plain.varTypes Tryz.prog ++ Tryz.f8.resultTypes.toList).any (Tryz.prog.veiledRec ·)) = true := by kernel_rfl
theorem j_x : Rows.raftNobodyRow.veiledFits Tryz.prog Tryz.f8.params.toList (Tryz.f8.params.toList ++ Rows.raftNobodySpec.plain.varTypes Tryz.prog ++ Tryz.f8.resultTypes.toList) = true := by kernel_rfl
end Go.Proofs.YtnlimogbokkfpaaGreat.raftNobody
