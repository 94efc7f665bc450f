/- What the row of WalKnown asks of the program itself. -/
import Derived.Test.YtfigbgjbaohglaaGreatDoorRows
import Derived.Test.YtfigbgjbaohglaaGreatDoorChecked
import Derived.KernelRfl
import Derived.JoinedOf
set_option maxRecDepth 100000
namespace Go.Proofs.YtfigbgjbaohglaaGreatDoor.wal.k
open Go.ChangeShapes Go.WideShapes
theorem j_a : (Rows.walKnownRow.wf (OpenSpec.ofChange Rows.walKnownSpec) && laidOutB Tryz.prog && mapsRowed Tryz.prog && Tryz.f6.params.all (Tryz.prog.readableRec ·) && namedTie Tryz.prog Rows.walKnownRow.named Rows.walKnownSpec.vars && (Rows.walKnownRow.stops == []) && (Tryz.prog.stops == []) && (Rows.walKnownRow.knobs == []) && (Tryz.prog.stopKnobs == [])) = true := by kernel_rfl
theorem j_b : (Rows.walKnownRow.inPlace == Tryz.prog.inPlace 6) = true := by kernel_rfl
theorem j_c : (Rows.walKnownRow.unfollowed == Tryz.prog.unfollowed 6) = true := by kernel_rfl
theorem j_d : (Rows.walKnownRow.recurses == Tryz.prog.recurses 6) = true := by kernel_rfl
end Go.Proofs.YtfigbgjbaohglaaGreatDoor.wal.k
