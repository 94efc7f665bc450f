/- WalCounts: the tied card. -/
import Derived.Test.YtfigbgjbaohglaaGreatDoorY22
import Derived.Test.YtfigbgjbaohglaaGreatDoorCards
import Derived.Test.YtfigbgjbaohglaaGreatDoorTie
import Derived.SevenTiedAt
namespace Go.Proofs.YtfigbgjbaohglaaGreatDoor
open Go
theorem walCountsCard_holds : Rows.WalCountsCardSaid :=
  Claim7.holds_tied_plain_at .later [] [.data, .data, .data] true (true, "6fa8df43e842dfdeeac6111733d1b9b41e5c4950c58394c964b7e835297e4c20") true
    walCounts_holds (fun _ h => by cases h) (by kernel_rfl) (fun _ h => by cases h) walCounts_row_tie rfl ⟨rfl, rfl⟩ (by kernel_rfl) rfl
    (fun f fn hf hfn => by
      obtain rfl : f = 4 := Option.some.inj ((show Tryz.prog.funcNamed Rows.walCountsRow.func = some 4 by kernel_rfl).symm.trans hf) |>.symm
      obtain rfl : fn = Tryz.f4 := (Option.some.inj (Tryz.func4.symm.trans hfn)).symm
      exact ⟨by kernel_rfl, fun j t ht => by
        rw [Tryz.params4] at ht
        have hm : t ∈ [23, 50, 5, 27] := by simpa using Array.mem_of_getElem? ht
        have hall : ([23, 50, 5, 27].all fun u => !Tryz.prog.wantsStandIn u) = true := by kernel_rfl
        exact (show Tryz.prog.wantsStandIn t = false by simpa using List.all_eq_true.1 hall t hm)⟩)
    (by kernel_rfl)
#print axioms walCountsCard_holds
end Go.Proofs.YtfigbgjbaohglaaGreatDoor
