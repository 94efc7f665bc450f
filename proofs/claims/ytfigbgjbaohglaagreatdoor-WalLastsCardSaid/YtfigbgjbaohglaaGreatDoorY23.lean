/- WalLasts: the tied card. -/
import Derived.Test.YtfigbgjbaohglaaGreatDoorY22
import Derived.Test.YtfigbgjbaohglaaGreatDoorCards
import Derived.Test.YtfigbgjbaohglaaGreatDoorTie
import Derived.SevenTiedAt
namespace Go.Proofs.YtfigbgjbaohglaaGreatDoor
open Go
theorem walLastsCard_holds : Rows.WalLastsCardSaid :=
  Claim7.holds_tied_plain_at .later [] [.data, .data, .data] true (true, "6fa8df43e842dfdeeac6111733d1b9b41e5c4950c58394c964b7e835297e4c20") true
    walLasts_holds (fun _ h => by cases h) (by kernel_rfl) (fun _ h => by cases h) walLasts_row_tie rfl ⟨rfl, rfl⟩ (by kernel_rfl) rfl
    (fun f fn hf hfn => by
      obtain rfl : f = 3 := Option.some.inj ((show Tryz.prog.funcNamed Rows.walLastsRow.func = some 3 by kernel_rfl).symm.trans hf) |>.symm
      obtain rfl : fn = Tryz.f3 := (Option.some.inj (Tryz.func3.symm.trans hfn)).symm
      exact ⟨by kernel_rfl, fun j t ht => by
        rw [Tryz.params3] at ht
        have hm : t ∈ [22, 23, 24, 3, 27] := by simpa using Array.mem_of_getElem? ht
        have hall : ([22, 23, 24, 3, 27].all fun u => !Tryz.prog.wantsStandIn u) = true := by kernel_rfl
        exact (show Tryz.prog.wantsStandIn t = false by simpa using List.all_eq_true.1 hall t hm)⟩)
    (by kernel_rfl)
#print axioms walLastsCard_holds
end Go.Proofs.YtfigbgjbaohglaaGreatDoor
