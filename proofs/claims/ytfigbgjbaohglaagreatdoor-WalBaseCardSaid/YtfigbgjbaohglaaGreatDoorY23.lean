/- WalBase: the tied card. -/
import Derived.Test.YtfigbgjbaohglaaGreatDoorY22
import Derived.Test.YtfigbgjbaohglaaGreatDoorCards
import Derived.Test.YtfigbgjbaohglaaGreatDoorTie
import Derived.SevenTiedAt
namespace Go.Proofs.YtfigbgjbaohglaaGreatDoor
open Go
theorem walBaseCard_holds : Rows.WalBaseCardSaid :=
  Claim7.holds_tied_plain_at .later [] [.data, .data, .data, .sentinel, .sentinel] true (true, "6fa8df43e842dfdeeac6111733d1b9b41e5c4950c58394c964b7e835297e4c20") true
    walBase_holds (fun _ h => by cases h) (by kernel_rfl) (fun _ h => by cases h) walBase_row_tie rfl ⟨rfl, rfl⟩ (by kernel_rfl) rfl
    (fun f fn hf hfn => by
      obtain rfl : f = 7 := Option.some.inj ((show Tryz.prog.funcNamed Rows.walBaseRow.func = some 7 by kernel_rfl).symm.trans hf) |>.symm
      obtain rfl : fn = Tryz.f7 := (Option.some.inj (Tryz.func7.symm.trans hfn)).symm
      exact ⟨by kernel_rfl, fun j t ht => by
        rw [Tryz.params7] at ht
        have hm : t ∈ [22, 23, 5, 27] := by simpa using Array.mem_of_getElem? ht
        have hall : ([22, 23, 5, 27].all fun u => !Tryz.prog.wantsStandIn u) = true := by kernel_rfl
        exact (show Tryz.prog.wantsStandIn t = false by simpa using List.all_eq_true.1 hall t hm)⟩)
    (by kernel_rfl)
#print axioms walBaseCard_holds
end Go.Proofs.YtfigbgjbaohglaaGreatDoor
