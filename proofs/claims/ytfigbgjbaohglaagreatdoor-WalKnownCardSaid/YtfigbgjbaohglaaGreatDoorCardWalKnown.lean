/- WalKnown: the tied card. -/
import Derived.Test.YtfigbgjbaohglaaGreatDoorLawWalKnown
import Derived.Test.YtfigbgjbaohglaaGreatDoorCards
import Derived.Test.YtfigbgjbaohglaaGreatDoorTie
import Derived.SevenTiedAt
namespace Go.Proofs.YtfigbgjbaohglaaGreatDoor
open Go
theorem walKnownCard_holds : Rows.WalKnownCardSaid :=
  Claim7.holds_tied_plain_at .later [] [.data, .data, .data, .sentinel, .sentinel] true (true, "6fa8df43e842dfdeeac6111733d1b9b41e5c4950c58394c964b7e835297e4c20") true
    walKnown_holds (fun _ h => by cases h) (by kernel_rfl) (fun _ h => by cases h) walKnown_row_tie rfl ⟨rfl, rfl⟩ (by kernel_rfl) rfl
    (fun f fn hf hfn => by
      obtain rfl : f = 6 := Option.some.inj ((show Tryz.prog.funcNamed Rows.walKnownRow.func = some 6 by kernel_rfl).symm.trans hf) |>.symm
      obtain rfl : fn = Tryz.f6 := (Option.some.inj (Tryz.func6.symm.trans hfn)).symm
      exact ⟨by kernel_rfl, fun j t ht => by
        rw [Tryz.params6] at ht
        simp at ht⟩)
    (by kernel_rfl)
#print axioms walKnownCard_holds
end Go.Proofs.YtfigbgjbaohglaaGreatDoor
