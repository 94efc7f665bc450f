/- WalKnown: the closed statement returns true, in whatever memory and whatever the tape: the run of its functions on the abstract machine. No condition. -/
import Derived.Test.YtfigbgjbaohglaaGreatDoorJWalKnowna
import Derived.Test.YtfigbgjbaohglaaGreatDoorJWalKnownb
import Derived.Test.YtfigbgjbaohglaaGreatDoorRows
import Derived.Test.YtfigbgjbaohglaaGreatDoorWkRun
import Derived.WalkKit
import Derived.ProofKit
import Derived.OpenShut
import Derived.ShutString
import Derived.ChangeOld
import Derived.Below
import Derived.SizedLaws
import Derived.LaidMore
import Derived.Stop.Joined
namespace Go.Proofs.YtfigbgjbaohglaaGreatDoor.wal.k
open Go.ChangeShapes Go.WideShapes Go.ChangeAt Go.RowKit Go.Ahs
set_option linter.unusedVariables false
theorem own : ownKnob Tryz.prog.godebug = none := by kernel_rfl
theorem door_met (os : Os) (args : Array Value) : laidMetH Tryz.prog Rows.walKnownRow.laid ((World.doorLaid Tryz.prog 4000 os).forCall (fun _ _ => 0) ⟨#[], args, []⟩).memory :=
  laidMetH_of_parts3 (fuel := 8) (laidMet_of_run' 8 (by kernel_rfl) (by kernel_rfl)) (by kernel_rfl) (by kernel_rfl)
set_option maxRecDepth 100000 in
theorem lifted (os : Os) (started : os.Started) (H : Type) (enc : TypeId × Value → H) :
    ReturnsInHanded {} Tryz.checked os 6 .any (fun w args => (Rows.walKnownSpec.pre enc Tryz.prog Tryz.f6 Rows.walKnownRow.domain false w args ∧ laidMetH Tryz.prog Rows.walKnownRow.laid w) ∧ sizedMet enc Tryz.prog Tryz.f6 (OpenSpec.ofChange Rows.walKnownSpec) false w args) (Rows.walKnownSpec.post enc Tryz.prog Tryz.f6 false true false false) := by
  refine returnsInHanded_of_change_and (C := Tryz.checked) (X := fun w _ => laidMetH Tryz.prog Rows.walKnownRow.laid w) (fun _ _ _ hh h => h.of_heap hh) own started (by kernel_rfl) Tryz.func6
    (ChangeSpec.witness_shaped (enc := enc) (C := Tryz.checked) (os := os) (X := fun w _ => laidMetH Tryz.prog Rows.walKnownRow.laid w) false (World.doorLaid Tryz.prog 4000 os) #[] 8 rfl (World.shaped_of_RefB (by kernel_rfl) (by kernel_rfl)) (by kernel_rfl) (by kernel_rfl) (by kernel_rfl) (door_met os _)) ?_
  intro W base args ds gs before hval0 hW hcnd hsz0 hL _
  have hW' := hW
  obtain ⟨p, q, hA0, hV, rfl, hfz, hnd⟩ := hW
  have hA : DataW.TrodAll enc Tryz.prog W 0 (fun _ => true) true Tryz.f6.params.toList args.toList ds p := hA0
  rw [Tryz.params6] at hA
  obtain ⟨hargs, rfl, rfl⟩ := trodAll_none hA
  obtain rfl : args = #[] := by cases args; simp_all
  obtain ⟨rfl, rfl⟩ := trodVars_none hV
  refine (calls_closed (P := Tryz.prog) Tryz.checked.mixed ap_ok runs W).mono fun e W' ⟨he, bel⟩ => ?_
  subst he
  exact ⟨_, rfl, _, _, _, [], _, [], hW', trodAll_mk1 (shut_bool Tryz.underlying4 _), trodAll_mk0, rfl, bel.frame _, fun h => by cases h⟩
theorem closedJ : joinedFacts Tryz.prog 6 Tryz.f6 Rows.walKnownSpec Rows.walKnownRow = true := by
  unfold joinedFacts
  rw [j_a]
  simp only [Bool.true_and, Bool.and_true, j_b, j_c, j_d, j_e, j_f, j_g, j_h, j_i, j_j, j_k, j_l, j_m, j_n, j_o, j_p, j_q, j_r, j_s, j_t, j_v, j_w, j_x]
  kernel_rfl
theorem named : Tryz.prog.funcNamed Rows.walKnownRow.func = some 6 := by kernel_rfl
theorem over : Rows.walKnownRow.holds Tryz.pinned (OpenSpec.ofChange Rows.walKnownSpec) :=
  OpenClaim.holds_of_wide 6 Tryz.f6 rfl rfl rfl rfl rfl rfl rfl ⟨rfl, rfl, rfl, rfl, rfl⟩ rfl rfl rfl rfl rfl named Tryz.func6 closedJ
    (of_decide_eq_true (by kernel_rfl)) (by unfold Func.isWrapper; first | (rw [if_pos (by decide +kernel)]; kernel_rfl) | (rw [if_neg (by decide +kernel)]; exact ⟨rfl, rfl⟩))
    (fun os started H enc _ => lifted os started H enc)
end Go.Proofs.YtfigbgjbaohglaaGreatDoor.wal.k
namespace Go.Proofs.YtfigbgjbaohglaaGreatDoor
theorem walKnown_holds : Rows.WalKnownSaid := wal.k.over
end Go.Proofs.YtfigbgjbaohglaaGreatDoor
