/- GateKnown: the closed statement returns true, in whatever memory and whatever the tape: the run of its functions on the abstract machine. No condition. -/
import Derived.Test.YtbhnnbcdhneolaaGreatJGateKnowna
import Derived.Test.YtbhnnbcdhneolaaGreatJGateKnownb
import Derived.Test.YtbhnnbcdhneolaaGreatJGateKnownc
import Derived.Test.YtbhnnbcdhneolaaGreatJGateKnownd
import Derived.Test.YtbhnnbcdhneolaaGreatRows
import Derived.Test.YtbhnnbcdhneolaaGreatGtRun
import Derived.WalkKit
import Derived.ProofKit
import Derived.OpenShut
import Derived.ShutString
import Derived.ChangeOld
import Derived.Below
import Derived.SizedLaws
namespace Go.Proofs.YtbhnnbcdhneolaaGreat.gate.k
open Go.ChangeShapes Go.WideShapes Go.ChangeAt Go.RowKit Go.Ahs
set_option linter.unusedVariables false
theorem own : ownKnob Tryz.prog.godebug = none := by kernel_rfl
set_option maxRecDepth 100000 in
theorem lifted (os : Os) (started : os.Started) (H : Type) (enc : TypeId × Value → H) :
    ReturnsInHanded {} Tryz.checked os 9 .any (Rows.gateKnownSpec.pre6 enc Tryz.prog Tryz.f9 Rows.gateKnownRow.domain false) (Rows.gateKnownSpec.post enc Tryz.prog Tryz.f9 false true false false) := by
  refine returnsInHanded_of_change_sized (C := Tryz.checked) own started (by kernel_rfl) Tryz.func9
    (ChangeSpec.witness6 (enc := enc) (C := Tryz.checked) false ⟨#[], #[], []⟩ 8 (by kernel_rfl) (by kernel_rfl) (by kernel_rfl) (by kernel_rfl)) ?_
  intro W base args ds gs before hval0 hW hcnd hsz0 _
  have hW' := hW
  obtain ⟨p, q, hA0, hV, rfl, hfz, hnd⟩ := hW
  have hA : DataW.TrodAll enc Tryz.prog W 0 (fun _ => true) true Tryz.f9.params.toList args.toList ds p := hA0
  rw [Tryz.params9] at hA
  obtain ⟨hargs, rfl, rfl⟩ := trodAll_none hA
  obtain rfl : args = #[] := by cases args; simp_all
  obtain ⟨rfl, rfl⟩ := trodVars_none hV
  refine (calls_closed (P := Tryz.prog) Tryz.checked.mixed ap_ok runs W).mono fun e W' ⟨he, bel⟩ => ?_
  subst he
  exact ⟨_, rfl, _, _, _, [], _, [], hW', trodAll_mk1 (shut_bool Tryz.underlying4 _), trodAll_mk0, rfl, bel.frame _, fun h => by cases h⟩
theorem closedJ : joinedFacts Tryz.prog 9 Tryz.f9 Rows.gateKnownSpec Rows.gateKnownRow = true := by
  unfold joinedFacts
  rw [j_a]
  simp only [Bool.true_and, Bool.and_true, j_b, j_c, j_d, j_e, j_f, j_g, j_h, j_i, j_j, j_k, j_l, j_m, j_n, j_o, j_p, j_q, j_r, j_s, j_t, j_v, j_w, j_x]
  kernel_rfl
theorem named : Tryz.prog.funcNamed Rows.gateKnownRow.func = some 9 := by kernel_rfl
theorem over : Rows.gateKnownRow.holds Tryz.pinned (OpenSpec.ofChange Rows.gateKnownSpec) :=
  OpenClaim.holds_of_wide 9 Tryz.f9 rfl rfl rfl rfl rfl rfl rfl ⟨rfl, rfl, rfl, rfl, rfl⟩ rfl rfl rfl rfl rfl named Tryz.func9 closedJ
    (of_decide_eq_true (by kernel_rfl)) (by unfold Func.isWrapper; first | (rw [if_pos (by decide +kernel)]; kernel_rfl) | (rw [if_neg (by decide +kernel)]; exact ⟨rfl, rfl⟩))
    (fun os started H enc _ => lifted os started H enc)
end Go.Proofs.YtbhnnbcdhneolaaGreat.gate.k
namespace Go.Proofs.YtbhnnbcdhneolaaGreat
theorem gateKnown_holds : Rows.GateKnownSaid := gate.k.over
end Go.Proofs.YtbhnnbcdhneolaaGreat
