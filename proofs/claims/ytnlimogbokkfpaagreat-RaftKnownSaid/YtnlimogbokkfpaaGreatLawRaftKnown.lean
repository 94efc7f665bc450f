/- RaftKnown: the closed statement returns true, in whatever memory and whatever the tape: the run of its functions on the abstract machine. No condition. -/
import Derived.Test.YtnlimogbokkfpaaGreatJRaftKnowna
import Derived.Test.YtnlimogbokkfpaaGreatJRaftKnownb
import Derived.Test.YtnlimogbokkfpaaGreatJRaftKnownc
import Derived.Test.YtnlimogbokkfpaaGreatJRaftKnownd
import Derived.Test.YtnlimogbokkfpaaGreatRows
import Derived.Test.YtnlimogbokkfpaaGreatRkRun
import Derived.WalkKit
import Derived.ProofKit
import Derived.OpenShut
import Derived.ShutString
import Derived.ChangeOld
import Derived.Below
import Derived.SizedLaws
namespace Go.Proofs.YtnlimogbokkfpaaGreat.raft.k
open Go.ChangeShapes Go.WideShapes Go.ChangeAt Go.RowKit Go.Ahs
set_option linter.unusedVariables false
theorem own : ownKnob Tryz.prog.godebug = none := by kernel_rfl
set_option maxRecDepth 100000 in
theorem lifted (os : Os) (started : os.Started) (H : Type) (enc : TypeId × Value → H) :
    ReturnsInHanded {} Tryz.checked os 3 .any (Rows.raftKnownSpec.pre6 enc Tryz.prog Tryz.f3 Rows.raftKnownRow.domain false) (Rows.raftKnownSpec.post enc Tryz.prog Tryz.f3 false true false false) := by
  refine returnsInHanded_of_change_sized (C := Tryz.checked) own started (by kernel_rfl) Tryz.func3
    (ChangeSpec.witness6 (enc := enc) (C := Tryz.checked) false ⟨#[], #[], []⟩ 8 (by kernel_rfl) (by kernel_rfl) (by kernel_rfl) (by kernel_rfl)) ?_
  intro W base args ds gs before hval0 hW hcnd hsz0 _
  have hW' := hW
  obtain ⟨p, q, hA0, hV, rfl, hfz, hnd⟩ := hW
  have hA : DataW.TrodAll enc Tryz.prog W 0 (fun _ => true) true Tryz.f3.params.toList args.toList ds p := hA0
  rw [Tryz.params3] at hA
  obtain ⟨hargs, rfl, rfl⟩ := trodAll_none hA
  obtain rfl : args = #[] := by cases args; simp_all
  obtain ⟨rfl, rfl⟩ := trodVars_none hV
  refine (calls_closed (P := Tryz.prog) Tryz.checked.mixed ap_ok runs W).mono fun e W' ⟨he, bel⟩ => ?_
  subst he
  exact ⟨_, rfl, _, _, _, [], _, [], hW', trodAll_mk1 (shut_bool Tryz.underlying4 _), trodAll_mk0, rfl, bel.frame _, fun h => by cases h⟩
theorem closedJ : joinedFacts Tryz.prog 3 Tryz.f3 Rows.raftKnownSpec Rows.raftKnownRow = true := by
  unfold joinedFacts
  rw [j_a]
  simp only [Bool.true_and, Bool.and_true, j_b, j_c, j_d, j_e, j_f, j_g, j_h, j_i, j_j, j_k, j_l, j_m, j_n, j_o, j_p, j_q, j_r, j_s, j_t, j_v, j_w, j_x]
  kernel_rfl
theorem named : Tryz.prog.funcNamed Rows.raftKnownRow.func = some 3 := by kernel_rfl
theorem over : Rows.raftKnownRow.holds Tryz.pinned (OpenSpec.ofChange Rows.raftKnownSpec) :=
  OpenClaim.holds_of_wide 3 Tryz.f3 rfl rfl rfl rfl rfl rfl rfl ⟨rfl, rfl, rfl, rfl, rfl⟩ rfl rfl rfl rfl rfl named Tryz.func3 closedJ
    (of_decide_eq_true (by kernel_rfl)) (by unfold Func.isWrapper; first | (rw [if_pos (by decide +kernel)]; kernel_rfl) | (rw [if_neg (by decide +kernel)]; exact ⟨rfl, rfl⟩))
    (fun os started H enc _ => lifted os started H enc)
end Go.Proofs.YtnlimogbokkfpaaGreat.raft.k
namespace Go.Proofs.YtnlimogbokkfpaaGreat
theorem raftKnown_holds : Rows.RaftKnownSaid := raft.k.over
end Go.Proofs.YtnlimogbokkfpaaGreat
