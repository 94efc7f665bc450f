/- RaftNobody: the statement returns true at every input. No condition. -/
import Derived.Test.YtnlimogbokkfpaaGreatJRaftNobodya
import Derived.Test.YtnlimogbokkfpaaGreatRows
import Derived.Test.YtnlimogbokkfpaaGreatRnM
import Derived.Test.YtnlimogbokkfpaaGreatChsO2
import Derived.WalkKit
import Derived.ProofKit
import Derived.OpenShut
import Derived.ShutString
import Derived.ChangeOld
import Derived.Below
import Derived.SizedLaws
namespace Go.Proofs.YtnlimogbokkfpaaGreat.raftNobody
open Go.ChangeShapes Go.WideShapes Go.ChangeAt Go.RowKit Go.Ahs
set_option linter.unusedVariables false
theorem own : ownKnob Tryz.prog.godebug = none := by kernel_rfl
theorem laidOut : laidOutB Tryz.prog = true := by kernel_rfl
theorem rowed : rowedAll Tryz.prog [69] = true := by kernel_rfl
set_option maxRecDepth 100000 in
theorem lifted (os : Os) (started : os.Started) (H : Type) (enc : TypeId × Value → H) :
    ReturnsInHanded {} Tryz.checked os 8 .any (Rows.raftNobodySpec.pre6 enc Tryz.prog Tryz.f8 Rows.raftNobodyRow.domain false) (Rows.raftNobodySpec.post enc Tryz.prog Tryz.f8 false true false false) := by
  refine returnsInHanded_of_change_sized (C := Tryz.checked) own started (by kernel_rfl) Tryz.func8
    (ChangeSpec.witness6 (enc := enc) (C := Tryz.checked) false ⟨#[], #[.agg #[.int .u8 0, .int .u8 0, .int .u8 0, .int .u8 0, .int .i64 0, .int .u8 0, .int .u8 0, .int .u8 0, .int .u64 0, .int .u64 0, .int .u64 0, .int .u64 0, .int .u64 0, .bool false, .int .u8 0, .int .u8 0, .slice none 0 0, .string ⟨#[]⟩, .int .u8 0, .int .u8 0, .int .u8 0, .int .u8 0, .int .u8 0, .int .u8 0, .int .u8 0, .int .u8 0, .string ⟨#[]⟩, .int .u64 0, .int .u64 0, .int .u64 0, .int .u8 0, .string ⟨#[]⟩, .string ⟨#[]⟩, .string ⟨#[]⟩, .string ⟨#[]⟩, .string ⟨#[]⟩]], []⟩ 8 (by kernel_rfl) (by kernel_rfl) (by kernel_rfl) (by kernel_rfl)) ?_
  intro W base args ds gs before hval0 hW hcnd hsz0 _
  have hval : ∀ (j : Nat) t v, Tryz.f8.params[j]? = some t → args[j]? = some v → Value.okWide Tryz.prog W .any base t v := hval0
  have hW' := hW
  have hlt0 := hW.lt
  obtain ⟨p, q, hA0, hV, rfl, hfz, hnd⟩ := hW
  have hA : DataW.TrodAll enc Tryz.prog W 0 (fun _ => true) true Tryz.f8.params.toList args.toList ds p := hA0
  rw [Tryz.params8] at hA hval
  obtain ⟨v0, vs0, d0, ds0, p0, q0, hargs, rfl, rfl, h0, r0⟩ := trodAll_cons hA
  obtain ⟨rfl, rfl, rfl⟩ := trodAll_nil r0
  obtain rfl : args = #[v0] := by cases args; simp_all
  obtain ⟨rfl, rfl⟩ := trodVars_none hV
  have hA1 : DataW.TrodAll enc Tryz.prog W 0 (fun _ => true) true [69] [v0] [d0] _ := hA0
  clear hA0 hval0 hsz0
  refine (law_calls (P := Tryz.prog) Tryz.checked.mixed rnob.ap_ok (ts := [69]) (args := #[v0]) (by kernel_rfl) (fun j t v h h' => hval j t v (by simpa using h) h') hA1 rnob.nobody_walk).mono fun e W' ⟨he, bel⟩ => ?_
  subst he
  exact ⟨_, rfl, _, _, _, [], _, [], hW', trodAll_mk1 (shut_bool Tryz.underlying4 _), Go.Ahs.Below.trodAll laidOut bel rowed hA1 (fun x hx => hlt0 x (by simpa using hx)), rfl, bel.frame _, fun h => by cases h⟩
theorem closedJ : joinedFacts Tryz.prog 8 Tryz.f8 Rows.raftNobodySpec Rows.raftNobodyRow = true := by
  unfold joinedFacts
  rw [j_a]
  simp only [Bool.true_and, Bool.and_true, j_b, j_c, j_d, j_e, j_f, j_g, j_h, j_i, j_j, j_k, j_l, j_m, j_n, j_o, j_p, j_q, j_r, j_s, j_t, j_v, j_w, j_x]
  kernel_rfl
theorem named : Tryz.prog.funcNamed Rows.raftNobodyRow.func = some 8 := by kernel_rfl
theorem over : Rows.raftNobodyRow.holds Tryz.pinned (OpenSpec.ofChange Rows.raftNobodySpec) :=
  OpenClaim.holds_of_wide 8 Tryz.f8 rfl rfl rfl rfl rfl rfl rfl ⟨rfl, rfl, rfl, rfl, rfl⟩ rfl rfl rfl rfl rfl named Tryz.func8 closedJ
    (of_decide_eq_true (by kernel_rfl)) (by unfold Func.isWrapper; first | (rw [if_pos (by decide +kernel)]; kernel_rfl) | (rw [if_neg (by decide +kernel)]; exact ⟨rfl, rfl⟩))
    (fun os started H enc _ => lifted os started H enc)
end Go.Proofs.YtnlimogbokkfpaaGreat.raftNobody
namespace Go.Proofs.YtnlimogbokkfpaaGreat
theorem raftNobody_holds : Rows.RaftNobodySaid := raftNobody.over
#print axioms raftNobody_holds
end Go.Proofs.YtnlimogbokkfpaaGreat
