/- WalBase: the statement returns true at every input. No condition. -/
import Derived.Test.YtfigbgjbaohglaaGreatDoorY18
import Derived.Test.YtfigbgjbaohglaaGreatDoorY19
import Derived.Test.YtfigbgjbaohglaaGreatDoorY20
import Derived.Test.YtfigbgjbaohglaaGreatDoorY21
import Derived.Test.YtfigbgjbaohglaaGreatDoorRows
import Derived.Test.YtfigbgjbaohglaaGreatDoorY17
import Derived.Test.YtfigbgjbaohglaaGreatDoorY7
import Derived.WalkKit
import Derived.ProofKit
import Derived.OpenShut
import Derived.ShutString
import Derived.ChangeOld
import Derived.Below
import Derived.SizedLaws
import Derived.LaidMore
import Derived.Stop.Joined
namespace Go.Proofs.YtfigbgjbaohglaaGreatDoor.ajr
open Go.ChangeShapes Go.WideShapes Go.ChangeAt Go.RowKit Go.au
set_option linter.unusedVariables false
theorem own : ownKnob Tryz.prog.godebug = none := by kernel_rfl
theorem laidOut : laidOutB Tryz.prog = true := by kernel_rfl
theorem ahm : KZ Tryz.prog [22, 23, 5, 27] = true := by kernel_rfl
theorem ahn (os : Os) (args : Array Value) : laidMetH Tryz.prog Rows.walBaseRow.laid ((World.doorLaid Tryz.prog 4000 os).forCall (fun _ _ => 0) ⟨#[], args, []⟩).memory :=
  laidMetH_of_parts3 (fuel := 8) (laidMet_of_run' 8 (by kernel_rfl) (by kernel_rfl)) (by kernel_rfl) (by kernel_rfl)
set_option maxRecDepth 100000 in
theorem lifted (os : Os) (started : os.Started) (H : Type) (enc : TypeId × Value → H) :
    ReturnsInHanded {} Tryz.checked os 7 .any (fun w args => (Rows.walBaseSpec.pre enc Tryz.prog Tryz.f7 Rows.walBaseRow.domain false w args ∧ laidMetH Tryz.prog Rows.walBaseRow.laid w) ∧ sizedMet enc Tryz.prog Tryz.f7 (OpenSpec.ofChange Rows.walBaseSpec) false w args) (Rows.walBaseSpec.post enc Tryz.prog Tryz.f7 false true false false) := by
  refine returnsInHanded_of_change_and (C := Tryz.checked) (X := fun w _ => laidMetH Tryz.prog Rows.walBaseRow.laid w) (fun _ _ _ hh h => h.of_heap hh) own started (by kernel_rfl) Tryz.func7
    (ChangeSpec.witness_shaped (enc := enc) (C := Tryz.checked) (os := os) (X := fun w _ => laidMetH Tryz.prog Rows.walBaseRow.laid w) false (World.doorLaid Tryz.prog 4000 os) #[.int .u64 0, .slice none 0 0, .int .u8 0, .agg #[.slice none 0 0, .slice none 0 0]] 8 rfl (World.shaped_of_RefB (by kernel_rfl) (by kernel_rfl)) (by kernel_rfl) (by kernel_rfl) (by kernel_rfl) (ahn os _)) ?_
  intro W base args ds gs before ahl hW ahr aey hL _
  have hval : ∀ (j : Nat) t v, Tryz.f7.params[j]? = some t → args[j]? = some v → Value.okWide Tryz.prog W .any base t v := ahl
  have hW' := hW
  have aho := hW.lt
  obtain ⟨p, q, hA0, hV, rfl, hfz, hnd⟩ := hW
  have hA : DataW.TrodAll enc Tryz.prog W 0 (fun _ => true) true Tryz.f7.params.toList args.toList ds p := hA0
  rw [Tryz.params7] at hA hval
  obtain ⟨v0, vs0, d0, ds0, p0, q0, hargs, rfl, rfl, h0, r0⟩ := trodAll_cons hA
  obtain ⟨v1, vs1, d1, ds1, p1, q1, rfl, rfl, rfl, h1, r1⟩ := trodAll_cons r0
  obtain ⟨v2, vs2, d2, ds2, p2, q2, rfl, rfl, rfl, h2, r2⟩ := trodAll_cons r1
  obtain ⟨v3, vs3, d3, ds3, p3, q3, rfl, rfl, rfl, h3, r3⟩ := trodAll_cons r2
  obtain ⟨rfl, rfl, rfl⟩ := trodAll_nil r3
  obtain rfl : args = #[v0, v1, v2, v3] := by cases args; simp_all
  obtain ⟨rfl, rfl⟩ := trodVars_none hV
  have hA1 : DataW.TrodAll enc Tryz.prog W 0 (fun _ => true) true [22, 23, 5, 27] [v0, v1, v2, v3] [d0, d1, d2, d3] _ := hA0
  clear hA0 ahl aey
  obtain ⟨j0, h0⟩ := bP.af9 hL
  refine (af6 (P := Tryz.prog) Tryz.checked.mixed bP.agb (ts := [22, 23, 5, 27]) (args := #[v0, v1, v2, v3]) (by kernel_rfl) (fun j t v h h' => hval j t v (by simpa using h) h') hA1 h0 (fun H xs k h _ => bP.ajq H xs k h)).mono fun e W' ⟨he, bel⟩ => ?_
  subst he
  exact ⟨_, rfl, _, _, _, [], _, [], hW', trodAll_mk1 (shut_bool Tryz.underlying4 _), Go.au.Below.trodAll laidOut bel ahm hA1 (fun x hx => aho x (by simpa using hx)), rfl, bel.frame _, fun h => by cases h⟩
theorem ahp : joinedFacts Tryz.prog 7 Tryz.f7 Rows.walBaseSpec Rows.walBaseRow = true := by
  unfold joinedFacts
  rw [j_a]
  simp only [Bool.true_and, Bool.and_true, j_b, j_c, j_d, j_e, j_f, j_g, j_h, j_i, j_j, j_k, j_l, j_m, j_n, j_o, j_p, j_q, j_r, j_s, j_t, j_v, j_w, j_x]
  kernel_rfl
theorem named : Tryz.prog.funcNamed Rows.walBaseRow.func = some 7 := by kernel_rfl
theorem over : Rows.walBaseRow.holds Tryz.pinned (OpenSpec.ofChange Rows.walBaseSpec) :=
  OpenClaim.holds_of_wide 7 Tryz.f7 rfl rfl rfl rfl rfl rfl rfl ⟨rfl, rfl, rfl, rfl, rfl⟩ rfl rfl rfl rfl rfl named Tryz.func7 ahp
    (of_decide_eq_true (by kernel_rfl)) (by unfold Func.isWrapper; first | (rw [if_pos (by decide +kernel)]; kernel_rfl) | (rw [if_neg (by decide +kernel)]; exact ⟨rfl, rfl⟩))
    (fun os started H enc _ => lifted os started H enc)
end Go.Proofs.YtfigbgjbaohglaaGreatDoor.ajr
namespace Go.Proofs.YtfigbgjbaohglaaGreatDoor
theorem walBase_holds : Rows.WalBaseSaid := ajr.over
#print axioms walBase_holds
end Go.Proofs.YtfigbgjbaohglaaGreatDoor
