/- What each function comes to, as one formula; printed by genw.py. -/
import Derived.Test.YtpefhojmfcenfaaLgAp
import Derived.Test.YtpefhojmfcenfaaBhsW1
set_option maxRecDepth 100000
set_option linter.unusedVariables false
namespace Go.Proofs.Ytpefhojmfcenfaa.logs
open Go.Ahs
def z0 : List AVal := [(.int .u64 0), (.int .u64 0), (.int .u8 0), (.int .u8 0), (.int .u8 0), (.int .u8 0), (.int .u8 0), (.int .u8 0), (.int .u8 0), (.int .u8 0), (.int .u8 0), (.int .u8 0), (.str [])]
def z1 : List AVal := [(.int .u64 0), (.int .u64 0), (.int .u8 0), (.sl none 0 (.ex 0))]
def z2 : List AVal := [(.bool false), (.int .u64 0), (.int .u64 0), (.int .u8 0), (.sl none 0 (.ex 0))]
def z3 : List AVal := [(.int .u64 0), (.int .u64 0), (.int .u8 0), (.int .u8 0), (.int .u8 0), (.int .u8 0), (.int .u8 0), (.int .u8 0), (.int .u8 0), (.int .u8 0), (.int .u8 0), (.int .u8 0), (.str []), (.int .u64 0), (.int .u64 0), (.int .u8 0), (.int .u8 0), (.int .u8 0), (.int .u8 0), (.int .u8 0), (.int .u8 0), (.int .u8 0), (.int .u8 0), (.int .u8 0), (.int .u8 0), (.str [])]
def z4 : List AVal := [(.int .u64 0), (.int .u64 0), (.int .u8 0), (.int .u8 0), (.int .u8 0), (.int .u8 0), (.int .u8 0), (.int .u8 0), (.int .u8 0), (.int .u8 0), (.int .u8 0), (.int .u8 0), (.str []), (.int .u64 0), (.int .u64 0), (.int .u8 0), (.int .u8 0), (.int .u8 0), (.int .u8 0), (.int .u8 0), (.int .u8 0), (.int .u8 0), (.int .u8 0), (.int .u8 0), (.int .u8 0), (.str []), (.int .u64 0), (.int .u64 0), (.int .u8 0), (.int .u8 0), (.int .u8 0), (.int .u8 0), (.int .u8 0), (.int .u8 0), (.int .u8 0), (.int .u8 0), (.int .u8 0), (.int .u8 0), (.str [])]
def z5 : List AVal := [(.sl none 0 (.ex 0)), (.sl none 0 (.ex 0))]
def F3_j0 (R : Caller) (lim n : Nat) (K : AVal → Heap → Prop) (t0 t20 t21 t26 t27 : AVal) (H : Heap) : Prop :=
bindP (abin .sub t21 t0) fun v112 =>
bindP (convO .i64 v112) fun v113 =>
bind2 (R lim (.fn 19) [t20, (.int .u64 0), (.int .i64 1048576)] H) fun v114 H115 =>
bindP (alen false v114) fun v116 =>
bindP (alen false t27) fun v117 =>
bindP (abin .add v113 v117) fun v118 =>
bindP (abin .geq v116 v118) fun v119 =>
bindP (gd (some (v119, true)) (some v114)) fun v120 =>
bindP (gd (some (v119, true)) (some v113)) fun v121 =>
bindP (gd (some (v119, true)) (aslice 13 v120 none (some v121) none)) fun v122 =>
bindP (gd (some (v119, true)) (some t26)) fun v123 =>
bindP (gd (some (v119, true)) (some v113)) fun v124 =>
bindP (gd (some (v119, true)) (aslice 13 v123 none (some v124) none)) fun v125 =>
bind2 (gd2 (some (v119, true)) H115 (R lim (.fn 21) [v122, v125] H115)) fun v126 H127 =>
bindP (pickO v119 v126 (.bool false)) fun v128 =>
bind2 (gd2 (some (v128, true)) H127 (R lim (.fn 16) [] H127)) fun v129 H130 =>
bindP (pickO v128 v129 (.bool false)) fun v131 =>
K v131 H130
def F3_s0 (R : Caller) (lim n : Nat) (K : AVal → Heap → Prop) (rec0 : AVal → AVal → AVal → AVal → AVal → AVal → AVal → AVal → Heap → Prop) (t0 t19 t20 t21 t26 t27 t29 t31 : AVal) (H : Heap) : Prop :=
bindP (abin .leq t31 t29) fun v132 =>
bindP (boolOf v132) fun b133 =>
(b133 = true → (bind2 (R lim (.fn 18) [t19, t31] H) fun v134 H135 =>
bindP (extO 0 v134) fun v136 =>
bindP (extO 1 v134) fun v137 =>
bind2 (R lim (.fn 18) [t20, t31] H135) fun v138 H139 =>
bindP (extO 0 v138) fun v140 =>
bindP (extO 1 v138) fun v141 =>
bindP (aun .not v137) fun v142 =>
bindP (gd (some (v142, false)) (some v141)) fun v143 =>
bindP (gd (some (v142, false)) (aun .not v143)) fun v144 =>
bindP (pickO v142 (.bool true) v144) fun v145 =>
bindP (gd (some (v145, false)) (some v136)) fun v146 =>
bindP (gd (some (v145, false)) (some v140)) fun v147 =>
bindP (gd (some (v145, false)) (abin .neq v146 v147)) fun v148 =>
bindP (pickO v145 (.bool true) v148) fun v149 =>
bindP (boolOf v149) fun b150 =>
(b150 = true → (K (.bool false) H139)) ∧
(b150 = false → (bindP (abin .add t31 (.int .u64 1)) fun v151 =>
rec0 t0 t19 t20 t21 t26 t27 t29 v151 H139)))) ∧
(b133 = false → (F3_j0 R lim n K t0 t20 t21 t26 t27 H))
def F3_l0 (R : Caller) (lim n : Nat) (K : AVal → Heap → Prop) : Nat → AVal → AVal → AVal → AVal → AVal → AVal → AVal → AVal → Heap → Prop
  | 0, _, _, _, _, _, _, _, _, _ => False
  | m + 1, t0, t19, t20, t21, t26, t27, t29, t31, H => F3_s0 R lim n K (F3_l0 R lim n K m) t0 t19 t20 t21 t26 t27 t29 t31 H
def F3 (R : Caller) (lim n : Nat) (K : AVal → Heap → Prop) (a0 a1 a2 a3 a4 a5 a6 a7 a8 : AVal) (H : Heap) : Prop :=
bind2 (R lim (.fn 15) [a3] H) fun v1 H2 =>
bindP (gd (some (v1, false)) (some a4)) fun v3 =>
bind2 (gd2 (some (v1, false)) H2 (R lim (.fn 15) [v3] H2)) fun v4 H5 =>
bindP (pickO v1 (.bool true) v4) fun v6 =>
bindP (gd (some (v6, false)) (some a0)) fun v7 =>
bindP (gd (some (v6, false)) (abin .gtr v7 (.int .u64 1152921504606846976))) fun v8 =>
bindP (pickO v6 (.bool true) v8) fun v9 =>
bindP (gd (some (v9, false)) (some a1)) fun v10 =>
bindP (gd (some (v9, false)) (abin .gtr v10 (.int .u64 1152921504606846976))) fun v11 =>
bindP (pickO v9 (.bool true) v11) fun v12 =>
bindP (boolOf v12) fun b13 =>
(b13 = true → (bind2 (R lim (.fn 16) [] H5) fun v14 H15 =>
K v14 H15)) ∧
(b13 = false → (bind2 (R lim (.fn 17) [a0, a1, a2, a3, a5] H5) fun v16 H17 =>
bind2 (R lim (.fn 17) [a0, a1, a2, a4, a6] H17) fun v18 H19 =>
bindP (eqvO false .ptr v16 (.ptr none)) fun v20 =>
bindP (gd (some (v20, false)) (some v18)) fun v21 =>
bindP (gd (some (v20, false)) (eqvO false .ptr v21 (.ptr none))) fun v22 =>
bindP (pickO v20 (.bool true) v22) fun v23 =>
bindP (boolOf v23) fun b24 =>
(b24 = true → (K (.bool false) H19)) ∧
(b24 = false → (bindP (convO .u64 a7) fun v25 =>
bindP (alen false a3) fun v26 =>
bindP (convO .u64 v26) fun v27 =>
bindP (abin .add v27 (.int .u64 1)) fun v28 =>
bindP (abin .rem v25 v28) fun v29 =>
bindP (abin .add a0 v29) fun v30 =>
bind2 (R lim (.fn 18) [v16, v30] H19) fun v31 H32 =>
bindP (extO 0 v31) fun v33 =>
bindP (extO 1 v31) fun v34 =>
bind2 (R lim (.fn 18) [v18, v30] H32) fun v35 H36 =>
bindP (extO 0 v35) fun v37 =>
bindP (extO 1 v35) fun v38 =>
bind2 (R lim (.fn 19) [v18, (.int .u64 0), (.int .i64 1048576)] H36) fun v39 H40 =>
bindP (abin .add v30 (.int .u64 1)) fun v41 =>
bindP (convO .i64 a8) fun v42 =>
bind2 (R lim (.fn 19) [v16, v41, v42] H40) fun v43 H44 =>
bindP (aun .not v34) fun v45 =>
bindP (boolOf v45) fun b46 =>
(b46 = true → (K (.bool false) H44)) ∧
(b46 = false → (bind2 (R lim (.fn 20) [v18, v30, v33, v43] H44) fun v47 H48 =>
bindP (extO 0 v47) fun v49 =>
bindP (extO 1 v47) fun v50 =>
bindP (extO 2 v47) fun v51 =>
bindP (gd (some (v38, true)) (some v33)) fun v52 =>
bindP (gd (some (v38, true)) (some v37)) fun v53 =>
bindP (gd (some (v38, true)) (abin .eql v52 v53)) fun v54 =>
bindP (pickO v38 v54 (.bool false)) fun v55 =>
bindP (eqvO true .bool v49 v55) fun v56 =>
bindP (boolOf v56) fun b57 =>
(b57 = true → (K (.bool false) H48)) ∧
(b57 = false → (bindP (aun .not v49) fun v58 =>
bindP (boolOf v58) fun b59 =>
(b59 = true → (bind2 (R lim (.fn 19) [v18, (.int .u64 0), (.int .i64 1048576)] H48) fun v60 H61 =>
bind2 (R lim (.fn 21) [v60, v39] H61) fun v62 H63 =>
bind2 (gd2 (some (v62, true)) H63 (R lim (.fn 16) [] H63)) fun v64 H65 =>
bindP (pickO v62 v64 (.bool false)) fun v66 =>
K v66 H65)) ∧
(b59 = false → (bindP (alen false v43) fun v67 =>
bindP (convO .u64 v67) fun v68 =>
bindP (abin .add v30 v68) fun v69 =>
bindP (abin .neq v50 v69) fun v70 =>
bindP (boolOf v70) fun b71 =>
(b71 = true → (K (.bool false) H48)) ∧
(b71 = false → (F3_l0 R lim n K n a0 v16 v18 v30 v39 v43 v50 v30 H48))))))))))))
def F3_Lp (R : Caller) (lim n : Nat) (K : AVal → Heap → Prop) : Nat → Tm → Heap → Prop
  | 0, T, H => F3_l0 R lim n K n (T 0) (T 19) (T 20) (T 21) (T 26) (T 27) (T 29) (T 31) H
  | _, _, _ => False
def F3_Lp0 (R : Caller) (lim n : Nat) (K : AVal → Heap → Prop) (rec0 : AVal → AVal → AVal → AVal → AVal → AVal → AVal → AVal → Heap → Prop) : Nat → Tm → Heap → Prop
  | _, _, _ => False
def F3_k0 (R : Caller) (lim n : Nat) (K : AVal → Heap → Prop) (rec0 : AVal → AVal → AVal → AVal → AVal → AVal → AVal → AVal → Heap → Prop) : Kt := fun ex T H => match ex with
  | .norm => rec0 (T 0) (T 19) (T 20) (T 21) (T 26) (T 27) (T 29) (T 31) H
  | ex => (kBlk 0 (kSeq (execI R lim n 189 (F3_Lp R lim n K) f3_p1) (retW [(.tmp 18)] K))) ex T H
theorem F3_s0_eq (R : Caller) (lim n : Nat) (K : AVal → Heap → Prop) (rec0 : AVal → AVal → AVal → AVal → AVal → AVal → AVal → AVal → Heap → Prop) (T : Tm) (H : Heap) : F3_s0 R lim n K rec0 (T 0) (T 19) (T 20) (T 21) (T 26) (T 27) (T 29) (T 31) H = execI R lim n 189 (F3_Lp0 R lim n K rec0) f3_p0 T H (F3_k0 R lim n K rec0) := by kernel_rfl
theorem F3_l0_ok (R : Caller) (lim n : Nat) (K : AVal → Heap → Prop) {kw : Kt} (hk : ∀ ex T H, (kBlk 0 (kSeq (execI R lim n 189 (F3_Lp R lim n K) f3_p1) (retW [(.tmp 18)] K))) ex T H → kw ex T H) : ∀ (m : Nat) (T : Tm) (H : Heap), F3_l0 R lim n K m (T 0) (T 19) (T 20) (T 21) (T 26) (T 27) (T 29) (T 31) H → loopW (execW R lim n 189 f3_p0) m T H kw
  | 0, _, _, h => False.elim h
  | m + 1, T, H, h => by
    have hb : ∀ ex T H, F3_k0 R lim n K (F3_l0 R lim n K m) ex T H → (fun ex T H => match ex with | .norm => loopW (execW R lim n 189 f3_p0) m T H kw | ex => kw ex T H : Kt) ex T H := by
      intro ex T H h
      cases ex with
      | norm => exact F3_l0_ok R lim n K hk m T H h
      | exit i => exact hk _ _ _ h
      | ret => exact hk _ _ _ h
    have h' : F3_s0 R lim n K (F3_l0 R lim n K m) (T 0) (T 19) (T 20) (T 21) (T 26) (T 27) (T 29) (T 31) H := h
    rw [F3_s0_eq] at h'
    exact execI_sound f3_p0 T H _ _ (oblig_nl (by kernel_rfl)) hb h'
theorem F3_eq (R : Caller) (lim n : Nat) (K : AVal → Heap → Prop) (a0 a1 a2 a3 a4 a5 a6 a7 a8 : AVal) (H : Heap) : F3 R lim n K a0 a1 a2 a3 a4 a5 a6 a7 a8 H = execI R lim n 189 (F3_Lp R lim n K) f3.body (argT [a0, a1, a2, a3, a4, a5, a6, a7, a8]) H (retW [(.tmp 18)] K) := by kernel_rfl
theorem F3_ob (R : Caller) (lim n : Nat) (K : AVal → Heap → Prop) : Oblig R lim n 189 (F3_Lp R lim n K) f3.body (retW [(.tmp 18)] K) := ⟨(oblig_nl (by kernel_rfl)), ⟨(oblig_nl (by kernel_rfl)), ⟨(oblig_nl (by kernel_rfl)), ⟨(oblig_nl (by kernel_rfl)), ⟨(oblig_nl (by kernel_rfl)), ⟨(oblig_nl (by kernel_rfl)), ⟨(oblig_nl (by kernel_rfl)), ⟨(oblig_nl (by kernel_rfl)), ⟨(oblig_nl (by kernel_rfl)), ⟨(oblig_nl (by kernel_rfl)), ⟨(oblig_nl (by kernel_rfl)), ⟨(oblig_nl (by kernel_rfl)), ⟨(oblig_nl (by kernel_rfl)), ⟨(oblig_nl (by kernel_rfl)), ⟨(oblig_nl (by kernel_rfl)), ⟨⟨(oblig_nl (by kernel_rfl)), (fun T H h => F3_l0_ok R lim n K (kBlk_mono (kSeqI_sound (oblig_nl (by kernel_rfl)) (fun _ _ _ h => h))) _ T H h)⟩, (oblig_nl (by kernel_rfl))⟩⟩⟩⟩⟩⟩⟩⟩⟩⟩⟩⟩⟩⟩⟩⟩
theorem F3_run {ap : FuncId → Option AFn} (hf : ap 3 = some (.code f3)) {n lim : Nat} {K : AVal → Heap → Prop} {a0 a1 a2 a3 a4 a5 a6 a7 a8 : AVal} {H : Heap} (h : F3 (Ahs.runT ap n) lim n K a0 a1 a2 a3 a4 a5 a6 a7 a8 H) : ∃ v H', Ahs.runT ap (n + 1) lim (.fn 3) [a0, a1, a2, a3, a4, a5, a6, a7, a8] H = some (v, H') ∧ K v H' := by
  rw [F3_eq] at h
  exact run_of_W hf (by kernel_rfl) (by kernel_rfl) (execI_sound f3.body _ _ _ _ (F3_ob _ _ _ K) (fun _ _ _ h => h) h)
def F4_j0 (R : Caller) (lim n : Nat) (K : AVal → Heap → Prop) (t15 t19 t20 t22 t23 t24 t25 : AVal) (H : Heap) : Prop :=
bind2 (R lim (.fn 22) [t15] H) fun v291 H292 =>
bindP (extO 0 v291) fun v293 =>
bindP (extO 1 v291) fun v294 =>
bindP (aun .not t22) fun v295 =>
bindP (gd (some (v295, false)) (some t24)) fun v296 =>
bindP (gd (some (v295, false)) (alen false v296)) fun v297 =>
bindP (gd (some (v295, false)) (abin .eql v297 (.int .i64 0))) fun v298 =>
bindP (pickO v295 (.bool true) v298) fun v299 =>
bindP (boolOf v299) fun b300 =>
(b300 = true → (bind2 (R lim (.fn 21) [t19, t25] H292) fun v301 H302 =>
bindP (gd (some (v301, true)) (some v293)) fun v303 =>
bindP (gd (some (v301, true)) (some t20)) fun v304 =>
bindP (gd (some (v301, true)) (abin .eql v303 v304)) fun v305 =>
bindP (pickO v301 v305 (.bool false)) fun v306 =>
bind2 (gd2 (some (v306, true)) H302 (R lim (.fn 16) [] H302)) fun v307 H308 =>
bindP (pickO v306 v307 (.bool false)) fun v309 =>
K v309 H308)) ∧
(b300 = false → (bindP (abin .eql v293 t23) fun v310 =>
bindP (gd (some (v310, true)) (some t24)) fun v311 =>
bindP (gd (some (v310, true)) (some t25)) fun v312 =>
bindP (gd (some (v310, true)) (some t25)) fun v313 =>
bindP (gd (some (v310, true)) (alen false v313)) fun v314 =>
bindP (gd (some (v310, true)) (some t24)) fun v315 =>
bindP (gd (some (v310, true)) (alen false v315)) fun v316 =>
bindP (gd (some (v310, true)) (abin .sub v314 v316)) fun v317 =>
bindP (gd (some (v310, true)) (aslice 13 v312 (some v317) none none)) fun v318 =>
bind2 (gd2 (some (v310, true)) H292 (R lim (.fn 21) [v311, v318] H292)) fun v319 H320 =>
bindP (pickO v310 v319 (.bool false)) fun v321 =>
bind2 (gd2 (some (v321, true)) H320 (R lim (.fn 16) [] H320)) fun v322 H323 =>
bindP (pickO v321 v322 (.bool false)) fun v324 =>
K v324 H323))
def F4_s2 (R : Caller) (lim n : Nat) (K : AVal → Heap → Prop) (rec2 : AVal → AVal → AVal → AVal → AVal → AVal → AVal → AVal → Heap → Prop) (t15 t19 t20 t22 t23 t24 t25 t29 : AVal) (H : Heap) : Prop :=
bindP (alen false t25) fun v325 =>
bindP (abin .lss t29 v325) fun v326 =>
bindP (boolOf v326) fun b327 =>
(b327 = true → (bindP (aindexAddr none 13 t25 t29) fun v328 =>
bindP (faddrO 1 v328) fun v329 =>
bindP (aload H none v329) fun v330 =>
bindP (abin .sub t29 (.int .i64 1)) fun v331 =>
bindP (aindexAddr none 13 t25 v331) fun v332 =>
bindP (faddrO 1 v332) fun v333 =>
bindP (aload H none v333) fun v334 =>
bindP (abin .lss v330 v334) fun v335 =>
bindP (gd (some (v335, false)) (some t25)) fun v336 =>
bindP (gd (some (v335, false)) (some t29)) fun v337 =>
bindP (gd (some (v335, false)) (aindexAddr none 13 v336 v337)) fun v338 =>
bindP (gd (some (v335, false)) (faddrO 0 v338)) fun v339 =>
bindP (gd (some (v335, false)) (aload H none v339)) fun v340 =>
bindP (gd (some (v335, false)) (some t25)) fun v341 =>
bindP (gd (some (v335, false)) (some t29)) fun v342 =>
bindP (gd (some (v335, false)) (abin .sub v342 (.int .i64 1))) fun v343 =>
bindP (gd (some (v335, false)) (aindexAddr none 13 v341 v343)) fun v344 =>
bindP (gd (some (v335, false)) (faddrO 0 v344)) fun v345 =>
bindP (gd (some (v335, false)) (aload H none v345)) fun v346 =>
bindP (gd (some (v335, false)) (abin .add v346 (.int .u64 1))) fun v347 =>
bindP (gd (some (v335, false)) (abin .neq v340 v347)) fun v348 =>
bindP (pickO v335 (.bool true) v348) fun v349 =>
bindP (boolOf v349) fun b350 =>
(b350 = true → (K (.bool false) H)) ∧
(b350 = false → (bindP (abin .add t29 (.int .i64 1)) fun v351 =>
rec2 t15 t19 t20 t22 t23 t24 t25 v351 H)))) ∧
(b327 = false → (F4_j0 R lim n K t15 t19 t20 t22 t23 t24 t25 H))
def F4_l2 (R : Caller) (lim n : Nat) (K : AVal → Heap → Prop) : Nat → AVal → AVal → AVal → AVal → AVal → AVal → AVal → AVal → Heap → Prop
  | 0, _, _, _, _, _, _, _, _, _ => False
  | m + 1, t15, t19, t20, t22, t23, t24, t25, t29, H => F4_s2 R lim n K (F4_l2 R lim n K m) t15 t19 t20 t22 t23 t24 t25 t29 H
def F4_j1 (R : Caller) (lim n : Nat) (K : AVal → Heap → Prop) (t6 t15 t16 t17 : AVal) (H : Heap) : Prop :=
bind2 (R lim (.fn 19) [t15, (.int .u64 0), (.int .i64 1048576)] H) fun v194 H195 =>
bind2 (R lim (.fn 22) [t15] H195) fun v196 H197 =>
bindP (extO 0 v196) fun v198 =>
bindP (extO 1 v196) fun v199 =>
bind2 (R lim (.fn 20) [t15, t16, t6, t17] H197) fun v200 H201 =>
bindP (extO 0 v200) fun v202 =>
bindP (extO 1 v200) fun v203 =>
bindP (extO 2 v200) fun v204 =>
bind2 (R lim (.fn 19) [t15, (.int .u64 0), (.int .i64 1048576)] H201) fun v205 H206 =>
bind2 (R lim (.fn 20) [t15, t16, t6, t17] H206) fun v207 H208 =>
bindP (extO 0 v207) fun v209 =>
bindP (extO 1 v207) fun v210 =>
bindP (extO 2 v207) fun v211 =>
bindP (eqvO true .bool v209 v202) fun v212 =>
bindP (gd (some (v212, false)) (some v210)) fun v213 =>
bindP (gd (some (v212, false)) (some v203)) fun v214 =>
bindP (gd (some (v212, false)) (abin .neq v213 v214)) fun v215 =>
bindP (pickO v212 (.bool true) v215) fun v216 =>
bindP (gd (some (v216, false)) (some v211)) fun v217 =>
bindP (gd (some (v216, false)) (alen false v217)) fun v218 =>
bindP (gd (some (v216, false)) (abin .neq v218 (.int .i64 0))) fun v219 =>
bindP (pickO v216 (.bool true) v219) fun v220 =>
bindP (gd (some (v220, false)) (some v205)) fun v221 =>
bindP (gd (some (v220, false)) (some t15)) fun v222 =>
bind2 (gd2 (some (v220, false)) H208 (R lim (.fn 19) [v222, (.int .u64 0), (.int .i64 1048576)] H208)) fun v223 H224 =>
bind2 (gd2 (some (v220, false)) H224 (R lim (.fn 21) [v221, v223] H224)) fun v225 H226 =>
bindP (gd (some (v220, false)) (aun .not v225)) fun v227 =>
bindP (pickO v220 (.bool true) v227) fun v228 =>
bindP (boolOf v228) fun b229 =>
(b229 = true → (K (.bool false) H226)) ∧
(b229 = false → (F4_l2 R lim n K n t15 v194 v198 v202 v203 v204 v205 (.int .i64 1) H226))
def F4_s0 (R : Caller) (lim n : Nat) (K : AVal → Heap → Prop) (rec0 : AVal → AVal → AVal → AVal → AVal → Heap → Prop) (t6 t15 t16 t17 t18 : AVal) (H : Heap) : Prop :=
bindP (alen false t17) fun v352 =>
bindP (abin .lss t18 v352) fun v353 =>
bindP (boolOf v353) fun b354 =>
(b354 = true → (bindP (convO .u64 t18) fun v355 =>
bindP (abin .add t16 v355) fun v356 =>
bindP (abin .add v356 (.int .u64 1)) fun v357 =>
bindP (aindexAddr none 13 t17 t18) fun v358 =>
bindP (faddrO 0 v358) fun v359 =>
bindP (astore lim H 1 v359 v357) fun H360 =>
bindP (abin .add t18 (.int .i64 1)) fun v361 =>
rec0 t6 t15 t16 t17 v361 H360)) ∧
(b354 = false → (F4_j1 R lim n K t6 t15 t16 t17 H))
def F4_l0 (R : Caller) (lim n : Nat) (K : AVal → Heap → Prop) : Nat → AVal → AVal → AVal → AVal → AVal → Heap → Prop
  | 0, _, _, _, _, _, _ => False
  | m + 1, t6, t15, t16, t17, t18, H => F4_s0 R lim n K (F4_l0 R lim n K m) t6 t15 t16 t17 t18 H
def F4 (R : Caller) (lim n : Nat) (K : AVal → Heap → Prop) (a0 a1 a2 a3 a4 a5 a6 : AVal) (H : Heap) : Prop :=
bind2 (R lim (.fn 15) [a2] H) fun v1 H2 =>
bindP (gd (some (v1, false)) (some a3)) fun v3 =>
bind2 (gd2 (some (v1, false)) H2 (R lim (.fn 15) [v3] H2)) fun v4 H5 =>
bindP (pickO v1 (.bool true) v4) fun v6 =>
bindP (gd (some (v6, false)) (some a0)) fun v7 =>
bindP (gd (some (v6, false)) (abin .gtr v7 (.int .u64 1152921504606846976))) fun v8 =>
bindP (pickO v6 (.bool true) v8) fun v9 =>
bindP (gd (some (v9, false)) (some a1)) fun v10 =>
bindP (gd (some (v9, false)) (abin .gtr v10 (.int .u64 1152921504606846976))) fun v11 =>
bindP (pickO v9 (.bool true) v11) fun v12 =>
bindP (boolOf v12) fun b13 =>
(b13 = true → (bind2 (R lim (.fn 16) [] H5) fun v14 H15 =>
K v14 H15)) ∧
(b13 = false → (bind2 (R lim (.fn 17) [a0, a1, (.int .u8 7), a2, a4] H5) fun v16 H17 =>
bindP (eqvO false .ptr v16 (.ptr none)) fun v18 =>
bindP (boolOf v18) fun b19 =>
(b19 = true → (K (.bool false) H17)) ∧
(b19 = false → (bindP (convO .u64 a5) fun v20 =>
bindP (abin .add a0 v20) fun v21 =>
bind2 ((fillV [] []).map fun cs => (.sl (some (H17.next, 0)) 0 (.ex 0), H17.push (.cells cs))) fun v22 H23 =>
bind2 (aappend lim H23 z0 48 false v22 a3) fun v24 H25 =>
F4_l0 R lim n K n a6 v16 v21 v24 (.int .i64 0) H25))))
def F4_Lp (R : Caller) (lim n : Nat) (K : AVal → Heap → Prop) : Nat → Tm → Heap → Prop
  | 0, T, H => F4_l0 R lim n K n (T 6) (T 15) (T 16) (T 17) (T 18) H
  | 2, T, H => F4_l2 R lim n K n (T 15) (T 19) (T 20) (T 22) (T 23) (T 24) (T 25) (T 29) H
  | _, _, _ => False
def F4_Lp0 (R : Caller) (lim n : Nat) (K : AVal → Heap → Prop) (rec0 : AVal → AVal → AVal → AVal → AVal → Heap → Prop) : Nat → Tm → Heap → Prop
  | _, _, _ => False
def F4_Lp2 (R : Caller) (lim n : Nat) (K : AVal → Heap → Prop) (rec2 : AVal → AVal → AVal → AVal → AVal → AVal → AVal → AVal → Heap → Prop) : Nat → Tm → Heap → Prop
  | _, _, _ => False
def F4_k2 (R : Caller) (lim n : Nat) (K : AVal → Heap → Prop) (rec2 : AVal → AVal → AVal → AVal → AVal → AVal → AVal → AVal → Heap → Prop) : Kt := fun ex T H => match ex with
  | .norm => rec2 (T 15) (T 19) (T 20) (T 22) (T 23) (T 24) (T 25) (T 29) H
  | ex => (kBlk 2 (kSeq (execI R lim n 196 (F4_Lp R lim n K) f4_p1) (retW [(.tmp 14)] K))) ex T H
theorem F4_s2_eq (R : Caller) (lim n : Nat) (K : AVal → Heap → Prop) (rec2 : AVal → AVal → AVal → AVal → AVal → AVal → AVal → AVal → Heap → Prop) (T : Tm) (H : Heap) : F4_s2 R lim n K rec2 (T 15) (T 19) (T 20) (T 22) (T 23) (T 24) (T 25) (T 29) H = execI R lim n 196 (F4_Lp2 R lim n K rec2) f4_p0 T H (F4_k2 R lim n K rec2) := by kernel_rfl
theorem F4_l2_ok (R : Caller) (lim n : Nat) (K : AVal → Heap → Prop) {kw : Kt} (hk : ∀ ex T H, (kBlk 2 (kSeq (execI R lim n 196 (F4_Lp R lim n K) f4_p1) (retW [(.tmp 14)] K))) ex T H → kw ex T H) : ∀ (m : Nat) (T : Tm) (H : Heap), F4_l2 R lim n K m (T 15) (T 19) (T 20) (T 22) (T 23) (T 24) (T 25) (T 29) H → loopW (execW R lim n 196 f4_p0) m T H kw
  | 0, _, _, h => False.elim h
  | m + 1, T, H, h => by
    have hb : ∀ ex T H, F4_k2 R lim n K (F4_l2 R lim n K m) ex T H → (fun ex T H => match ex with | .norm => loopW (execW R lim n 196 f4_p0) m T H kw | ex => kw ex T H : Kt) ex T H := by
      intro ex T H h
      cases ex with
      | norm => exact F4_l2_ok R lim n K hk m T H h
      | exit i => exact hk _ _ _ h
      | ret => exact hk _ _ _ h
    have h' : F4_s2 R lim n K (F4_l2 R lim n K m) (T 15) (T 19) (T 20) (T 22) (T 23) (T 24) (T 25) (T 29) H := h
    rw [F4_s2_eq] at h'
    exact execI_sound f4_p0 T H _ _ (oblig_nl (by kernel_rfl)) hb h'
def F4_k0 (R : Caller) (lim n : Nat) (K : AVal → Heap → Prop) (rec0 : AVal → AVal → AVal → AVal → AVal → Heap → Prop) : Kt := fun ex T H => match ex with
  | .norm => rec0 (T 6) (T 15) (T 16) (T 17) (T 18) H
  | ex => (kBlk 0 (kSeq (execI R lim n 196 (F4_Lp R lim n K) f4_p3) (retW [(.tmp 14)] K))) ex T H
theorem F4_s0_eq (R : Caller) (lim n : Nat) (K : AVal → Heap → Prop) (rec0 : AVal → AVal → AVal → AVal → AVal → Heap → Prop) (T : Tm) (H : Heap) : F4_s0 R lim n K rec0 (T 6) (T 15) (T 16) (T 17) (T 18) H = execI R lim n 196 (F4_Lp0 R lim n K rec0) f4_p2 T H (F4_k0 R lim n K rec0) := by kernel_rfl
theorem F4_l0_ok (R : Caller) (lim n : Nat) (K : AVal → Heap → Prop) {kw : Kt} (hk : ∀ ex T H, (kBlk 0 (kSeq (execI R lim n 196 (F4_Lp R lim n K) f4_p3) (retW [(.tmp 14)] K))) ex T H → kw ex T H) : ∀ (m : Nat) (T : Tm) (H : Heap), F4_l0 R lim n K m (T 6) (T 15) (T 16) (T 17) (T 18) H → loopW (execW R lim n 196 f4_p2) m T H kw
  | 0, _, _, h => False.elim h
  | m + 1, T, H, h => by
    have hb : ∀ ex T H, F4_k0 R lim n K (F4_l0 R lim n K m) ex T H → (fun ex T H => match ex with | .norm => loopW (execW R lim n 196 f4_p2) m T H kw | ex => kw ex T H : Kt) ex T H := by
      intro ex T H h
      cases ex with
      | norm => exact F4_l0_ok R lim n K hk m T H h
      | exit i => exact hk _ _ _ h
      | ret => exact hk _ _ _ h
    have h' : F4_s0 R lim n K (F4_l0 R lim n K m) (T 6) (T 15) (T 16) (T 17) (T 18) H := h
    rw [F4_s0_eq] at h'
    exact execI_sound f4_p2 T H _ _ (oblig_nl (by kernel_rfl)) hb h'
theorem F4_eq (R : Caller) (lim n : Nat) (K : AVal → Heap → Prop) (a0 a1 a2 a3 a4 a5 a6 : AVal) (H : Heap) : F4 R lim n K a0 a1 a2 a3 a4 a5 a6 H = execI R lim n 196 (F4_Lp R lim n K) f4.body (argT [a0, a1, a2, a3, a4, a5, a6]) H (retW [(.tmp 14)] K) := by kernel_rfl
theorem F4_ob (R : Caller) (lim n : Nat) (K : AVal → Heap → Prop) : Oblig R lim n 196 (F4_Lp R lim n K) f4.body (retW [(.tmp 14)] K) := ⟨(oblig_nl (by kernel_rfl)), ⟨(oblig_nl (by kernel_rfl)), ⟨(oblig_nl (by kernel_rfl)), ⟨(oblig_nl (by kernel_rfl)), ⟨(oblig_nl (by kernel_rfl)), ⟨(oblig_nl (by kernel_rfl)), ⟨⟨(oblig_nl (by kernel_rfl)), (fun T H h => F4_l0_ok R lim n K (kBlk_mono (kSeqI_sound ⟨(oblig_nl (by kernel_rfl)), ⟨(oblig_nl (by kernel_rfl)), ⟨(oblig_nl (by kernel_rfl)), ⟨(oblig_nl (by kernel_rfl)), ⟨(oblig_nl (by kernel_rfl)), ⟨(oblig_nl (by kernel_rfl)), ⟨⟨(oblig_nl (by kernel_rfl)), (fun T H h => F4_l2_ok R lim n K (kBlk_mono (kSeqI_sound (oblig_nl (by kernel_rfl)) (fun _ _ _ h => h))) _ T H h)⟩, (oblig_nl (by kernel_rfl))⟩⟩⟩⟩⟩⟩⟩ (fun _ _ _ h => h))) _ T H h)⟩, ⟨(oblig_nl (by kernel_rfl)), ⟨(oblig_nl (by kernel_rfl)), ⟨(oblig_nl (by kernel_rfl)), ⟨(oblig_nl (by kernel_rfl)), ⟨(oblig_nl (by kernel_rfl)), ⟨(oblig_nl (by kernel_rfl)), ⟨⟨(oblig_nl (by kernel_rfl)), (fun T H h => F4_l2_ok R lim n K (kBlk_mono (kSeqI_sound (oblig_nl (by kernel_rfl)) (fun _ _ _ h => h))) _ T H h)⟩, (oblig_nl (by kernel_rfl))⟩⟩⟩⟩⟩⟩⟩⟩⟩⟩⟩⟩⟩⟩
theorem F4_run {ap : FuncId → Option AFn} (hf : ap 4 = some (.code f4)) {n lim : Nat} {K : AVal → Heap → Prop} {a0 a1 a2 a3 a4 a5 a6 : AVal} {H : Heap} (h : F4 (Ahs.runT ap n) lim n K a0 a1 a2 a3 a4 a5 a6 H) : ∃ v H', Ahs.runT ap (n + 1) lim (.fn 4) [a0, a1, a2, a3, a4, a5, a6] H = some (v, H') ∧ K v H' := by
  rw [F4_eq] at h
  exact run_of_W hf (by kernel_rfl) (by kernel_rfl) (execI_sound f4.body _ _ _ _ (F4_ob _ _ _ K) (fun _ _ _ h => h) h)
def F5_j0 (R : Caller) (lim n : Nat) (K : AVal → Heap → Prop) (t9 t10 t12 t14 : AVal) (H : Heap) : Prop :=
bind2 (R lim (.fn 19) [t9, (.int .u64 0), (.int .i64 1048576)] H) fun v87 H88 =>
bind2 (R lim (.fn 21) [v87, t10] H88) fun v89 H90 =>
bindP (gd (some (v89, true)) (some t12)) fun v91 =>
bind2 (gd2 (some (v89, true)) H90 (R lim (.fn 19) [v91, (.int .u64 0), (.int .i64 1048576)] H90)) fun v92 H93 =>
bindP (gd (some (v89, true)) (some t10)) fun v94 =>
bind2 (gd2 (some (v89, true)) H93 (R lim (.fn 21) [v92, v94] H93)) fun v95 H96 =>
bindP (pickO v89 v95 (.bool false)) fun v97 =>
bindP (gd (some (v97, true)) (some t14)) fun v98 =>
bind2 (gd2 (some (v97, true)) H96 (R lim (.fn 19) [v98, (.int .u64 0), (.int .i64 1048576)] H96)) fun v99 H100 =>
bindP (gd (some (v97, true)) (some t10)) fun v101 =>
bind2 (gd2 (some (v97, true)) H100 (R lim (.fn 21) [v99, v101] H100)) fun v102 H103 =>
bindP (pickO v97 v102 (.bool false)) fun v104 =>
bind2 (gd2 (some (v104, true)) H103 (R lim (.fn 16) [] H103)) fun v105 H106 =>
bindP (pickO v104 v105 (.bool false)) fun v107 =>
K v107 H106
def F5_j1 (R : Caller) (lim n : Nat) (K : AVal → Heap → Prop) (rec0 : AVal → AVal → AVal → AVal → AVal → AVal → AVal → AVal → Heap → Prop) (t9 t10 t11 t12 t14 t18 t19 t20 : AVal) (H : Heap) : Prop :=
bindP (abin .add t20 (.int .i64 1)) fun v119 =>
rec0 t9 t10 t11 t12 t14 t18 t19 v119 H
def F5_s0 (R : Caller) (lim n : Nat) (K : AVal → Heap → Prop) (rec0 : AVal → AVal → AVal → AVal → AVal → AVal → AVal → AVal → Heap → Prop) (t9 t10 t11 t12 t14 t18 t19 t20 : AVal) (H : Heap) : Prop :=
bindP (alen false t11) fun v108 =>
bindP (abin .lss t20 v108) fun v109 =>
bindP (boolOf v109) fun b110 =>
(b110 = true → (bindP (aindexAddr none 13 t11 t20) fun v111 =>
bindP (faddrO 12 v111) fun v112 =>
bindP (astore lim H 1 v112 (.str [111, 116, 104, 101, 114])) fun H113 =>
bindP (aindexAddr none 13 t19 t20) fun v114 =>
bindP (faddrO 12 v114) fun v115 =>
bindP (astore lim H113 1 v115 (.str [111, 116, 104, 101, 114])) fun H116 =>
bindP (alen false t18) fun v117 =>
bindP (abin .lss t20 v117) fun v118 =>
bindP (boolOf v118) fun b120 =>
(b120 = true → (bindP (aindexAddr none 13 t18 t20) fun v121 =>
bindP (faddrO 12 v121) fun v122 =>
bindP (astore lim H116 1 v122 (.str [111, 116, 104, 101, 114])) fun H123 =>
F5_j1 R lim n K rec0 t9 t10 t11 t12 t14 t18 t19 t20 H123)) ∧
(b120 = false → (F5_j1 R lim n K rec0 t9 t10 t11 t12 t14 t18 t19 t20 H116)))) ∧
(b110 = false → (F5_j0 R lim n K t9 t10 t12 t14 H))
def F5_l0 (R : Caller) (lim n : Nat) (K : AVal → Heap → Prop) : Nat → AVal → AVal → AVal → AVal → AVal → AVal → AVal → AVal → Heap → Prop
  | 0, _, _, _, _, _, _, _, _, _ => False
  | m + 1, t9, t10, t11, t12, t14, t18, t19, t20, H => F5_s0 R lim n K (F5_l0 R lim n K m) t9 t10 t11 t12 t14 t18 t19 t20 H
def F5 (R : Caller) (lim n : Nat) (K : AVal → Heap → Prop) (a0 a1 a2 a3 : AVal) (H : Heap) : Prop :=
bind2 (R lim (.fn 15) [a2] H) fun v1 H2 =>
bindP (gd (some (v1, false)) (some a0)) fun v3 =>
bindP (gd (some (v1, false)) (abin .gtr v3 (.int .u64 1152921504606846976))) fun v4 =>
bindP (pickO v1 (.bool true) v4) fun v5 =>
bindP (gd (some (v5, false)) (some a1)) fun v6 =>
bindP (gd (some (v5, false)) (abin .gtr v6 (.int .u64 1152921504606846976))) fun v7 =>
bindP (pickO v5 (.bool true) v7) fun v8 =>
bindP (boolOf v8) fun b9 =>
(b9 = true → (bind2 (R lim (.fn 16) [] H2) fun v10 H11 =>
K v10 H11)) ∧
(b9 = false → (bind2 (R lim (.fn 17) [a0, a1, (.int .u8 7), a2, a3] H2) fun v12 H13 =>
bindP (eqvO false .ptr v12 (.ptr none)) fun v14 =>
bindP (boolOf v14) fun b15 =>
(b15 = true → (K (.bool false) H13)) ∧
(b15 = false → (bind2 (R lim (.fn 19) [v12, (.int .u64 0), (.int .i64 1048576)] H13) fun v16 H17 =>
bind2 ((fillV [] []).map fun cs => (.sl (some (H17.next, 0)) 0 (.ex 0), H17.push (.cells cs))) fun v18 H19 =>
bind2 (aappend lim H19 z0 48 false v18 v16) fun v20 H21 =>
bind2 ((fillV [(.sl none 0 (.ex 0))] [(0, 1, v20)]).map fun cs => (.sl (some (H21.next, 0)) 1 (.ex 1), H21.push (.cells cs))) fun v22 H23 =>
bind2 (R lim (.fn 23) [a0, a1, (.int .u8 7), v22] H23) fun v24 H25 =>
bindP (extO 0 v24) fun v26 =>
bindP (extO 1 v24) fun v27 =>
bind2 (R lim (.fn 23) [a0, a1, (.int .u8 7), (.sl none 0 (.ex 0))] H25) fun v28 H29 =>
bindP (extO 0 v28) fun v30 =>
bindP (extO 1 v28) fun v31 =>
bindP (abin .neq v27 (.int .i64 0)) fun v32 =>
bindP (gd (some (v32, false)) (some v31)) fun v33 =>
bindP (gd (some (v32, false)) (abin .neq v33 (.int .i64 0))) fun v34 =>
bindP (pickO v32 (.bool true) v34) fun v35 =>
bindP (gd (some (v35, false)) (some v26)) fun v36 =>
bindP (gd (some (v35, false)) (eqvO false .ptr v36 (.ptr none))) fun v37 =>
bindP (pickO v35 (.bool true) v37) fun v38 =>
bindP (gd (some (v38, false)) (some v30)) fun v39 =>
bindP (gd (some (v38, false)) (eqvO false .ptr v39 (.ptr none))) fun v40 =>
bindP (pickO v38 (.bool true) v40) fun v41 =>
bindP (boolOf v41) fun b42 =>
(b42 = true → (K (.bool false) H29)) ∧
(b42 = false → (bind2 (R lim (.fn 20) [v30, a0, a1, v20] H29) fun v43 H44 =>
bindP (extO 0 v43) fun v45 =>
bindP (extO 1 v43) fun v46 =>
bindP (extO 2 v43) fun v47 =>
bind2 (R lim (.fn 19) [v12, (.int .u64 0), (.int .i64 1048576)] H44) fun v48 H49 =>
F5_l0 R lim n K n v12 v16 v20 v26 v30 v47 v48 (.int .i64 0) H49))))))
def F5_Lp (R : Caller) (lim n : Nat) (K : AVal → Heap → Prop) : Nat → Tm → Heap → Prop
  | 0, T, H => F5_l0 R lim n K n (T 9) (T 10) (T 11) (T 12) (T 14) (T 18) (T 19) (T 20) H
  | _, _, _ => False
def F5_Lp0 (R : Caller) (lim n : Nat) (K : AVal → Heap → Prop) (rec0 : AVal → AVal → AVal → AVal → AVal → AVal → AVal → AVal → Heap → Prop) : Nat → Tm → Heap → Prop
  | _, _, _ => False
def F5_k0 (R : Caller) (lim n : Nat) (K : AVal → Heap → Prop) (rec0 : AVal → AVal → AVal → AVal → AVal → AVal → AVal → AVal → Heap → Prop) : Kt := fun ex T H => match ex with
  | .norm => rec0 (T 9) (T 10) (T 11) (T 12) (T 14) (T 18) (T 19) (T 20) H
  | ex => (kBlk 0 (kSeq (execI R lim n 124 (F5_Lp R lim n K) f5_p1) (retW [(.tmp 8)] K))) ex T H
theorem F5_s0_eq (R : Caller) (lim n : Nat) (K : AVal → Heap → Prop) (rec0 : AVal → AVal → AVal → AVal → AVal → AVal → AVal → AVal → Heap → Prop) (T : Tm) (H : Heap) : F5_s0 R lim n K rec0 (T 9) (T 10) (T 11) (T 12) (T 14) (T 18) (T 19) (T 20) H = execI R lim n 124 (F5_Lp0 R lim n K rec0) f5_p0 T H (F5_k0 R lim n K rec0) := by kernel_rfl
theorem F5_l0_ok (R : Caller) (lim n : Nat) (K : AVal → Heap → Prop) {kw : Kt} (hk : ∀ ex T H, (kBlk 0 (kSeq (execI R lim n 124 (F5_Lp R lim n K) f5_p1) (retW [(.tmp 8)] K))) ex T H → kw ex T H) : ∀ (m : Nat) (T : Tm) (H : Heap), F5_l0 R lim n K m (T 9) (T 10) (T 11) (T 12) (T 14) (T 18) (T 19) (T 20) H → loopW (execW R lim n 124 f5_p0) m T H kw
  | 0, _, _, h => False.elim h
  | m + 1, T, H, h => by
    have hb : ∀ ex T H, F5_k0 R lim n K (F5_l0 R lim n K m) ex T H → (fun ex T H => match ex with | .norm => loopW (execW R lim n 124 f5_p0) m T H kw | ex => kw ex T H : Kt) ex T H := by
      intro ex T H h
      cases ex with
      | norm => exact F5_l0_ok R lim n K hk m T H h
      | exit i => exact hk _ _ _ h
      | ret => exact hk _ _ _ h
    have h' : F5_s0 R lim n K (F5_l0 R lim n K m) (T 9) (T 10) (T 11) (T 12) (T 14) (T 18) (T 19) (T 20) H := h
    rw [F5_s0_eq] at h'
    exact execI_sound f5_p0 T H _ _ (oblig_nl (by kernel_rfl)) hb h'
theorem F5_eq (R : Caller) (lim n : Nat) (K : AVal → Heap → Prop) (a0 a1 a2 a3 : AVal) (H : Heap) : F5 R lim n K a0 a1 a2 a3 H = execI R lim n 124 (F5_Lp R lim n K) f5.body (argT [a0, a1, a2, a3]) H (retW [(.tmp 8)] K) := by kernel_rfl
theorem F5_ob (R : Caller) (lim n : Nat) (K : AVal → Heap → Prop) : Oblig R lim n 124 (F5_Lp R lim n K) f5.body (retW [(.tmp 8)] K) := ⟨(oblig_nl (by kernel_rfl)), ⟨(oblig_nl (by kernel_rfl)), ⟨(oblig_nl (by kernel_rfl)), ⟨(oblig_nl (by kernel_rfl)), ⟨(oblig_nl (by kernel_rfl)), ⟨(oblig_nl (by kernel_rfl)), ⟨(oblig_nl (by kernel_rfl)), ⟨(oblig_nl (by kernel_rfl)), ⟨(oblig_nl (by kernel_rfl)), ⟨(oblig_nl (by kernel_rfl)), ⟨(oblig_nl (by kernel_rfl)), ⟨⟨(oblig_nl (by kernel_rfl)), (fun T H h => F5_l0_ok R lim n K (kBlk_mono (kSeqI_sound (oblig_nl (by kernel_rfl)) (fun _ _ _ h => h))) _ T H h)⟩, (oblig_nl (by kernel_rfl))⟩⟩⟩⟩⟩⟩⟩⟩⟩⟩⟩⟩
theorem F5_run {ap : FuncId → Option AFn} (hf : ap 5 = some (.code f5)) {n lim : Nat} {K : AVal → Heap → Prop} {a0 a1 a2 a3 : AVal} {H : Heap} (h : F5 (Ahs.runT ap n) lim n K a0 a1 a2 a3 H) : ∃ v H', Ahs.runT ap (n + 1) lim (.fn 5) [a0, a1, a2, a3] H = some (v, H') ∧ K v H' := by
  rw [F5_eq] at h
  exact run_of_W hf (by kernel_rfl) (by kernel_rfl) (execI_sound f5.body _ _ _ _ (F5_ob _ _ _ K) (fun _ _ _ h => h) h)
def F6_j0 (R : Caller) (lim n : Nat) (K : AVal → Heap → Prop) (t24 t25 t26 t27 t28 t30 : AVal) (H : Heap) : Prop :=
bindP (abin .eql t24 t26) fun v146 =>
bindP (gd (some (v146, true)) (some t25)) fun v147 =>
bindP (gd (some (v146, true)) (some t27)) fun v148 =>
bindP (gd (some (v146, true)) (abin .eql v147 v148)) fun v149 =>
bindP (pickO v146 v149 (.bool false)) fun v150 =>
bindP (gd (some (v150, true)) (some t28)) fun v151 =>
bindP (gd (some (v150, true)) (some t30)) fun v152 =>
bindP (gd (some (v150, true)) (abin .eql v151 v152)) fun v153 =>
bindP (pickO v150 v153 (.bool false)) fun v154 =>
bind2 (gd2 (some (v154, true)) H (R lim (.fn 16) [] H)) fun v155 H156 =>
bindP (pickO v154 v155 (.bool false)) fun v157 =>
K v157 H156
def F6_s0 (R : Caller) (lim n : Nat) (K : AVal → Heap → Prop) (rec0 : AVal → AVal → AVal → AVal → AVal → AVal → AVal → AVal → AVal → Heap → Prop) (t15 t19 t24 t25 t26 t27 t28 t30 t32 : AVal) (H : Heap) : Prop :=
bindP (abin .leq t32 t24) fun v158 =>
bindP (boolOf v158) fun b159 =>
(b159 = true → (bind2 (R lim (.fn 18) [t15, t32] H) fun v160 H161 =>
bindP (extO 0 v160) fun v162 =>
bindP (extO 1 v160) fun v163 =>
bind2 (R lim (.fn 18) [t19, t32] H161) fun v164 H165 =>
bindP (extO 0 v164) fun v166 =>
bindP (extO 1 v164) fun v167 =>
bindP (abin .neq v162 v166) fun v168 =>
bindP (gd (some (v168, false)) (some v163)) fun v169 =>
bindP (gd (some (v168, false)) (aun .not v169)) fun v170 =>
bindP (pickO v168 (.bool true) v170) fun v171 =>
bindP (gd (some (v171, false)) (some v167)) fun v172 =>
bindP (gd (some (v171, false)) (aun .not v172)) fun v173 =>
bindP (pickO v171 (.bool true) v173) fun v174 =>
bindP (gd (some (v174, false)) (some t15)) fun v175 =>
bindP (gd (some (v174, false)) (some t32)) fun v176 =>
bind2 (gd2 (some (v174, false)) H165 (R lim (.fn 27) [v175, v176] H165)) fun v177 H178 =>
bindP (gd (some (v174, false)) (some t19)) fun v179 =>
bindP (gd (some (v174, false)) (some t32)) fun v180 =>
bind2 (gd2 (some (v174, false)) H178 (R lim (.fn 27) [v179, v180] H178)) fun v181 H182 =>
bindP (gd (some (v174, false)) (abin .neq v177 v181)) fun v183 =>
bindP (pickO v174 (.bool true) v183) fun v184 =>
bindP (boolOf v184) fun b185 =>
(b185 = true → (K (.bool false) H182)) ∧
(b185 = false → (bindP (abin .add t32 (.int .u64 1)) fun v186 =>
rec0 t15 t19 t24 t25 t26 t27 t28 t30 v186 H182)))) ∧
(b159 = false → (F6_j0 R lim n K t24 t25 t26 t27 t28 t30 H))
def F6_l0 (R : Caller) (lim n : Nat) (K : AVal → Heap → Prop) : Nat → AVal → AVal → AVal → AVal → AVal → AVal → AVal → AVal → AVal → Heap → Prop
  | 0, _, _, _, _, _, _, _, _, _, _ => False
  | m + 1, t15, t19, t24, t25, t26, t27, t28, t30, t32, H => F6_s0 R lim n K (F6_l0 R lim n K m) t15 t19 t24 t25 t26 t27 t28 t30 t32 H
def F6 (R : Caller) (lim n : Nat) (K : AVal → Heap → Prop) (a0 a1 a2 a3 a4 a5 a6 : AVal) (H : Heap) : Prop :=
bind2 (R lim (.fn 15) [a3] H) fun v1 H2 =>
bindP (gd (some (v1, false)) (some a0)) fun v3 =>
bindP (gd (some (v1, false)) (abin .gtr v3 (.int .u64 1152921504606846976))) fun v4 =>
bindP (pickO v1 (.bool true) v4) fun v5 =>
bindP (gd (some (v5, false)) (some a1)) fun v6 =>
bindP (gd (some (v5, false)) (abin .gtr v6 (.int .u64 1152921504606846976))) fun v7 =>
bindP (pickO v5 (.bool true) v7) fun v8 =>
bindP (boolOf v8) fun b9 =>
(b9 = true → (bind2 (R lim (.fn 16) [] H2) fun v10 H11 =>
K v10 H11)) ∧
(b9 = false → (bind2 (R lim (.fn 17) [a0, a1, a2, a3, a4] H2) fun v12 H13 =>
bind2 (R lim (.fn 17) [a0, a1, a2, a3, a4] H13) fun v14 H15 =>
bindP (eqvO false .ptr v12 (.ptr none)) fun v16 =>
bindP (gd (some (v16, false)) (some v14)) fun v17 =>
bindP (gd (some (v16, false)) (eqvO false .ptr v17 (.ptr none))) fun v18 =>
bindP (pickO v16 (.bool true) v18) fun v19 =>
bindP (boolOf v19) fun b20 =>
(b20 = true → (K (.bool false) H15)) ∧
(b20 = false → (bindP (convO .u64 a5) fun v21 =>
bindP (alen false a3) fun v22 =>
bindP (convO .u64 v22) fun v23 =>
bindP (abin .add v23 (.int .u64 1)) fun v24 =>
bindP (abin .rem v21 v24) fun v25 =>
bindP (abin .add a0 v25) fun v26 =>
bindP (convO .u64 a6) fun v27 =>
bindP (alen false a3) fun v28 =>
bindP (convO .u64 v28) fun v29 =>
bindP (abin .add a0 v29) fun v30 =>
bindP (abin .sub v30 v26) fun v31 =>
bindP (abin .add v31 (.int .u64 1)) fun v32 =>
bindP (abin .rem v27 v32) fun v33 =>
bindP (abin .add v26 v33) fun v34 =>
bind2 (R lim (.fn 24) [v12, v26] H15) fun v35 H36 =>
bindP (abin .neq v35 (.int .i64 0)) fun v37 =>
bindP (gd (some (v37, false)) (some v12)) fun v38 =>
bindP (gd (some (v37, false)) (some v34)) fun v39 =>
bind2 (gd2 (some (v37, false)) H36 (R lim (.fn 24) [v38, v39] H36)) fun v40 H41 =>
bindP (gd (some (v37, false)) (abin .neq v40 (.int .i64 0))) fun v42 =>
bindP (pickO v37 (.bool true) v42) fun v43 =>
bindP (gd (some (v43, false)) (some v14)) fun v44 =>
bindP (gd (some (v43, false)) (some v34)) fun v45 =>
bind2 (gd2 (some (v43, false)) H41 (R lim (.fn 24) [v44, v45] H41)) fun v46 H47 =>
bindP (gd (some (v43, false)) (abin .neq v46 (.int .i64 0))) fun v48 =>
bindP (pickO v43 (.bool true) v48) fun v49 =>
bindP (boolOf v49) fun b50 =>
(b50 = true → (K (.bool false) H47)) ∧
(b50 = false → (bind2 (R lim (.fn 17) [a0, a1, a2, a3, a4] H47) fun v51 H52 =>
bind2 (R lim (.fn 25) [v12] H52) fun v53 H54 =>
bindP (extO 0 v53) fun v55 =>
bindP (extO 1 v53) fun v56 =>
bind2 (R lim (.fn 18) [v51, v34] H54) fun v57 H58 =>
bindP (extO 0 v57) fun v59 =>
bindP (extO 1 v57) fun v60 =>
bindP (abin .neq v55 v34) fun v61 =>
bindP (gd (some (v61, false)) (some v56)) fun v62 =>
bindP (gd (some (v61, false)) (some v59)) fun v63 =>
bindP (gd (some (v61, false)) (abin .neq v62 v63)) fun v64 =>
bindP (pickO v61 (.bool true) v64) fun v65 =>
bindP (gd (some (v65, false)) (some v12)) fun v66 =>
bind2 (gd2 (some (v65, false)) H58 (R lim (.fn 19) [v66, (.int .u64 0), (.int .i64 1048576)] H58)) fun v67 H68 =>
bindP (gd (some (v65, false)) (some v14)) fun v69 =>
bind2 (gd2 (some (v65, false)) H68 (R lim (.fn 19) [v69, (.int .u64 0), (.int .i64 1048576)] H68)) fun v70 H71 =>
bind2 (gd2 (some (v65, false)) H71 (R lim (.fn 21) [v67, v70] H71)) fun v72 H73 =>
bindP (gd (some (v65, false)) (aun .not v72)) fun v74 =>
bindP (pickO v65 (.bool true) v74) fun v75 =>
bindP (gd (some (v75, false)) (some v12)) fun v76 =>
bind2 (gd2 (some (v75, false)) H73 (R lim (.fn 19) [v76, (.int .u64 0), (.int .i64 1048576)] H73)) fun v77 H78 =>
bindP (gd (some (v75, false)) (some v51)) fun v79 =>
bindP (gd (some (v75, false)) (some v34)) fun v80 =>
bindP (gd (some (v75, false)) (abin .add v80 (.int .u64 1))) fun v81 =>
bind2 (gd2 (some (v75, false)) H78 (R lim (.fn 19) [v79, v81, (.int .i64 1048576)] H78)) fun v82 H83 =>
bind2 (gd2 (some (v75, false)) H83 (R lim (.fn 21) [v77, v82] H83)) fun v84 H85 =>
bindP (gd (some (v75, false)) (aun .not v84)) fun v86 =>
bindP (pickO v75 (.bool true) v86) fun v87 =>
bindP (boolOf v87) fun b88 =>
(b88 = true → (K (.bool false) H85)) ∧
(b88 = false → (bind2 (R lim (.fn 22) [v12] H85) fun v89 H90 =>
bindP (extO 0 v89) fun v91 =>
bindP (extO 1 v89) fun v92 =>
bind2 (R lim (.fn 22) [v51] H90) fun v93 H94 =>
bindP (extO 0 v93) fun v95 =>
bindP (extO 1 v93) fun v96 =>
bind2 (R lim (.fn 26) [v12] H94) fun v97 H98 =>
bindP (extO 0 v97) fun v99 =>
bindP (extO 1 v97) fun v100 =>
bind2 (R lim (.fn 26) [v51] H98) fun v101 H102 =>
bindP (extO 0 v101) fun v103 =>
bindP (extO 1 v101) fun v104 =>
F6_l0 R lim n K n v12 v51 v91 v92 v95 v96 v99 v103 v34 H102))))))))
def F6_Lp (R : Caller) (lim n : Nat) (K : AVal → Heap → Prop) : Nat → Tm → Heap → Prop
  | 0, T, H => F6_l0 R lim n K n (T 15) (T 19) (T 24) (T 25) (T 26) (T 27) (T 28) (T 30) (T 32) H
  | _, _, _ => False
def F6_Lp0 (R : Caller) (lim n : Nat) (K : AVal → Heap → Prop) (rec0 : AVal → AVal → AVal → AVal → AVal → AVal → AVal → AVal → AVal → Heap → Prop) : Nat → Tm → Heap → Prop
  | _, _, _ => False
def F6_k0 (R : Caller) (lim n : Nat) (K : AVal → Heap → Prop) (rec0 : AVal → AVal → AVal → AVal → AVal → AVal → AVal → AVal → AVal → Heap → Prop) : Kt := fun ex T H => match ex with
  | .norm => rec0 (T 15) (T 19) (T 24) (T 25) (T 26) (T 27) (T 28) (T 30) (T 32) H
  | ex => (kBlk 0 (kSeq (execI R lim n 221 (F6_Lp R lim n K) f6_p1) (retW [(.tmp 14)] K))) ex T H
theorem F6_s0_eq (R : Caller) (lim n : Nat) (K : AVal → Heap → Prop) (rec0 : AVal → AVal → AVal → AVal → AVal → AVal → AVal → AVal → AVal → Heap → Prop) (T : Tm) (H : Heap) : F6_s0 R lim n K rec0 (T 15) (T 19) (T 24) (T 25) (T 26) (T 27) (T 28) (T 30) (T 32) H = execI R lim n 221 (F6_Lp0 R lim n K rec0) f6_p0 T H (F6_k0 R lim n K rec0) := by kernel_rfl
theorem F6_l0_ok (R : Caller) (lim n : Nat) (K : AVal → Heap → Prop) {kw : Kt} (hk : ∀ ex T H, (kBlk 0 (kSeq (execI R lim n 221 (F6_Lp R lim n K) f6_p1) (retW [(.tmp 14)] K))) ex T H → kw ex T H) : ∀ (m : Nat) (T : Tm) (H : Heap), F6_l0 R lim n K m (T 15) (T 19) (T 24) (T 25) (T 26) (T 27) (T 28) (T 30) (T 32) H → loopW (execW R lim n 221 f6_p0) m T H kw
  | 0, _, _, h => False.elim h
  | m + 1, T, H, h => by
    have hb : ∀ ex T H, F6_k0 R lim n K (F6_l0 R lim n K m) ex T H → (fun ex T H => match ex with | .norm => loopW (execW R lim n 221 f6_p0) m T H kw | ex => kw ex T H : Kt) ex T H := by
      intro ex T H h
      cases ex with
      | norm => exact F6_l0_ok R lim n K hk m T H h
      | exit i => exact hk _ _ _ h
      | ret => exact hk _ _ _ h
    have h' : F6_s0 R lim n K (F6_l0 R lim n K m) (T 15) (T 19) (T 24) (T 25) (T 26) (T 27) (T 28) (T 30) (T 32) H := h
    rw [F6_s0_eq] at h'
    exact execI_sound f6_p0 T H _ _ (oblig_nl (by kernel_rfl)) hb h'
theorem F6_eq (R : Caller) (lim n : Nat) (K : AVal → Heap → Prop) (a0 a1 a2 a3 a4 a5 a6 : AVal) (H : Heap) : F6 R lim n K a0 a1 a2 a3 a4 a5 a6 H = execI R lim n 221 (F6_Lp R lim n K) f6.body (argT [a0, a1, a2, a3, a4, a5, a6]) H (retW [(.tmp 14)] K) := by kernel_rfl
theorem F6_ob (R : Caller) (lim n : Nat) (K : AVal → Heap → Prop) : Oblig R lim n 221 (F6_Lp R lim n K) f6.body (retW [(.tmp 14)] K) := ⟨(oblig_nl (by kernel_rfl)), ⟨(oblig_nl (by kernel_rfl)), ⟨(oblig_nl (by kernel_rfl)), ⟨(oblig_nl (by kernel_rfl)), ⟨(oblig_nl (by kernel_rfl)), ⟨(oblig_nl (by kernel_rfl)), ⟨(oblig_nl (by kernel_rfl)), ⟨(oblig_nl (by kernel_rfl)), ⟨(oblig_nl (by kernel_rfl)), ⟨(oblig_nl (by kernel_rfl)), ⟨(oblig_nl (by kernel_rfl)), ⟨(oblig_nl (by kernel_rfl)), ⟨(oblig_nl (by kernel_rfl)), ⟨(oblig_nl (by kernel_rfl)), ⟨(oblig_nl (by kernel_rfl)), ⟨(oblig_nl (by kernel_rfl)), ⟨⟨(oblig_nl (by kernel_rfl)), (fun T H h => F6_l0_ok R lim n K (kBlk_mono (kSeqI_sound (oblig_nl (by kernel_rfl)) (fun _ _ _ h => h))) _ T H h)⟩, (oblig_nl (by kernel_rfl))⟩⟩⟩⟩⟩⟩⟩⟩⟩⟩⟩⟩⟩⟩⟩⟩⟩
theorem F6_run {ap : FuncId → Option AFn} (hf : ap 6 = some (.code f6)) {n lim : Nat} {K : AVal → Heap → Prop} {a0 a1 a2 a3 a4 a5 a6 : AVal} {H : Heap} (h : F6 (Ahs.runT ap n) lim n K a0 a1 a2 a3 a4 a5 a6 H) : ∃ v H', Ahs.runT ap (n + 1) lim (.fn 6) [a0, a1, a2, a3, a4, a5, a6] H = some (v, H') ∧ K v H' := by
  rw [F6_eq] at h
  exact run_of_W hf (by kernel_rfl) (by kernel_rfl) (execI_sound f6.body _ _ _ _ (F6_ob _ _ _ K) (fun _ _ _ h => h) h)
def F7_j0 (R : Caller) (lim n : Nat) (K : AVal → Heap → Prop) (t5 t6 t15 t17 : AVal) (H : Heap) : Prop :=
bindP (aload H (some 4) t17) fun v106 =>
bind2 (R lim (.fn 32) [t15, v106, t5, t6] H) fun v107 H108 =>
bind2 (gd2 (some (v107, true)) H108 (R lim (.fn 16) [] H108)) fun v109 H110 =>
bindP (pickO v107 v109 (.bool false)) fun v111 =>
K v111 H110
def F7_s0 (R : Caller) (lim n : Nat) (K : AVal → Heap → Prop) (rec0 : AVal → AVal → AVal → AVal → AVal → AVal → Heap → Prop) (t4 t5 t6 t15 t17 t18 : AVal) (H : Heap) : Prop :=
bindP (alen false t4) fun v112 =>
bindP (abin .lss t18 v112) fun v113 =>
bindP (boolOf v113) fun b114 =>
(b114 = true → (bindP (aindexAddr none 5 t4 t18) fun v115 =>
bindP (aload H (some 5) v115) fun v116 =>
bind2 (R lim (.fn 30) [t15, v116] H) fun v117 H118 =>
bindP (extO 0 v117) fun v119 =>
bindP (extO 1 v117) fun v120 =>
bindP (extO 2 v117) fun v121 =>
bindP (extO 3 v117) fun v122 =>
bindP (aload H118 (some 4) t17) fun v123 =>
bindP (aindexAddr none 5 t4 t18) fun v124 =>
bindP (aload H118 (some 5) v124) fun v125 =>
bind2 (R H118.next (.fn 31) [v123, v125] H118) fun v126 H127 =>
bindP (extO 0 v126) fun v128 =>
bindP (extO 1 v126) fun v129 =>
bindP (extO 2 v126) fun v130 =>
bindP (extO 3 v126) fun v131 =>
bindP (extO 4 v126) fun v132 =>
bindP (astore lim (H127.push (.cells z1)) 4 (.ptr (some (H127.next, 0))) v128) fun H133 =>
bindP (aload H133 (some 4) (.ptr (some (H127.next, 0)))) fun v134 =>
bindP (astore lim H133 4 t17 v134) fun H135 =>
bindP (eqvO true .bool v119 v129) fun v136 =>
bindP (gd (some (v136, false)) (some v120)) fun v137 =>
bindP (gd (some (v136, false)) (some v130)) fun v138 =>
bindP (gd (some (v136, false)) (abin .neq v137 v138)) fun v139 =>
bindP (pickO v136 (.bool true) v139) fun v140 =>
bindP (gd (some (v140, false)) (some v121)) fun v141 =>
bindP (gd (some (v140, false)) (some v131)) fun v142 =>
bind2 (gd2 (some (v140, false)) H135 (R lim (.fn 21) [v141, v142] H135)) fun v143 H144 =>
bindP (gd (some (v140, false)) (aun .not v143)) fun v145 =>
bindP (pickO v140 (.bool true) v145) fun v146 =>
bindP (gd (some (v146, false)) (some v122)) fun v147 =>
bindP (gd (some (v146, false)) (some v132)) fun v148 =>
bindP (gd (some (v146, false)) (abin .neq v147 v148)) fun v149 =>
bindP (pickO v146 (.bool true) v149) fun v150 =>
bindP (gd (some (v150, false)) (some t15)) fun v151 =>
bindP (gd (some (v150, false)) (aload H144 (some 4) t17)) fun v152 =>
bindP (gd (some (v150, false)) (some t5)) fun v153 =>
bindP (gd (some (v150, false)) (some t6)) fun v154 =>
bind2 (gd2 (some (v150, false)) H144 (R lim (.fn 32) [v151, v152, v153, v154] H144)) fun v155 H156 =>
bindP (gd (some (v150, false)) (aun .not v155)) fun v157 =>
bindP (pickO v150 (.bool true) v157) fun v158 =>
bindP (gd (some (v158, false)) (some t15)) fun v159 =>
bindP (gd (some (v158, false)) (aload H156 (some 4) t17)) fun v160 =>
bindP (gd (some (v158, false)) (some t4)) fun v161 =>
bindP (gd (some (v158, false)) (some t18)) fun v162 =>
bindP (gd (some (v158, false)) (aindexAddr none 5 v161 v162)) fun v163 =>
bindP (gd (some (v158, false)) (faddrO 1 v163)) fun v164 =>
bindP (gd (some (v158, false)) (aload H156 none v164)) fun v165 =>
bindP (gd (some (v158, false)) (some t4)) fun v166 =>
bindP (gd (some (v158, false)) (some t18)) fun v167 =>
bindP (gd (some (v158, false)) (aindexAddr none 5 v166 v167)) fun v168 =>
bindP (gd (some (v158, false)) (faddrO 2 v168)) fun v169 =>
bindP (gd (some (v158, false)) (aload H156 none v169)) fun v170 =>
bind2 (gd2 (some (v158, false)) H156 (R lim (.fn 32) [v159, v160, v165, v170] H156)) fun v171 H172 =>
bindP (gd (some (v158, false)) (aun .not v171)) fun v173 =>
bindP (pickO v158 (.bool true) v173) fun v174 =>
bindP (boolOf v174) fun b175 =>
(b175 = true → (K (.bool false) H172)) ∧
(b175 = false → (bindP (abin .add t18 (.int .i64 1)) fun v176 =>
rec0 t4 t5 t6 t15 t17 v176 H172)))) ∧
(b114 = false → (F7_j0 R lim n K t5 t6 t15 t17 H))
def F7_l0 (R : Caller) (lim n : Nat) (K : AVal → Heap → Prop) : Nat → AVal → AVal → AVal → AVal → AVal → AVal → Heap → Prop
  | 0, _, _, _, _, _, _, _ => False
  | m + 1, t4, t5, t6, t15, t17, t18, H => F7_s0 R lim n K (F7_l0 R lim n K m) t4 t5 t6 t15 t17 t18 H
def F7 (R : Caller) (lim n : Nat) (K : AVal → Heap → Prop) (a0 a1 a2 a3 a4 a5 a6 : AVal) (H : Heap) : Prop :=
bind2 (R lim (.fn 28) [a4] H) fun v1 H2 =>
bindP (gd (some (v1, false)) (some a3)) fun v3 =>
bind2 (gd2 (some (v1, false)) H2 (R lim (.fn 15) [v3] H2)) fun v4 H5 =>
bindP (pickO v1 (.bool true) v4) fun v6 =>
bindP (gd (some (v6, false)) (some a0)) fun v7 =>
bindP (gd (some (v6, false)) (abin .gtr v7 (.int .u64 4611686018427387904))) fun v8 =>
bindP (pickO v6 (.bool true) v8) fun v9 =>
bindP (boolOf v9) fun b10 =>
(b10 = true → (bind2 (R lim (.fn 16) [] H5) fun v11 H12 =>
K v11 H12)) ∧
(b10 = false → (bind2 ((fillV [(.sl none 0 (.ex 0))] [(0, 1, a3)]).map fun cs => (.sl (some (H5.next, 0)) 1 (.ex 1), H5.push (.cells cs))) fun v13 H14 =>
bind2 (R lim (.fn 23) [a0, a1, a2, v13] H14) fun v15 H16 =>
bindP (extO 0 v15) fun v17 =>
bindP (extO 1 v15) fun v18 =>
bindP (abin .eql v18 (.int .i64 0)) fun v19 =>
bind2 (R lim (.fn 29) [a0, a1, a3] H16) fun v20 H21 =>
bindP (eqvO true .bool v19 v20) fun v22 =>
bindP (boolOf v22) fun b23 =>
(b23 = true → (K (.bool false) H21)) ∧
(b23 = false → (bindP (abin .neq v18 (.int .i64 0)) fun v24 =>
bindP (boolOf v24) fun b25 =>
(b25 = true → (bindP (abin .eql v18 (.int .i64 1)) fun v26 =>
bindP (gd (some (v26, true)) (some v17)) fun v27 =>
bindP (gd (some (v26, true)) (eqvO false .ptr v27 (.ptr none))) fun v28 =>
bindP (pickO v26 v28 (.bool false)) fun v29 =>
bind2 (gd2 (some (v29, true)) H21 (R lim (.fn 16) [] H21)) fun v30 H31 =>
bindP (pickO v29 v30 (.bool false)) fun v32 =>
K v32 H31)) ∧
(b25 = false → (bindP (buildO z1 [(0, 1, a0), (1, 1, a1), (2, 1, a2), (3, 1, a3)]) fun v33 =>
bindP (astore lim (H21.push (.cells z1)) 4 (.ptr (some (H21.next, 0))) v33) fun H34 =>
F7_l0 R lim n K n a4 a5 a6 v17 (.ptr (some (H21.next, 0))) (.int .i64 0) H34))))))
def F7_Lp (R : Caller) (lim n : Nat) (K : AVal → Heap → Prop) : Nat → Tm → Heap → Prop
  | 0, T, H => F7_l0 R lim n K n (T 4) (T 5) (T 6) (T 15) (T 17) (T 18) H
  | _, _, _ => False
def F7_Lp0 (R : Caller) (lim n : Nat) (K : AVal → Heap → Prop) (rec0 : AVal → AVal → AVal → AVal → AVal → AVal → Heap → Prop) : Nat → Tm → Heap → Prop
  | _, _, _ => False
def F7_k0 (R : Caller) (lim n : Nat) (K : AVal → Heap → Prop) (rec0 : AVal → AVal → AVal → AVal → AVal → AVal → Heap → Prop) : Kt := fun ex T H => match ex with
  | .norm => rec0 (T 4) (T 5) (T 6) (T 15) (T 17) (T 18) H
  | ex => (kBlk 0 (kSeq (execI R lim n 152 (F7_Lp R lim n K) f7_p1) (retW [(.tmp 14)] K))) ex T H
theorem F7_s0_eq (R : Caller) (lim n : Nat) (K : AVal → Heap → Prop) (rec0 : AVal → AVal → AVal → AVal → AVal → AVal → Heap → Prop) (T : Tm) (H : Heap) : F7_s0 R lim n K rec0 (T 4) (T 5) (T 6) (T 15) (T 17) (T 18) H = execI R lim n 152 (F7_Lp0 R lim n K rec0) f7_p0 T H (F7_k0 R lim n K rec0) := by kernel_rfl
theorem F7_l0_ok (R : Caller) (lim n : Nat) (K : AVal → Heap → Prop) {kw : Kt} (hk : ∀ ex T H, (kBlk 0 (kSeq (execI R lim n 152 (F7_Lp R lim n K) f7_p1) (retW [(.tmp 14)] K))) ex T H → kw ex T H) : ∀ (m : Nat) (T : Tm) (H : Heap), F7_l0 R lim n K m (T 4) (T 5) (T 6) (T 15) (T 17) (T 18) H → loopW (execW R lim n 152 f7_p0) m T H kw
  | 0, _, _, h => False.elim h
  | m + 1, T, H, h => by
    have hb : ∀ ex T H, F7_k0 R lim n K (F7_l0 R lim n K m) ex T H → (fun ex T H => match ex with | .norm => loopW (execW R lim n 152 f7_p0) m T H kw | ex => kw ex T H : Kt) ex T H := by
      intro ex T H h
      cases ex with
      | norm => exact F7_l0_ok R lim n K hk m T H h
      | exit i => exact hk _ _ _ h
      | ret => exact hk _ _ _ h
    have h' : F7_s0 R lim n K (F7_l0 R lim n K m) (T 4) (T 5) (T 6) (T 15) (T 17) (T 18) H := h
    rw [F7_s0_eq] at h'
    exact execI_sound f7_p0 T H _ _ (oblig_nl (by kernel_rfl)) hb h'
theorem F7_eq (R : Caller) (lim n : Nat) (K : AVal → Heap → Prop) (a0 a1 a2 a3 a4 a5 a6 : AVal) (H : Heap) : F7 R lim n K a0 a1 a2 a3 a4 a5 a6 H = execI R lim n 152 (F7_Lp R lim n K) f7.body (argT [a0, a1, a2, a3, a4, a5, a6]) H (retW [(.tmp 14)] K) := by kernel_rfl
theorem F7_ob (R : Caller) (lim n : Nat) (K : AVal → Heap → Prop) : Oblig R lim n 152 (F7_Lp R lim n K) f7.body (retW [(.tmp 14)] K) := ⟨(oblig_nl (by kernel_rfl)), ⟨(oblig_nl (by kernel_rfl)), ⟨(oblig_nl (by kernel_rfl)), ⟨(oblig_nl (by kernel_rfl)), ⟨(oblig_nl (by kernel_rfl)), ⟨(oblig_nl (by kernel_rfl)), ⟨⟨(oblig_nl (by kernel_rfl)), (fun T H h => F7_l0_ok R lim n K (kBlk_mono (kSeqI_sound (oblig_nl (by kernel_rfl)) (fun _ _ _ h => h))) _ T H h)⟩, (oblig_nl (by kernel_rfl))⟩⟩⟩⟩⟩⟩⟩
theorem F7_run {ap : FuncId → Option AFn} (hf : ap 7 = some (.code f7)) {n lim : Nat} {K : AVal → Heap → Prop} {a0 a1 a2 a3 a4 a5 a6 : AVal} {H : Heap} (h : F7 (Ahs.runT ap n) lim n K a0 a1 a2 a3 a4 a5 a6 H) : ∃ v H', Ahs.runT ap (n + 1) lim (.fn 7) [a0, a1, a2, a3, a4, a5, a6] H = some (v, H') ∧ K v H' := by
  rw [F7_eq] at h
  exact run_of_W hf (by kernel_rfl) (by kernel_rfl) (execI_sound f7.body _ _ _ _ (F7_ob _ _ _ K) (fun _ _ _ h => h) h)
def F8_j0 (R : Caller) (lim n : Nat) (K : AVal → Heap → Prop) (H : Heap) : Prop :=
bind2 (R lim (.fn 16) [] H) fun v125 H126 =>
K v125 H126
def F8_s0 (R : Caller) (lim n : Nat) (K : AVal → Heap → Prop) (rec0 : AVal → AVal → AVal → AVal → Heap → Prop) (t1 t24 t25 t26 : AVal) (H : Heap) : Prop :=
bindP (abin .lss t26 t25) fun v127 =>
bindP (boolOf v127) fun b128 =>
(b128 = true → (bindP (aindexAddr none 1 t24 t26) fun v129 =>
bindP (aload H none v129) fun v130 =>
bindP (faddrO 1 t1) fun v131 =>
bindP (aload H none v131) fun v132 =>
bindP (faddrO 2 t1) fun v133 =>
bindP (aload H none v133) fun v134 =>
bindP (faddrO 3 t1) fun v135 =>
bindP (aload H none v135) fun v136 =>
bind2 (R lim (.fn 33) [v130, v132, v134, v136] H) fun v137 H138 =>
bindP (faddrO 1 t1) fun v139 =>
bindP (aload H138 none v139) fun v140 =>
bindP (faddrO 2 t1) fun v141 =>
bindP (aload H138 none v141) fun v142 =>
bindP (faddrO 4 t1) fun v143 =>
bindP (aload H138 none v143) fun v144 =>
bind2 (R lim (.fn 20) [v130, v140, v142, v144] H138) fun v145 H146 =>
bindP (extO 0 v145) fun v147 =>
bindP (extO 1 v145) fun v148 =>
bindP (extO 2 v145) fun v149 =>
bind2 (R lim (.fn 25) [v130] H146) fun v150 H151 =>
bindP (extO 0 v150) fun v152 =>
bindP (extO 1 v150) fun v153 =>
bind2 (R lim (.fn 22) [v130] H151) fun v154 H155 =>
bindP (extO 0 v154) fun v156 =>
bindP (extO 1 v154) fun v157 =>
bind2 (R lim (.fn 26) [v130] H155) fun v158 H159 =>
bindP (extO 0 v158) fun v160 =>
bindP (extO 1 v158) fun v161 =>
bindP (faddrO 1 t1) fun v162 =>
bindP (aload H159 none v162) fun v163 =>
bind2 (R lim (.fn 18) [v130, v163] H159) fun v164 H165 =>
bindP (extO 0 v164) fun v166 =>
bindP (extO 1 v164) fun v167 =>
bindP (gd (some (v147, false)) (some v148)) fun v168 =>
bindP (gd (some (v147, false)) (abin .neq v168 (.int .u64 0))) fun v169 =>
bindP (pickO v147 (.bool true) v169) fun v170 =>
bindP (gd (some (v170, false)) (some v149)) fun v171 =>
bindP (gd (some (v170, false)) (alen false v171)) fun v172 =>
bindP (gd (some (v170, false)) (abin .neq v172 (.int .i64 0))) fun v173 =>
bindP (pickO v170 (.bool true) v173) fun v174 =>
bindP (gd (some (v174, false)) (some v152)) fun v175 =>
bindP (gd (some (v174, false)) (abin .neq v175 (.int .u64 0))) fun v176 =>
bindP (pickO v174 (.bool true) v176) fun v177 =>
bindP (gd (some (v177, false)) (some v153)) fun v178 =>
bindP (gd (some (v177, false)) (abin .neq v178 (.int .u64 0))) fun v179 =>
bindP (pickO v177 (.bool true) v179) fun v180 =>
bindP (gd (some (v180, false)) (some v156)) fun v181 =>
bindP (gd (some (v180, false)) (abin .neq v181 (.int .u64 0))) fun v182 =>
bindP (pickO v180 (.bool true) v182) fun v183 =>
bindP (gd (some (v183, false)) (some v157)) fun v184 =>
bindP (gd (some (v183, false)) (abin .neq v184 (.int .u64 0))) fun v185 =>
bindP (pickO v183 (.bool true) v185) fun v186 =>
bindP (gd (some (v186, false)) (some v160)) fun v187 =>
bindP (gd (some (v186, false)) (abin .neq v187 (.int .u8 0))) fun v188 =>
bindP (pickO v186 (.bool true) v188) fun v189 =>
bindP (gd (some (v189, false)) (some v161)) fun v190 =>
bindP (gd (some (v189, false)) (abin .neq v190 (.int .u64 0))) fun v191 =>
bindP (pickO v189 (.bool true) v191) fun v192 =>
bindP (gd (some (v192, false)) (some v166)) fun v193 =>
bindP (gd (some (v192, false)) (abin .neq v193 (.int .u64 0))) fun v194 =>
bindP (pickO v192 (.bool true) v194) fun v195 =>
bindP (gd (some (v195, false)) (some v167)) fun v196 =>
bindP (pickO v195 (.bool true) v196) fun v197 =>
bindP (gd (some (v197, false)) (some v130)) fun v198 =>
bind2 (gd2 (some (v197, false)) H165 (R lim (.fn 19) [v198, (.int .u64 0), (.int .i64 9)] H165)) fun v199 H200 =>
bindP (gd (some (v197, false)) (alen false v199)) fun v201 =>
bindP (gd (some (v197, false)) (abin .neq v201 (.int .i64 0))) fun v202 =>
bindP (pickO v197 (.bool true) v202) fun v203 =>
bindP (gd (some (v203, false)) (some v130)) fun v204 =>
bindP (gd (some (v203, false)) (faddrO 1 t1)) fun v205 =>
bindP (gd (some (v203, false)) (aload H200 none v205)) fun v206 =>
bind2 (gd2 (some (v203, false)) H200 (R lim (.fn 27) [v204, v206] H200)) fun v207 H208 =>
bindP (gd (some (v203, false)) (abin .neq v207 (.int .u8 0))) fun v209 =>
bindP (pickO v203 (.bool true) v209) fun v210 =>
bindP (gd (some (v210, false)) (some v130)) fun v211 =>
bindP (gd (some (v210, false)) (faddrO 1 t1)) fun v212 =>
bindP (gd (some (v210, false)) (aload H208 none v212)) fun v213 =>
bindP (gd (some (v210, false)) (faddrO 2 t1)) fun v214 =>
bindP (gd (some (v210, false)) (aload H208 none v214)) fun v215 =>
bind2 (gd2 (some (v210, false)) H208 (R lim (.fn 34) [v211, v213, v215] H208)) fun v216 H217 =>
bindP (pickO v210 (.bool true) v216) fun v218 =>
bindP (gd (some (v218, false)) (some v130)) fun v219 =>
bind2 (gd2 (some (v218, false)) H217 (R lim (.fn 36) [(.int .u64 1), (.int .u64 1)] H217)) fun v220 H221 =>
bind2 (gd2 (some (v218, false)) H221 (R lim (.fn 35) [v219, v220] H221)) fun v222 H223 =>
bindP (gd (some (v218, false)) (buildO z0 [])) fun v224 =>
bindP (gd (some (v218, false)) (eqvO true (.cells [(.int .u64), (.int .u64), (.int .u8), (.int .u8), (.int .u8), (.int .u8), (.int .u8), (.int .u8), (.int .u8), (.int .u8), (.int .u8), (.int .u8), .str]) v222 v224)) fun v225 =>
bindP (pickO v218 (.bool true) v225) fun v226 =>
bindP (gd (some (v226, false)) (some v130)) fun v227 =>
bind2 (gd2 (some (v226, false)) H223 (R lim (.fn 24) [v227, (.int .u64 0)] H223)) fun v228 H229 =>
bindP (gd (some (v226, false)) (abin .neq v228 (.int .i64 4))) fun v230 =>
bindP (pickO v226 (.bool true) v230) fun v231 =>
bindP (boolOf v231) fun b232 =>
(b232 = true → (K (.bool false) H229)) ∧
(b232 = false → (bindP (abin .add t26 (.int .i64 1)) fun v233 =>
rec0 t1 t24 t25 v233 H229)))) ∧
(b128 = false → (F8_j0 R lim n K H))
def F8_l0 (R : Caller) (lim n : Nat) (K : AVal → Heap → Prop) : Nat → AVal → AVal → AVal → AVal → Heap → Prop
  | 0, _, _, _, _, _ => False
  | m + 1, t1, t24, t25, t26, H => F8_s0 R lim n K (F8_l0 R lim n K m) t1 t24 t25 t26 H
def F8 (R : Caller) (lim n : Nat) (K : AVal → Heap → Prop) (a0 : AVal) (H : Heap) : Prop :=
bind2 (if (a0).cells.all (·.one) then some (.ptr (some (H.next, 0)), H.push (.cells (a0).cells)) else none) fun v1 H2 =>
bindP (faddrO 4 v1) fun v3 =>
bindP (aload H2 none v3) fun v4 =>
bind2 (R lim (.fn 15) [v4] H2) fun v5 H6 =>
bindP (boolOf v5) fun b7 =>
(b7 = true → (bind2 (R lim (.fn 16) [] H6) fun v8 H9 =>
K v8 H9)) ∧
(b7 = false → (bindP (buildO z2 []) fun v10 =>
bind2 (if (v10).cells.all (·.one) then some (.ptr (some (H6.next, 0)), H6.push (.cells (v10).cells)) else none) fun v11 H12 =>
bind2 ((fillV [(.ptr none), (.ptr none)] [(0, 1, (.ptr none)), (1, 1, v11)]).map fun cs => (.sl (some (H12.next, 0)) 2 (.ex 2), H12.push (.cells cs))) fun v13 H14 =>
bindP (alen false v13) fun v15 =>
F8_l0 R lim n K n v1 v13 v15 (.int .i64 0) H14))
def F8_Lp (R : Caller) (lim n : Nat) (K : AVal → Heap → Prop) : Nat → Tm → Heap → Prop
  | 0, T, H => F8_l0 R lim n K n (T 1) (T 24) (T 25) (T 26) H
  | _, _, _ => False
def F8_Lp0 (R : Caller) (lim n : Nat) (K : AVal → Heap → Prop) (rec0 : AVal → AVal → AVal → AVal → Heap → Prop) : Nat → Tm → Heap → Prop
  | _, _, _ => False
def F8_k0 (R : Caller) (lim n : Nat) (K : AVal → Heap → Prop) (rec0 : AVal → AVal → AVal → AVal → Heap → Prop) : Kt := fun ex T H => match ex with
  | .norm => rec0 (T 1) (T 24) (T 25) (T 26) H
  | ex => (kBlk 0 (kSeq (execI R lim n 148 (F8_Lp R lim n K) f8_p1) (retW [(.tmp 2)] K))) ex T H
theorem F8_s0_eq (R : Caller) (lim n : Nat) (K : AVal → Heap → Prop) (rec0 : AVal → AVal → AVal → AVal → Heap → Prop) (T : Tm) (H : Heap) : F8_s0 R lim n K rec0 (T 1) (T 24) (T 25) (T 26) H = execI R lim n 148 (F8_Lp0 R lim n K rec0) f8_p0 T H (F8_k0 R lim n K rec0) := by kernel_rfl
theorem F8_l0_ok (R : Caller) (lim n : Nat) (K : AVal → Heap → Prop) {kw : Kt} (hk : ∀ ex T H, (kBlk 0 (kSeq (execI R lim n 148 (F8_Lp R lim n K) f8_p1) (retW [(.tmp 2)] K))) ex T H → kw ex T H) : ∀ (m : Nat) (T : Tm) (H : Heap), F8_l0 R lim n K m (T 1) (T 24) (T 25) (T 26) H → loopW (execW R lim n 148 f8_p0) m T H kw
  | 0, _, _, h => False.elim h
  | m + 1, T, H, h => by
    have hb : ∀ ex T H, F8_k0 R lim n K (F8_l0 R lim n K m) ex T H → (fun ex T H => match ex with | .norm => loopW (execW R lim n 148 f8_p0) m T H kw | ex => kw ex T H : Kt) ex T H := by
      intro ex T H h
      cases ex with
      | norm => exact F8_l0_ok R lim n K hk m T H h
      | exit i => exact hk _ _ _ h
      | ret => exact hk _ _ _ h
    have h' : F8_s0 R lim n K (F8_l0 R lim n K m) (T 1) (T 24) (T 25) (T 26) H := h
    rw [F8_s0_eq] at h'
    exact execI_sound f8_p0 T H _ _ (oblig_nl (by kernel_rfl)) hb h'
theorem F8_eq (R : Caller) (lim n : Nat) (K : AVal → Heap → Prop) (a0 : AVal) (H : Heap) : F8 R lim n K a0 H = execI R lim n 148 (F8_Lp R lim n K) f8.body (argT [a0]) H (retW [(.tmp 2)] K) := by kernel_rfl
theorem F8_ob (R : Caller) (lim n : Nat) (K : AVal → Heap → Prop) : Oblig R lim n 148 (F8_Lp R lim n K) f8.body (retW [(.tmp 2)] K) := ⟨(oblig_nl (by kernel_rfl)), ⟨(oblig_nl (by kernel_rfl)), ⟨(oblig_nl (by kernel_rfl)), ⟨⟨(oblig_nl (by kernel_rfl)), (fun T H h => F8_l0_ok R lim n K (kBlk_mono (kSeqI_sound (oblig_nl (by kernel_rfl)) (fun _ _ _ h => h))) _ T H h)⟩, (oblig_nl (by kernel_rfl))⟩⟩⟩⟩
theorem F8_run {ap : FuncId → Option AFn} (hf : ap 8 = some (.code f8)) {n lim : Nat} {K : AVal → Heap → Prop} {a0 : AVal} {H : Heap} (h : F8 (Ahs.runT ap n) lim n K a0 H) : ∃ v H', Ahs.runT ap (n + 1) lim (.fn 8) [a0] H = some (v, H') ∧ K v H' := by
  rw [F8_eq] at h
  exact run_of_W hf (by kernel_rfl) (by kernel_rfl) (execI_sound f8.body _ _ _ _ (F8_ob _ _ _ K) (fun _ _ _ h => h) h)
def F9 (R : Caller) (lim n : Nat) (K : AVal → Heap → Prop) (H : Heap) : Prop :=
bind2 (R lim (.fn 23) [(.int .u64 0), (.int .u64 0), (.int .u8 7), (.sl none 0 (.ex 0))] H) fun v1 H2 =>
bindP (extO 0 v1) fun v3 =>
bindP (extO 1 v1) fun v4 =>
bindP (abin .neq v4 (.int .i64 0)) fun v5 =>
bindP (gd (some (v5, false)) (some v3)) fun v6 =>
bindP (gd (some (v5, false)) (eqvO false .ptr v6 (.ptr none))) fun v7 =>
bindP (pickO v5 (.bool true) v7) fun v8 =>
bindP (boolOf v8) fun b9 =>
(b9 = true → (K (.bool false) H2)) ∧
(b9 = false → (bindP (buildO z0 [(0, 1, (.int .u64 9)), (1, 1, (.int .u64 1)), (2, 1, (.int .u8 1))]) fun v10 =>
bind2 (R lim (.fn 35) [v3, v10] H2) fun v11 H12 =>
bind2 (R lim (.fn 22) [v3] H12) fun v13 H14 =>
bindP (extO 0 v13) fun v15 =>
bindP (extO 1 v13) fun v16 =>
bind2 (R lim (.fn 26) [v3] H14) fun v17 H18 =>
bindP (extO 0 v17) fun v19 =>
bindP (extO 1 v17) fun v20 =>
bind2 (R lim (.fn 18) [v3, (.int .u64 0)] H18) fun v21 H22 =>
bindP (extO 0 v21) fun v23 =>
bindP (extO 1 v21) fun v24 =>
bind2 (R lim (.fn 18) [v3, (.int .u64 2)] H22) fun v25 H26 =>
bindP (extO 0 v25) fun v27 =>
bindP (extO 1 v25) fun v28 =>
bindP (abin .neq v15 (.int .u64 1)) fun v29 =>
bindP (gd (some (v29, false)) (some v16)) fun v30 =>
bindP (gd (some (v29, false)) (abin .neq v30 (.int .u64 1))) fun v31 =>
bindP (pickO v29 (.bool true) v31) fun v32 =>
bindP (gd (some (v32, false)) (some v19)) fun v33 =>
bindP (gd (some (v32, false)) (abin .neq v33 (.int .u8 7))) fun v34 =>
bindP (pickO v32 (.bool true) v34) fun v35 =>
bindP (gd (some (v35, false)) (some v20)) fun v36 =>
bindP (gd (some (v35, false)) (abin .neq v36 (.int .u64 0))) fun v37 =>
bindP (pickO v35 (.bool true) v37) fun v38 =>
bindP (gd (some (v38, false)) (some v24)) fun v39 =>
bindP (gd (some (v38, false)) (aun .not v39)) fun v40 =>
bindP (pickO v38 (.bool true) v40) fun v41 =>
bindP (gd (some (v41, false)) (some v28)) fun v42 =>
bindP (pickO v41 (.bool true) v42) fun v43 =>
bindP (boolOf v43) fun b44 =>
(b44 = true → (K (.bool false) H26)) ∧
(b44 = false → (bind2 (R lim (.fn 36) [(.int .u64 2), (.int .u64 1)] H26) fun v45 H46 =>
bind2 (R lim (.fn 36) [(.int .u64 3), (.int .u64 2)] H46) fun v47 H48 =>
bind2 ((fillV z3 [(0, 13, v45), (13, 13, v47)]).map fun cs => (.sl (some (H48.next, 0)) 2 (.ex 2), H48.push (.cells cs))) fun v49 H50 =>
bind2 (R lim (.fn 20) [v3, (.int .u64 1), (.int .u64 1), v49] H50) fun v51 H52 =>
bind2 (R lim (.fn 36) [(.int .u64 3), (.int .u64 3)] H52) fun v53 H54 =>
bind2 ((fillV z0 [(0, 13, v53)]).map fun cs => (.sl (some (H54.next, 0)) 1 (.ex 1), H54.push (.cells cs))) fun v55 H56 =>
bind2 (R lim (.fn 20) [v3, (.int .u64 2), (.int .u64 1), v55] H56) fun v57 H58 =>
bind2 (R lim (.fn 19) [v3, (.int .u64 2), (.int .i64 9)] H58) fun v59 H60 =>
bind2 (R lim (.fn 36) [(.int .u64 2), (.int .u64 1)] H60) fun v61 H62 =>
bind2 (R lim (.fn 36) [(.int .u64 3), (.int .u64 3)] H62) fun v63 H64 =>
bind2 ((fillV z3 [(0, 13, v61), (13, 13, v63)]).map fun cs => (.sl (some (H64.next, 0)) 2 (.ex 2), H64.push (.cells cs))) fun v65 H66 =>
bind2 (R lim (.fn 21) [v59, v65] H66) fun v67 H68 =>
bindP (aun .not v67) fun v69 =>
bindP (gd (some (v69, false)) (some v3)) fun v70 =>
bind2 (gd2 (some (v69, false)) H68 (R lim (.fn 34) [v70, (.int .u64 9), (.int .u64 2)] H68)) fun v71 H72 =>
bindP (pickO v69 (.bool true) v71) fun v73 =>
bindP (gd (some (v73, false)) (some v3)) fun v74 =>
bind2 (gd2 (some (v73, false)) H72 (R lim (.fn 34) [v74, (.int .u64 3), (.int .u64 3)] H72)) fun v75 H76 =>
bindP (gd (some (v73, false)) (aun .not v75)) fun v77 =>
bindP (pickO v73 (.bool true) v77) fun v78 =>
bindP (gd (some (v78, false)) (some v3)) fun v79 =>
bind2 (gd2 (some (v78, false)) H76 (R lim (.fn 34) [v79, (.int .u64 2), (.int .u64 3)] H76)) fun v80 H81 =>
bindP (pickO v78 (.bool true) v80) fun v82 =>
bindP (boolOf v82) fun b83 =>
(b83 = true → (K (.bool false) H81)) ∧
(b83 = false → (bind2 (R lim (.fn 20) [v3, (.int .u64 5), (.int .u64 3), (.sl none 0 (.ex 0))] H81) fun v84 H85 =>
bindP (extO 0 v84) fun v86 =>
bindP (extO 1 v84) fun v87 =>
bindP (extO 2 v84) fun v88 =>
bind2 (R lim (.fn 20) [v3, (.int .u64 2), (.int .u64 2), (.sl none 0 (.ex 0))] H85) fun v89 H90 =>
bindP (extO 0 v89) fun v91 =>
bindP (extO 1 v89) fun v92 =>
bindP (extO 2 v89) fun v93 =>
bind2 (R lim (.fn 36) [(.int .u64 1), (.int .u64 1)] H90) fun v94 H95 =>
bind2 ((fillV z0 [(0, 13, v94)]).map fun cs => (.sl (some (H95.next, 0)) 1 (.ex 1), H95.push (.cells cs))) fun v96 H97 =>
bind2 (R lim (.fn 20) [v3, (.int .u64 0), (.int .u64 0), v96] H97) fun v98 H99 =>
bindP (extO 0 v98) fun v100 =>
bindP (extO 1 v98) fun v101 =>
bindP (extO 2 v98) fun v102 =>
bindP (gd (some (v86, false)) (some v91)) fun v103 =>
bindP (pickO v86 (.bool true) v103) fun v104 =>
bindP (gd (some (v104, false)) (some v100)) fun v105 =>
bindP (gd (some (v104, false)) (aun .not v105)) fun v106 =>
bindP (pickO v104 (.bool true) v106) fun v107 =>
bindP (gd (some (v107, false)) (some v101)) fun v108 =>
bindP (gd (some (v107, false)) (abin .neq v108 (.int .u64 1))) fun v109 =>
bindP (pickO v107 (.bool true) v109) fun v110 =>
bindP (gd (some (v110, false)) (some v102)) fun v111 =>
bindP (gd (some (v110, false)) (alen false v111)) fun v112 =>
bindP (gd (some (v110, false)) (abin .neq v112 (.int .i64 0))) fun v113 =>
bindP (pickO v110 (.bool true) v113) fun v114 =>
bindP (boolOf v114) fun b115 =>
(b115 = true → (K (.bool false) H99)) ∧
(b115 = false → (bind2 (R lim (.fn 24) [v3, (.int .u64 2)] H99) fun v116 H117 =>
bind2 (R lim (.fn 25) [v3] H117) fun v118 H119 =>
bindP (extO 0 v118) fun v120 =>
bindP (extO 1 v118) fun v121 =>
bind2 (R lim (.fn 18) [v3, (.int .u64 1)] H119) fun v122 H123 =>
bindP (extO 0 v122) fun v124 =>
bindP (extO 1 v122) fun v125 =>
bind2 (R lim (.fn 36) [(.int .u64 1), (.int .u64 1)] H123) fun v126 H127 =>
bind2 (R lim (.fn 36) [(.int .u64 2), (.int .u64 1)] H127) fun v128 H129 =>
bind2 (R lim (.fn 36) [(.int .u64 3), (.int .u64 3)] H129) fun v130 H131 =>
bind2 ((fillV z4 [(0, 13, v126), (13, 13, v128), (26, 13, v130)]).map fun cs => (.sl (some (H131.next, 0)) 3 (.ex 3), H131.push (.cells cs))) fun v132 H133 =>
bind2 (R lim (.fn 20) [v3, (.int .u64 0), (.int .u64 0), v132] H133) fun v134 H135 =>
bindP (extO 0 v134) fun v136 =>
bindP (extO 1 v134) fun v137 =>
bindP (extO 2 v134) fun v138 =>
bind2 (R lim (.fn 36) [(.int .u64 1), (.int .u64 1)] H135) fun v139 H140 =>
bind2 ((fillV z0 [(0, 13, v139)]).map fun cs => (.sl (some (H140.next, 0)) 1 (.ex 1), H140.push (.cells cs))) fun v141 H142 =>
bind2 (R lim (.fn 20) [v3, (.int .u64 0), (.int .u64 0), v141] H142) fun v143 H144 =>
bindP (extO 0 v143) fun v145 =>
bindP (extO 1 v143) fun v146 =>
bindP (extO 2 v143) fun v147 =>
bindP (buildO z0 [(1, 1, (.int .u64 5)), (2, 1, (.int .u8 2)), (12, 1, (.str [3]))]) fun v148 =>
bind2 (R lim (.fn 35) [v3, v148] H144) fun v149 H150 =>
bindP (astore lim (H150.push (.cells z0)) 13 (.ptr (some (H150.next, 0))) v149) fun H151 =>
bind2 (R lim (.fn 26) [v3] H151) fun v152 H153 =>
bindP (extO 0 v152) fun v154 =>
bindP (extO 1 v152) fun v155 =>
bind2 (R lim (.fn 36) [(.int .u64 1), (.int .u64 1)] H153) fun v156 H157 =>
bind2 ((fillV z0 [(0, 13, v156)]).map fun cs => (.sl (some (H157.next, 0)) 1 (.ex 1), H157.push (.cells cs))) fun v158 H159 =>
bind2 (R lim (.fn 36) [(.int .u64 3), (.int .u64 1)] H159) fun v160 H161 =>
bind2 ((fillV z0 [(0, 13, v160)]).map fun cs => (.sl (some (H161.next, 0)) 1 (.ex 1), H161.push (.cells cs))) fun v162 H163 =>
bind2 ((fillV z5 [(0, 1, v158), (1, 1, v162)]).map fun cs => (.sl (some (H163.next, 0)) 2 (.ex 2), H163.push (.cells cs))) fun v164 H165 =>
bind2 (R lim (.fn 23) [(.int .u64 0), (.int .u64 0), (.int .u8 7), v164] H165) fun v166 H167 =>
bindP (extO 0 v166) fun v168 =>
bindP (extO 1 v166) fun v169 =>
bind2 (R lim (.fn 36) [(.int .u64 1), (.int .u64 1)] H167) fun v170 H171 =>
bind2 ((fillV z0 [(0, 13, v170)]).map fun cs => (.sl (some (H171.next, 0)) 1 (.ex 1), H171.push (.cells cs))) fun v172 H173 =>
bind2 ((fillV [(.sl none 0 (.ex 0))] [(0, 1, v172)]).map fun cs => (.sl (some (H173.next, 0)) 1 (.ex 1), H173.push (.cells cs))) fun v174 H175 =>
bind2 (R lim (.fn 23) [(.int .u64 0), (.int .u64 2), (.int .u8 7), v174] H175) fun v176 H177 =>
bindP (extO 0 v176) fun v178 =>
bindP (extO 1 v176) fun v179 =>
bindP (abin .eql v116 (.int .i64 0)) fun v180 =>
bindP (gd (some (v180, true)) (some v120)) fun v181 =>
bindP (gd (some (v180, true)) (abin .eql v181 (.int .u64 2))) fun v182 =>
bindP (pickO v180 v182 (.bool false)) fun v183 =>
bindP (gd (some (v183, true)) (some v121)) fun v184 =>
bindP (gd (some (v183, true)) (abin .eql v184 (.int .u64 1))) fun v185 =>
bindP (pickO v183 v185 (.bool false)) fun v186 =>
bindP (gd (some (v186, true)) (some v125)) fun v187 =>
bindP (gd (some (v186, true)) (aun .not v187)) fun v188 =>
bindP (pickO v186 v188 (.bool false)) fun v189 =>
bindP (gd (some (v189, true)) (some v136)) fun v190 =>
bindP (pickO v189 v190 (.bool false)) fun v191 =>
bindP (gd (some (v191, true)) (some v137)) fun v192 =>
bindP (gd (some (v191, true)) (abin .eql v192 (.int .u64 3))) fun v193 =>
bindP (pickO v191 v193 (.bool false)) fun v194 =>
bindP (gd (some (v194, true)) (some v145)) fun v195 =>
bindP (gd (some (v194, true)) (aun .not v195)) fun v196 =>
bindP (pickO v194 v196 (.bool false)) fun v197 =>
bindP (gd (some (v197, true)) (some v3)) fun v198 =>
bind2 (gd2 (some (v197, true)) H177 (R lim (.fn 19) [v198, (.int .u64 0), (.int .i64 9)] H177)) fun v199 H200 =>
bindP (gd (some (v197, true)) (alen false v199)) fun v201 =>
bindP (gd (some (v197, true)) (abin .eql v201 (.int .i64 2))) fun v202 =>
bindP (pickO v197 v202 (.bool false)) fun v203 =>
bindP (gd (some (v203, true)) (faddrO 0 (.ptr (some (H150.next, 0))))) fun v204 =>
bindP (gd (some (v203, true)) (aload H200 none v204)) fun v205 =>
bindP (gd (some (v203, true)) (abin .eql v205 (.int .u64 4))) fun v206 =>
bindP (pickO v203 v206 (.bool false)) fun v207 =>
bindP (gd (some (v207, true)) (some v154)) fun v208 =>
bindP (gd (some (v207, true)) (abin .eql v208 (.int .u8 3))) fun v209 =>
bindP (pickO v207 v209 (.bool false)) fun v210 =>
bindP (gd (some (v210, true)) (some v155)) fun v211 =>
bindP (gd (some (v210, true)) (abin .eql v211 (.int .u64 4))) fun v212 =>
bindP (pickO v210 v212 (.bool false)) fun v213 =>
bindP (gd (some (v213, true)) (some v3)) fun v214 =>
bind2 (gd2 (some (v213, true)) H200 (R lim (.fn 27) [v214, (.int .u64 3)] H200)) fun v215 H216 =>
bindP (gd (some (v213, true)) (abin .eql v215 (.int .u8 7))) fun v217 =>
bindP (pickO v213 v217 (.bool false)) fun v218 =>
bindP (gd (some (v218, true)) (some v3)) fun v219 =>
bind2 (gd2 (some (v218, true)) H216 (R lim (.fn 24) [v219, (.int .u64 1)] H216)) fun v220 H221 =>
bindP (gd (some (v218, true)) (abin .eql v220 (.int .i64 10))) fun v222 =>
bindP (pickO v218 v222 (.bool false)) fun v223 =>
bindP (gd (some (v223, true)) (some v3)) fun v224 =>
bind2 (gd2 (some (v223, true)) H221 (R lim (.fn 24) [v224, (.int .u64 5)] H221)) fun v225 H226 =>
bindP (gd (some (v223, true)) (abin .eql v225 (.int .i64 4))) fun v227 =>
bindP (pickO v223 v227 (.bool false)) fun v228 =>
bindP (gd (some (v228, true)) (some v169)) fun v229 =>
bindP (gd (some (v228, true)) (abin .eql v229 (.int .i64 1))) fun v230 =>
bindP (pickO v228 v230 (.bool false)) fun v231 =>
bindP (gd (some (v231, true)) (some v179)) fun v232 =>
bindP (gd (some (v231, true)) (abin .eql v232 (.int .i64 1))) fun v233 =>
bindP (pickO v231 v233 (.bool false)) fun v234 =>
bind2 (gd2 (some (v234, true)) H226 (R lim (.fn 16) [] H226)) fun v235 H236 =>
bindP (pickO v234 v235 (.bool false)) fun v237 =>
K v237 H236))))))))
def F9_Lp (R : Caller) (lim n : Nat) (K : AVal → Heap → Prop) : Nat → Tm → Heap → Prop
  | _, _, _ => False
theorem F9_eq (R : Caller) (lim n : Nat) (K : AVal → Heap → Prop) (H : Heap) : F9 R lim n K  H = execI R lim n 282 (F9_Lp R lim n K) f9.body (argT []) H (retW [(.tmp 0)] K) := by kernel_rfl
theorem F9_ob (R : Caller) (lim n : Nat) (K : AVal → Heap → Prop) : Oblig R lim n 282 (F9_Lp R lim n K) f9.body (retW [(.tmp 0)] K) := (oblig_nl (by kernel_rfl))
theorem F9_run {ap : FuncId → Option AFn} (hf : ap 9 = some (.code f9)) {n lim : Nat} {K : AVal → Heap → Prop} {H : Heap} (h : F9 (Ahs.runT ap n) lim n K  H) : ∃ v H', Ahs.runT ap (n + 1) lim (.fn 9) [] H = some (v, H') ∧ K v H' := by
  rw [F9_eq] at h
  exact run_of_W hf (by kernel_rfl) (by kernel_rfl) (execI_sound f9.body _ _ _ _ (F9_ob _ _ _ K) (fun _ _ _ h => h) h)
def F15_j0 (R : Caller) (lim n : Nat) (K : AVal → Heap → Prop) (H : Heap) : Prop :=
K (.bool false) H
def F15_s0 (R : Caller) (lim n : Nat) (K : AVal → Heap → Prop) (rec0 : AVal → AVal → Heap → Prop) (t0 t3 : AVal) (H : Heap) : Prop :=
bindP (alen false t0) fun v14 =>
bindP (abin .lss t3 v14) fun v15 =>
bindP (boolOf v15) fun b16 =>
(b16 = true → (bindP (aindexAddr none 13 t0 t3) fun v17 =>
bindP (faddrO 12 v17) fun v18 =>
bindP (aload H none v18) fun v19 =>
bindP (alen true v19) fun v20 =>
bindP (abin .gtr v20 (.int .i64 100)) fun v21 =>
bindP (boolOf v21) fun b22 =>
(b22 = true → (K (.bool true) H)) ∧
(b22 = false → (bindP (abin .add t3 (.int .i64 1)) fun v23 =>
rec0 t0 v23 H)))) ∧
(b16 = false → (F15_j0 R lim n K H))
def F15_l0 (R : Caller) (lim n : Nat) (K : AVal → Heap → Prop) : Nat → AVal → AVal → Heap → Prop
  | 0, _, _, _ => False
  | m + 1, t0, t3, H => F15_s0 R lim n K (F15_l0 R lim n K m) t0 t3 H
def F15 (R : Caller) (lim n : Nat) (K : AVal → Heap → Prop) (a0 : AVal) (H : Heap) : Prop :=
bindP (alen false a0) fun v1 =>
bindP (abin .gtr v1 (.int .i64 40)) fun v2 =>
bindP (boolOf v2) fun b3 =>
(b3 = true → (K (.bool true) H)) ∧
(b3 = false → (F15_l0 R lim n K n a0 (.int .i64 0) H))
def F15_Lp (R : Caller) (lim n : Nat) (K : AVal → Heap → Prop) : Nat → Tm → Heap → Prop
  | 0, T, H => F15_l0 R lim n K n (T 0) (T 3) H
  | _, _, _ => False
def F15_Lp0 (R : Caller) (lim n : Nat) (K : AVal → Heap → Prop) (rec0 : AVal → AVal → Heap → Prop) : Nat → Tm → Heap → Prop
  | _, _, _ => False
def F15_k0 (R : Caller) (lim n : Nat) (K : AVal → Heap → Prop) (rec0 : AVal → AVal → Heap → Prop) : Kt := fun ex T H => match ex with
  | .norm => rec0 (T 0) (T 3) H
  | ex => (kBlk 0 (kSeq (execI R lim n 20 (F15_Lp R lim n K) f15_p1) (retW [(.tmp 2)] K))) ex T H
theorem F15_s0_eq (R : Caller) (lim n : Nat) (K : AVal → Heap → Prop) (rec0 : AVal → AVal → Heap → Prop) (T : Tm) (H : Heap) : F15_s0 R lim n K rec0 (T 0) (T 3) H = execI R lim n 20 (F15_Lp0 R lim n K rec0) f15_p0 T H (F15_k0 R lim n K rec0) := by kernel_rfl
theorem F15_l0_ok (R : Caller) (lim n : Nat) (K : AVal → Heap → Prop) {kw : Kt} (hk : ∀ ex T H, (kBlk 0 (kSeq (execI R lim n 20 (F15_Lp R lim n K) f15_p1) (retW [(.tmp 2)] K))) ex T H → kw ex T H) : ∀ (m : Nat) (T : Tm) (H : Heap), F15_l0 R lim n K m (T 0) (T 3) H → loopW (execW R lim n 20 f15_p0) m T H kw
  | 0, _, _, h => False.elim h
  | m + 1, T, H, h => by
    have hb : ∀ ex T H, F15_k0 R lim n K (F15_l0 R lim n K m) ex T H → (fun ex T H => match ex with | .norm => loopW (execW R lim n 20 f15_p0) m T H kw | ex => kw ex T H : Kt) ex T H := by
      intro ex T H h
      cases ex with
      | norm => exact F15_l0_ok R lim n K hk m T H h
      | exit i => exact hk _ _ _ h
      | ret => exact hk _ _ _ h
    have h' : F15_s0 R lim n K (F15_l0 R lim n K m) (T 0) (T 3) H := h
    rw [F15_s0_eq] at h'
    exact execI_sound f15_p0 T H _ _ (oblig_nl (by kernel_rfl)) hb h'
theorem F15_eq (R : Caller) (lim n : Nat) (K : AVal → Heap → Prop) (a0 : AVal) (H : Heap) : F15 R lim n K a0 H = execI R lim n 20 (F15_Lp R lim n K) f15.body (argT [a0]) H (retW [(.tmp 2)] K) := by kernel_rfl
theorem F15_ob (R : Caller) (lim n : Nat) (K : AVal → Heap → Prop) : Oblig R lim n 20 (F15_Lp R lim n K) f15.body (retW [(.tmp 2)] K) := ⟨(oblig_nl (by kernel_rfl)), ⟨(oblig_nl (by kernel_rfl)), ⟨⟨(oblig_nl (by kernel_rfl)), (fun T H h => F15_l0_ok R lim n K (kBlk_mono (kSeqI_sound (oblig_nl (by kernel_rfl)) (fun _ _ _ h => h))) _ T H h)⟩, (oblig_nl (by kernel_rfl))⟩⟩⟩
theorem F15_run {ap : FuncId → Option AFn} (hf : ap 15 = some (.code f15)) {n lim : Nat} {K : AVal → Heap → Prop} {a0 : AVal} {H : Heap} (h : F15 (Ahs.runT ap n) lim n K a0 H) : ∃ v H', Ahs.runT ap (n + 1) lim (.fn 15) [a0] H = some (v, H') ∧ K v H' := by
  rw [F15_eq] at h
  exact run_of_W hf (by kernel_rfl) (by kernel_rfl) (execI_sound f15.body _ _ _ _ (F15_ob _ _ _ K) (fun _ _ _ h => h) h)
def F16 (R : Caller) (lim n : Nat) (K : AVal → Heap → Prop) (H : Heap) : Prop :=
bind2 (R lim (.fn 23) [(.int .u64 0), (.int .u64 0), (.int .u8 7), (.sl none 0 (.ex 0))] H) fun v1 H2 =>
bindP (extO 0 v1) fun v3 =>
bindP (extO 1 v1) fun v4 =>
bindP (abin .neq v4 (.int .i64 0)) fun v5 =>
bindP (gd (some (v5, false)) (some v3)) fun v6 =>
bindP (gd (some (v5, false)) (eqvO false .ptr v6 (.ptr none))) fun v7 =>
bindP (pickO v5 (.bool true) v7) fun v8 =>
bindP (boolOf v8) fun b9 =>
(b9 = true → (K (.bool false) H2)) ∧
(b9 = false → (bindP (buildO z0 [(1, 1, (.int .u64 1)), (2, 1, (.int .u8 1))]) fun v10 =>
bind2 (R lim (.fn 35) [v3, v10] H2) fun v11 H12 =>
bindP (astore lim (H12.push (.cells z0)) 13 (.ptr (some (H12.next, 0))) v11) fun H13 =>
bind2 (R lim (.fn 36) [(.int .u64 2), (.int .u64 1)] H13) fun v14 H15 =>
bind2 (R lim (.fn 36) [(.int .u64 3), (.int .u64 2)] H15) fun v16 H17 =>
bind2 ((fillV z3 [(0, 13, v14), (13, 13, v16)]).map fun cs => (.sl (some (H17.next, 0)) 2 (.ex 2), H17.push (.cells cs))) fun v18 H19 =>
bind2 (R lim (.fn 20) [v3, (.int .u64 1), (.int .u64 1), v18] H19) fun v20 H21 =>
bindP (extO 0 v20) fun v22 =>
bindP (extO 1 v20) fun v23 =>
bindP (extO 2 v20) fun v24 =>
bind2 (R lim (.fn 36) [(.int .u64 3), (.int .u64 3)] H21) fun v25 H26 =>
bind2 ((fillV z0 [(0, 13, v25)]).map fun cs => (.sl (some (H26.next, 0)) 1 (.ex 1), H26.push (.cells cs))) fun v27 H28 =>
bind2 (R lim (.fn 20) [v3, (.int .u64 2), (.int .u64 1), v27] H28) fun v29 H30 =>
bindP (extO 0 v29) fun v31 =>
bindP (extO 1 v29) fun v32 =>
bindP (extO 2 v29) fun v33 =>
bind2 (R lim (.fn 22) [v3] H30) fun v34 H35 =>
bindP (extO 0 v34) fun v36 =>
bindP (extO 1 v34) fun v37 =>
bindP (aload H35 (some 13) (.ptr (some (H12.next, 0)))) fun v38 =>
bind2 (R H35.next (.fn 36) [(.int .u64 1), (.int .u64 1)] H35) fun v39 H40 =>
bindP (eqvO false (.cells [(.int .u64), (.int .u64), (.int .u8), (.int .u8), (.int .u8), (.int .u8), (.int .u8), (.int .u8), (.int .u8), (.int .u8), (.int .u8), (.int .u8), .str]) v38 v39) fun v41 =>
bindP (gd (some (v41, true)) (some v22)) fun v42 =>
bindP (pickO v41 v42 (.bool false)) fun v43 =>
bindP (gd (some (v43, true)) (some v23)) fun v44 =>
bindP (gd (some (v43, true)) (abin .eql v44 (.int .u64 3))) fun v45 =>
bindP (pickO v43 v45 (.bool false)) fun v46 =>
bindP (gd (some (v46, true)) (some v24)) fun v47 =>
bindP (gd (some (v46, true)) (alen false v47)) fun v48 =>
bindP (gd (some (v46, true)) (abin .eql v48 (.int .i64 2))) fun v49 =>
bindP (pickO v46 v49 (.bool false)) fun v50 =>
bindP (gd (some (v50, true)) (some v31)) fun v51 =>
bindP (pickO v50 v51 (.bool false)) fun v52 =>
bindP (gd (some (v52, true)) (some v32)) fun v53 =>
bindP (gd (some (v52, true)) (abin .eql v53 (.int .u64 3))) fun v54 =>
bindP (pickO v52 v54 (.bool false)) fun v55 =>
bindP (gd (some (v55, true)) (some v33)) fun v56 =>
bindP (gd (some (v55, true)) (alen false v56)) fun v57 =>
bindP (gd (some (v55, true)) (abin .eql v57 (.int .i64 1))) fun v58 =>
bindP (pickO v55 v58 (.bool false)) fun v59 =>
bindP (gd (some (v59, true)) (some v36)) fun v60 =>
bindP (gd (some (v59, true)) (abin .eql v60 (.int .u64 3))) fun v61 =>
bindP (pickO v59 v61 (.bool false)) fun v62 =>
bindP (gd (some (v62, true)) (some v37)) fun v63 =>
bindP (gd (some (v62, true)) (abin .eql v63 (.int .u64 3))) fun v64 =>
bindP (pickO v62 v64 (.bool false)) fun v65 =>
K v65 H40))
def F16_Lp (R : Caller) (lim n : Nat) (K : AVal → Heap → Prop) : Nat → Tm → Heap → Prop
  | _, _, _ => False
theorem F16_eq (R : Caller) (lim n : Nat) (K : AVal → Heap → Prop) (H : Heap) : F16 R lim n K  H = execI R lim n 82 (F16_Lp R lim n K) f16.body (argT []) H (retW [(.tmp 0)] K) := by kernel_rfl
theorem F16_ob (R : Caller) (lim n : Nat) (K : AVal → Heap → Prop) : Oblig R lim n 82 (F16_Lp R lim n K) f16.body (retW [(.tmp 0)] K) := (oblig_nl (by kernel_rfl))
theorem F16_run {ap : FuncId → Option AFn} (hf : ap 16 = some (.code f16)) {n lim : Nat} {K : AVal → Heap → Prop} {H : Heap} (h : F16 (Ahs.runT ap n) lim n K  H) : ∃ v H', Ahs.runT ap (n + 1) lim (.fn 16) [] H = some (v, H') ∧ K v H' := by
  rw [F16_eq] at h
  exact run_of_W hf (by kernel_rfl) (by kernel_rfl) (execI_sound f16.body _ _ _ _ (F16_ob _ _ _ K) (fun _ _ _ h => h) h)
def F17_j0 (R : Caller) (lim n : Nat) (K : AVal → Heap → Prop) (t11 : AVal) (H : Heap) : Prop :=
K t11 H
def F17_j1 (R : Caller) (lim n : Nat) (K : AVal → Heap → Prop) (rec0 : AVal → AVal → AVal → AVal → AVal → Heap → Prop) (t3 t4 t11 t13 t14 : AVal) (H : Heap) : Prop :=
bindP (faddrO 1 t14) fun v43 =>
bindP (aload H none v43) fun v44 =>
bindP (aload H (some 13) t14) fun v45 =>
bind2 (R lim (.fn 35) [t11, v45] H) fun v46 H47 =>
bindP (abin .add t13 (.int .i64 1)) fun v48 =>
rec0 v44 t3 t4 t11 v48 H47
def F17_s0 (R : Caller) (lim n : Nat) (K : AVal → Heap → Prop) (rec0 : AVal → AVal → AVal → AVal → AVal → Heap → Prop) (t1 t3 t4 t11 t13 : AVal) (H : Heap) : Prop :=
bindP (alen false t3) fun v33 =>
bindP (abin .lss t13 v33) fun v34 =>
bindP (boolOf v34) fun b35 =>
(b35 = true → (bindP (aindexAddr none 13 t3 t13) fun v36 =>
bindP (aload H (some 13) v36) fun v37 =>
bindP (astore lim (H.push (.cells z0)) 13 (.ptr (some (H.next, 0))) v37) fun H38 =>
bindP (faddrO 1 (.ptr (some (H.next, 0)))) fun v39 =>
bindP (astore lim H38 1 v39 t1) fun H40 =>
bindP (alen false t4) fun v41 =>
bindP (abin .lss t13 v41) fun v42 =>
bindP (boolOf v42) fun b49 =>
(b49 = true → (bindP (faddrO 1 (.ptr (some (H.next, 0)))) fun v50 =>
bindP (aload H40 none v50) fun v51 =>
bindP (aindexAddr none 1 t4 t13) fun v52 =>
bindP (aload H40 none v52) fun v53 =>
bindP (abin .rem v53 (.int .u8 3)) fun v54 =>
bindP (convO .u64 v54) fun v55 =>
bindP (abin .add v51 v55) fun v56 =>
bindP (faddrO 1 (.ptr (some (H.next, 0)))) fun v57 =>
bindP (astore lim H40 1 v57 v56) fun H58 =>
F17_j1 R lim n K rec0 t3 t4 t11 t13 (.ptr (some (H.next, 0))) H58)) ∧
(b49 = false → (F17_j1 R lim n K rec0 t3 t4 t11 t13 (.ptr (some (H.next, 0))) H40)))) ∧
(b35 = false → (F17_j0 R lim n K t11 H))
def F17_l0 (R : Caller) (lim n : Nat) (K : AVal → Heap → Prop) : Nat → AVal → AVal → AVal → AVal → AVal → Heap → Prop
  | 0, _, _, _, _, _, _ => False
  | m + 1, t1, t3, t4, t11, t13, H => F17_s0 R lim n K (F17_l0 R lim n K m) t1 t3 t4 t11 t13 H
def F17 (R : Caller) (lim n : Nat) (K : AVal → Heap → Prop) (a0 a1 a2 a3 a4 : AVal) (H : Heap) : Prop :=
bind2 (R lim (.fn 23) [a0, a1, a2, (.sl none 0 (.ex 0))] H) fun v1 H2 =>
bindP (extO 0 v1) fun v3 =>
bindP (extO 1 v1) fun v4 =>
bindP (abin .neq v4 (.int .i64 0)) fun v5 =>
bindP (boolOf v5) fun b6 =>
(b6 = true → (K (.ptr none) H2)) ∧
(b6 = false → (F17_l0 R lim n K n a1 a3 a4 v3 (.int .i64 0) H2))
def F17_Lp (R : Caller) (lim n : Nat) (K : AVal → Heap → Prop) : Nat → Tm → Heap → Prop
  | 0, T, H => F17_l0 R lim n K n (T 1) (T 3) (T 4) (T 11) (T 13) H
  | _, _, _ => False
def F17_Lp0 (R : Caller) (lim n : Nat) (K : AVal → Heap → Prop) (rec0 : AVal → AVal → AVal → AVal → AVal → Heap → Prop) : Nat → Tm → Heap → Prop
  | _, _, _ => False
def F17_k0 (R : Caller) (lim n : Nat) (K : AVal → Heap → Prop) (rec0 : AVal → AVal → AVal → AVal → AVal → Heap → Prop) : Kt := fun ex T H => match ex with
  | .norm => rec0 (T 1) (T 3) (T 4) (T 11) (T 13) H
  | ex => (kBlk 0 (kSeq (execI R lim n 56 (F17_Lp R lim n K) f17_p1) (retW [(.tmp 10)] K))) ex T H
theorem F17_s0_eq (R : Caller) (lim n : Nat) (K : AVal → Heap → Prop) (rec0 : AVal → AVal → AVal → AVal → AVal → Heap → Prop) (T : Tm) (H : Heap) : F17_s0 R lim n K rec0 (T 1) (T 3) (T 4) (T 11) (T 13) H = execI R lim n 56 (F17_Lp0 R lim n K rec0) f17_p0 T H (F17_k0 R lim n K rec0) := by kernel_rfl
theorem F17_l0_ok (R : Caller) (lim n : Nat) (K : AVal → Heap → Prop) {kw : Kt} (hk : ∀ ex T H, (kBlk 0 (kSeq (execI R lim n 56 (F17_Lp R lim n K) f17_p1) (retW [(.tmp 10)] K))) ex T H → kw ex T H) : ∀ (m : Nat) (T : Tm) (H : Heap), F17_l0 R lim n K m (T 1) (T 3) (T 4) (T 11) (T 13) H → loopW (execW R lim n 56 f17_p0) m T H kw
  | 0, _, _, h => False.elim h
  | m + 1, T, H, h => by
    have hb : ∀ ex T H, F17_k0 R lim n K (F17_l0 R lim n K m) ex T H → (fun ex T H => match ex with | .norm => loopW (execW R lim n 56 f17_p0) m T H kw | ex => kw ex T H : Kt) ex T H := by
      intro ex T H h
      cases ex with
      | norm => exact F17_l0_ok R lim n K hk m T H h
      | exit i => exact hk _ _ _ h
      | ret => exact hk _ _ _ h
    have h' : F17_s0 R lim n K (F17_l0 R lim n K m) (T 1) (T 3) (T 4) (T 11) (T 13) H := h
    rw [F17_s0_eq] at h'
    exact execI_sound f17_p0 T H _ _ (oblig_nl (by kernel_rfl)) hb h'
theorem F17_eq (R : Caller) (lim n : Nat) (K : AVal → Heap → Prop) (a0 a1 a2 a3 a4 : AVal) (H : Heap) : F17 R lim n K a0 a1 a2 a3 a4 H = execI R lim n 56 (F17_Lp R lim n K) f17.body (argT [a0, a1, a2, a3, a4]) H (retW [(.tmp 10)] K) := by kernel_rfl
theorem F17_ob (R : Caller) (lim n : Nat) (K : AVal → Heap → Prop) : Oblig R lim n 56 (F17_Lp R lim n K) f17.body (retW [(.tmp 10)] K) := ⟨(oblig_nl (by kernel_rfl)), ⟨(oblig_nl (by kernel_rfl)), ⟨(oblig_nl (by kernel_rfl)), ⟨⟨(oblig_nl (by kernel_rfl)), (fun T H h => F17_l0_ok R lim n K (kBlk_mono (kSeqI_sound (oblig_nl (by kernel_rfl)) (fun _ _ _ h => h))) _ T H h)⟩, (oblig_nl (by kernel_rfl))⟩⟩⟩⟩
theorem F17_run {ap : FuncId → Option AFn} (hf : ap 17 = some (.code f17)) {n lim : Nat} {K : AVal → Heap → Prop} {a0 a1 a2 a3 a4 : AVal} {H : Heap} (h : F17 (Ahs.runT ap n) lim n K a0 a1 a2 a3 a4 H) : ∃ v H', Ahs.runT ap (n + 1) lim (.fn 17) [a0, a1, a2, a3, a4] H = some (v, H') ∧ K v H' := by
  rw [F17_eq] at h
  exact run_of_W hf (by kernel_rfl) (by kernel_rfl) (execI_sound f17.body _ _ _ _ (F17_ob _ _ _ K) (fun _ _ _ h => h) h)
def F18 (R : Caller) (lim n : Nat) (K : AVal → Heap → Prop) (a0 a1 : AVal) (H : Heap) : Prop :=
bind2 (R lim (.fn 54) [a0, a1] H) fun v1 H2 =>
bindP (extO 0 v1) fun v3 =>
bindP (extO 1 v1) fun v4 =>
bindP (boolOf v4) fun b5 =>
(b5 = true → (bindP (nilO a0) fun v6 =>
bindP (faddrO 4 v6) fun v7 =>
bindP (aload H2 none v7) fun v8 =>
bindP (aindexAddr none 13 v8 v3) fun v9 =>
bindP (faddrO 1 v9) fun v10 =>
bindP (aload H2 none v10) fun v11 =>
K (.tup [v11, (.bool true)]) H2)) ∧
(b5 = false → (bind2 (R lim (.fn 55) [a0] H2) fun v12 H13 =>
bindP (gd (some (v12, false)) (some a1)) fun v14 =>
bindP (gd (some (v12, false)) (some a0)) fun v15 =>
bindP (gd (some (v12, false)) (nilO v15)) fun v16 =>
bindP (gd (some (v12, false)) (faddrO 1 v16)) fun v17 =>
bindP (gd (some (v12, false)) (aload H13 none v17)) fun v18 =>
bindP (gd (some (v12, false)) (abin .neq v14 v18)) fun v19 =>
bindP (pickO v12 (.bool true) v19) fun v20 =>
bindP (boolOf v20) fun b21 =>
(b21 = true → (K (.tup [(.int .u64 0), (.bool false)]) H13)) ∧
(b21 = false → (bindP (nilO a0) fun v22 =>
bindP (faddrO 2 v22) fun v23 =>
bindP (aload H13 none v23) fun v24 =>
K (.tup [v24, (.bool true)]) H13))))
def F18_Lp (R : Caller) (lim n : Nat) (K : AVal → Heap → Prop) : Nat → Tm → Heap → Prop
  | _, _, _ => False
theorem F18_eq (R : Caller) (lim n : Nat) (K : AVal → Heap → Prop) (a0 a1 : AVal) (H : Heap) : F18 R lim n K a0 a1 H = execI R lim n 37 (F18_Lp R lim n K) f18.body (argT [a0, a1]) H (retW [(.tmp 4), (.tmp 5)] K) := by kernel_rfl
theorem F18_ob (R : Caller) (lim n : Nat) (K : AVal → Heap → Prop) : Oblig R lim n 37 (F18_Lp R lim n K) f18.body (retW [(.tmp 4), (.tmp 5)] K) := (oblig_nl (by kernel_rfl))
theorem F18_run {ap : FuncId → Option AFn} (hf : ap 18 = some (.code f18)) {n lim : Nat} {K : AVal → Heap → Prop} {a0 a1 : AVal} {H : Heap} (h : F18 (Ahs.runT ap n) lim n K a0 a1 H) : ∃ v H', Ahs.runT ap (n + 1) lim (.fn 18) [a0, a1] H = some (v, H') ∧ K v H' := by
  rw [F18_eq] at h
  exact run_of_W hf (by kernel_rfl) (by kernel_rfl) (execI_sound f18.body _ _ _ _ (F18_ob _ _ _ K) (fun _ _ _ h => h) h)
def F19 (R : Caller) (lim n : Nat) (K : AVal → Heap → Prop) (a0 a1 a2 : AVal) (H : Heap) : Prop :=
bind2 (R lim (.fn 55) [a0] H) fun v1 H2 =>
bindP (gd (some (v1, false)) (some a2)) fun v3 =>
bindP (gd (some (v1, false)) (abin .lss v3 (.int .i64 1))) fun v4 =>
bindP (pickO v1 (.bool true) v4) fun v5 =>
bindP (boolOf v5) fun b6 =>
(b6 = true → (K (.sl none 0 (.ex 0)) H2)) ∧
(b6 = false → (bindP (nilO a0) fun v7 =>
bindP (faddrO 1 v7) fun v8 =>
bindP (aload H2 none v8) fun v9 =>
bindP (abin .add v9 (.int .u64 1)) fun v10 =>
bindP (aminmax true [a1, v10]) fun v11 =>
bind2 (R lim (.fn 54) [a0, v11] H2) fun v12 H13 =>
bindP (extO 0 v12) fun v14 =>
bindP (extO 1 v12) fun v15 =>
bindP (aun .not v15) fun v16 =>
bindP (boolOf v16) fun b17 =>
(b17 = true → (K (.sl none 0 (.ex 0)) H13)) ∧
(b17 = false → (bindP (nilO a0) fun v18 =>
bindP (faddrO 4 v18) fun v19 =>
bindP (aload H13 none v19) fun v20 =>
bindP (nilO a0) fun v21 =>
bindP (faddrO 4 v21) fun v22 =>
bindP (aload H13 none v22) fun v23 =>
bindP (alen false v23) fun v24 =>
bindP (nilO a0) fun v25 =>
bindP (faddrO 4 v25) fun v26 =>
bindP (aload H13 none v26) fun v27 =>
bindP (alen false v27) fun v28 =>
bindP (aminmax false [a2, v28]) fun v29 =>
bindP (abin .add v14 v29) fun v30 =>
bindP (aminmax false [v24, v30]) fun v31 =>
bindP (aslice 13 v20 (some v14) (some v31) none) fun v32 =>
bind2 (R lim (.fn 56) [v32] H13) fun v33 H34 =>
K v33 H34))))
def F19_Lp (R : Caller) (lim n : Nat) (K : AVal → Heap → Prop) : Nat → Tm → Heap → Prop
  | _, _, _ => False
theorem F19_eq (R : Caller) (lim n : Nat) (K : AVal → Heap → Prop) (a0 a1 a2 : AVal) (H : Heap) : F19 R lim n K a0 a1 a2 H = execI R lim n 51 (F19_Lp R lim n K) f19.body (argT [a0, a1, a2]) H (retW [(.tmp 6)] K) := by kernel_rfl
theorem F19_ob (R : Caller) (lim n : Nat) (K : AVal → Heap → Prop) : Oblig R lim n 51 (F19_Lp R lim n K) f19.body (retW [(.tmp 6)] K) := (oblig_nl (by kernel_rfl))
theorem F19_run {ap : FuncId → Option AFn} (hf : ap 19 = some (.code f19)) {n lim : Nat} {K : AVal → Heap → Prop} {a0 a1 a2 : AVal} {H : Heap} (h : F19 (Ahs.runT ap n) lim n K a0 a1 a2 H) : ∃ v H', Ahs.runT ap (n + 1) lim (.fn 19) [a0, a1, a2] H = some (v, H') ∧ K v H' := by
  rw [F19_eq] at h
  exact run_of_W hf (by kernel_rfl) (by kernel_rfl) (execI_sound f19.body _ _ _ _ (F19_ob _ _ _ K) (fun _ _ _ h => h) h)
def F20_j0 (R : Caller) (lim n : Nat) (K : AVal → Heap → Prop) (t9 t10 : AVal) (H : Heap) : Prop :=
K (.tup [(.bool true), t9, t10]) H
def F20_j1 (R : Caller) (lim n : Nat) (K : AVal → Heap → Prop) (rec0 : AVal → AVal → AVal → AVal → AVal → AVal → AVal → Heap → Prop) (t0 t3 t9 t11 : AVal) (H : Heap) : Prop :=
bindP (aslice 13 t3 (some t11) none none) fun v98 =>
bind2 (R lim (.fn 56) [v98] H) fun v99 H100 =>
bindP (nilO t0) fun v101 =>
bindP (faddrO 4 v101) fun v102 =>
bindP (aload H100 none v102) fun v103 =>
bind2 (aappend lim H100 z0 48 false v103 v99) fun v104 H105 =>
bindP (nilO t0) fun v106 =>
bindP (faddrO 4 v106) fun v107 =>
bindP (astore lim H105 1 v107 v104) fun H108 =>
F20_j0 R lim n K t9 v99 H108
def F20_s0 (R : Caller) (lim n : Nat) (K : AVal → Heap → Prop) (rec0 : AVal → AVal → AVal → AVal → AVal → AVal → AVal → Heap → Prop) (t0 t3 t9 t10 t33 t34 t35 : AVal) (H : Heap) : Prop :=
bindP (abin .lss t35 t34) fun v65 =>
bindP (boolOf v65) fun b66 =>
(b66 = true → (bindP (aindexAddr none 13 t33 t35) fun v67 =>
bindP (aload H (some 13) v67) fun v68 =>
bindP (astore lim (H.push (.cells z0)) 13 (.ptr (some (H.next, 0))) v68) fun H69 =>
bindP (faddrO 0 (.ptr (some (H.next, 0)))) fun v70 =>
bindP (aload H69 none v70) fun v71 =>
bind2 (R lim (.fn 18) [t0, v71] H69) fun v72 H73 =>
bindP (extO 0 v72) fun v74 =>
bindP (extO 1 v72) fun v75 =>
bindP (faddrO 0 (.ptr (some (H.next, 0)))) fun v76 =>
bindP (aload H73 none v76) fun v77 =>
bindP (nilO t0) fun v78 =>
bindP (faddrO 1 v78) fun v79 =>
bindP (aload H73 none v79) fun v80 =>
bindP (abin .leq v77 v80) fun v81 =>
bindP (gd (some (v81, false)) (some v75)) fun v82 =>
bindP (gd (some (v81, false)) (some v82)) fun v83 =>
bindP (gd (some (v83, true)) (some v74)) fun v84 =>
bindP (gd (some (v83, true)) (faddrO 1 (.ptr (some (H.next, 0))))) fun v85 =>
bindP (gd (some (v83, true)) (aload H73 none v85)) fun v86 =>
bindP (gd (some (v83, true)) (abin .eql v84 v86)) fun v87 =>
bindP (gd (some (v81, false)) (pickO v83 v87 (.bool false))) fun v88 =>
bindP (pickO v81 (.bool true) v88) fun v89 =>
bindP (boolOf v89) fun b90 =>
(b90 = true → (bindP (abin .add t35 (.int .i64 1)) fun v91 =>
rec0 t0 t3 t9 t10 t33 t34 v91 H73)) ∧
(b90 = false → (bindP (faddrO 0 (.ptr (some (H.next, 0)))) fun v92 =>
bindP (aload H73 none v92) fun v93 =>
bind2 (R lim (.fn 54) [t0, v93] H73) fun v94 H95 =>
bindP (extO 0 v94) fun v96 =>
bindP (extO 1 v94) fun v97 =>
bindP (boolOf v97) fun b109 =>
(b109 = true → (bindP (nilO t0) fun v110 =>
bindP (faddrO 4 v110) fun v111 =>
bindP (aload H95 none v111) fun v112 =>
bindP (aslice 13 v112 none (some v96) (some v96)) fun v113 =>
bindP (nilO t0) fun v114 =>
bindP (faddrO 4 v114) fun v115 =>
bindP (astore lim H95 1 v115 v113) fun H116 =>
F20_j1 R lim n K rec0 t0 t3 t9 t35 H116)) ∧
(b109 = false → (F20_j1 R lim n K rec0 t0 t3 t9 t35 H95)))))) ∧
(b66 = false → (F20_j0 R lim n K t9 t10 H))
def F20_l0 (R : Caller) (lim n : Nat) (K : AVal → Heap → Prop) : Nat → AVal → AVal → AVal → AVal → AVal → AVal → AVal → Heap → Prop
  | 0, _, _, _, _, _, _, _, _ => False
  | m + 1, t0, t3, t9, t10, t33, t34, t35, H => F20_s0 R lim n K (F20_l0 R lim n K m) t0 t3 t9 t10 t33 t34 t35 H
def F20 (R : Caller) (lim n : Nat) (K : AVal → Heap → Prop) (a0 a1 a2 a3 : AVal) (H : Heap) : Prop :=
bind2 (R lim (.fn 57) [a0, a1, a2, a3] H) fun v1 H2 =>
bindP (aun .not v1) fun v3 =>
bindP (boolOf v3) fun b4 =>
(b4 = true → (K (.tup [(.bool false), (.int .u64 0), (.sl none 0 (.ex 0))]) H2)) ∧
(b4 = false → (bindP (alen false a3) fun v5 =>
bindP (convO .u64 v5) fun v6 =>
bindP (abin .add a1 v6) fun v7 =>
bindP (nilO a0) fun v8 =>
bindP (faddrO 1 v8) fun v9 =>
bindP (aload H2 none v9) fun v10 =>
bindP (aminmax true [v7, v10]) fun v11 =>
bindP (alen false a3) fun v12 =>
F20_l0 R lim n K n a0 a3 v11 (.sl none 0 (.ex 0)) a3 v12 (.int .i64 0) H2))
def F20_Lp (R : Caller) (lim n : Nat) (K : AVal → Heap → Prop) : Nat → Tm → Heap → Prop
  | 0, T, H => F20_l0 R lim n K n (T 0) (T 3) (T 9) (T 10) (T 33) (T 34) (T 35) H
  | _, _, _ => False
def F20_Lp0 (R : Caller) (lim n : Nat) (K : AVal → Heap → Prop) (rec0 : AVal → AVal → AVal → AVal → AVal → AVal → AVal → Heap → Prop) : Nat → Tm → Heap → Prop
  | _, _, _ => False
def F20_k0 (R : Caller) (lim n : Nat) (K : AVal → Heap → Prop) (rec0 : AVal → AVal → AVal → AVal → AVal → AVal → AVal → Heap → Prop) : Kt := fun ex T H => match ex with
  | .norm => rec0 (T 0) (T 3) (T 9) (T 10) (T 33) (T 34) (T 35) H
  | ex => (kBlk 0 (kSeq (execI R lim n 97 (F20_Lp R lim n K) f20_p1) (retW [(.tmp 8), (.tmp 9), (.tmp 10)] K))) ex T H
theorem F20_s0_eq (R : Caller) (lim n : Nat) (K : AVal → Heap → Prop) (rec0 : AVal → AVal → AVal → AVal → AVal → AVal → AVal → Heap → Prop) (T : Tm) (H : Heap) : F20_s0 R lim n K rec0 (T 0) (T 3) (T 9) (T 10) (T 33) (T 34) (T 35) H = execI R lim n 97 (F20_Lp0 R lim n K rec0) f20_p0 T H (F20_k0 R lim n K rec0) := by kernel_rfl
theorem F20_l0_ok (R : Caller) (lim n : Nat) (K : AVal → Heap → Prop) {kw : Kt} (hk : ∀ ex T H, (kBlk 0 (kSeq (execI R lim n 97 (F20_Lp R lim n K) f20_p1) (retW [(.tmp 8), (.tmp 9), (.tmp 10)] K))) ex T H → kw ex T H) : ∀ (m : Nat) (T : Tm) (H : Heap), F20_l0 R lim n K m (T 0) (T 3) (T 9) (T 10) (T 33) (T 34) (T 35) H → loopW (execW R lim n 97 f20_p0) m T H kw
  | 0, _, _, h => False.elim h
  | m + 1, T, H, h => by
    have hb : ∀ ex T H, F20_k0 R lim n K (F20_l0 R lim n K m) ex T H → (fun ex T H => match ex with | .norm => loopW (execW R lim n 97 f20_p0) m T H kw | ex => kw ex T H : Kt) ex T H := by
      intro ex T H h
      cases ex with
      | norm => exact F20_l0_ok R lim n K hk m T H h
      | exit i => exact hk _ _ _ h
      | ret => exact hk _ _ _ h
    have h' : F20_s0 R lim n K (F20_l0 R lim n K m) (T 0) (T 3) (T 9) (T 10) (T 33) (T 34) (T 35) H := h
    rw [F20_s0_eq] at h'
    exact execI_sound f20_p0 T H _ _ (oblig_nl (by kernel_rfl)) hb h'
theorem F20_eq (R : Caller) (lim n : Nat) (K : AVal → Heap → Prop) (a0 a1 a2 a3 : AVal) (H : Heap) : F20 R lim n K a0 a1 a2 a3 H = execI R lim n 97 (F20_Lp R lim n K) f20.body (argT [a0, a1, a2, a3]) H (retW [(.tmp 8), (.tmp 9), (.tmp 10)] K) := by kernel_rfl
theorem F20_ob (R : Caller) (lim n : Nat) (K : AVal → Heap → Prop) : Oblig R lim n 97 (F20_Lp R lim n K) f20.body (retW [(.tmp 8), (.tmp 9), (.tmp 10)] K) := ⟨(oblig_nl (by kernel_rfl)), ⟨(oblig_nl (by kernel_rfl)), ⟨(oblig_nl (by kernel_rfl)), ⟨⟨(oblig_nl (by kernel_rfl)), (fun T H h => F20_l0_ok R lim n K (kBlk_mono (kSeqI_sound (oblig_nl (by kernel_rfl)) (fun _ _ _ h => h))) _ T H h)⟩, (oblig_nl (by kernel_rfl))⟩⟩⟩⟩
theorem F20_run {ap : FuncId → Option AFn} (hf : ap 20 = some (.code f20)) {n lim : Nat} {K : AVal → Heap → Prop} {a0 a1 a2 a3 : AVal} {H : Heap} (h : F20 (Ahs.runT ap n) lim n K a0 a1 a2 a3 H) : ∃ v H', Ahs.runT ap (n + 1) lim (.fn 20) [a0, a1, a2, a3] H = some (v, H') ∧ K v H' := by
  rw [F20_eq] at h
  exact run_of_W hf (by kernel_rfl) (by kernel_rfl) (execI_sound f20.body _ _ _ _ (F20_ob _ _ _ K) (fun _ _ _ h => h) h)
def F21_j0 (R : Caller) (lim n : Nat) (K : AVal → Heap → Prop) (H : Heap) : Prop :=
K (.bool true) H
def F21_s0 (R : Caller) (lim n : Nat) (K : AVal → Heap → Prop) (rec0 : AVal → AVal → AVal → Heap → Prop) (t0 t1 t5 : AVal) (H : Heap) : Prop :=
bindP (alen false t0) fun v15 =>
bindP (abin .lss t5 v15) fun v16 =>
bindP (boolOf v16) fun b17 =>
(b17 = true → (bindP (aindexAddr none 13 t0 t5) fun v18 =>
bindP (aload H (some 13) v18) fun v19 =>
bindP (aindexAddr none 13 t1 t5) fun v20 =>
bindP (aload H (some 13) v20) fun v21 =>
bindP (eqvO true (.cells [(.int .u64), (.int .u64), (.int .u8), (.int .u8), (.int .u8), (.int .u8), (.int .u8), (.int .u8), (.int .u8), (.int .u8), (.int .u8), (.int .u8), .str]) v19 v21) fun v22 =>
bindP (boolOf v22) fun b23 =>
(b23 = true → (K (.bool false) H)) ∧
(b23 = false → (bindP (abin .add t5 (.int .i64 1)) fun v24 =>
rec0 t0 t1 v24 H)))) ∧
(b17 = false → (F21_j0 R lim n K H))
def F21_l0 (R : Caller) (lim n : Nat) (K : AVal → Heap → Prop) : Nat → AVal → AVal → AVal → Heap → Prop
  | 0, _, _, _, _ => False
  | m + 1, t0, t1, t5, H => F21_s0 R lim n K (F21_l0 R lim n K m) t0 t1 t5 H
def F21 (R : Caller) (lim n : Nat) (K : AVal → Heap → Prop) (a0 a1 : AVal) (H : Heap) : Prop :=
bindP (alen false a0) fun v1 =>
bindP (alen false a1) fun v2 =>
bindP (abin .neq v1 v2) fun v3 =>
bindP (boolOf v3) fun b4 =>
(b4 = true → (K (.bool false) H)) ∧
(b4 = false → (F21_l0 R lim n K n a0 a1 (.int .i64 0) H))
def F21_Lp (R : Caller) (lim n : Nat) (K : AVal → Heap → Prop) : Nat → Tm → Heap → Prop
  | 0, T, H => F21_l0 R lim n K n (T 0) (T 1) (T 5) H
  | _, _, _ => False
def F21_Lp0 (R : Caller) (lim n : Nat) (K : AVal → Heap → Prop) (rec0 : AVal → AVal → AVal → Heap → Prop) : Nat → Tm → Heap → Prop
  | _, _, _ => False
def F21_k0 (R : Caller) (lim n : Nat) (K : AVal → Heap → Prop) (rec0 : AVal → AVal → AVal → Heap → Prop) : Kt := fun ex T H => match ex with
  | .norm => rec0 (T 0) (T 1) (T 5) H
  | ex => (kBlk 0 (kSeq (execI R lim n 26 (F21_Lp R lim n K) f21_p1) (retW [(.tmp 4)] K))) ex T H
theorem F21_s0_eq (R : Caller) (lim n : Nat) (K : AVal → Heap → Prop) (rec0 : AVal → AVal → AVal → Heap → Prop) (T : Tm) (H : Heap) : F21_s0 R lim n K rec0 (T 0) (T 1) (T 5) H = execI R lim n 26 (F21_Lp0 R lim n K rec0) f21_p0 T H (F21_k0 R lim n K rec0) := by kernel_rfl
theorem F21_l0_ok (R : Caller) (lim n : Nat) (K : AVal → Heap → Prop) {kw : Kt} (hk : ∀ ex T H, (kBlk 0 (kSeq (execI R lim n 26 (F21_Lp R lim n K) f21_p1) (retW [(.tmp 4)] K))) ex T H → kw ex T H) : ∀ (m : Nat) (T : Tm) (H : Heap), F21_l0 R lim n K m (T 0) (T 1) (T 5) H → loopW (execW R lim n 26 f21_p0) m T H kw
  | 0, _, _, h => False.elim h
  | m + 1, T, H, h => by
    have hb : ∀ ex T H, F21_k0 R lim n K (F21_l0 R lim n K m) ex T H → (fun ex T H => match ex with | .norm => loopW (execW R lim n 26 f21_p0) m T H kw | ex => kw ex T H : Kt) ex T H := by
      intro ex T H h
      cases ex with
      | norm => exact F21_l0_ok R lim n K hk m T H h
      | exit i => exact hk _ _ _ h
      | ret => exact hk _ _ _ h
    have h' : F21_s0 R lim n K (F21_l0 R lim n K m) (T 0) (T 1) (T 5) H := h
    rw [F21_s0_eq] at h'
    exact execI_sound f21_p0 T H _ _ (oblig_nl (by kernel_rfl)) hb h'
theorem F21_eq (R : Caller) (lim n : Nat) (K : AVal → Heap → Prop) (a0 a1 : AVal) (H : Heap) : F21 R lim n K a0 a1 H = execI R lim n 26 (F21_Lp R lim n K) f21.body (argT [a0, a1]) H (retW [(.tmp 4)] K) := by kernel_rfl
theorem F21_ob (R : Caller) (lim n : Nat) (K : AVal → Heap → Prop) : Oblig R lim n 26 (F21_Lp R lim n K) f21.body (retW [(.tmp 4)] K) := ⟨(oblig_nl (by kernel_rfl)), ⟨(oblig_nl (by kernel_rfl)), ⟨⟨(oblig_nl (by kernel_rfl)), (fun T H h => F21_l0_ok R lim n K (kBlk_mono (kSeqI_sound (oblig_nl (by kernel_rfl)) (fun _ _ _ h => h))) _ T H h)⟩, (oblig_nl (by kernel_rfl))⟩⟩⟩
theorem F21_run {ap : FuncId → Option AFn} (hf : ap 21 = some (.code f21)) {n lim : Nat} {K : AVal → Heap → Prop} {a0 a1 : AVal} {H : Heap} (h : F21 (Ahs.runT ap n) lim n K a0 a1 H) : ∃ v H', Ahs.runT ap (n + 1) lim (.fn 21) [a0, a1] H = some (v, H') ∧ K v H' := by
  rw [F21_eq] at h
  exact run_of_W hf (by kernel_rfl) (by kernel_rfl) (execI_sound f21.body _ _ _ _ (F21_ob _ _ _ K) (fun _ _ _ h => h) h)
def F22 (R : Caller) (lim n : Nat) (K : AVal → Heap → Prop) (a0 : AVal) (H : Heap) : Prop :=
bind2 (R lim (.fn 55) [a0] H) fun v1 H2 =>
bindP (gd (some (v1, false)) (some a0)) fun v3 =>
bindP (gd (some (v1, false)) (nilO v3)) fun v4 =>
bindP (gd (some (v1, false)) (faddrO 4 v4)) fun v5 =>
bindP (gd (some (v1, false)) (aload H2 none v5)) fun v6 =>
bindP (gd (some (v1, false)) (alen false v6)) fun v7 =>
bindP (gd (some (v1, false)) (abin .eql v7 (.int .i64 0))) fun v8 =>
bindP (pickO v1 (.bool true) v8) fun v9 =>
bindP (boolOf v9) fun b10 =>
(b10 = true → (bind2 (R lim (.fn 25) [a0] H2) fun v11 H12 =>
bindP (extO 0 v11) fun v13 =>
bindP (extO 1 v11) fun v14 =>
K (.tup [v13, v14]) H12)) ∧
(b10 = false → (bindP (nilO a0) fun v15 =>
bindP (faddrO 4 v15) fun v16 =>
bindP (aload H2 none v16) fun v17 =>
bindP (nilO a0) fun v18 =>
bindP (faddrO 4 v18) fun v19 =>
bindP (aload H2 none v19) fun v20 =>
bindP (alen false v20) fun v21 =>
bindP (abin .sub v21 (.int .i64 1)) fun v22 =>
bindP (aindexAddr none 13 v17 v22) fun v23 =>
bindP (aload H2 (some 13) v23) fun v24 =>
bindP (astore lim (H2.push (.cells z0)) 13 (.ptr (some (H2.next, 0))) v24) fun H25 =>
bindP (faddrO 0 (.ptr (some (H2.next, 0)))) fun v26 =>
bindP (aload H25 none v26) fun v27 =>
bindP (faddrO 1 (.ptr (some (H2.next, 0)))) fun v28 =>
bindP (aload H25 none v28) fun v29 =>
K (.tup [v27, v29]) H25))
def F22_Lp (R : Caller) (lim n : Nat) (K : AVal → Heap → Prop) : Nat → Tm → Heap → Prop
  | _, _, _ => False
theorem F22_eq (R : Caller) (lim n : Nat) (K : AVal → Heap → Prop) (a0 : AVal) (H : Heap) : F22 R lim n K a0 H = execI R lim n 35 (F22_Lp R lim n K) f22.body (argT [a0]) H (retW [(.tmp 2), (.tmp 3)] K) := by kernel_rfl
theorem F22_ob (R : Caller) (lim n : Nat) (K : AVal → Heap → Prop) : Oblig R lim n 35 (F22_Lp R lim n K) f22.body (retW [(.tmp 2), (.tmp 3)] K) := (oblig_nl (by kernel_rfl))
theorem F22_run {ap : FuncId → Option AFn} (hf : ap 22 = some (.code f22)) {n lim : Nat} {K : AVal → Heap → Prop} {a0 : AVal} {H : Heap} (h : F22 (Ahs.runT ap n) lim n K a0 H) : ∃ v H', Ahs.runT ap (n + 1) lim (.fn 22) [a0] H = some (v, H') ∧ K v H' := by
  rw [F22_eq] at h
  exact run_of_W hf (by kernel_rfl) (by kernel_rfl) (execI_sound f22.body _ _ _ _ (F22_ob _ _ _ K) (fun _ _ _ h => h) h)
def F23 (R : Caller) (lim n : Nat) (K : AVal → Heap → Prop) (a0 a1 a2 a3 : AVal) (H : Heap) : Prop :=
bind2 (R lim (.fn 58) [a3] H) fun v1 H2 =>
bind2 (R lim (.fn 59) [a0, a1, v1] H2) fun v3 H4 =>
bindP (aun .not v3) fun v5 =>
bindP (boolOf v5) fun b6 =>
(b6 = true → (K (.tup [(.ptr none), (.int .i64 1)]) H4)) ∧
(b6 = false → (bindP (buildO z2 [(0, 1, (.bool true)), (1, 1, a0), (2, 1, a1), (3, 1, a2), (4, 1, v1)]) fun v7 =>
bind2 (if (v7).cells.all (·.one) then some (.ptr (some (H4.next, 0)), H4.push (.cells (v7).cells)) else none) fun v8 H9 =>
K (.tup [v8, (.int .i64 0)]) H9))
def F23_Lp (R : Caller) (lim n : Nat) (K : AVal → Heap → Prop) : Nat → Tm → Heap → Prop
  | _, _, _ => False
theorem F23_eq (R : Caller) (lim n : Nat) (K : AVal → Heap → Prop) (a0 a1 a2 a3 : AVal) (H : Heap) : F23 R lim n K a0 a1 a2 a3 H = execI R lim n 24 (F23_Lp R lim n K) f23.body (argT [a0, a1, a2, a3]) H (retW [(.tmp 8), (.tmp 9)] K) := by kernel_rfl
theorem F23_ob (R : Caller) (lim n : Nat) (K : AVal → Heap → Prop) : Oblig R lim n 24 (F23_Lp R lim n K) f23.body (retW [(.tmp 8), (.tmp 9)] K) := (oblig_nl (by kernel_rfl))
theorem F23_run {ap : FuncId → Option AFn} (hf : ap 23 = some (.code f23)) {n lim : Nat} {K : AVal → Heap → Prop} {a0 a1 a2 a3 : AVal} {H : Heap} (h : F23 (Ahs.runT ap n) lim n K a0 a1 a2 a3 H) : ∃ v H', Ahs.runT ap (n + 1) lim (.fn 23) [a0, a1, a2, a3] H = some (v, H') ∧ K v H' := by
  rw [F23_eq] at h
  exact run_of_W hf (by kernel_rfl) (by kernel_rfl) (execI_sound f23.body _ _ _ _ (F23_ob _ _ _ K) (fun _ _ _ h => h) h)
def F24 (R : Caller) (lim n : Nat) (K : AVal → Heap → Prop) (a0 a1 : AVal) (H : Heap) : Prop :=
bind2 (R lim (.fn 55) [a0] H) fun v1 H2 =>
bindP (boolOf v1) fun b3 =>
(b3 = true → (K (.int .i64 4) H2)) ∧
(b3 = false → (bind2 (R lim (.fn 22) [a0] H2) fun v4 H5 =>
bindP (extO 0 v4) fun v6 =>
bindP (extO 1 v4) fun v7 =>
bindP (nilO a0) fun v8 =>
bindP (faddrO 1 v8) fun v9 =>
bindP (aload H5 none v9) fun v10 =>
bindP (abin .lss a1 v10) fun v11 =>
bindP (boolOf v11) fun b12 =>
(b12 = true → (K (.int .i64 10) H5)) ∧
(b12 = false → (bindP (abin .gtr a1 v6) fun v13 =>
bindP (boolOf v13) fun b14 =>
(b14 = true → (K (.int .i64 4) H5)) ∧
(b14 = false → (bind2 (R lim (.fn 18) [a0, a1] H5) fun v15 H16 =>
bindP (extO 0 v15) fun v17 =>
bindP (extO 1 v15) fun v18 =>
bind2 (R lim (.fn 27) [a0, a1] H16) fun v19 H20 =>
bind2 (R lim (.fn 33) [a0, a1, v17, v19] H20) fun v21 H22 =>
K (.int .i64 0) H22))))))
def F24_Lp (R : Caller) (lim n : Nat) (K : AVal → Heap → Prop) : Nat → Tm → Heap → Prop
  | _, _, _ => False
theorem F24_eq (R : Caller) (lim n : Nat) (K : AVal → Heap → Prop) (a0 a1 : AVal) (H : Heap) : F24 R lim n K a0 a1 H = execI R lim n 40 (F24_Lp R lim n K) f24.body (argT [a0, a1]) H (retW [(.tmp 4)] K) := by kernel_rfl
theorem F24_ob (R : Caller) (lim n : Nat) (K : AVal → Heap → Prop) : Oblig R lim n 40 (F24_Lp R lim n K) f24.body (retW [(.tmp 4)] K) := (oblig_nl (by kernel_rfl))
theorem F24_run {ap : FuncId → Option AFn} (hf : ap 24 = some (.code f24)) {n lim : Nat} {K : AVal → Heap → Prop} {a0 a1 : AVal} {H : Heap} (h : F24 (Ahs.runT ap n) lim n K a0 a1 H) : ∃ v H', Ahs.runT ap (n + 1) lim (.fn 24) [a0, a1] H = some (v, H') ∧ K v H' := by
  rw [F24_eq] at h
  exact run_of_W hf (by kernel_rfl) (by kernel_rfl) (execI_sound f24.body _ _ _ _ (F24_ob _ _ _ K) (fun _ _ _ h => h) h)
def F25 (R : Caller) (lim n : Nat) (K : AVal → Heap → Prop) (a0 : AVal) (H : Heap) : Prop :=
bind2 (R lim (.fn 55) [a0] H) fun v1 H2 =>
bindP (boolOf v1) fun b3 =>
(b3 = true → (K (.tup [(.int .u64 0), (.int .u64 0)]) H2)) ∧
(b3 = false → (bindP (nilO a0) fun v4 =>
bindP (faddrO 1 v4) fun v5 =>
bindP (aload H2 none v5) fun v6 =>
bindP (nilO a0) fun v7 =>
bindP (faddrO 2 v7) fun v8 =>
bindP (aload H2 none v8) fun v9 =>
K (.tup [v6, v9]) H2))
def F25_Lp (R : Caller) (lim n : Nat) (K : AVal → Heap → Prop) : Nat → Tm → Heap → Prop
  | _, _, _ => False
theorem F25_eq (R : Caller) (lim n : Nat) (K : AVal → Heap → Prop) (a0 : AVal) (H : Heap) : F25 R lim n K a0 H = execI R lim n 14 (F25_Lp R lim n K) f25.body (argT [a0]) H (retW [(.tmp 2), (.tmp 3)] K) := by kernel_rfl
theorem F25_ob (R : Caller) (lim n : Nat) (K : AVal → Heap → Prop) : Oblig R lim n 14 (F25_Lp R lim n K) f25.body (retW [(.tmp 2), (.tmp 3)] K) := (oblig_nl (by kernel_rfl))
theorem F25_run {ap : FuncId → Option AFn} (hf : ap 25 = some (.code f25)) {n lim : Nat} {K : AVal → Heap → Prop} {a0 : AVal} {H : Heap} (h : F25 (Ahs.runT ap n) lim n K a0 H) : ∃ v H', Ahs.runT ap (n + 1) lim (.fn 25) [a0] H = some (v, H') ∧ K v H' := by
  rw [F25_eq] at h
  exact run_of_W hf (by kernel_rfl) (by kernel_rfl) (execI_sound f25.body _ _ _ _ (F25_ob _ _ _ K) (fun _ _ _ h => h) h)
def F26 (R : Caller) (lim n : Nat) (K : AVal → Heap → Prop) (a0 : AVal) (H : Heap) : Prop :=
bind2 (R lim (.fn 55) [a0] H) fun v1 H2 =>
bindP (boolOf v1) fun b3 =>
(b3 = true → (K (.tup [(.int .u8 0), (.int .u64 0)]) H2)) ∧
(b3 = false → (bind2 (R lim (.fn 60) [a0, (.int .u64 18446744073709551615)] H2) fun v4 H5 =>
bindP (extO 0 v4) fun v6 =>
bindP (extO 1 v4) fun v7 =>
K (.tup [v6, v7]) H5))
def F26_Lp (R : Caller) (lim n : Nat) (K : AVal → Heap → Prop) : Nat → Tm → Heap → Prop
  | _, _, _ => False
theorem F26_eq (R : Caller) (lim n : Nat) (K : AVal → Heap → Prop) (a0 : AVal) (H : Heap) : F26 R lim n K a0 H = execI R lim n 10 (F26_Lp R lim n K) f26.body (argT [a0]) H (retW [(.tmp 2), (.tmp 3)] K) := by kernel_rfl
theorem F26_ob (R : Caller) (lim n : Nat) (K : AVal → Heap → Prop) : Oblig R lim n 10 (F26_Lp R lim n K) f26.body (retW [(.tmp 2), (.tmp 3)] K) := (oblig_nl (by kernel_rfl))
theorem F26_run {ap : FuncId → Option AFn} (hf : ap 26 = some (.code f26)) {n lim : Nat} {K : AVal → Heap → Prop} {a0 : AVal} {H : Heap} (h : F26 (Ahs.runT ap n) lim n K a0 H) : ∃ v H', Ahs.runT ap (n + 1) lim (.fn 26) [a0] H = some (v, H') ∧ K v H' := by
  rw [F26_eq] at h
  exact run_of_W hf (by kernel_rfl) (by kernel_rfl) (execI_sound f26.body _ _ _ _ (F26_ob _ _ _ K) (fun _ _ _ h => h) h)
def F27 (R : Caller) (lim n : Nat) (K : AVal → Heap → Prop) (a0 a1 : AVal) (H : Heap) : Prop :=
bind2 (R lim (.fn 55) [a0] H) fun v1 H2 =>
bindP (boolOf v1) fun b3 =>
(b3 = true → (K (.int .u8 0) H2)) ∧
(b3 = false → (bind2 (R lim (.fn 60) [a0, a1] H2) fun v4 H5 =>
bindP (extO 0 v4) fun v6 =>
bindP (extO 1 v4) fun v7 =>
K v6 H5))
def F27_Lp (R : Caller) (lim n : Nat) (K : AVal → Heap → Prop) : Nat → Tm → Heap → Prop
  | _, _, _ => False
theorem F27_eq (R : Caller) (lim n : Nat) (K : AVal → Heap → Prop) (a0 a1 : AVal) (H : Heap) : F27 R lim n K a0 a1 H = execI R lim n 16 (F27_Lp R lim n K) f27.body (argT [a0, a1]) H (retW [(.tmp 4)] K) := by kernel_rfl
theorem F27_ob (R : Caller) (lim n : Nat) (K : AVal → Heap → Prop) : Oblig R lim n 16 (F27_Lp R lim n K) f27.body (retW [(.tmp 4)] K) := (oblig_nl (by kernel_rfl))
theorem F27_run {ap : FuncId → Option AFn} (hf : ap 27 = some (.code f27)) {n lim : Nat} {K : AVal → Heap → Prop} {a0 a1 : AVal} {H : Heap} (h : F27 (Ahs.runT ap n) lim n K a0 a1 H) : ∃ v H', Ahs.runT ap (n + 1) lim (.fn 27) [a0, a1] H = some (v, H') ∧ K v H' := by
  rw [F27_eq] at h
  exact run_of_W hf (by kernel_rfl) (by kernel_rfl) (execI_sound f27.body _ _ _ _ (F27_ob _ _ _ K) (fun _ _ _ h => h) h)
def F28_j0 (R : Caller) (lim n : Nat) (K : AVal → Heap → Prop) (H : Heap) : Prop :=
K (.bool false) H
def F28_s0 (R : Caller) (lim n : Nat) (K : AVal → Heap → Prop) (rec0 : AVal → AVal → Heap → Prop) (t0 t3 : AVal) (H : Heap) : Prop :=
bindP (alen false t0) fun v21 =>
bindP (abin .lss t3 v21) fun v22 =>
bindP (boolOf v22) fun b23 =>
(b23 = true → (bindP (aindexAddr none 5 t0 t3) fun v24 =>
bindP (faddrO 4 v24) fun v25 =>
bindP (aload H none v25) fun v26 =>
bind2 (R lim (.fn 15) [v26] H) fun v27 H28 =>
bindP (gd (some (v27, false)) (some t0)) fun v29 =>
bindP (gd (some (v27, false)) (some t3)) fun v30 =>
bindP (gd (some (v27, false)) (aindexAddr none 5 v29 v30)) fun v31 =>
bindP (gd (some (v27, false)) (faddrO 1 v31)) fun v32 =>
bindP (gd (some (v27, false)) (aload H28 none v32)) fun v33 =>
bindP (gd (some (v27, false)) (abin .gtr v33 (.int .u64 4611686018427387904))) fun v34 =>
bindP (pickO v27 (.bool true) v34) fun v35 =>
bindP (boolOf v35) fun b36 =>
(b36 = true → (K (.bool true) H28)) ∧
(b36 = false → (bindP (abin .add t3 (.int .i64 1)) fun v37 =>
rec0 t0 v37 H28)))) ∧
(b23 = false → (F28_j0 R lim n K H))
def F28_l0 (R : Caller) (lim n : Nat) (K : AVal → Heap → Prop) : Nat → AVal → AVal → Heap → Prop
  | 0, _, _, _ => False
  | m + 1, t0, t3, H => F28_s0 R lim n K (F28_l0 R lim n K m) t0 t3 H
def F28 (R : Caller) (lim n : Nat) (K : AVal → Heap → Prop) (a0 : AVal) (H : Heap) : Prop :=
bindP (alen false a0) fun v1 =>
bindP (abin .gtr v1 (.int .i64 60)) fun v2 =>
bindP (boolOf v2) fun b3 =>
(b3 = true → (K (.bool true) H)) ∧
(b3 = false → (F28_l0 R lim n K n a0 (.int .i64 0) H))
def F28_Lp (R : Caller) (lim n : Nat) (K : AVal → Heap → Prop) : Nat → Tm → Heap → Prop
  | 0, T, H => F28_l0 R lim n K n (T 0) (T 3) H
  | _, _, _ => False
def F28_Lp0 (R : Caller) (lim n : Nat) (K : AVal → Heap → Prop) (rec0 : AVal → AVal → Heap → Prop) : Nat → Tm → Heap → Prop
  | _, _, _ => False
def F28_k0 (R : Caller) (lim n : Nat) (K : AVal → Heap → Prop) (rec0 : AVal → AVal → Heap → Prop) : Kt := fun ex T H => match ex with
  | .norm => rec0 (T 0) (T 3) H
  | ex => (kBlk 0 (kSeq (execI R lim n 27 (F28_Lp R lim n K) f28_p1) (retW [(.tmp 2)] K))) ex T H
theorem F28_s0_eq (R : Caller) (lim n : Nat) (K : AVal → Heap → Prop) (rec0 : AVal → AVal → Heap → Prop) (T : Tm) (H : Heap) : F28_s0 R lim n K rec0 (T 0) (T 3) H = execI R lim n 27 (F28_Lp0 R lim n K rec0) f28_p0 T H (F28_k0 R lim n K rec0) := by kernel_rfl
theorem F28_l0_ok (R : Caller) (lim n : Nat) (K : AVal → Heap → Prop) {kw : Kt} (hk : ∀ ex T H, (kBlk 0 (kSeq (execI R lim n 27 (F28_Lp R lim n K) f28_p1) (retW [(.tmp 2)] K))) ex T H → kw ex T H) : ∀ (m : Nat) (T : Tm) (H : Heap), F28_l0 R lim n K m (T 0) (T 3) H → loopW (execW R lim n 27 f28_p0) m T H kw
  | 0, _, _, h => False.elim h
  | m + 1, T, H, h => by
    have hb : ∀ ex T H, F28_k0 R lim n K (F28_l0 R lim n K m) ex T H → (fun ex T H => match ex with | .norm => loopW (execW R lim n 27 f28_p0) m T H kw | ex => kw ex T H : Kt) ex T H := by
      intro ex T H h
      cases ex with
      | norm => exact F28_l0_ok R lim n K hk m T H h
      | exit i => exact hk _ _ _ h
      | ret => exact hk _ _ _ h
    have h' : F28_s0 R lim n K (F28_l0 R lim n K m) (T 0) (T 3) H := h
    rw [F28_s0_eq] at h'
    exact execI_sound f28_p0 T H _ _ (oblig_nl (by kernel_rfl)) hb h'
theorem F28_eq (R : Caller) (lim n : Nat) (K : AVal → Heap → Prop) (a0 : AVal) (H : Heap) : F28 R lim n K a0 H = execI R lim n 27 (F28_Lp R lim n K) f28.body (argT [a0]) H (retW [(.tmp 2)] K) := by kernel_rfl
theorem F28_ob (R : Caller) (lim n : Nat) (K : AVal → Heap → Prop) : Oblig R lim n 27 (F28_Lp R lim n K) f28.body (retW [(.tmp 2)] K) := ⟨(oblig_nl (by kernel_rfl)), ⟨(oblig_nl (by kernel_rfl)), ⟨⟨(oblig_nl (by kernel_rfl)), (fun T H h => F28_l0_ok R lim n K (kBlk_mono (kSeqI_sound (oblig_nl (by kernel_rfl)) (fun _ _ _ h => h))) _ T H h)⟩, (oblig_nl (by kernel_rfl))⟩⟩⟩
theorem F28_run {ap : FuncId → Option AFn} (hf : ap 28 = some (.code f28)) {n lim : Nat} {K : AVal → Heap → Prop} {a0 : AVal} {H : Heap} (h : F28 (Ahs.runT ap n) lim n K a0 H) : ∃ v H', Ahs.runT ap (n + 1) lim (.fn 28) [a0] H = some (v, H') ∧ K v H' := by
  rw [F28_eq] at h
  exact run_of_W hf (by kernel_rfl) (by kernel_rfl) (execI_sound f28.body _ _ _ _ (F28_ob _ _ _ K) (fun _ _ _ h => h) h)
def F29_j0 (R : Caller) (lim n : Nat) (K : AVal → Heap → Prop) (H : Heap) : Prop :=
K (.bool true) H
def F29_s0 (R : Caller) (lim n : Nat) (K : AVal → Heap → Prop) (rec0 : AVal → AVal → AVal → AVal → Heap → Prop) (t0 t1 t2 t7 : AVal) (H : Heap) : Prop :=
bindP (alen false t2) fun v30 =>
bindP (abin .lss t7 v30) fun v31 =>
bindP (boolOf v31) fun b32 =>
(b32 = true → (bindP (abin .eql t0 (.int .u64 18446744073709551615)) fun v33 =>
bindP (gd (some (v33, false)) (some t2)) fun v34 =>
bindP (gd (some (v33, false)) (some t7)) fun v35 =>
bindP (gd (some (v33, false)) (aindexAddr none 13 v34 v35)) fun v36 =>
bindP (gd (some (v33, false)) (faddrO 0 v36)) fun v37 =>
bindP (gd (some (v33, false)) (aload H none v37)) fun v38 =>
bindP (gd (some (v33, false)) (some t0)) fun v39 =>
bindP (gd (some (v33, false)) (abin .add v39 (.int .u64 1))) fun v40 =>
bindP (gd (some (v33, false)) (abin .neq v38 v40)) fun v41 =>
bindP (pickO v33 (.bool true) v41) fun v42 =>
bindP (gd (some (v42, false)) (some t2)) fun v43 =>
bindP (gd (some (v42, false)) (some t7)) fun v44 =>
bindP (gd (some (v42, false)) (aindexAddr none 13 v43 v44)) fun v45 =>
bindP (gd (some (v42, false)) (faddrO 1 v45)) fun v46 =>
bindP (gd (some (v42, false)) (aload H none v46)) fun v47 =>
bindP (gd (some (v42, false)) (some t1)) fun v48 =>
bindP (gd (some (v42, false)) (abin .lss v47 v48)) fun v49 =>
bindP (pickO v42 (.bool true) v49) fun v50 =>
bindP (boolOf v50) fun b51 =>
(b51 = true → (K (.bool false) H)) ∧
(b51 = false → (bindP (aindexAddr none 13 t2 t7) fun v52 =>
bindP (faddrO 0 v52) fun v53 =>
bindP (aload H none v53) fun v54 =>
bindP (aindexAddr none 13 t2 t7) fun v55 =>
bindP (faddrO 1 v55) fun v56 =>
bindP (aload H none v56) fun v57 =>
bindP (abin .add t7 (.int .i64 1)) fun v58 =>
rec0 v54 v57 t2 v58 H)))) ∧
(b32 = false → (F29_j0 R lim n K H))
def F29_l0 (R : Caller) (lim n : Nat) (K : AVal → Heap → Prop) : Nat → AVal → AVal → AVal → AVal → Heap → Prop
  | 0, _, _, _, _, _ => False
  | m + 1, t0, t1, t2, t7, H => F29_s0 R lim n K (F29_l0 R lim n K m) t0 t1 t2 t7 H
def F29 (R : Caller) (lim n : Nat) (K : AVal → Heap → Prop) (a0 a1 a2 : AVal) (H : Heap) : Prop :=
F29_l0 R lim n K n a0 a1 a2 (.int .i64 0) H
def F29_Lp (R : Caller) (lim n : Nat) (K : AVal → Heap → Prop) : Nat → Tm → Heap → Prop
  | 0, T, H => F29_l0 R lim n K n (T 0) (T 1) (T 2) (T 7) H
  | _, _, _ => False
def F29_Lp0 (R : Caller) (lim n : Nat) (K : AVal → Heap → Prop) (rec0 : AVal → AVal → AVal → AVal → Heap → Prop) : Nat → Tm → Heap → Prop
  | _, _, _ => False
def F29_k0 (R : Caller) (lim n : Nat) (K : AVal → Heap → Prop) (rec0 : AVal → AVal → AVal → AVal → Heap → Prop) : Kt := fun ex T H => match ex with
  | .norm => rec0 (T 0) (T 1) (T 2) (T 7) H
  | ex => (kBlk 0 (kSeq (execI R lim n 45 (F29_Lp R lim n K) f29_p1) (retW [(.tmp 6)] K))) ex T H
theorem F29_s0_eq (R : Caller) (lim n : Nat) (K : AVal → Heap → Prop) (rec0 : AVal → AVal → AVal → AVal → Heap → Prop) (T : Tm) (H : Heap) : F29_s0 R lim n K rec0 (T 0) (T 1) (T 2) (T 7) H = execI R lim n 45 (F29_Lp0 R lim n K rec0) f29_p0 T H (F29_k0 R lim n K rec0) := by kernel_rfl
theorem F29_l0_ok (R : Caller) (lim n : Nat) (K : AVal → Heap → Prop) {kw : Kt} (hk : ∀ ex T H, (kBlk 0 (kSeq (execI R lim n 45 (F29_Lp R lim n K) f29_p1) (retW [(.tmp 6)] K))) ex T H → kw ex T H) : ∀ (m : Nat) (T : Tm) (H : Heap), F29_l0 R lim n K m (T 0) (T 1) (T 2) (T 7) H → loopW (execW R lim n 45 f29_p0) m T H kw
  | 0, _, _, h => False.elim h
  | m + 1, T, H, h => by
    have hb : ∀ ex T H, F29_k0 R lim n K (F29_l0 R lim n K m) ex T H → (fun ex T H => match ex with | .norm => loopW (execW R lim n 45 f29_p0) m T H kw | ex => kw ex T H : Kt) ex T H := by
      intro ex T H h
      cases ex with
      | norm => exact F29_l0_ok R lim n K hk m T H h
      | exit i => exact hk _ _ _ h
      | ret => exact hk _ _ _ h
    have h' : F29_s0 R lim n K (F29_l0 R lim n K m) (T 0) (T 1) (T 2) (T 7) H := h
    rw [F29_s0_eq] at h'
    exact execI_sound f29_p0 T H _ _ (oblig_nl (by kernel_rfl)) hb h'
theorem F29_eq (R : Caller) (lim n : Nat) (K : AVal → Heap → Prop) (a0 a1 a2 : AVal) (H : Heap) : F29 R lim n K a0 a1 a2 H = execI R lim n 45 (F29_Lp R lim n K) f29.body (argT [a0, a1, a2]) H (retW [(.tmp 6)] K) := by kernel_rfl
theorem F29_ob (R : Caller) (lim n : Nat) (K : AVal → Heap → Prop) : Oblig R lim n 45 (F29_Lp R lim n K) f29.body (retW [(.tmp 6)] K) := ⟨(oblig_nl (by kernel_rfl)), ⟨⟨(oblig_nl (by kernel_rfl)), (fun T H h => F29_l0_ok R lim n K (kBlk_mono (kSeqI_sound (oblig_nl (by kernel_rfl)) (fun _ _ _ h => h))) _ T H h)⟩, (oblig_nl (by kernel_rfl))⟩⟩
theorem F29_run {ap : FuncId → Option AFn} (hf : ap 29 = some (.code f29)) {n lim : Nat} {K : AVal → Heap → Prop} {a0 a1 a2 : AVal} {H : Heap} (h : F29 (Ahs.runT ap n) lim n K a0 a1 a2 H) : ∃ v H', Ahs.runT ap (n + 1) lim (.fn 29) [a0, a1, a2] H = some (v, H') ∧ K v H' := by
  rw [F29_eq] at h
  exact run_of_W hf (by kernel_rfl) (by kernel_rfl) (execI_sound f29.body _ _ _ _ (F29_ob _ _ _ K) (fun _ _ _ h => h) h)
def F30_j0 (R : Caller) (lim n : Nat) (K : AVal → Heap → Prop) (H : Heap) : Prop :=
K (.tup [(.bool false), (.int .u64 0), (.sl none 0 (.ex 0)), (.int .i64 0)]) H
def F30_j1 (R : Caller) (lim n : Nat) (K : AVal → Heap → Prop) (H : Heap) : Prop :=
F30_j0 R lim n K H
def F30 (R : Caller) (lim n : Nat) (K : AVal → Heap → Prop) (a0 a1 : AVal) (H : Heap) : Prop :=
bind2 (if (a1).cells.all (·.one) then some (.ptr (some (H.next, 0)), H.push (.cells (a1).cells)) else none) fun v1 H2 =>
bindP (faddrO 0 v1) fun v3 =>
bindP (aload H2 none v3) fun v4 =>
bindP (abin .eql v4 (.int .u8 0)) fun v5 =>
bindP (boolOf v5) fun b6 =>
(b6 = true → (bindP (faddrO 4 v1) fun v7 =>
bindP (aload H2 none v7) fun v8 =>
bindP (alen false v8) fun v9 =>
bindP (abin .gtr v9 (.int .i64 0)) fun v10 =>
bindP (boolOf v10) fun b11 =>
(b11 = true → (bindP (faddrO 4 v1) fun v12 =>
bindP (aload H2 none v12) fun v13 =>
bindP (aindexAddr none 13 v13 (.int .i64 0)) fun v14 =>
bindP (aload H2 (some 13) v14) fun v15 =>
bind2 (R lim (.fn 35) [a0, v15] H2) fun v16 H17 =>
bindP (astore lim (H17.push (.cells z0)) 13 (.ptr (some (H17.next, 0))) v16) fun H18 =>
bindP (faddrO 0 (.ptr (some (H17.next, 0)))) fun v19 =>
bindP (aload H18 none v19) fun v20 =>
bindP (aload H18 (some 13) (.ptr (some (H17.next, 0)))) fun v21 =>
bind2 ((fillV z0 [(0, 13, v21)]).map fun cs => (.sl (some (H18.next, 0)) 1 (.ex 1), H18.push (.cells cs))) fun v22 H23 =>
K (.tup [(.bool true), v20, v22, (.int .i64 0)]) H23)) ∧
(b11 = false → (F30_j0 R lim n K H2)))) ∧
(b6 = false → (bindP (abin .eql v4 (.int .u8 1)) fun v24 =>
bindP (boolOf v24) fun b25 =>
(b25 = true → (bindP (faddrO 1 v1) fun v26 =>
bindP (aload H2 none v26) fun v27 =>
bindP (faddrO 2 v1) fun v28 =>
bindP (aload H2 none v28) fun v29 =>
bindP (faddrO 4 v1) fun v30 =>
bindP (aload H2 none v30) fun v31 =>
bind2 (R lim (.fn 20) [a0, v27, v29, v31] H2) fun v32 H33 =>
bindP (extO 0 v32) fun v34 =>
bindP (extO 1 v32) fun v35 =>
bindP (extO 2 v32) fun v36 =>
K (.tup [v34, v35, v36, (.int .i64 0)]) H33)) ∧
(b25 = false → (bindP (abin .eql v4 (.int .u8 2)) fun v37 =>
bindP (boolOf v37) fun b38 =>
(b38 = true → (bindP (faddrO 1 v1) fun v39 =>
bindP (aload H2 none v39) fun v40 =>
bind2 (R lim (.fn 24) [a0, v40] H2) fun v41 H42 =>
K (.tup [(.bool false), (.int .u64 0), (.sl none 0 (.ex 0)), v41]) H42)) ∧
(b38 = false → (bindP (abin .eql v4 (.int .u8 3)) fun v43 =>
bindP (boolOf v43) fun b44 =>
(b44 = true → (bindP (faddrO 1 v1) fun v45 =>
bindP (aload H2 none v45) fun v46 =>
bindP (faddrO 2 v1) fun v47 =>
bindP (aload H2 none v47) fun v48 =>
bindP (faddrO 3 v1) fun v49 =>
bindP (aload H2 none v49) fun v50 =>
bind2 (R lim (.fn 33) [a0, v46, v48, v50] H2) fun v51 H52 =>
F30_j1 R lim n K H52)) ∧
(b44 = false → (F30_j1 R lim n K H2))))))))
def F30_Lp (R : Caller) (lim n : Nat) (K : AVal → Heap → Prop) : Nat → Tm → Heap → Prop
  | _, _, _ => False
theorem F30_eq (R : Caller) (lim n : Nat) (K : AVal → Heap → Prop) (a0 a1 : AVal) (H : Heap) : F30 R lim n K a0 a1 H = execI R lim n 63 (F30_Lp R lim n K) f30.body (argT [a0, a1]) H (retW [(.tmp 4), (.tmp 5), (.tmp 6), (.tmp 7)] K) := by kernel_rfl
theorem F30_ob (R : Caller) (lim n : Nat) (K : AVal → Heap → Prop) : Oblig R lim n 63 (F30_Lp R lim n K) f30.body (retW [(.tmp 4), (.tmp 5), (.tmp 6), (.tmp 7)] K) := (oblig_nl (by kernel_rfl))
theorem F30_run {ap : FuncId → Option AFn} (hf : ap 30 = some (.code f30)) {n lim : Nat} {K : AVal → Heap → Prop} {a0 a1 : AVal} {H : Heap} (h : F30 (Ahs.runT ap n) lim n K a0 a1 H) : ∃ v H', Ahs.runT ap (n + 1) lim (.fn 30) [a0, a1] H = some (v, H') ∧ K v H' := by
  rw [F30_eq] at h
  exact run_of_W hf (by kernel_rfl) (by kernel_rfl) (execI_sound f30.body _ _ _ _ (F30_ob _ _ _ K) (fun _ _ _ h => h) h)
def F31_j0 (R : Caller) (lim n : Nat) (K : AVal → Heap → Prop) (t2 t4 : AVal) (H : Heap) : Prop :=
bindP (aload H (some 4) t2) fun v8 =>
bindP (astore lim H 4 t4 v8) fun H9 =>
bindP (aload H9 (some 4) t4) fun v10 =>
K (.tup [v10, (.bool false), (.int .u64 0), (.sl none 0 (.ex 0)), (.int .i64 0)]) H9
def F31 (R : Caller) (lim n : Nat) (K : AVal → Heap → Prop) (a0 a1 : AVal) (H : Heap) : Prop :=
bind2 (if (a0).cells.all (·.one) then some (.ptr (some (H.next, 0)), H.push (.cells (a0).cells)) else none) fun v1 H2 =>
bind2 (if (a1).cells.all (·.one) then some (.ptr (some (H2.next, 0)), H2.push (.cells (a1).cells)) else none) fun v3 H4 =>
bindP (faddrO 0 v3) fun v5 =>
bindP (aload (H4.push (.cells z1)) none v5) fun v6 =>
bindP (abin .eql v6 (.int .u8 0)) fun v7 =>
bindP (boolOf v7) fun b11 =>
(b11 = true → (bindP (faddrO 4 v3) fun v12 =>
bindP (aload (H4.push (.cells z1)) none v12) fun v13 =>
bindP (alen false v13) fun v14 =>
bindP (abin .gtr v14 (.int .i64 0)) fun v15 =>
bindP (boolOf v15) fun b16 =>
(b16 = true → (bindP (aload (H4.push (.cells z1)) (some 4) v1) fun v17 =>
bindP (faddrO 4 v3) fun v18 =>
bindP (aload (H4.push (.cells z1)) none v18) fun v19 =>
bindP (aindexAddr none 13 v19 (.int .i64 0)) fun v20 =>
bindP (aload (H4.push (.cells z1)) (some 13) v20) fun v21 =>
bind2 (R (H4.push (.cells z1)).next (.fn 61) [v17, v21] (H4.push (.cells z1))) fun v22 H23 =>
bindP (extO 0 v22) fun v24 =>
bindP (extO 1 v22) fun v25 =>
bindP (astore lim ((H23.push (.cells z1)).push (.cells z0)) 4 (.ptr (some (H23.next, 0))) v24) fun H26 =>
bindP (astore lim H26 13 (.ptr (some ((H23.push (.cells z1)).next, 0))) v25) fun H27 =>
bindP (aload H27 (some 4) (.ptr (some (H23.next, 0)))) fun v28 =>
bindP (faddrO 0 (.ptr (some ((H23.push (.cells z1)).next, 0)))) fun v29 =>
(apartB v29 (.ptr (some (H4.next, 0))) && true) = true ∧
bindP (aload H27 none v29) fun v30 =>
(apartB (.ptr (some ((H23.push (.cells z1)).next, 0))) (.ptr (some (H4.next, 0))) && true) = true ∧
bindP (aload H27 (some 13) (.ptr (some ((H23.push (.cells z1)).next, 0)))) fun v31 =>
bind2 ((fillV z0 [(0, 13, v31)]).map fun cs => (.sl (some (H27.next, 0)) 1 (.ex 1), H27.push (.cells cs))) fun v32 H33 =>
bindP (astore lim H33 4 (.ptr (some (H4.next, 0))) v28) fun H34 =>
bindP (aload H34 (some 4) (.ptr (some (H4.next, 0)))) fun v35 =>
K (.tup [v35, (.bool true), v30, v32, (.int .i64 0)]) H34)) ∧
(b16 = false → (F31_j0 R lim n K v1 (.ptr (some (H4.next, 0))) (H4.push (.cells z1)))))) ∧
(b11 = false → (bindP (abin .eql v6 (.int .u8 1)) fun v36 =>
bindP (boolOf v36) fun b37 =>
(b37 = true → (bindP (aload (H4.push (.cells z1)) (some 4) v1) fun v38 =>
bindP (faddrO 1 v3) fun v39 =>
bindP (aload (H4.push (.cells z1)) none v39) fun v40 =>
bindP (faddrO 2 v3) fun v41 =>
bindP (aload (H4.push (.cells z1)) none v41) fun v42 =>
bindP (faddrO 4 v3) fun v43 =>
bindP (aload (H4.push (.cells z1)) none v43) fun v44 =>
bind2 (R lim (.fn 62) [v38, v40, v42, v44] (H4.push (.cells z1))) fun v45 H46 =>
bindP (extO 0 v45) fun v47 =>
bindP (extO 1 v45) fun v48 =>
bindP (extO 2 v45) fun v49 =>
bindP (extO 3 v45) fun v50 =>
bindP (astore lim (H46.push (.cells z1)) 4 (.ptr (some (H46.next, 0))) v47) fun H51 =>
bindP (aload H51 (some 4) (.ptr (some (H46.next, 0)))) fun v52 =>
bindP (astore lim H51 4 (.ptr (some (H4.next, 0))) v52) fun H53 =>
bindP (aload H53 (some 4) (.ptr (some (H4.next, 0)))) fun v54 =>
K (.tup [v54, v48, v49, v50, (.int .i64 0)]) H53)) ∧
(b37 = false → (bindP (abin .eql v6 (.int .u8 2)) fun v55 =>
bindP (boolOf v55) fun b56 =>
(b56 = true → (bindP (aload (H4.push (.cells z1)) (some 4) v1) fun v57 =>
bindP (faddrO 1 v3) fun v58 =>
bindP (aload (H4.push (.cells z1)) none v58) fun v59 =>
bind2 (R lim (.fn 63) [v57, v59] (H4.push (.cells z1))) fun v60 H61 =>
bindP (extO 0 v60) fun v62 =>
bindP (extO 1 v60) fun v63 =>
bindP (astore lim (H61.push (.cells z1)) 4 (.ptr (some (H61.next, 0))) v62) fun H64 =>
bindP (aload H64 (some 4) (.ptr (some (H61.next, 0)))) fun v65 =>
bindP (astore lim H64 4 (.ptr (some (H4.next, 0))) v65) fun H66 =>
bindP (aload H66 (some 4) (.ptr (some (H4.next, 0)))) fun v67 =>
K (.tup [v67, (.bool false), (.int .u64 0), (.sl none 0 (.ex 0)), v63]) H66)) ∧
(b56 = false → (bindP (abin .eql v6 (.int .u8 3)) fun v68 =>
bindP (boolOf v68) fun b69 =>
(b69 = true → (bindP (aload (H4.push (.cells z1)) (some 4) v1) fun v70 =>
bindP (faddrO 1 v3) fun v71 =>
bindP (aload (H4.push (.cells z1)) none v71) fun v72 =>
bindP (faddrO 2 v3) fun v73 =>
bindP (aload (H4.push (.cells z1)) none v73) fun v74 =>
bindP (faddrO 3 v3) fun v75 =>
bindP (aload (H4.push (.cells z1)) none v75) fun v76 =>
bind2 (R lim (.fn 64) [v70, v72, v74, v76] (H4.push (.cells z1))) fun v77 H78 =>
bindP (astore lim H78 4 (.ptr (some (H4.next, 0))) v77) fun H79 =>
bindP (aload H79 (some 4) (.ptr (some (H4.next, 0)))) fun v80 =>
K (.tup [v80, (.bool false), (.int .u64 0), (.sl none 0 (.ex 0)), (.int .i64 0)]) H79)) ∧
(b69 = false → (F31_j0 R lim n K v1 (.ptr (some (H4.next, 0))) (H4.push (.cells z1))))))))))
def F31_Lp (R : Caller) (lim n : Nat) (K : AVal → Heap → Prop) : Nat → Tm → Heap → Prop
  | _, _, _ => False
theorem F31_eq (R : Caller) (lim n : Nat) (K : AVal → Heap → Prop) (a0 a1 : AVal) (H : Heap) : F31 R lim n K a0 a1 H = execI R lim n 80 (F31_Lp R lim n K) f31.body (argT [a0, a1]) H (retW [(.cell 4 (some 4)), (.tmp 5), (.tmp 6), (.tmp 7), (.tmp 8)] K) := by kernel_rfl
theorem F31_ob (R : Caller) (lim n : Nat) (K : AVal → Heap → Prop) : Oblig R lim n 80 (F31_Lp R lim n K) f31.body (retW [(.cell 4 (some 4)), (.tmp 5), (.tmp 6), (.tmp 7), (.tmp 8)] K) := (oblig_nl (by kernel_rfl))
theorem F31_run {ap : FuncId → Option AFn} (hf : ap 31 = some (.code f31)) {n lim : Nat} {K : AVal → Heap → Prop} {a0 a1 : AVal} {H : Heap} (h : F31 (Ahs.runT ap n) lim n K a0 a1 H) : ∃ v H', Ahs.runT ap (n + 1) lim (.fn 31) [a0, a1] H = some (v, H') ∧ K v H' := by
  rw [F31_eq] at h
  exact run_of_W hf (by kernel_rfl) (by kernel_rfl) (execI_sound f31.body _ _ _ _ (F31_ob _ _ _ K) (fun _ _ _ h => h) h)
def F32 (R : Caller) (lim n : Nat) (K : AVal → Heap → Prop) (a0 a1 a2 a3 : AVal) (H : Heap) : Prop :=
bind2 (if (a1).cells.all (·.one) then some (.ptr (some (H.next, 0)), H.push (.cells (a1).cells)) else none) fun v1 H2 =>
bind2 (R lim (.fn 25) [a0] H2) fun v3 H4 =>
bindP (extO 0 v3) fun v5 =>
bindP (extO 1 v3) fun v6 =>
bind2 (R lim (.fn 22) [a0] H4) fun v7 H8 =>
bindP (extO 0 v7) fun v9 =>
bindP (extO 1 v7) fun v10 =>
bindP (aload H8 (some 4) v1) fun v11 =>
bind2 (R lim (.fn 65) [v11] H8) fun v12 H13 =>
bindP (extO 0 v12) fun v14 =>
bindP (extO 1 v12) fun v15 =>
bind2 (R lim (.fn 26) [a0] H13) fun v16 H17 =>
bindP (extO 0 v16) fun v18 =>
bindP (extO 1 v16) fun v19 =>
bindP (aload H17 (some 4) v1) fun v20 =>
bind2 (R lim (.fn 66) [v20, (.int .u64 18446744073709551615)] H17) fun v21 H22 =>
bindP (extO 0 v21) fun v23 =>
bindP (extO 1 v21) fun v24 =>
bindP (faddrO 0 v1) fun v25 =>
bindP (aload H22 none v25) fun v26 =>
bindP (abin .neq v5 v26) fun v27 =>
bindP (gd (some (v27, false)) (some v6)) fun v28 =>
bindP (gd (some (v27, false)) (faddrO 1 v1)) fun v29 =>
bindP (gd (some (v27, false)) (aload H22 none v29)) fun v30 =>
bindP (gd (some (v27, false)) (abin .neq v28 v30)) fun v31 =>
bindP (pickO v27 (.bool true) v31) fun v32 =>
bindP (gd (some (v32, false)) (some v9)) fun v33 =>
bindP (gd (some (v32, false)) (some v14)) fun v34 =>
bindP (gd (some (v32, false)) (abin .neq v33 v34)) fun v35 =>
bindP (pickO v32 (.bool true) v35) fun v36 =>
bindP (gd (some (v36, false)) (some v10)) fun v37 =>
bindP (gd (some (v36, false)) (some v15)) fun v38 =>
bindP (gd (some (v36, false)) (abin .neq v37 v38)) fun v39 =>
bindP (pickO v36 (.bool true) v39) fun v40 =>
bindP (gd (some (v40, false)) (some v18)) fun v41 =>
bindP (gd (some (v40, false)) (some v23)) fun v42 =>
bindP (gd (some (v40, false)) (abin .neq v41 v42)) fun v43 =>
bindP (pickO v40 (.bool true) v43) fun v44 =>
bindP (gd (some (v44, false)) (some v19)) fun v45 =>
bindP (gd (some (v44, false)) (some v24)) fun v46 =>
bindP (gd (some (v44, false)) (abin .neq v45 v46)) fun v47 =>
bindP (pickO v44 (.bool true) v47) fun v48 =>
bindP (gd (some (v48, false)) (some a0)) fun v49 =>
bind2 (gd2 (some (v48, false)) H22 (R H22.next (.fn 19) [v49, (.int .u64 0), (.int .i64 1099511627776)] H22)) fun v50 H51 =>
bindP (gd (some (v48, false)) (faddrO 3 v1)) fun v52 =>
bindP (gd (some (v48, false)) (aload H51 none v52)) fun v53 =>
bind2 (gd2 (some (v48, false)) H51 (R lim (.fn 21) [v50, v53] H51)) fun v54 H55 =>
bindP (gd (some (v48, false)) (aun .not v54)) fun v56 =>
bindP (pickO v48 (.bool true) v56) fun v57 =>
bindP (boolOf v57) fun b58 =>
(b58 = true → (K (.bool false) H55)) ∧
(b58 = false → (bind2 (R lim (.fn 18) [a0, a2] H55) fun v59 H60 =>
bindP (extO 0 v59) fun v61 =>
bindP (extO 1 v59) fun v62 =>
bindP (aload H60 (some 4) v1) fun v63 =>
bind2 (R lim (.fn 67) [v63, a2] H60) fun v64 H65 =>
bindP (extO 0 v64) fun v66 =>
bindP (extO 1 v64) fun v67 =>
bindP (aload H65 (some 4) v1) fun v68 =>
bind2 (R lim (.fn 66) [v68, a2] H65) fun v69 H70 =>
bindP (extO 0 v69) fun v71 =>
bindP (extO 1 v69) fun v72 =>
bindP (abin .eql v61 v66) fun v73 =>
bindP (gd (some (v73, true)) (some v62)) fun v74 =>
bindP (gd (some (v73, true)) (some v67)) fun v75 =>
bindP (gd (some (v73, true)) (eqvO false .bool v74 v75)) fun v76 =>
bindP (pickO v73 v76 (.bool false)) fun v77 =>
bindP (gd (some (v77, true)) (some a0)) fun v78 =>
bindP (gd (some (v77, true)) (some a2)) fun v79 =>
bind2 (gd2 (some (v77, true)) H70 (R lim (.fn 27) [v78, v79] H70)) fun v80 H81 =>
bindP (gd (some (v77, true)) (some v71)) fun v82 =>
bindP (gd (some (v77, true)) (abin .eql v80 v82)) fun v83 =>
bindP (pickO v77 v83 (.bool false)) fun v84 =>
bindP (gd (some (v84, true)) (some a0)) fun v85 =>
bindP (gd (some (v84, true)) (some a2)) fun v86 =>
bindP (gd (some (v84, true)) (some a3)) fun v87 =>
bind2 (gd2 (some (v84, true)) H81 (R H81.next (.fn 34) [v85, v86, v87] H81)) fun v88 H89 =>
bindP (gd (some (v84, true)) (aload H89 (some 4) v1)) fun v90 =>
bindP (gd (some (v84, true)) (some a2)) fun v91 =>
bindP (gd (some (v84, true)) (some a3)) fun v92 =>
bind2 (gd2 (some (v84, true)) H89 (R lim (.fn 68) [v90, v91, v92] H89)) fun v93 H94 =>
bindP (gd (some (v84, true)) (eqvO false .bool v88 v93)) fun v95 =>
bindP (pickO v84 v95 (.bool false)) fun v96 =>
bindP (gd (some (v96, true)) (some a0)) fun v97 =>
bindP (gd (some (v96, true)) (some a2)) fun v98 =>
bindP (gd (some (v96, true)) (some a3)) fun v99 =>
bindP (gd (some (v96, true)) (abin .rem v99 (.int .u64 9))) fun v100 =>
bindP (gd (some (v96, true)) (convO .i64 v100)) fun v101 =>
bind2 (gd2 (some (v96, true)) H94 (R H94.next (.fn 19) [v97, v98, v101] H94)) fun v102 H103 =>
bindP (gd (some (v96, true)) (aload H103 (some 4) v1)) fun v104 =>
bindP (gd (some (v96, true)) (some a2)) fun v105 =>
bindP (gd (some (v96, true)) (some a3)) fun v106 =>
bindP (gd (some (v96, true)) (abin .rem v106 (.int .u64 9))) fun v107 =>
bindP (gd (some (v96, true)) (convO .i64 v107)) fun v108 =>
bind2 (gd2 (some (v96, true)) H103 (R lim (.fn 69) [v104, v105, v108] H103)) fun v109 H110 =>
bind2 (gd2 (some (v96, true)) H110 (R lim (.fn 21) [v102, v109] H110)) fun v111 H112 =>
bindP (pickO v96 v111 (.bool false)) fun v113 =>
K v113 H112))
def F32_Lp (R : Caller) (lim n : Nat) (K : AVal → Heap → Prop) : Nat → Tm → Heap → Prop
  | _, _, _ => False
theorem F32_eq (R : Caller) (lim n : Nat) (K : AVal → Heap → Prop) (a0 a1 a2 a3 : AVal) (H : Heap) : F32 R lim n K a0 a1 a2 a3 H = execI R lim n 147 (F32_Lp R lim n K) f32.body (argT [a0, a1, a2, a3]) H (retW [(.tmp 8)] K) := by kernel_rfl
theorem F32_ob (R : Caller) (lim n : Nat) (K : AVal → Heap → Prop) : Oblig R lim n 147 (F32_Lp R lim n K) f32.body (retW [(.tmp 8)] K) := (oblig_nl (by kernel_rfl))
theorem F32_run {ap : FuncId → Option AFn} (hf : ap 32 = some (.code f32)) {n lim : Nat} {K : AVal → Heap → Prop} {a0 a1 a2 a3 : AVal} {H : Heap} (h : F32 (Ahs.runT ap n) lim n K a0 a1 a2 a3 H) : ∃ v H', Ahs.runT ap (n + 1) lim (.fn 32) [a0, a1, a2, a3] H = some (v, H') ∧ K v H' := by
  rw [F32_eq] at h
  exact run_of_W hf (by kernel_rfl) (by kernel_rfl) (execI_sound f32.body _ _ _ _ (F32_ob _ _ _ K) (fun _ _ _ h => h) h)
def F33_j0 (R : Caller) (lim n : Nat) (K : AVal → Heap → Prop) (t0 t1 t2 t3 t8 : AVal) (H : Heap) : Prop :=
bindP (nilO t0) fun v12 =>
bindP (faddrO 1 v12) fun v13 =>
bindP (astore lim H 1 v13 t1) fun H14 =>
bindP (nilO t0) fun v15 =>
bindP (faddrO 2 v15) fun v16 =>
bindP (astore lim H14 1 v16 t2) fun H17 =>
bindP (nilO t0) fun v18 =>
bindP (faddrO 3 v18) fun v19 =>
bindP (astore lim H17 1 v19 t3) fun H20 =>
bindP (nilO t0) fun v21 =>
bindP (faddrO 4 v21) fun v22 =>
bindP (astore lim H20 1 v22 t8) fun H23 =>
K (.tup []) H23
def F33 (R : Caller) (lim n : Nat) (K : AVal → Heap → Prop) (a0 a1 a2 a3 : AVal) (H : Heap) : Prop :=
bind2 (R lim (.fn 55) [a0] H) fun v1 H2 =>
bindP (boolOf v1) fun b3 =>
(b3 = true → (K (.tup []) H2)) ∧
(b3 = false → (bind2 (R lim (.fn 18) [a0, a1] H2) fun v4 H5 =>
bindP (extO 0 v4) fun v6 =>
bindP (extO 1 v4) fun v7 =>
bindP (gd (some (v7, true)) (some v6)) fun v8 =>
bindP (gd (some (v7, true)) (some a2)) fun v9 =>
bindP (gd (some (v7, true)) (abin .eql v8 v9)) fun v10 =>
bindP (pickO v7 v10 (.bool false)) fun v11 =>
bindP (boolOf v11) fun b24 =>
(b24 = true → (bindP (nilO a0) fun v25 =>
bindP (faddrO 4 v25) fun v26 =>
bindP (aload H5 none v26) fun v27 =>
bindP (nilO a0) fun v28 =>
bindP (faddrO 1 v28) fun v29 =>
bindP (aload H5 none v29) fun v30 =>
bindP (abin .sub a1 v30) fun v31 =>
bindP (aslice 13 v27 (some v31) none none) fun v32 =>
bind2 (R lim (.fn 56) [v32] H5) fun v33 H34 =>
F33_j0 R lim n K a0 a1 a2 a3 v33 H34)) ∧
(b24 = false → (F33_j0 R lim n K a0 a1 a2 a3 (.sl none 0 (.ex 0)) H5))))
def F33_Lp (R : Caller) (lim n : Nat) (K : AVal → Heap → Prop) : Nat → Tm → Heap → Prop
  | _, _, _ => False
theorem F33_eq (R : Caller) (lim n : Nat) (K : AVal → Heap → Prop) (a0 a1 a2 a3 : AVal) (H : Heap) : F33 R lim n K a0 a1 a2 a3 H = execI R lim n 53 (F33_Lp R lim n K) f33.body (argT [a0, a1, a2, a3]) H (retW [] K) := by kernel_rfl
theorem F33_ob (R : Caller) (lim n : Nat) (K : AVal → Heap → Prop) : Oblig R lim n 53 (F33_Lp R lim n K) f33.body (retW [] K) := (oblig_nl (by kernel_rfl))
theorem F33_run {ap : FuncId → Option AFn} (hf : ap 33 = some (.code f33)) {n lim : Nat} {K : AVal → Heap → Prop} {a0 a1 a2 a3 : AVal} {H : Heap} (h : F33 (Ahs.runT ap n) lim n K a0 a1 a2 a3 H) : ∃ v H', Ahs.runT ap (n + 1) lim (.fn 33) [a0, a1, a2, a3] H = some (v, H') ∧ K v H' := by
  rw [F33_eq] at h
  exact run_of_W hf (by kernel_rfl) (by kernel_rfl) (execI_sound f33.body _ _ _ _ (F33_ob _ _ _ K) (fun _ _ _ h => h) h)
def F34 (R : Caller) (lim n : Nat) (K : AVal → Heap → Prop) (a0 a1 a2 : AVal) (H : Heap) : Prop :=
bind2 (R lim (.fn 55) [a0] H) fun v1 H2 =>
bindP (boolOf v1) fun b3 =>
(b3 = true → (K (.bool false) H2)) ∧
(b3 = false → (bind2 (R lim (.fn 22) [a0] H2) fun v4 H5 =>
bindP (extO 0 v4) fun v6 =>
bindP (extO 1 v4) fun v7 =>
bindP (abin .gtr a2 v7) fun v8 =>
bindP (gd (some (v8, false)) (some a2)) fun v9 =>
bindP (gd (some (v8, false)) (some v7)) fun v10 =>
bindP (gd (some (v8, false)) (abin .eql v9 v10)) fun v11 =>
bindP (gd (some (v8, false)) (some v11)) fun v12 =>
bindP (gd (some (v12, true)) (some a1)) fun v13 =>
bindP (gd (some (v12, true)) (some v6)) fun v14 =>
bindP (gd (some (v12, true)) (abin .geq v13 v14)) fun v15 =>
bindP (gd (some (v8, false)) (pickO v12 v15 (.bool false))) fun v16 =>
bindP (pickO v8 (.bool true) v16) fun v17 =>
K v17 H5))
def F34_Lp (R : Caller) (lim n : Nat) (K : AVal → Heap → Prop) : Nat → Tm → Heap → Prop
  | _, _, _ => False
theorem F34_eq (R : Caller) (lim n : Nat) (K : AVal → Heap → Prop) (a0 a1 a2 : AVal) (H : Heap) : F34 R lim n K a0 a1 a2 H = execI R lim n 29 (F34_Lp R lim n K) f34.body (argT [a0, a1, a2]) H (retW [(.tmp 6)] K) := by kernel_rfl
theorem F34_ob (R : Caller) (lim n : Nat) (K : AVal → Heap → Prop) : Oblig R lim n 29 (F34_Lp R lim n K) f34.body (retW [(.tmp 6)] K) := (oblig_nl (by kernel_rfl))
theorem F34_run {ap : FuncId → Option AFn} (hf : ap 34 = some (.code f34)) {n lim : Nat} {K : AVal → Heap → Prop} {a0 a1 a2 : AVal} {H : Heap} (h : F34 (Ahs.runT ap n) lim n K a0 a1 a2 H) : ∃ v H', Ahs.runT ap (n + 1) lim (.fn 34) [a0, a1, a2] H = some (v, H') ∧ K v H' := by
  rw [F34_eq] at h
  exact run_of_W hf (by kernel_rfl) (by kernel_rfl) (execI_sound f34.body _ _ _ _ (F34_ob _ _ _ K) (fun _ _ _ h => h) h)
def F35 (R : Caller) (lim n : Nat) (K : AVal → Heap → Prop) (a0 a1 : AVal) (H : Heap) : Prop :=
bind2 (if (a1).cells.all (·.one) then some (.ptr (some (H.next, 0)), H.push (.cells (a1).cells)) else none) fun v1 H2 =>
bind2 (R lim (.fn 55) [a0] (H2.push (.cells z0))) fun v3 H4 =>
bindP (boolOf v3) fun b5 =>
(b5 = true → (bindP (buildO z0 []) fun v6 =>
bindP (astore lim H4 13 (.ptr (some (H2.next, 0))) v6) fun H7 =>
bindP (aload H7 (some 13) (.ptr (some (H2.next, 0)))) fun v8 =>
K v8 H7)) ∧
(b5 = false → (bind2 (R lim (.fn 22) [a0] H4) fun v9 H10 =>
bindP (extO 0 v9) fun v11 =>
bindP (extO 1 v9) fun v12 =>
bindP (abin .add v11 (.int .u64 1)) fun v13 =>
bindP (faddrO 1 v1) fun v14 =>
bindP (aload H10 none v14) fun v15 =>
bindP (aminmax true [v15, v12]) fun v16 =>
bindP (faddrO 0 v1) fun v17 =>
bindP (astore lim H10 1 v17 v13) fun H18 =>
bindP (faddrO 1 v1) fun v19 =>
bindP (astore lim H18 1 v19 v16) fun H20 =>
bindP (nilO a0) fun v21 =>
bindP (faddrO 4 v21) fun v22 =>
bindP (aload H20 none v22) fun v23 =>
bindP (aload H20 (some 13) v1) fun v24 =>
bind2 ((fillV z0 [(0, 13, v24)]).map fun cs => (.sl (some (H20.next, 0)) 1 (.ex 1), H20.push (.cells cs))) fun v25 H26 =>
bind2 (aappend lim H26 z0 48 false v23 v25) fun v27 H28 =>
bindP (nilO a0) fun v29 =>
bindP (faddrO 4 v29) fun v30 =>
bindP (astore lim H28 1 v30 v27) fun H31 =>
bindP (aload H31 (some 13) v1) fun v32 =>
bindP (astore lim H31 13 (.ptr (some (H2.next, 0))) v32) fun H33 =>
bindP (aload H33 (some 13) (.ptr (some (H2.next, 0)))) fun v34 =>
K v34 H33))
def F35_Lp (R : Caller) (lim n : Nat) (K : AVal → Heap → Prop) : Nat → Tm → Heap → Prop
  | _, _, _ => False
theorem F35_eq (R : Caller) (lim n : Nat) (K : AVal → Heap → Prop) (a0 a1 : AVal) (H : Heap) : F35 R lim n K a0 a1 H = execI R lim n 34 (F35_Lp R lim n K) f35.body (argT [a0, a1]) H (retW [(.cell 4 (some 13))] K) := by kernel_rfl
theorem F35_ob (R : Caller) (lim n : Nat) (K : AVal → Heap → Prop) : Oblig R lim n 34 (F35_Lp R lim n K) f35.body (retW [(.cell 4 (some 13))] K) := (oblig_nl (by kernel_rfl))
theorem F35_run {ap : FuncId → Option AFn} (hf : ap 35 = some (.code f35)) {n lim : Nat} {K : AVal → Heap → Prop} {a0 a1 : AVal} {H : Heap} (h : F35 (Ahs.runT ap n) lim n K a0 a1 H) : ∃ v H', Ahs.runT ap (n + 1) lim (.fn 35) [a0, a1] H = some (v, H') ∧ K v H' := by
  rw [F35_eq] at h
  exact run_of_W hf (by kernel_rfl) (by kernel_rfl) (execI_sound f35.body _ _ _ _ (F35_ob _ _ _ K) (fun _ _ _ h => h) h)
def F36 (R : Caller) (lim n : Nat) (K : AVal → Heap → Prop) (a0 a1 : AVal) (H : Heap) : Prop :=
bindP (buildO z0 [(0, 1, a0), (1, 1, a1), (2, 1, (.int .u8 1))]) fun v1 =>
bindP (astore lim (H.push (.cells z0)) 13 (.ptr (some (H.next, 0))) v1) fun H2 =>
bindP (aload H2 (some 13) (.ptr (some (H.next, 0)))) fun v3 =>
K v3 H2
def F36_Lp (R : Caller) (lim n : Nat) (K : AVal → Heap → Prop) : Nat → Tm → Heap → Prop
  | _, _, _ => False
theorem F36_eq (R : Caller) (lim n : Nat) (K : AVal → Heap → Prop) (a0 a1 : AVal) (H : Heap) : F36 R lim n K a0 a1 H = execI R lim n 8 (F36_Lp R lim n K) f36.body (argT [a0, a1]) H (retW [(.cell 4 (some 13))] K) := by kernel_rfl
theorem F36_ob (R : Caller) (lim n : Nat) (K : AVal → Heap → Prop) : Oblig R lim n 8 (F36_Lp R lim n K) f36.body (retW [(.cell 4 (some 13))] K) := (oblig_nl (by kernel_rfl))
theorem F36_run {ap : FuncId → Option AFn} (hf : ap 36 = some (.code f36)) {n lim : Nat} {K : AVal → Heap → Prop} {a0 a1 : AVal} {H : Heap} (h : F36 (Ahs.runT ap n) lim n K a0 a1 H) : ∃ v H', Ahs.runT ap (n + 1) lim (.fn 36) [a0, a1] H = some (v, H') ∧ K v H' := by
  rw [F36_eq] at h
  exact run_of_W hf (by kernel_rfl) (by kernel_rfl) (execI_sound f36.body _ _ _ _ (F36_ob _ _ _ K) (fun _ _ _ h => h) h)
def F54 (R : Caller) (lim n : Nat) (K : AVal → Heap → Prop) (a0 a1 : AVal) (H : Heap) : Prop :=
bind2 (R lim (.fn 55) [a0] H) fun v1 H2 =>
bindP (gd (some (v1, false)) (some a1)) fun v3 =>
bindP (gd (some (v1, false)) (some a0)) fun v4 =>
bindP (gd (some (v1, false)) (nilO v4)) fun v5 =>
bindP (gd (some (v1, false)) (faddrO 1 v5)) fun v6 =>
bindP (gd (some (v1, false)) (aload H2 none v6)) fun v7 =>
bindP (gd (some (v1, false)) (abin .leq v3 v7)) fun v8 =>
bindP (pickO v1 (.bool true) v8) fun v9 =>
bindP (gd (some (v9, false)) (some a1)) fun v10 =>
bindP (gd (some (v9, false)) (some a0)) fun v11 =>
bindP (gd (some (v9, false)) (nilO v11)) fun v12 =>
bindP (gd (some (v9, false)) (faddrO 1 v12)) fun v13 =>
bindP (gd (some (v9, false)) (aload H2 none v13)) fun v14 =>
bindP (gd (some (v9, false)) (abin .sub v10 v14)) fun v15 =>
bindP (gd (some (v9, false)) (some a0)) fun v16 =>
bindP (gd (some (v9, false)) (nilO v16)) fun v17 =>
bindP (gd (some (v9, false)) (faddrO 4 v17)) fun v18 =>
bindP (gd (some (v9, false)) (aload H2 none v18)) fun v19 =>
bindP (gd (some (v9, false)) (alen false v19)) fun v20 =>
bindP (gd (some (v9, false)) (convO .u64 v20)) fun v21 =>
bindP (gd (some (v9, false)) (abin .gtr v15 v21)) fun v22 =>
bindP (pickO v9 (.bool true) v22) fun v23 =>
bindP (boolOf v23) fun b24 =>
(b24 = true → (K (.tup [(.int .i64 0), (.bool false)]) H2)) ∧
(b24 = false → (bindP (nilO a0) fun v25 =>
bindP (faddrO 1 v25) fun v26 =>
bindP (aload H2 none v26) fun v27 =>
bindP (abin .sub a1 v27) fun v28 =>
bindP (convO .i64 v28) fun v29 =>
bindP (abin .sub v29 (.int .i64 1)) fun v30 =>
K (.tup [v30, (.bool true)]) H2))
def F54_Lp (R : Caller) (lim n : Nat) (K : AVal → Heap → Prop) : Nat → Tm → Heap → Prop
  | _, _, _ => False
theorem F54_eq (R : Caller) (lim n : Nat) (K : AVal → Heap → Prop) (a0 a1 : AVal) (H : Heap) : F54 R lim n K a0 a1 H = execI R lim n 39 (F54_Lp R lim n K) f54.body (argT [a0, a1]) H (retW [(.tmp 4), (.tmp 5)] K) := by kernel_rfl
theorem F54_ob (R : Caller) (lim n : Nat) (K : AVal → Heap → Prop) : Oblig R lim n 39 (F54_Lp R lim n K) f54.body (retW [(.tmp 4), (.tmp 5)] K) := (oblig_nl (by kernel_rfl))
theorem F54_run {ap : FuncId → Option AFn} (hf : ap 54 = some (.code f54)) {n lim : Nat} {K : AVal → Heap → Prop} {a0 a1 : AVal} {H : Heap} (h : F54 (Ahs.runT ap n) lim n K a0 a1 H) : ∃ v H', Ahs.runT ap (n + 1) lim (.fn 54) [a0, a1] H = some (v, H') ∧ K v H' := by
  rw [F54_eq] at h
  exact run_of_W hf (by kernel_rfl) (by kernel_rfl) (execI_sound f54.body _ _ _ _ (F54_ob _ _ _ K) (fun _ _ _ h => h) h)
def F55 (R : Caller) (lim n : Nat) (K : AVal → Heap → Prop) (a0 : AVal) (H : Heap) : Prop :=
bindP (eqvO false .ptr a0 (.ptr none)) fun v1 =>
bindP (gd (some (v1, false)) (some a0)) fun v2 =>
bindP (gd (some (v1, false)) (nilO v2)) fun v3 =>
bindP (gd (some (v1, false)) (faddrO 0 v3)) fun v4 =>
bindP (gd (some (v1, false)) (aload H none v4)) fun v5 =>
bindP (gd (some (v1, false)) (aun .not v5)) fun v6 =>
bindP (pickO v1 (.bool true) v6) fun v7 =>
K v7 H
def F55_Lp (R : Caller) (lim n : Nat) (K : AVal → Heap → Prop) : Nat → Tm → Heap → Prop
  | _, _, _ => False
theorem F55_eq (R : Caller) (lim n : Nat) (K : AVal → Heap → Prop) (a0 : AVal) (H : Heap) : F55 R lim n K a0 H = execI R lim n 12 (F55_Lp R lim n K) f55.body (argT [a0]) H (retW [(.tmp 2)] K) := by kernel_rfl
theorem F55_ob (R : Caller) (lim n : Nat) (K : AVal → Heap → Prop) : Oblig R lim n 12 (F55_Lp R lim n K) f55.body (retW [(.tmp 2)] K) := (oblig_nl (by kernel_rfl))
theorem F55_run {ap : FuncId → Option AFn} (hf : ap 55 = some (.code f55)) {n lim : Nat} {K : AVal → Heap → Prop} {a0 : AVal} {H : Heap} (h : F55 (Ahs.runT ap n) lim n K a0 H) : ∃ v H', Ahs.runT ap (n + 1) lim (.fn 55) [a0] H = some (v, H') ∧ K v H' := by
  rw [F55_eq] at h
  exact run_of_W hf (by kernel_rfl) (by kernel_rfl) (execI_sound f55.body _ _ _ _ (F55_ob _ _ _ K) (fun _ _ _ h => h) h)
def F56 (R : Caller) (lim n : Nat) (K : AVal → Heap → Prop) (a0 : AVal) (H : Heap) : Prop :=
bindP (eqvO false .sl a0 (.sl none 0 (.ex 0))) fun v1 =>
bindP (boolOf v1) fun b2 =>
(b2 = true → (K (.sl none 0 (.ex 0)) H)) ∧
(b2 = false → (bind2 ((fillV [] []).map fun cs => (.sl (some (H.next, 0)) 0 (.ex 0), H.push (.cells cs))) fun v3 H4 =>
bind2 (aappend lim H4 z0 48 false v3 a0) fun v5 H6 =>
K v5 H6))
def F56_Lp (R : Caller) (lim n : Nat) (K : AVal → Heap → Prop) : Nat → Tm → Heap → Prop
  | _, _, _ => False
theorem F56_eq (R : Caller) (lim n : Nat) (K : AVal → Heap → Prop) (a0 : AVal) (H : Heap) : F56 R lim n K a0 H = execI R lim n 8 (F56_Lp R lim n K) f56.body (argT [a0]) H (retW [(.tmp 2)] K) := by kernel_rfl
theorem F56_ob (R : Caller) (lim n : Nat) (K : AVal → Heap → Prop) : Oblig R lim n 8 (F56_Lp R lim n K) f56.body (retW [(.tmp 2)] K) := (oblig_nl (by kernel_rfl))
theorem F56_run {ap : FuncId → Option AFn} (hf : ap 56 = some (.code f56)) {n lim : Nat} {K : AVal → Heap → Prop} {a0 : AVal} {H : Heap} (h : F56 (Ahs.runT ap n) lim n K a0 H) : ∃ v H', Ahs.runT ap (n + 1) lim (.fn 56) [a0] H = some (v, H') ∧ K v H' := by
  rw [F56_eq] at h
  exact run_of_W hf (by kernel_rfl) (by kernel_rfl) (execI_sound f56.body _ _ _ _ (F56_ob _ _ _ K) (fun _ _ _ h => h) h)
def F57 (R : Caller) (lim n : Nat) (K : AVal → Heap → Prop) (a0 a1 a2 a3 : AVal) (H : Heap) : Prop :=
bind2 (R lim (.fn 55) [a0] H) fun v1 H2 =>
bindP (gd (some (v1, false)) (some a1)) fun v3 =>
bindP (gd (some (v1, false)) (some a2)) fun v4 =>
bindP (gd (some (v1, false)) (some a3)) fun v5 =>
bind2 (gd2 (some (v1, false)) H2 (R lim (.fn 59) [v3, v4, v5] H2)) fun v6 H7 =>
bindP (gd (some (v1, false)) (aun .not v6)) fun v8 =>
bindP (pickO v1 (.bool true) v8) fun v9 =>
bindP (boolOf v9) fun b10 =>
(b10 = true → (K (.bool false) H7)) ∧
(b10 = false → (bindP (nilO a0) fun v11 =>
bindP (faddrO 1 v11) fun v12 =>
bindP (aload H7 none v12) fun v13 =>
bindP (abin .lss a1 v13) fun v14 =>
bindP (boolOf v14) fun b15 =>
(b15 = true → (bindP (nilO a0) fun v16 =>
bindP (faddrO 1 v16) fun v17 =>
bindP (aload H7 none v17) fun v18 =>
bindP (abin .sub v18 a1) fun v19 =>
bindP (alen false a3) fun v20 =>
bindP (convO .u64 v20) fun v21 =>
bindP (abin .leq v19 v21) fun v22 =>
bindP (gd (some (v22, true)) (some a3)) fun v23 =>
bindP (gd (some (v22, true)) (some v19)) fun v24 =>
bindP (gd (some (v22, true)) (abin .sub v24 (.int .u64 1))) fun v25 =>
bindP (gd (some (v22, true)) (aindexAddr none 13 v23 v25)) fun v26 =>
bindP (gd (some (v22, true)) (faddrO 1 v26)) fun v27 =>
bindP (gd (some (v22, true)) (aload H7 none v27)) fun v28 =>
bindP (gd (some (v22, true)) (some a0)) fun v29 =>
bindP (gd (some (v22, true)) (nilO v29)) fun v30 =>
bindP (gd (some (v22, true)) (faddrO 2 v30)) fun v31 =>
bindP (gd (some (v22, true)) (aload H7 none v31)) fun v32 =>
bindP (gd (some (v22, true)) (abin .eql v28 v32)) fun v33 =>
bindP (pickO v22 v33 (.bool false)) fun v34 =>
K v34 H7)) ∧
(b15 = false → (bind2 (R lim (.fn 18) [a0, a1] H7) fun v35 H36 =>
bindP (extO 0 v35) fun v37 =>
bindP (extO 1 v35) fun v38 =>
bindP (gd (some (v38, true)) (some v37)) fun v39 =>
bindP (gd (some (v38, true)) (some a2)) fun v40 =>
bindP (gd (some (v38, true)) (abin .eql v39 v40)) fun v41 =>
bindP (pickO v38 v41 (.bool false)) fun v42 =>
K v42 H36))))
def F57_Lp (R : Caller) (lim n : Nat) (K : AVal → Heap → Prop) : Nat → Tm → Heap → Prop
  | _, _, _ => False
theorem F57_eq (R : Caller) (lim n : Nat) (K : AVal → Heap → Prop) (a0 a1 a2 a3 : AVal) (H : Heap) : F57 R lim n K a0 a1 a2 a3 H = execI R lim n 63 (F57_Lp R lim n K) f57.body (argT [a0, a1, a2, a3]) H (retW [(.tmp 8)] K) := by kernel_rfl
theorem F57_ob (R : Caller) (lim n : Nat) (K : AVal → Heap → Prop) : Oblig R lim n 63 (F57_Lp R lim n K) f57.body (retW [(.tmp 8)] K) := (oblig_nl (by kernel_rfl))
theorem F57_run {ap : FuncId → Option AFn} (hf : ap 57 = some (.code f57)) {n lim : Nat} {K : AVal → Heap → Prop} {a0 a1 a2 a3 : AVal} {H : Heap} (h : F57 (Ahs.runT ap n) lim n K a0 a1 a2 a3 H) : ∃ v H', Ahs.runT ap (n + 1) lim (.fn 57) [a0, a1, a2, a3] H = some (v, H') ∧ K v H' := by
  rw [F57_eq] at h
  exact run_of_W hf (by kernel_rfl) (by kernel_rfl) (execI_sound f57.body _ _ _ _ (F57_ob _ _ _ K) (fun _ _ _ h => h) h)
def F58_j0 (R : Caller) (lim n : Nat) (K : AVal → Heap → Prop) (t6 : AVal) (H : Heap) : Prop :=
K t6 H
def F58_s2 (R : Caller) (lim n : Nat) (K : AVal → Heap → Prop) (rec2 : AVal → AVal → AVal → AVal → Heap → Prop) (t6 t25 t26 t27 : AVal) (H : Heap) : Prop :=
bindP (abin .lss t27 t26) fun v39 =>
bindP (boolOf v39) fun b40 =>
(b40 = true → (bindP (aindexAddr none 1 t25 t27) fun v41 =>
bindP (aload H none v41) fun v42 =>
bind2 (aappend lim H z0 48 false t6 v42) fun v43 H44 =>
bindP (abin .add t27 (.int .i64 1)) fun v45 =>
rec2 v43 t25 t26 v45 H44)) ∧
(b40 = false → (F58_j0 R lim n K t6 H))
def F58_l2 (R : Caller) (lim n : Nat) (K : AVal → Heap → Prop) : Nat → AVal → AVal → AVal → AVal → Heap → Prop
  | 0, _, _, _, _, _ => False
  | m + 1, t6, t25, t26, t27, H => F58_s2 R lim n K (F58_l2 R lim n K m) t6 t25 t26 t27 H
def F58_j1 (R : Caller) (lim n : Nat) (K : AVal → Heap → Prop) (t0 t3 : AVal) (H : Heap) : Prop :=
bind2 (R lim (.fn 74) [(.sl none 0 (.ex 0)), t3] H) fun v29 H30 =>
bindP (alen false t0) fun v31 =>
F58_l2 R lim n K n v29 t0 v31 (.int .i64 0) H30
def F58_j2 (R : Caller) (lim n : Nat) (K : AVal → Heap → Prop) (rec0 : AVal → AVal → AVal → AVal → AVal → Heap → Prop) (t0 t3 t9 t10 t11 : AVal) (H : Heap) : Prop :=
bindP (abin .add t11 (.int .i64 1)) fun v53 =>
rec0 t0 t3 t9 t10 v53 H
def F58_s0 (R : Caller) (lim n : Nat) (K : AVal → Heap → Prop) (rec0 : AVal → AVal → AVal → AVal → AVal → Heap → Prop) (t0 t3 t9 t10 t11 : AVal) (H : Heap) : Prop :=
bindP (abin .lss t11 t10) fun v46 =>
bindP (boolOf v46) fun b47 =>
(b47 = true → (bindP (aindexAddr none 1 t9 t11) fun v48 =>
bindP (aload H none v48) fun v49 =>
bindP (alen false v49) fun v50 =>
bindP (abin .add t3 v50) fun v51 =>
bindP (abin .lss v51 (.int .i64 0)) fun v52 =>
bindP (boolOf v52) fun b54 =>
(b54 = true → (bindP (some (AVal.iface 9 (.str [108, 101, 110, 32, 111, 117, 116, 32, 111, 102, 32, 114, 97, 110, 103, 101]))) fun v55 =>
bindP ((none : Option AVal)) fun _ =>
F58_j2 R lim n K rec0 t0 v51 t9 t10 t11 H)) ∧
(b54 = false → (F58_j2 R lim n K rec0 t0 v51 t9 t10 t11 H)))) ∧
(b47 = false → (F58_j1 R lim n K t0 t3 H))
def F58_l0 (R : Caller) (lim n : Nat) (K : AVal → Heap → Prop) : Nat → AVal → AVal → AVal → AVal → AVal → Heap → Prop
  | 0, _, _, _, _, _, _ => False
  | m + 1, t0, t3, t9, t10, t11, H => F58_s0 R lim n K (F58_l0 R lim n K m) t0 t3 t9 t10 t11 H
def F58 (R : Caller) (lim n : Nat) (K : AVal → Heap → Prop) (a0 : AVal) (H : Heap) : Prop :=
bindP (alen false a0) fun v1 =>
F58_l0 R lim n K n a0 (.int .i64 0) a0 v1 (.int .i64 0) H
def F58_Lp (R : Caller) (lim n : Nat) (K : AVal → Heap → Prop) : Nat → Tm → Heap → Prop
  | 0, T, H => F58_l0 R lim n K n (T 0) (T 3) (T 9) (T 10) (T 11) H
  | 2, T, H => F58_l2 R lim n K n (T 6) (T 25) (T 26) (T 27) H
  | _, _, _ => False
def F58_Lp0 (R : Caller) (lim n : Nat) (K : AVal → Heap → Prop) (rec0 : AVal → AVal → AVal → AVal → AVal → Heap → Prop) : Nat → Tm → Heap → Prop
  | _, _, _ => False
def F58_Lp2 (R : Caller) (lim n : Nat) (K : AVal → Heap → Prop) (rec2 : AVal → AVal → AVal → AVal → Heap → Prop) : Nat → Tm → Heap → Prop
  | _, _, _ => False
def F58_k2 (R : Caller) (lim n : Nat) (K : AVal → Heap → Prop) (rec2 : AVal → AVal → AVal → AVal → Heap → Prop) : Kt := fun ex T H => match ex with
  | .norm => rec2 (T 6) (T 25) (T 26) (T 27) H
  | ex => (kBlk 2 (kSeq (execI R lim n 36 (F58_Lp R lim n K) f58_p1) (retW [(.tmp 2)] K))) ex T H
theorem F58_s2_eq (R : Caller) (lim n : Nat) (K : AVal → Heap → Prop) (rec2 : AVal → AVal → AVal → AVal → Heap → Prop) (T : Tm) (H : Heap) : F58_s2 R lim n K rec2 (T 6) (T 25) (T 26) (T 27) H = execI R lim n 36 (F58_Lp2 R lim n K rec2) f58_p0 T H (F58_k2 R lim n K rec2) := by kernel_rfl
theorem F58_l2_ok (R : Caller) (lim n : Nat) (K : AVal → Heap → Prop) {kw : Kt} (hk : ∀ ex T H, (kBlk 2 (kSeq (execI R lim n 36 (F58_Lp R lim n K) f58_p1) (retW [(.tmp 2)] K))) ex T H → kw ex T H) : ∀ (m : Nat) (T : Tm) (H : Heap), F58_l2 R lim n K m (T 6) (T 25) (T 26) (T 27) H → loopW (execW R lim n 36 f58_p0) m T H kw
  | 0, _, _, h => False.elim h
  | m + 1, T, H, h => by
    have hb : ∀ ex T H, F58_k2 R lim n K (F58_l2 R lim n K m) ex T H → (fun ex T H => match ex with | .norm => loopW (execW R lim n 36 f58_p0) m T H kw | ex => kw ex T H : Kt) ex T H := by
      intro ex T H h
      cases ex with
      | norm => exact F58_l2_ok R lim n K hk m T H h
      | exit i => exact hk _ _ _ h
      | ret => exact hk _ _ _ h
    have h' : F58_s2 R lim n K (F58_l2 R lim n K m) (T 6) (T 25) (T 26) (T 27) H := h
    rw [F58_s2_eq] at h'
    exact execI_sound f58_p0 T H _ _ (oblig_nl (by kernel_rfl)) hb h'
def F58_k0 (R : Caller) (lim n : Nat) (K : AVal → Heap → Prop) (rec0 : AVal → AVal → AVal → AVal → AVal → Heap → Prop) : Kt := fun ex T H => match ex with
  | .norm => rec0 (T 0) (T 3) (T 9) (T 10) (T 11) H
  | ex => (kBlk 0 (kSeq (execI R lim n 36 (F58_Lp R lim n K) f58_p3) (retW [(.tmp 2)] K))) ex T H
theorem F58_s0_eq (R : Caller) (lim n : Nat) (K : AVal → Heap → Prop) (rec0 : AVal → AVal → AVal → AVal → AVal → Heap → Prop) (T : Tm) (H : Heap) : F58_s0 R lim n K rec0 (T 0) (T 3) (T 9) (T 10) (T 11) H = execI R lim n 36 (F58_Lp0 R lim n K rec0) f58_p2 T H (F58_k0 R lim n K rec0) := by kernel_rfl
theorem F58_l0_ok (R : Caller) (lim n : Nat) (K : AVal → Heap → Prop) {kw : Kt} (hk : ∀ ex T H, (kBlk 0 (kSeq (execI R lim n 36 (F58_Lp R lim n K) f58_p3) (retW [(.tmp 2)] K))) ex T H → kw ex T H) : ∀ (m : Nat) (T : Tm) (H : Heap), F58_l0 R lim n K m (T 0) (T 3) (T 9) (T 10) (T 11) H → loopW (execW R lim n 36 f58_p2) m T H kw
  | 0, _, _, h => False.elim h
  | m + 1, T, H, h => by
    have hb : ∀ ex T H, F58_k0 R lim n K (F58_l0 R lim n K m) ex T H → (fun ex T H => match ex with | .norm => loopW (execW R lim n 36 f58_p2) m T H kw | ex => kw ex T H : Kt) ex T H := by
      intro ex T H h
      cases ex with
      | norm => exact F58_l0_ok R lim n K hk m T H h
      | exit i => exact hk _ _ _ h
      | ret => exact hk _ _ _ h
    have h' : F58_s0 R lim n K (F58_l0 R lim n K m) (T 0) (T 3) (T 9) (T 10) (T 11) H := h
    rw [F58_s0_eq] at h'
    exact execI_sound f58_p2 T H _ _ (oblig_nl (by kernel_rfl)) hb h'
theorem F58_eq (R : Caller) (lim n : Nat) (K : AVal → Heap → Prop) (a0 : AVal) (H : Heap) : F58 R lim n K a0 H = execI R lim n 36 (F58_Lp R lim n K) f58.body (argT [a0]) H (retW [(.tmp 2)] K) := by kernel_rfl
theorem F58_ob (R : Caller) (lim n : Nat) (K : AVal → Heap → Prop) : Oblig R lim n 36 (F58_Lp R lim n K) f58.body (retW [(.tmp 2)] K) := ⟨(oblig_nl (by kernel_rfl)), ⟨(oblig_nl (by kernel_rfl)), ⟨⟨(oblig_nl (by kernel_rfl)), (fun T H h => F58_l0_ok R lim n K (kBlk_mono (kSeqI_sound ⟨(oblig_nl (by kernel_rfl)), ⟨⟨(oblig_nl (by kernel_rfl)), (fun T H h => F58_l2_ok R lim n K (kBlk_mono (kSeqI_sound (oblig_nl (by kernel_rfl)) (fun _ _ _ h => h))) _ T H h)⟩, (oblig_nl (by kernel_rfl))⟩⟩ (fun _ _ _ h => h))) _ T H h)⟩, ⟨(oblig_nl (by kernel_rfl)), ⟨⟨(oblig_nl (by kernel_rfl)), (fun T H h => F58_l2_ok R lim n K (kBlk_mono (kSeqI_sound (oblig_nl (by kernel_rfl)) (fun _ _ _ h => h))) _ T H h)⟩, (oblig_nl (by kernel_rfl))⟩⟩⟩⟩⟩
theorem F58_run {ap : FuncId → Option AFn} (hf : ap 58 = some (.code f58)) {n lim : Nat} {K : AVal → Heap → Prop} {a0 : AVal} {H : Heap} (h : F58 (Ahs.runT ap n) lim n K a0 H) : ∃ v H', Ahs.runT ap (n + 1) lim (.fn 58) [a0] H = some (v, H') ∧ K v H' := by
  rw [F58_eq] at h
  exact run_of_W hf (by kernel_rfl) (by kernel_rfl) (execI_sound f58.body _ _ _ _ (F58_ob _ _ _ K) (fun _ _ _ h => h) h)
def F59_j0 (R : Caller) (lim n : Nat) (K : AVal → Heap → Prop) (H : Heap) : Prop :=
K (.bool true) H
def F59_s0 (R : Caller) (lim n : Nat) (K : AVal → Heap → Prop) (rec0 : AVal → AVal → AVal → AVal → AVal → Heap → Prop) (t0 t1 t9 t10 t11 : AVal) (H : Heap) : Prop :=
bindP (abin .lss t11 t10) fun v24 =>
bindP (boolOf v24) fun b25 =>
(b25 = true → (bindP (aindexAddr none 13 t9 t11) fun v26 =>
bindP (aload H (some 13) v26) fun v27 =>
bindP (astore lim (H.push (.cells z0)) 13 (.ptr (some (H.next, 0))) v27) fun H28 =>
bindP (abin .add t0 (.int .u64 1)) fun v29 =>
bindP (faddrO 0 (.ptr (some (H.next, 0)))) fun v30 =>
bindP (aload H28 none v30) fun v31 =>
bindP (abin .neq v31 v29) fun v32 =>
bindP (gd (some (v32, false)) (faddrO 0 (.ptr (some (H.next, 0))))) fun v33 =>
bindP (gd (some (v32, false)) (aload H28 none v33)) fun v34 =>
bindP (gd (some (v32, false)) (abin .eql v34 (.int .u64 0))) fun v35 =>
bindP (pickO v32 (.bool true) v35) fun v36 =>
bindP (gd (some (v36, false)) (faddrO 1 (.ptr (some (H.next, 0))))) fun v37 =>
bindP (gd (some (v36, false)) (aload H28 none v37)) fun v38 =>
bindP (gd (some (v36, false)) (some t1)) fun v39 =>
bindP (gd (some (v36, false)) (abin .lss v38 v39)) fun v40 =>
bindP (pickO v36 (.bool true) v40) fun v41 =>
bindP (boolOf v41) fun b42 =>
(b42 = true → (K (.bool false) H28)) ∧
(b42 = false → (bindP (faddrO 1 (.ptr (some (H.next, 0)))) fun v43 =>
bindP (aload H28 none v43) fun v44 =>
bindP (abin .add t11 (.int .i64 1)) fun v45 =>
rec0 v29 v44 t9 t10 v45 H28)))) ∧
(b25 = false → (F59_j0 R lim n K H))
def F59_l0 (R : Caller) (lim n : Nat) (K : AVal → Heap → Prop) : Nat → AVal → AVal → AVal → AVal → AVal → Heap → Prop
  | 0, _, _, _, _, _, _ => False
  | m + 1, t0, t1, t9, t10, t11, H => F59_s0 R lim n K (F59_l0 R lim n K m) t0 t1 t9 t10 t11 H
def F59 (R : Caller) (lim n : Nat) (K : AVal → Heap → Prop) (a0 a1 a2 : AVal) (H : Heap) : Prop :=
bindP (alen false a2) fun v1 =>
F59_l0 R lim n K n a0 a1 a2 v1 (.int .i64 0) H
def F59_Lp (R : Caller) (lim n : Nat) (K : AVal → Heap → Prop) : Nat → Tm → Heap → Prop
  | 0, T, H => F59_l0 R lim n K n (T 0) (T 1) (T 9) (T 10) (T 11) H
  | _, _, _ => False
def F59_Lp0 (R : Caller) (lim n : Nat) (K : AVal → Heap → Prop) (rec0 : AVal → AVal → AVal → AVal → AVal → Heap → Prop) : Nat → Tm → Heap → Prop
  | _, _, _ => False
def F59_k0 (R : Caller) (lim n : Nat) (K : AVal → Heap → Prop) (rec0 : AVal → AVal → AVal → AVal → AVal → Heap → Prop) : Kt := fun ex T H => match ex with
  | .norm => rec0 (T 0) (T 1) (T 9) (T 10) (T 11) H
  | ex => (kBlk 0 (kSeq (execI R lim n 35 (F59_Lp R lim n K) f59_p1) (retW [(.tmp 6)] K))) ex T H
theorem F59_s0_eq (R : Caller) (lim n : Nat) (K : AVal → Heap → Prop) (rec0 : AVal → AVal → AVal → AVal → AVal → Heap → Prop) (T : Tm) (H : Heap) : F59_s0 R lim n K rec0 (T 0) (T 1) (T 9) (T 10) (T 11) H = execI R lim n 35 (F59_Lp0 R lim n K rec0) f59_p0 T H (F59_k0 R lim n K rec0) := by kernel_rfl
theorem F59_l0_ok (R : Caller) (lim n : Nat) (K : AVal → Heap → Prop) {kw : Kt} (hk : ∀ ex T H, (kBlk 0 (kSeq (execI R lim n 35 (F59_Lp R lim n K) f59_p1) (retW [(.tmp 6)] K))) ex T H → kw ex T H) : ∀ (m : Nat) (T : Tm) (H : Heap), F59_l0 R lim n K m (T 0) (T 1) (T 9) (T 10) (T 11) H → loopW (execW R lim n 35 f59_p0) m T H kw
  | 0, _, _, h => False.elim h
  | m + 1, T, H, h => by
    have hb : ∀ ex T H, F59_k0 R lim n K (F59_l0 R lim n K m) ex T H → (fun ex T H => match ex with | .norm => loopW (execW R lim n 35 f59_p0) m T H kw | ex => kw ex T H : Kt) ex T H := by
      intro ex T H h
      cases ex with
      | norm => exact F59_l0_ok R lim n K hk m T H h
      | exit i => exact hk _ _ _ h
      | ret => exact hk _ _ _ h
    have h' : F59_s0 R lim n K (F59_l0 R lim n K m) (T 0) (T 1) (T 9) (T 10) (T 11) H := h
    rw [F59_s0_eq] at h'
    exact execI_sound f59_p0 T H _ _ (oblig_nl (by kernel_rfl)) hb h'
theorem F59_eq (R : Caller) (lim n : Nat) (K : AVal → Heap → Prop) (a0 a1 a2 : AVal) (H : Heap) : F59 R lim n K a0 a1 a2 H = execI R lim n 35 (F59_Lp R lim n K) f59.body (argT [a0, a1, a2]) H (retW [(.tmp 6)] K) := by kernel_rfl
theorem F59_ob (R : Caller) (lim n : Nat) (K : AVal → Heap → Prop) : Oblig R lim n 35 (F59_Lp R lim n K) f59.body (retW [(.tmp 6)] K) := ⟨(oblig_nl (by kernel_rfl)), ⟨⟨(oblig_nl (by kernel_rfl)), (fun T H h => F59_l0_ok R lim n K (kBlk_mono (kSeqI_sound (oblig_nl (by kernel_rfl)) (fun _ _ _ h => h))) _ T H h)⟩, (oblig_nl (by kernel_rfl))⟩⟩
theorem F59_run {ap : FuncId → Option AFn} (hf : ap 59 = some (.code f59)) {n lim : Nat} {K : AVal → Heap → Prop} {a0 a1 a2 : AVal} {H : Heap} (h : F59 (Ahs.runT ap n) lim n K a0 a1 a2 H) : ∃ v H', Ahs.runT ap (n + 1) lim (.fn 59) [a0, a1, a2] H = some (v, H') ∧ K v H' := by
  rw [F59_eq] at h
  exact run_of_W hf (by kernel_rfl) (by kernel_rfl) (execI_sound f59.body _ _ _ _ (F59_ob _ _ _ K) (fun _ _ _ h => h) h)
def F61_j0 (R : Caller) (lim n : Nat) (K : AVal → Heap → Prop) (t2 t3 t4 t5 : AVal) (H : Heap) : Prop :=
bind2 ((fillV [] []).map fun cs => (.sl (some (H.next, 0)) 0 (.ex 0), H.push (.cells cs))) fun v16 H17 =>
bindP (faddrO 3 t2) fun v18 =>
bindP (aload H17 none v18) fun v19 =>
bind2 (aappend H17.next H17 z0 48 false v16 v19) fun v20 H21 =>
bindP (aload H21 (some 13) t3) fun v22 =>
bind2 ((fillV z0 [(0, 13, v22)]).map fun cs => (.sl (some (H21.next, 0)) 1 (.ex 1), H21.push (.cells cs))) fun v23 H24 =>
bind2 (aappend lim H24 z0 48 false v20 v23) fun v25 H26 =>
bindP (faddrO 3 t2) fun v27 =>
bindP (astore lim H26 1 v27 v25) fun H28 =>
bindP (aload H28 (some 4) t2) fun v29 =>
(apartB t3 t4 && true) = true ∧
bindP (aload H28 (some 13) t3) fun v30 =>
bindP (astore lim H28 4 t4 v29) fun H31 =>
bindP (astore lim H31 13 t5 v30) fun H32 =>
bindP (aload H32 (some 4) t4) fun v33 =>
bindP (aload H32 (some 13) t5) fun v34 =>
K (.tup [v33, v34]) H32
def F61 (R : Caller) (lim n : Nat) (K : AVal → Heap → Prop) (a0 a1 : AVal) (H : Heap) : Prop :=
bind2 (if (a0).cells.all (·.one) then some (.ptr (some (H.next, 0)), H.push (.cells (a0).cells)) else none) fun v1 H2 =>
bind2 (if (a1).cells.all (·.one) then some (.ptr (some (H2.next, 0)), H2.push (.cells (a1).cells)) else none) fun v3 H4 =>
bindP (aload ((H4.push (.cells z1)).push (.cells z0)) (some 4) v1) fun v5 =>
bind2 (R lim (.fn 65) [v5] ((H4.push (.cells z1)).push (.cells z0))) fun v6 H7 =>
bindP (extO 0 v6) fun v8 =>
bindP (extO 1 v6) fun v9 =>
bindP (abin .add v8 (.int .u64 1)) fun v10 =>
bindP (faddrO 0 v3) fun v11 =>
bindP (astore lim H7 1 v11 v10) fun H12 =>
bindP (faddrO 1 v3) fun v13 =>
bindP (aload H12 none v13) fun v14 =>
bindP (abin .lss v14 v9) fun v15 =>
bindP (boolOf v15) fun b35 =>
(b35 = true → (bindP (faddrO 1 v3) fun v36 =>
bindP (astore lim H12 1 v36 v9) fun H37 =>
F61_j0 R lim n K v1 v3 (.ptr (some (H4.next, 0))) (.ptr (some ((H4.push (.cells z1)).next, 0))) H37)) ∧
(b35 = false → (F61_j0 R lim n K v1 v3 (.ptr (some (H4.next, 0))) (.ptr (some ((H4.push (.cells z1)).next, 0))) H12))
def F61_Lp (R : Caller) (lim n : Nat) (K : AVal → Heap → Prop) : Nat → Tm → Heap → Prop
  | _, _, _ => False
theorem F61_eq (R : Caller) (lim n : Nat) (K : AVal → Heap → Prop) (a0 a1 : AVal) (H : Heap) : F61 R lim n K a0 a1 H = execI R lim n 32 (F61_Lp R lim n K) f61.body (argT [a0, a1]) H (retW [(.cell 4 (some 4)), (.cell 5 (some 13))] K) := by kernel_rfl
theorem F61_ob (R : Caller) (lim n : Nat) (K : AVal → Heap → Prop) : Oblig R lim n 32 (F61_Lp R lim n K) f61.body (retW [(.cell 4 (some 4)), (.cell 5 (some 13))] K) := (oblig_nl (by kernel_rfl))
theorem F61_run {ap : FuncId → Option AFn} (hf : ap 61 = some (.code f61)) {n lim : Nat} {K : AVal → Heap → Prop} {a0 a1 : AVal} {H : Heap} (h : F61 (Ahs.runT ap n) lim n K a0 a1 H) : ∃ v H', Ahs.runT ap (n + 1) lim (.fn 61) [a0, a1] H = some (v, H') ∧ K v H' := by
  rw [F61_eq] at h
  exact run_of_W hf (by kernel_rfl) (by kernel_rfl) (execI_sound f61.body _ _ _ _ (F61_ob _ _ _ K) (fun _ _ _ h => h) h)
end Go.Proofs.Ytpefhojmfcenfaa.logs
