/- What each function comes to, as one formula; printed by genw.py. -/
import Derived.Test.YtjflpnahjooffaaDxAp
import Derived.Test.YtjflpnahjooffaaChsW1
set_option maxRecDepth 100000
set_option linter.unusedVariables false
namespace Go.Proofs.Ytjflpnahjooffaa.disk
open Go.Ahs
def z6243a3 : List AVal := [(.sl none 0 (.ex 0)), (.bool false), (.int .i64 0)]
def z767a78 : List AVal := [(.int .u8 0), (.str []), (.str []), (.int .i64 0), (.sl none 0 (.ex 0)), (.sl none 0 (.ex 0))]
def zf3f7a3 : List AVal := [(.sl none 0 (.ex 0)), (.sl none 0 (.ex 0))]
def z5cbe97 : List AVal := [(.map none), (.bool false), (.int .i64 0)]
def ze3a7c2 : List AVal := [(.sl none 0 (.ex 0)), (.int .i64 0), (.bool false), (.str [])]
def z11b428 : List AVal := [(.str []), (.sl none 0 (.ex 0)), (.int .i64 0), (.bool false), (.str [])]
def z052929 : List AVal := [(.ptr none), (.sl none 0 (.ex 0))]
def F8_j0 (R : Caller) (lim n : Nat) (K : AVal → Heap → Prop) (t2 t7 t9 t10 t11 t12 : AVal) (H : Heap) : Prop :=
bindP (aload H (some 2) t7) fun v103 =>
bind2 (R lim (.fn 47) [t9, v103] H) fun v104 H105 =>
bind2 (R lim (.fn 41) [t9] H105) fun v106 H107 =>
bind2 (R lim (.fn 44) [t9, t2] H107) fun v108 H109 =>
bindP (extO 0 v108) fun v110 =>
bindP (extO 1 v108) fun v111 =>
bind2 (R lim (.fn 45) [t9, t2] H109) fun v112 H113 =>
bindP (extO 0 v112) fun v114 =>
bindP (extO 1 v112) fun v115 =>
bindP (abin .eql t11 (.int .i64 0)) fun v116 =>
bindP (gd (some (v116, true)) (some v111)) fun v117 =>
bindP (gd (some (v116, true)) (abin .eql v117 (.int .i64 0))) fun v118 =>
bindP (pickO v116 v118 (.bool false)) fun v119 =>
bindP (gd (some (v119, true)) (some v110)) fun v120 =>
bindP (gd (some (v119, true)) (alen true v120)) fun v121 =>
bindP (gd (some (v119, true)) (some t10)) fun v122 =>
bindP (gd (some (v119, true)) (alen true v122)) fun v123 =>
bindP (gd (some (v119, true)) (abin .geq v121 v123)) fun v124 =>
bindP (pickO v119 v124 (.bool false)) fun v125 =>
bindP (gd (some (v125, true)) (some v110)) fun v126 =>
bindP (gd (some (v125, true)) (some t10)) fun v127 =>
bindP (gd (some (v125, true)) (alen true v127)) fun v128 =>
bindP (gd (some (v125, true)) (asliceStr v126 none (some v128))) fun v129 =>
bindP (gd (some (v125, true)) (some t10)) fun v130 =>
bindP (gd (some (v125, true)) (abin .eql v129 v130)) fun v131 =>
bindP (pickO v125 v131 (.bool false)) fun v132 =>
bindP (gd (some (v132, true)) (some v114)) fun v133 =>
bindP (gd (some (v132, true)) (some t12)) fun v134 =>
bindP (gd (some (v132, true)) (abin .geq v133 v134)) fun v135 =>
bindP (pickO v132 v135 (.bool false)) fun v136 =>
bindP (gd (some (v136, true)) (some v115)) fun v137 =>
bindP (gd (some (v136, true)) (some v114)) fun v138 =>
bindP (gd (some (v136, true)) (abin .eql v137 v138)) fun v139 =>
bindP (pickO v136 v139 (.bool false)) fun v140 =>
bind2 (gd2 (some (v140, true)) H113 (R lim (.fn 38) [] H113)) fun v141 H142 =>
bindP (pickO v140 v141 (.bool false)) fun v143 =>
K v143 H142
def F8_j1 (R : Caller) (lim n : Nat) (K : AVal → Heap → Prop) (rec0 : AVal → AVal → AVal → AVal → AVal → AVal → AVal → AVal → Heap → Prop) (t1 t2 t7 t9 t10 t11 t12 t14 : AVal) (H : Heap) : Prop :=
bindP (abin .add t14 (.int .i64 1)) fun v158 =>
rec0 t1 t2 t7 t9 t10 t11 t12 v158 H
def F8_s0 (R : Caller) (lim n : Nat) (K : AVal → Heap → Prop) (rec0 : AVal → AVal → AVal → AVal → AVal → AVal → AVal → AVal → Heap → Prop) (t1 t2 t7 t9 t10 t11 t12 t14 : AVal) (H : Heap) : Prop :=
bindP (alen false t1) fun v144 =>
bindP (abin .lss t14 v144) fun v145 =>
bindP (boolOf v145) fun b146 =>
(b146 = true → (bindP (aindexAddr none 6 t1 t14) fun v147 =>
bindP (faddrO 0 v147) fun v148 =>
bindP (aload H none v148) fun v149 =>
bindP (abin .neq v149 (.int .u8 2)) fun v150 =>
bindP (gd (some (v150, true)) (some t1)) fun v151 =>
bindP (gd (some (v150, true)) (some t14)) fun v152 =>
bindP (gd (some (v150, true)) (aindexAddr none 6 v151 v152)) fun v153 =>
bindP (gd (some (v150, true)) (faddrO 0 v153)) fun v154 =>
bindP (gd (some (v150, true)) (aload H none v154)) fun v155 =>
bindP (gd (some (v150, true)) (abin .neq v155 (.int .u8 3))) fun v156 =>
bindP (pickO v150 v156 (.bool false)) fun v157 =>
bindP (boolOf v157) fun b159 =>
(b159 = true → (bindP (aindexAddr none 6 t1 t14) fun v160 =>
bindP (aload H (some 6) v160) fun v161 =>
bind2 (R lim (.fn 46) [t9, v161] H) fun v162 H163 =>
F8_j1 R lim n K rec0 t1 t2 t7 t9 t10 t11 t12 t14 H163)) ∧
(b159 = false → (F8_j1 R lim n K rec0 t1 t2 t7 t9 t10 t11 t12 t14 H)))) ∧
(b146 = false → (F8_j0 R lim n K t2 t7 t9 t10 t11 t12 H))
def F8_l0 (R : Caller) (lim n : Nat) (K : AVal → Heap → Prop) : Nat → AVal → AVal → AVal → AVal → AVal → AVal → AVal → AVal → Heap → Prop
  | 0, _, _, _, _, _, _, _, _, _ => False
  | m + 1, t1, t2, t7, t9, t10, t11, t12, t14, H => F8_s0 R lim n K (F8_l0 R lim n K m) t1 t2 t7 t9 t10 t11 t12 t14 H
def F8 (R : Caller) (lim n : Nat) (K : AVal → Heap → Prop) (a0 a1 a2 a3 : AVal) (H : Heap) : Prop :=
bind2 (if (a3).cells.all (·.one) then some (.ptr (some (H.next, 0)), H.push (.cells (a3).cells)) else none) fun v1 H2 =>
bind2 (R lim (.fn 36) [a0] H2) fun v3 H4 =>
bindP (gd (some (v3, false)) (some a1)) fun v5 =>
bind2 (gd2 (some (v3, false)) H4 (R lim (.fn 36) [v5] H4)) fun v6 H7 =>
bindP (pickO v3 (.bool true) v6) fun v8 =>
bindP (gd (some (v8, false)) (aload H7 (some 2) v1)) fun v9 =>
bind2 (gd2 (some (v8, false)) H7 (R lim (.fn 37) [v9] H7)) fun v10 H11 =>
bindP (pickO v8 (.bool true) v10) fun v12 =>
bindP (gd (some (v12, false)) (some a2)) fun v13 =>
bindP (gd (some (v12, false)) (alen true v13)) fun v14 =>
bindP (gd (some (v12, false)) (abin .gtr v14 (.int .i64 100))) fun v15 =>
bindP (pickO v12 (.bool true) v15) fun v16 =>
bindP (boolOf v16) fun b17 =>
(b17 = true → (bind2 (R lim (.fn 38) [] H11) fun v18 H19 =>
K v18 H19)) ∧
(b17 = false → (bind2 (R lim (.fn 39) [] H11) fun v20 H21 =>
bind2 (R lim (.fn 40) [v20, a0] H21) fun v22 H23 =>
bind2 (R lim (.fn 41) [v20] H23) fun v24 H25 =>
bind2 (R lim (.fn 42) [v20, (.int .i64 0)] H25) fun v26 H27 =>
bind2 (R lim (.fn 43) [v20, a2] H27) fun v28 H29 =>
bindP (abin .neq v28 (.int .i64 0)) fun v30 =>
bindP (boolOf v30) fun b31 =>
(b31 = true → (bind2 (R lim (.fn 38) [] H29) fun v32 H33 =>
K v32 H33)) ∧
(b31 = false → (bind2 (R lim (.fn 44) [v20, a2] H29) fun v34 H35 =>
bindP (extO 0 v34) fun v36 =>
bindP (extO 1 v34) fun v37 =>
bind2 (R lim (.fn 45) [v20, a2] H35) fun v38 H39 =>
bindP (extO 0 v38) fun v40 =>
bindP (extO 1 v38) fun v41 =>
F8_l0 R lim n K n a1 a2 v1 v20 v36 v37 v40 (.int .i64 0) H39))))
def F8_Lp (R : Caller) (lim n : Nat) (K : AVal → Heap → Prop) : Nat → Tm → Heap → Prop
  | 0, T, H => F8_l0 R lim n K n (T 1) (T 2) (T 7) (T 9) (T 10) (T 11) (T 12) (T 14) H
  | _, _, _ => False
def F8_Lp0 (R : Caller) (lim n : Nat) (K : AVal → Heap → Prop) (rec0 : AVal → AVal → AVal → AVal → AVal → AVal → AVal → AVal → Heap → Prop) : Nat → Tm → Heap → Prop
  | _, _, _ => False
def F8_k0 (R : Caller) (lim n : Nat) (K : AVal → Heap → Prop) (rec0 : AVal → AVal → AVal → AVal → AVal → AVal → AVal → AVal → Heap → Prop) : Kt := fun ex T H => match ex with
  | .norm => rec0 (T 1) (T 2) (T 7) (T 9) (T 10) (T 11) (T 12) (T 14) H
  | ex => (kBlk 0 (kSeq (execI R lim n 137 (F8_Lp R lim n K) f8_p1) (retW [(.tmp 8)] K))) ex T H
theorem F8_s0_eq (R : Caller) (lim n : Nat) (K : AVal → Heap → Prop) (rec0 : AVal → AVal → AVal → AVal → AVal → AVal → AVal → AVal → Heap → Prop) (T : Tm) (H : Heap) : F8_s0 R lim n K rec0 (T 1) (T 2) (T 7) (T 9) (T 10) (T 11) (T 12) (T 14) H = execI R lim n 137 (F8_Lp0 R lim n K rec0) f8_p0 T H (F8_k0 R lim n K rec0) := by kernel_rfl
theorem F8_l0_ok (R : Caller) (lim n : Nat) (K : AVal → Heap → Prop) {kw : Kt} (hk : ∀ ex T H, (kBlk 0 (kSeq (execI R lim n 137 (F8_Lp R lim n K) f8_p1) (retW [(.tmp 8)] K))) ex T H → kw ex T H) : ∀ (m : Nat) (T : Tm) (H : Heap), F8_l0 R lim n K m (T 1) (T 2) (T 7) (T 9) (T 10) (T 11) (T 12) (T 14) H → loopW (execW R lim n 137 f8_p0) m T H kw
  | 0, _, _, h => False.elim h
  | m + 1, T, H, h => by
    have hb : ∀ ex T H, F8_k0 R lim n K (F8_l0 R lim n K m) ex T H → (fun ex T H => match ex with | .norm => loopW (execW R lim n 137 f8_p0) m T H kw | ex => kw ex T H : Kt) ex T H := by
      intro ex T H h
      cases ex with
      | norm => exact F8_l0_ok R lim n K hk m T H h
      | exit i => exact hk _ _ _ h
      | ret => exact hk _ _ _ h
    have h' : F8_s0 R lim n K (F8_l0 R lim n K m) (T 1) (T 2) (T 7) (T 9) (T 10) (T 11) (T 12) (T 14) H := h
    rw [F8_s0_eq] at h'
    exact execI_sound f8_p0 T H _ _ (oblig_nl (by kernel_rfl)) hb h'
theorem F8_eq (R : Caller) (lim n : Nat) (K : AVal → Heap → Prop) (a0 a1 a2 a3 : AVal) (H : Heap) : F8 R lim n K a0 a1 a2 a3 H = execI R lim n 137 (F8_Lp R lim n K) f8.body (argT [a0, a1, a2, a3]) H (retW [(.tmp 8)] K) := by kernel_rfl
theorem F8_ob (R : Caller) (lim n : Nat) (K : AVal → Heap → Prop) : Oblig R lim n 137 (F8_Lp R lim n K) f8.body (retW [(.tmp 8)] K) := ⟨(oblig_nl (by kernel_rfl)), ⟨(oblig_nl (by kernel_rfl)), ⟨(oblig_nl (by kernel_rfl)), ⟨(oblig_nl (by kernel_rfl)), ⟨(oblig_nl (by kernel_rfl)), ⟨(oblig_nl (by kernel_rfl)), ⟨(oblig_nl (by kernel_rfl)), ⟨(oblig_nl (by kernel_rfl)), ⟨(oblig_nl (by kernel_rfl)), ⟨⟨(oblig_nl (by kernel_rfl)), (fun T H h => F8_l0_ok R lim n K (kBlk_mono (kSeqI_sound (oblig_nl (by kernel_rfl)) (fun _ _ _ h => h))) _ T H h)⟩, (oblig_nl (by kernel_rfl))⟩⟩⟩⟩⟩⟩⟩⟩⟩⟩
theorem F8_run {ap : FuncId → Option AFn} (hf : ap 8 = some (.code f8)) {n lim : Nat} {K : AVal → Heap → Prop} {a0 a1 a2 a3 : AVal} {H : Heap} (h : F8 (Ahs.runT ap n) lim n K a0 a1 a2 a3 H) : ∃ v H', Ahs.runT ap (n + 1) lim (.fn 8) [a0, a1, a2, a3] H = some (v, H') ∧ K v H' := by
  rw [F8_eq] at h
  exact run_of_W hf (by kernel_rfl) (by kernel_rfl) (execI_sound f8.body _ _ _ _ (F8_ob _ _ _ K) (fun _ _ _ h => h) h)
def F10_j0 (R : Caller) (lim n : Nat) (K : AVal → Heap → Prop) (H : Heap) : Prop :=
bind2 (R lim (.fn 38) [] H) fun v41 H42 =>
K v41 H42
def F10_s0 (R : Caller) (lim n : Nat) (K : AVal → Heap → Prop) (rec0 : AVal → AVal → AVal → AVal → Heap → Prop) (t0 t3 t4 t5 : AVal) (H : Heap) : Prop :=
bindP (alen false t0) fun v43 =>
bindP (abin .lss t5 v43) fun v44 =>
bindP (boolOf v44) fun b45 =>
(b45 = true → (bindP (aindexAddr none 6 t0 t5) fun v46 =>
bindP (aload H (some 6) v46) fun v47 =>
bind2 (R lim (.fn 46) [t3, v47] H) fun v48 H49 =>
bindP (extO 0 v48) fun v50 =>
bindP (extO 1 v48) fun v51 =>
bindP (aindexAddr none 6 t0 t5) fun v52 =>
bindP (aload H49 (some 6) v52) fun v53 =>
bind2 (R lim (.fn 53) [t4, v53] H49) fun v54 H55 =>
bindP (extO 0 v54) fun v56 =>
bindP (extO 1 v54) fun v57 =>
bindP (abin .neq v50 v56) fun v58 =>
bindP (gd (some (v58, false)) (some v51)) fun v59 =>
bindP (gd (some (v58, false)) (some v57)) fun v60 =>
bindP (gd (some (v58, false)) (abin .neq v59 v60)) fun v61 =>
bindP (pickO v58 (.bool true) v61) fun v62 =>
bindP (gd (some (v62, false)) (some t3)) fun v63 =>
bindP (gd (some (v62, false)) (some t4)) fun v64 =>
bind2 (gd2 (some (v62, false)) H55 (R lim (.fn 54) [v63, v64] H55)) fun v65 H66 =>
bindP (gd (some (v62, false)) (aun .not v65)) fun v67 =>
bindP (pickO v62 (.bool true) v67) fun v68 =>
bindP (boolOf v68) fun b69 =>
(b69 = true → (K (.bool false) H66)) ∧
(b69 = false → (bindP (abin .add t5 (.int .i64 1)) fun v70 =>
rec0 t0 t3 t4 v70 H66)))) ∧
(b45 = false → (F10_j0 R lim n K H))
def F10_l0 (R : Caller) (lim n : Nat) (K : AVal → Heap → Prop) : Nat → AVal → AVal → AVal → AVal → Heap → Prop
  | 0, _, _, _, _, _ => False
  | m + 1, t0, t3, t4, t5, H => F10_s0 R lim n K (F10_l0 R lim n K m) t0 t3 t4 t5 H
def F10 (R : Caller) (lim n : Nat) (K : AVal → Heap → Prop) (a0 : AVal) (H : Heap) : Prop :=
bind2 (R lim (.fn 36) [a0] H) fun v1 H2 =>
bindP (boolOf v1) fun b3 =>
(b3 = true → (bind2 (R lim (.fn 38) [] H2) fun v4 H5 =>
K v4 H5)) ∧
(b3 = false → (bind2 (R lim (.fn 39) [] H2) fun v6 H7 =>
bindP (buildO z6243a3 []) fun v8 =>
bind2 (if (v8).cells.all (·.one) then some (.ptr (some (H7.next, 0)), H7.push (.cells (v8).cells)) else none) fun v9 H10 =>
F10_l0 R lim n K n a0 v6 v9 (.int .i64 0) H10))
def F10_Lp (R : Caller) (lim n : Nat) (K : AVal → Heap → Prop) : Nat → Tm → Heap → Prop
  | 0, T, H => F10_l0 R lim n K n (T 0) (T 3) (T 4) (T 5) H
  | _, _, _ => False
def F10_Lp0 (R : Caller) (lim n : Nat) (K : AVal → Heap → Prop) (rec0 : AVal → AVal → AVal → AVal → Heap → Prop) : Nat → Tm → Heap → Prop
  | _, _, _ => False
def F10_k0 (R : Caller) (lim n : Nat) (K : AVal → Heap → Prop) (rec0 : AVal → AVal → AVal → AVal → Heap → Prop) : Kt := fun ex T H => match ex with
  | .norm => rec0 (T 0) (T 3) (T 4) (T 5) H
  | ex => (kBlk 0 (kSeq (execI R lim n 55 (F10_Lp R lim n K) f10_p1) (retW [(.tmp 2)] K))) ex T H
theorem F10_s0_eq (R : Caller) (lim n : Nat) (K : AVal → Heap → Prop) (rec0 : AVal → AVal → AVal → AVal → Heap → Prop) (T : Tm) (H : Heap) : F10_s0 R lim n K rec0 (T 0) (T 3) (T 4) (T 5) H = execI R lim n 55 (F10_Lp0 R lim n K rec0) f10_p0 T H (F10_k0 R lim n K rec0) := by kernel_rfl
theorem F10_l0_ok (R : Caller) (lim n : Nat) (K : AVal → Heap → Prop) {kw : Kt} (hk : ∀ ex T H, (kBlk 0 (kSeq (execI R lim n 55 (F10_Lp R lim n K) f10_p1) (retW [(.tmp 2)] K))) ex T H → kw ex T H) : ∀ (m : Nat) (T : Tm) (H : Heap), F10_l0 R lim n K m (T 0) (T 3) (T 4) (T 5) H → loopW (execW R lim n 55 f10_p0) m T H kw
  | 0, _, _, h => False.elim h
  | m + 1, T, H, h => by
    have hb : ∀ ex T H, F10_k0 R lim n K (F10_l0 R lim n K m) ex T H → (fun ex T H => match ex with | .norm => loopW (execW R lim n 55 f10_p0) m T H kw | ex => kw ex T H : Kt) ex T H := by
      intro ex T H h
      cases ex with
      | norm => exact F10_l0_ok R lim n K hk m T H h
      | exit i => exact hk _ _ _ h
      | ret => exact hk _ _ _ h
    have h' : F10_s0 R lim n K (F10_l0 R lim n K m) (T 0) (T 3) (T 4) (T 5) H := h
    rw [F10_s0_eq] at h'
    exact execI_sound f10_p0 T H _ _ (oblig_nl (by kernel_rfl)) hb h'
theorem F10_eq (R : Caller) (lim n : Nat) (K : AVal → Heap → Prop) (a0 : AVal) (H : Heap) : F10 R lim n K a0 H = execI R lim n 55 (F10_Lp R lim n K) f10.body (argT [a0]) H (retW [(.tmp 2)] K) := by kernel_rfl
theorem F10_ob (R : Caller) (lim n : Nat) (K : AVal → Heap → Prop) : Oblig R lim n 55 (F10_Lp R lim n K) f10.body (retW [(.tmp 2)] K) := ⟨(oblig_nl (by kernel_rfl)), ⟨(oblig_nl (by kernel_rfl)), ⟨(oblig_nl (by kernel_rfl)), ⟨(oblig_nl (by kernel_rfl)), ⟨⟨(oblig_nl (by kernel_rfl)), (fun T H h => F10_l0_ok R lim n K (kBlk_mono (kSeqI_sound (oblig_nl (by kernel_rfl)) (fun _ _ _ h => h))) _ T H h)⟩, (oblig_nl (by kernel_rfl))⟩⟩⟩⟩⟩
theorem F10_run {ap : FuncId → Option AFn} (hf : ap 10 = some (.code f10)) {n lim : Nat} {K : AVal → Heap → Prop} {a0 : AVal} {H : Heap} (h : F10 (Ahs.runT ap n) lim n K a0 H) : ∃ v H', Ahs.runT ap (n + 1) lim (.fn 10) [a0] H = some (v, H') ∧ K v H' := by
  rw [F10_eq] at h
  exact run_of_W hf (by kernel_rfl) (by kernel_rfl) (execI_sound f10.body _ _ _ _ (F10_ob _ _ _ K) (fun _ _ _ h => h) h)
def F11_j0 (R : Caller) (lim n : Nat) (K : AVal → Heap → Prop) (H : Heap) : Prop :=
bind2 (R lim (.fn 38) [] H) fun v209 H210 =>
K v209 H210
def F11_s2 (R : Caller) (lim n : Nat) (K : AVal → Heap → Prop) (rec2 : AVal → AVal → AVal → AVal → AVal → Heap → Prop) (t5 t6 t14 t15 t16 : AVal) (H : Heap) : Prop :=
bindP (alen false t14) fun v211 =>
bindP (abin .lss t16 v211) fun v212 =>
bindP (boolOf v212) fun b213 =>
(b213 = true → (bindP (aindexAddr none 1 t14 t16) fun v214 =>
bindP (aload H none v214) fun v215 =>
bind2 (R lim (.fn 45) [t5, v215] H) fun v216 H217 =>
bindP (extO 0 v216) fun v218 =>
bindP (extO 1 v216) fun v219 =>
bindP (aindexAddr none 1 t15 t16) fun v220 =>
bindP (aload H217 none v220) fun v221 =>
bind2 (R lim (.fn 45) [t6, v221] H217) fun v222 H223 =>
bindP (extO 0 v222) fun v224 =>
bindP (extO 1 v222) fun v225 =>
bindP (aindexAddr none 1 t14 t16) fun v226 =>
bindP (aload H223 none v226) fun v227 =>
bindP (aindexAddr none 1 t15 t16) fun v228 =>
bindP (aload H223 none v228) fun v229 =>
bindP (abin .neq v227 v229) fun v230 =>
bindP (gd (some (v230, false)) (some v218)) fun v231 =>
bindP (gd (some (v230, false)) (some v224)) fun v232 =>
bindP (gd (some (v230, false)) (abin .neq v231 v232)) fun v233 =>
bindP (pickO v230 (.bool true) v233) fun v234 =>
bindP (gd (some (v234, false)) (some v219)) fun v235 =>
bindP (gd (some (v234, false)) (some v225)) fun v236 =>
bindP (gd (some (v234, false)) (abin .neq v235 v236)) fun v237 =>
bindP (pickO v234 (.bool true) v237) fun v238 =>
bindP (boolOf v238) fun b239 =>
(b239 = true → (K (.bool false) H223)) ∧
(b239 = false → (bindP (abin .add t16 (.int .i64 1)) fun v240 =>
rec2 t5 t6 t14 t15 v240 H223)))) ∧
(b213 = false → (F11_j0 R lim n K H))
def F11_l2 (R : Caller) (lim n : Nat) (K : AVal → Heap → Prop) : Nat → AVal → AVal → AVal → AVal → AVal → Heap → Prop
  | 0, _, _, _, _, _, _ => False
  | m + 1, t5, t6, t14, t15, t16, H => F11_s2 R lim n K (F11_l2 R lim n K m) t5 t6 t14 t15 t16 H
def F11_j1 (R : Caller) (lim n : Nat) (K : AVal → Heap → Prop) (t5 t6 : AVal) (H : Heap) : Prop :=
bind2 (R lim (.fn 52) [t5] H) fun v153 H154 =>
bind2 (R lim (.fn 52) [t6] H154) fun v155 H156 =>
bindP (alen false v153) fun v157 =>
bindP (alen false v155) fun v158 =>
bindP (abin .neq v157 v158) fun v159 =>
bindP (gd (some (v159, false)) (some t5)) fun v160 =>
bind2 (gd2 (some (v159, false)) H156 (R lim (.fn 55) [v160] H156)) fun v161 H162 =>
bindP (gd (some (v159, false)) (some t6)) fun v163 =>
bind2 (gd2 (some (v159, false)) H162 (R lim (.fn 55) [v163] H162)) fun v164 H165 =>
bindP (gd (some (v159, false)) (eqvO true .bool v161 v164)) fun v166 =>
bindP (pickO v159 (.bool true) v166) fun v167 =>
bindP (gd (some (v167, false)) (some t5)) fun v168 =>
bind2 (gd2 (some (v167, false)) H165 (R lim (.fn 50) [v168] H165)) fun v169 H170 =>
bindP (gd (some (v167, false)) (some t6)) fun v171 =>
bind2 (gd2 (some (v167, false)) H170 (R lim (.fn 50) [v171] H170)) fun v172 H173 =>
bindP (gd (some (v167, false)) (abin .neq v169 v172)) fun v174 =>
bindP (pickO v167 (.bool true) v174) fun v175 =>
bindP (boolOf v175) fun b176 =>
(b176 = true → (K (.bool false) H173)) ∧
(b176 = false → (F11_l2 R lim n K n t5 t6 v153 v155 (.int .i64 0) H173))
def F11_j2 (R : Caller) (lim n : Nat) (K : AVal → Heap → Prop) (rec0 : AVal → AVal → AVal → AVal → AVal → Heap → Prop) (t0 t1 t5 t6 t7 : AVal) (H : Heap) : Prop :=
bindP (abin .add t7 (.int .i64 1)) fun v244 =>
rec0 t0 t1 t5 t6 v244 H
def F11_j3 (R : Caller) (lim n : Nat) (K : AVal → Heap → Prop) (rec0 : AVal → AVal → AVal → AVal → AVal → Heap → Prop) (t0 t1 t5 t6 t7 t8 t9 : AVal) (H : Heap) : Prop :=
bindP (faddrO 0 t8) fun v257 =>
bindP (aload H none v257) fun v258 =>
bindP (abin .eql v258 (.int .u8 4)) fun v259 =>
bindP (boolOf v259) fun b260 =>
(b260 = true → (F11_j2 R lim n K rec0 t0 t1 t5 t6 t7 H)) ∧
(b260 = false → (bindP (aload H (some 6) t8) fun v261 =>
bind2 (R lim (.fn 46) [t5, v261] H) fun v262 H263 =>
bindP (extO 0 v262) fun v264 =>
bindP (extO 1 v262) fun v265 =>
bindP (aload H263 (some 6) t9) fun v266 =>
bind2 (R lim (.fn 46) [t6, v266] H263) fun v267 H268 =>
bindP (extO 0 v267) fun v269 =>
bindP (extO 1 v267) fun v270 =>
bindP (abin .neq v265 v270) fun v271 =>
bindP (boolOf v271) fun b272 =>
(b272 = true → (K (.bool false) H268)) ∧
(b272 = false → (F11_j2 R lim n K rec0 t0 t1 t5 t6 t7 H268))))
def F11_j4 (R : Caller) (lim n : Nat) (K : AVal → Heap → Prop) (rec0 : AVal → AVal → AVal → AVal → AVal → Heap → Prop) (t0 t1 t5 t6 t7 t8 t9 : AVal) (H : Heap) : Prop :=
F11_j3 R lim n K rec0 t0 t1 t5 t6 t7 t8 t9 H
def F11_s0 (R : Caller) (lim n : Nat) (K : AVal → Heap → Prop) (rec0 : AVal → AVal → AVal → AVal → AVal → Heap → Prop) (t0 t1 t5 t6 t7 : AVal) (H : Heap) : Prop :=
bindP (alen false t0) fun v241 =>
bindP (abin .lss t7 v241) fun v242 =>
bindP (boolOf v242) fun b243 =>
(b243 = true → (bindP (aindexAddr none 6 t0 t7) fun v245 =>
bindP (aload H (some 6) v245) fun v246 =>
bindP (astore lim (H.push (.cells z767a78)) 6 (.ptr (some (H.next, 0))) v246) fun H247 =>
bindP (aload H247 (some 6) (.ptr (some (H.next, 0)))) fun v248 =>
bindP (astore lim (H247.push (.cells z767a78)) 6 (.ptr (some (H247.next, 0))) v248) fun H249 =>
bindP (faddrO 0 (.ptr (some (H.next, 0)))) fun v250 =>
bindP (aload H249 none v250) fun v251 =>
bindP (abin .eql v251 (.int .u8 0)) fun v252 =>
bindP (gd (some (v252, true)) (faddrO 2 (.ptr (some (H.next, 0))))) fun v253 =>
bindP (gd (some (v252, true)) (aload H249 none v253)) fun v254 =>
bindP (gd (some (v252, true)) (abin .neq v254 (.str []))) fun v255 =>
bindP (pickO v252 v255 (.bool false)) fun v256 =>
bindP (boolOf v256) fun b273 =>
(b273 = true → (bindP (faddrO 2 (.ptr (some (H247.next, 0)))) fun v274 =>
bindP (astore lim H249 1 v274 (.str [122])) fun H275 =>
bindP (alen false t1) fun v276 =>
bindP (abin .lss t7 v276) fun v277 =>
bindP (gd (some (v277, true)) (some t1)) fun v278 =>
bindP (gd (some (v277, true)) (some t7)) fun v279 =>
bindP (gd (some (v277, true)) (aindexAddr none 1 v278 v279)) fun v280 =>
bindP (gd (some (v277, true)) (aload H275 none v280)) fun v281 =>
bindP (gd (some (v277, true)) (abin .neq v281 (.str []))) fun v282 =>
bindP (pickO v277 v282 (.bool false)) fun v283 =>
bindP (gd (some (v283, true)) (some t1)) fun v284 =>
bindP (gd (some (v283, true)) (some t7)) fun v285 =>
bindP (gd (some (v283, true)) (aindexAddr none 1 v284 v285)) fun v286 =>
bindP (gd (some (v283, true)) (aload H275 none v286)) fun v287 =>
bindP (gd (some (v283, true)) (alen true v287)) fun v288 =>
bindP (gd (some (v283, true)) (abin .lss v288 (.int .i64 20000))) fun v289 =>
bindP (pickO v283 v289 (.bool false)) fun v290 =>
bindP (boolOf v290) fun b291 =>
(b291 = true → (bindP (aindexAddr none 1 t1 t7) fun v292 =>
bindP (aload H275 none v292) fun v293 =>
bindP (faddrO 2 (.ptr (some (H247.next, 0)))) fun v294 =>
bindP (astore lim H275 1 v294 v293) fun H295 =>
F11_j4 R lim n K rec0 t0 t1 t5 t6 t7 (.ptr (some (H.next, 0))) (.ptr (some (H247.next, 0))) H295)) ∧
(b291 = false → (F11_j4 R lim n K rec0 t0 t1 t5 t6 t7 (.ptr (some (H.next, 0))) (.ptr (some (H247.next, 0))) H275)))) ∧
(b273 = false → (F11_j3 R lim n K rec0 t0 t1 t5 t6 t7 (.ptr (some (H.next, 0))) (.ptr (some (H247.next, 0))) H249)))) ∧
(b243 = false → (F11_j1 R lim n K t5 t6 H))
def F11_l0 (R : Caller) (lim n : Nat) (K : AVal → Heap → Prop) : Nat → AVal → AVal → AVal → AVal → AVal → Heap → Prop
  | 0, _, _, _, _, _, _ => False
  | m + 1, t0, t1, t5, t6, t7, H => F11_s0 R lim n K (F11_l0 R lim n K m) t0 t1 t5 t6 t7 H
def F11 (R : Caller) (lim n : Nat) (K : AVal → Heap → Prop) (a0 a1 : AVal) (H : Heap) : Prop :=
bind2 (R lim (.fn 36) [a0] H) fun v1 H2 =>
bindP (boolOf v1) fun b3 =>
(b3 = true → (bind2 (R lim (.fn 38) [] H2) fun v4 H5 =>
K v4 H5)) ∧
(b3 = false → (bind2 (R lim (.fn 39) [] H2) fun v6 H7 =>
bind2 (R lim (.fn 39) [] H7) fun v8 H9 =>
F11_l0 R lim n K n a0 a1 v6 v8 (.int .i64 0) H9))
def F11_Lp (R : Caller) (lim n : Nat) (K : AVal → Heap → Prop) : Nat → Tm → Heap → Prop
  | 0, T, H => F11_l0 R lim n K n (T 0) (T 1) (T 5) (T 6) (T 7) H
  | 2, T, H => F11_l2 R lim n K n (T 5) (T 6) (T 14) (T 15) (T 16) H
  | _, _, _ => False
def F11_Lp0 (R : Caller) (lim n : Nat) (K : AVal → Heap → Prop) (rec0 : AVal → AVal → AVal → AVal → AVal → Heap → Prop) : Nat → Tm → Heap → Prop
  | _, _, _ => False
def F11_Lp2 (R : Caller) (lim n : Nat) (K : AVal → Heap → Prop) (rec2 : AVal → AVal → AVal → AVal → AVal → Heap → Prop) : Nat → Tm → Heap → Prop
  | _, _, _ => False
def F11_k2 (R : Caller) (lim n : Nat) (K : AVal → Heap → Prop) (rec2 : AVal → AVal → AVal → AVal → AVal → Heap → Prop) : Kt := fun ex T H => match ex with
  | .norm => rec2 (T 5) (T 6) (T 14) (T 15) (T 16) H
  | ex => (kBlk 2 (kSeq (execI R lim n 155 (F11_Lp R lim n K) f11_p1) (retW [(.tmp 4)] K))) ex T H
theorem F11_s2_eq (R : Caller) (lim n : Nat) (K : AVal → Heap → Prop) (rec2 : AVal → AVal → AVal → AVal → AVal → Heap → Prop) (T : Tm) (H : Heap) : F11_s2 R lim n K rec2 (T 5) (T 6) (T 14) (T 15) (T 16) H = execI R lim n 155 (F11_Lp2 R lim n K rec2) f11_p0 T H (F11_k2 R lim n K rec2) := by kernel_rfl
theorem F11_l2_ok (R : Caller) (lim n : Nat) (K : AVal → Heap → Prop) {kw : Kt} (hk : ∀ ex T H, (kBlk 2 (kSeq (execI R lim n 155 (F11_Lp R lim n K) f11_p1) (retW [(.tmp 4)] K))) ex T H → kw ex T H) : ∀ (m : Nat) (T : Tm) (H : Heap), F11_l2 R lim n K m (T 5) (T 6) (T 14) (T 15) (T 16) H → loopW (execW R lim n 155 f11_p0) m T H kw
  | 0, _, _, h => False.elim h
  | m + 1, T, H, h => by
    have hb : ∀ ex T H, F11_k2 R lim n K (F11_l2 R lim n K m) ex T H → (fun ex T H => match ex with | .norm => loopW (execW R lim n 155 f11_p0) m T H kw | ex => kw ex T H : Kt) ex T H := by
      intro ex T H h
      cases ex with
      | norm => exact F11_l2_ok R lim n K hk m T H h
      | exit i => exact hk _ _ _ h
      | ret => exact hk _ _ _ h
    have h' : F11_s2 R lim n K (F11_l2 R lim n K m) (T 5) (T 6) (T 14) (T 15) (T 16) H := h
    rw [F11_s2_eq] at h'
    exact execI_sound f11_p0 T H _ _ (oblig_nl (by kernel_rfl)) hb h'
def F11_k0 (R : Caller) (lim n : Nat) (K : AVal → Heap → Prop) (rec0 : AVal → AVal → AVal → AVal → AVal → Heap → Prop) : Kt := fun ex T H => match ex with
  | .norm => rec0 (T 0) (T 1) (T 5) (T 6) (T 7) H
  | ex => (kBlk 0 (kSeq (execI R lim n 155 (F11_Lp R lim n K) f11_p3) (retW [(.tmp 4)] K))) ex T H
theorem F11_s0_eq (R : Caller) (lim n : Nat) (K : AVal → Heap → Prop) (rec0 : AVal → AVal → AVal → AVal → AVal → Heap → Prop) (T : Tm) (H : Heap) : F11_s0 R lim n K rec0 (T 0) (T 1) (T 5) (T 6) (T 7) H = execI R lim n 155 (F11_Lp0 R lim n K rec0) f11_p2 T H (F11_k0 R lim n K rec0) := by kernel_rfl
theorem F11_l0_ok (R : Caller) (lim n : Nat) (K : AVal → Heap → Prop) {kw : Kt} (hk : ∀ ex T H, (kBlk 0 (kSeq (execI R lim n 155 (F11_Lp R lim n K) f11_p3) (retW [(.tmp 4)] K))) ex T H → kw ex T H) : ∀ (m : Nat) (T : Tm) (H : Heap), F11_l0 R lim n K m (T 0) (T 1) (T 5) (T 6) (T 7) H → loopW (execW R lim n 155 f11_p2) m T H kw
  | 0, _, _, h => False.elim h
  | m + 1, T, H, h => by
    have hb : ∀ ex T H, F11_k0 R lim n K (F11_l0 R lim n K m) ex T H → (fun ex T H => match ex with | .norm => loopW (execW R lim n 155 f11_p2) m T H kw | ex => kw ex T H : Kt) ex T H := by
      intro ex T H h
      cases ex with
      | norm => exact F11_l0_ok R lim n K hk m T H h
      | exit i => exact hk _ _ _ h
      | ret => exact hk _ _ _ h
    have h' : F11_s0 R lim n K (F11_l0 R lim n K m) (T 0) (T 1) (T 5) (T 6) (T 7) H := h
    rw [F11_s0_eq] at h'
    exact execI_sound f11_p2 T H _ _ (oblig_nl (by kernel_rfl)) hb h'
theorem F11_eq (R : Caller) (lim n : Nat) (K : AVal → Heap → Prop) (a0 a1 : AVal) (H : Heap) : F11 R lim n K a0 a1 H = execI R lim n 155 (F11_Lp R lim n K) f11.body (argT [a0, a1]) H (retW [(.tmp 4)] K) := by kernel_rfl
theorem F11_ob (R : Caller) (lim n : Nat) (K : AVal → Heap → Prop) : Oblig R lim n 155 (F11_Lp R lim n K) f11.body (retW [(.tmp 4)] K) := ⟨(oblig_nl (by kernel_rfl)), ⟨(oblig_nl (by kernel_rfl)), ⟨(oblig_nl (by kernel_rfl)), ⟨(oblig_nl (by kernel_rfl)), ⟨⟨(oblig_nl (by kernel_rfl)), (fun T H h => F11_l0_ok R lim n K (kBlk_mono (kSeqI_sound ⟨(oblig_nl (by kernel_rfl)), ⟨(oblig_nl (by kernel_rfl)), ⟨(oblig_nl (by kernel_rfl)), ⟨⟨(oblig_nl (by kernel_rfl)), (fun T H h => F11_l2_ok R lim n K (kBlk_mono (kSeqI_sound (oblig_nl (by kernel_rfl)) (fun _ _ _ h => h))) _ T H h)⟩, (oblig_nl (by kernel_rfl))⟩⟩⟩⟩ (fun _ _ _ h => h))) _ T H h)⟩, ⟨(oblig_nl (by kernel_rfl)), ⟨(oblig_nl (by kernel_rfl)), ⟨(oblig_nl (by kernel_rfl)), ⟨⟨(oblig_nl (by kernel_rfl)), (fun T H h => F11_l2_ok R lim n K (kBlk_mono (kSeqI_sound (oblig_nl (by kernel_rfl)) (fun _ _ _ h => h))) _ T H h)⟩, (oblig_nl (by kernel_rfl))⟩⟩⟩⟩⟩⟩⟩⟩⟩
theorem F11_run {ap : FuncId → Option AFn} (hf : ap 11 = some (.code f11)) {n lim : Nat} {K : AVal → Heap → Prop} {a0 a1 : AVal} {H : Heap} (h : F11 (Ahs.runT ap n) lim n K a0 a1 H) : ∃ v H', Ahs.runT ap (n + 1) lim (.fn 11) [a0, a1] H = some (v, H') ∧ K v H' := by
  rw [F11_eq] at h
  exact run_of_W hf (by kernel_rfl) (by kernel_rfl) (execI_sound f11.body _ _ _ _ (F11_ob _ _ _ K) (fun _ _ _ h => h) h)
def F12_j0 (R : Caller) (lim n : Nat) (K : AVal → Heap → Prop) (H : Heap) : Prop :=
bind2 (R lim (.fn 38) [] H) fun v128 H129 =>
K v128 H129
def F12_s0 (R : Caller) (lim n : Nat) (K : AVal → Heap → Prop) (rec0 : AVal → AVal → AVal → AVal → Heap → Prop) (t5 t6 t7 t8 : AVal) (H : Heap) : Prop :=
bindP (alen false t7) fun v130 =>
bindP (abin .lss t8 v130) fun v131 =>
bindP (boolOf v131) fun b132 =>
(b132 = true → (bindP (aindexAddr none 1 t7 t8) fun v133 =>
bindP (aload H none v133) fun v134 =>
bind2 (R lim (.fn 44) [t6, v134] H) fun v135 H136 =>
bindP (extO 0 v135) fun v137 =>
bindP (extO 1 v135) fun v138 =>
bindP (aindexAddr none 1 t7 t8) fun v139 =>
bindP (aload H136 none v139) fun v140 =>
bind2 (R lim (.fn 44) [t5, v140] H136) fun v141 H142 =>
bindP (extO 0 v141) fun v143 =>
bindP (extO 1 v141) fun v144 =>
bindP (abin .neq v138 (.int .i64 0)) fun v145 =>
bindP (gd (some (v145, false)) (some v144)) fun v146 =>
bindP (gd (some (v145, false)) (abin .neq v146 (.int .i64 0))) fun v147 =>
bindP (gd (some (v145, false)) (some v147)) fun v148 =>
bindP (gd (some (v148, true)) (some v144)) fun v149 =>
bindP (gd (some (v148, true)) (abin .neq v149 (.int .i64 4))) fun v150 =>
bindP (gd (some (v145, false)) (pickO v148 v150 (.bool false))) fun v151 =>
bindP (pickO v145 (.bool true) v151) fun v152 =>
bindP (gd (some (v152, false)) (some v143)) fun v153 =>
bindP (gd (some (v152, false)) (alen true v153)) fun v154 =>
bindP (gd (some (v152, false)) (some v137)) fun v155 =>
bindP (gd (some (v152, false)) (alen true v155)) fun v156 =>
bindP (gd (some (v152, false)) (abin .gtr v154 v156)) fun v157 =>
bindP (pickO v152 (.bool true) v157) fun v158 =>
bindP (gd (some (v158, false)) (some v137)) fun v159 =>
bindP (gd (some (v158, false)) (some v143)) fun v160 =>
bindP (gd (some (v158, false)) (alen true v160)) fun v161 =>
bindP (gd (some (v158, false)) (asliceStr v159 none (some v161))) fun v162 =>
bindP (gd (some (v158, false)) (some v143)) fun v163 =>
bindP (gd (some (v158, false)) (abin .neq v162 v163)) fun v164 =>
bindP (pickO v158 (.bool true) v164) fun v165 =>
bindP (boolOf v165) fun b166 =>
(b166 = true → (K (.bool false) H142)) ∧
(b166 = false → (bindP (aindexAddr none 1 t7 t8) fun v167 =>
bindP (aload H142 none v167) fun v168 =>
bind2 (R lim (.fn 45) [t6, v168] H142) fun v169 H170 =>
bindP (extO 0 v169) fun v171 =>
bindP (extO 1 v169) fun v172 =>
bindP (aindexAddr none 1 t7 t8) fun v173 =>
bindP (aload H170 none v173) fun v174 =>
bind2 (R lim (.fn 45) [t5, v174] H170) fun v175 H176 =>
bindP (extO 0 v175) fun v177 =>
bindP (extO 1 v175) fun v178 =>
bindP (abin .gtr v177 v171) fun v179 =>
bindP (gd (some (v179, false)) (some v178)) fun v180 =>
bindP (gd (some (v179, false)) (some v177)) fun v181 =>
bindP (gd (some (v179, false)) (abin .neq v180 v181)) fun v182 =>
bindP (pickO v179 (.bool true) v182) fun v183 =>
bindP (gd (some (v183, false)) (some v177)) fun v184 =>
bindP (gd (some (v183, false)) (some v171)) fun v185 =>
bindP (gd (some (v183, false)) (abin .lss v184 v185)) fun v186 =>
bindP (gd (some (v183, false)) (some v186)) fun v187 =>
bindP (gd (some (v187, true)) (some v143)) fun v188 =>
bindP (gd (some (v187, true)) (some v137)) fun v189 =>
bindP (gd (some (v187, true)) (abin .eql v188 v189)) fun v190 =>
bindP (gd (some (v183, false)) (pickO v187 v190 (.bool false))) fun v191 =>
bindP (pickO v183 (.bool true) v191) fun v192 =>
bindP (boolOf v192) fun b193 =>
(b193 = true → (K (.bool false) H176)) ∧
(b193 = false → (bindP (aindexAddr none 1 t7 t8) fun v194 =>
bindP (aload H176 none v194) fun v195 =>
bind2 (R lim (.fn 48) [t5, v195, (.str [120])] H176) fun v196 H197 =>
bindP (aindexAddr none 1 t7 t8) fun v198 =>
bindP (aload H197 none v198) fun v199 =>
bind2 (R lim (.fn 44) [t5, v199] H197) fun v200 H201 =>
bindP (extO 0 v200) fun v202 =>
bindP (extO 1 v200) fun v203 =>
bindP (abin .neq v196 (.int .i64 0)) fun v204 =>
bindP (gd (some (v204, true)) (some v196)) fun v205 =>
bindP (gd (some (v204, true)) (abin .neq v205 (.int .i64 9))) fun v206 =>
bindP (pickO v204 v206 (.bool false)) fun v207 =>
bindP (gd (some (v207, false)) (some v196)) fun v208 =>
bindP (gd (some (v207, false)) (abin .eql v208 (.int .i64 0))) fun v209 =>
bindP (gd (some (v207, false)) (some v209)) fun v210 =>
bindP (gd (some (v210, true)) (some v202)) fun v211 =>
bindP (gd (some (v210, true)) (some v143)) fun v212 =>
bindP (gd (some (v210, true)) (abin .add v212 (.str [120]))) fun v213 =>
bindP (gd (some (v210, true)) (abin .neq v211 v213)) fun v214 =>
bindP (gd (some (v207, false)) (pickO v210 v214 (.bool false))) fun v215 =>
bindP (pickO v207 (.bool true) v215) fun v216 =>
bindP (gd (some (v216, false)) (some v196)) fun v217 =>
bindP (gd (some (v216, false)) (abin .neq v217 (.int .i64 0))) fun v218 =>
bindP (gd (some (v216, false)) (some v218)) fun v219 =>
bindP (gd (some (v219, true)) (some v202)) fun v220 =>
bindP (gd (some (v219, true)) (some v143)) fun v221 =>
bindP (gd (some (v219, true)) (abin .neq v220 v221)) fun v222 =>
bindP (gd (some (v216, false)) (pickO v219 v222 (.bool false))) fun v223 =>
bindP (pickO v216 (.bool true) v223) fun v224 =>
bindP (boolOf v224) fun b225 =>
(b225 = true → (K (.bool false) H201)) ∧
(b225 = false → (bindP (abin .add t8 (.int .i64 1)) fun v226 =>
rec0 t5 t6 t7 v226 H201)))))))) ∧
(b132 = false → (F12_j0 R lim n K H))
def F12_l0 (R : Caller) (lim n : Nat) (K : AVal → Heap → Prop) : Nat → AVal → AVal → AVal → AVal → Heap → Prop
  | 0, _, _, _, _, _ => False
  | m + 1, t5, t6, t7, t8, H => F12_s0 R lim n K (F12_l0 R lim n K m) t5 t6 t7 t8 H
def F12 (R : Caller) (lim n : Nat) (K : AVal → Heap → Prop) (a0 a1 : AVal) (H : Heap) : Prop :=
bind2 (if (a1).cells.all (·.one) then some (.ptr (some (H.next, 0)), H.push (.cells (a1).cells)) else none) fun v1 H2 =>
bind2 (R lim (.fn 36) [a0] H2) fun v3 H4 =>
bindP (gd (some (v3, false)) (aload H4 (some 2) v1)) fun v5 =>
bind2 (gd2 (some (v3, false)) H4 (R lim (.fn 37) [v5] H4)) fun v6 H7 =>
bindP (pickO v3 (.bool true) v6) fun v8 =>
bindP (boolOf v8) fun b9 =>
(b9 = true → (bind2 (R lim (.fn 38) [] H7) fun v10 H11 =>
K v10 H11)) ∧
(b9 = false → (bind2 (R lim (.fn 39) [] H7) fun v12 H13 =>
bind2 (R lim (.fn 40) [v12, a0] H13) fun v14 H15 =>
bind2 (R lim (.fn 41) [v12] H15) fun v16 H17 =>
bind2 (R lim (.fn 42) [v12, (.int .i64 0)] H17) fun v18 H19 =>
bind2 (R lim (.fn 56) [v12] H19) fun v20 H21 =>
bind2 (R lim (.fn 52) [v12] H21) fun v22 H23 =>
bindP (aload H23 (some 2) v1) fun v24 =>
bind2 (R lim (.fn 47) [v12, v24] H23) fun v25 H26 =>
bind2 (R lim (.fn 41) [v12] H26) fun v27 H28 =>
F12_l0 R lim n K n v12 v20 v22 (.int .i64 0) H28))
def F12_Lp (R : Caller) (lim n : Nat) (K : AVal → Heap → Prop) : Nat → Tm → Heap → Prop
  | 0, T, H => F12_l0 R lim n K n (T 5) (T 6) (T 7) (T 8) H
  | _, _, _ => False
def F12_Lp0 (R : Caller) (lim n : Nat) (K : AVal → Heap → Prop) (rec0 : AVal → AVal → AVal → AVal → Heap → Prop) : Nat → Tm → Heap → Prop
  | _, _, _ => False
def F12_k0 (R : Caller) (lim n : Nat) (K : AVal → Heap → Prop) (rec0 : AVal → AVal → AVal → AVal → Heap → Prop) : Kt := fun ex T H => match ex with
  | .norm => rec0 (T 5) (T 6) (T 7) (T 8) H
  | ex => (kBlk 0 (kSeq (execI R lim n 169 (F12_Lp R lim n K) f12_p1) (retW [(.tmp 4)] K))) ex T H
theorem F12_s0_eq (R : Caller) (lim n : Nat) (K : AVal → Heap → Prop) (rec0 : AVal → AVal → AVal → AVal → Heap → Prop) (T : Tm) (H : Heap) : F12_s0 R lim n K rec0 (T 5) (T 6) (T 7) (T 8) H = execI R lim n 169 (F12_Lp0 R lim n K rec0) f12_p0 T H (F12_k0 R lim n K rec0) := by kernel_rfl
theorem F12_l0_ok (R : Caller) (lim n : Nat) (K : AVal → Heap → Prop) {kw : Kt} (hk : ∀ ex T H, (kBlk 0 (kSeq (execI R lim n 169 (F12_Lp R lim n K) f12_p1) (retW [(.tmp 4)] K))) ex T H → kw ex T H) : ∀ (m : Nat) (T : Tm) (H : Heap), F12_l0 R lim n K m (T 5) (T 6) (T 7) (T 8) H → loopW (execW R lim n 169 f12_p0) m T H kw
  | 0, _, _, h => False.elim h
  | m + 1, T, H, h => by
    have hb : ∀ ex T H, F12_k0 R lim n K (F12_l0 R lim n K m) ex T H → (fun ex T H => match ex with | .norm => loopW (execW R lim n 169 f12_p0) m T H kw | ex => kw ex T H : Kt) ex T H := by
      intro ex T H h
      cases ex with
      | norm => exact F12_l0_ok R lim n K hk m T H h
      | exit i => exact hk _ _ _ h
      | ret => exact hk _ _ _ h
    have h' : F12_s0 R lim n K (F12_l0 R lim n K m) (T 5) (T 6) (T 7) (T 8) H := h
    rw [F12_s0_eq] at h'
    exact execI_sound f12_p0 T H _ _ (oblig_nl (by kernel_rfl)) hb h'
theorem F12_eq (R : Caller) (lim n : Nat) (K : AVal → Heap → Prop) (a0 a1 : AVal) (H : Heap) : F12 R lim n K a0 a1 H = execI R lim n 169 (F12_Lp R lim n K) f12.body (argT [a0, a1]) H (retW [(.tmp 4)] K) := by kernel_rfl
theorem F12_ob (R : Caller) (lim n : Nat) (K : AVal → Heap → Prop) : Oblig R lim n 169 (F12_Lp R lim n K) f12.body (retW [(.tmp 4)] K) := ⟨(oblig_nl (by kernel_rfl)), ⟨(oblig_nl (by kernel_rfl)), ⟨(oblig_nl (by kernel_rfl)), ⟨(oblig_nl (by kernel_rfl)), ⟨(oblig_nl (by kernel_rfl)), ⟨(oblig_nl (by kernel_rfl)), ⟨(oblig_nl (by kernel_rfl)), ⟨(oblig_nl (by kernel_rfl)), ⟨(oblig_nl (by kernel_rfl)), ⟨(oblig_nl (by kernel_rfl)), ⟨⟨(oblig_nl (by kernel_rfl)), (fun T H h => F12_l0_ok R lim n K (kBlk_mono (kSeqI_sound (oblig_nl (by kernel_rfl)) (fun _ _ _ h => h))) _ T H h)⟩, (oblig_nl (by kernel_rfl))⟩⟩⟩⟩⟩⟩⟩⟩⟩⟩⟩
theorem F12_run {ap : FuncId → Option AFn} (hf : ap 12 = some (.code f12)) {n lim : Nat} {K : AVal → Heap → Prop} {a0 a1 : AVal} {H : Heap} (h : F12 (Ahs.runT ap n) lim n K a0 a1 H) : ∃ v H', Ahs.runT ap (n + 1) lim (.fn 12) [a0, a1] H = some (v, H') ∧ K v H' := by
  rw [F12_eq] at h
  exact run_of_W hf (by kernel_rfl) (by kernel_rfl) (execI_sound f12.body _ _ _ _ (F12_ob _ _ _ K) (fun _ _ _ h => h) h)
def F14 (R : Caller) (lim n : Nat) (K : AVal → Heap → Prop) (a0 a1 : AVal) (H : Heap) : Prop :=
bind2 (R lim (.fn 36) [a0] H) fun v1 H2 =>
bindP (gd (some (v1, false)) (some a1)) fun v3 =>
bind2 (gd2 (some (v1, false)) H2 (R lim (.fn 36) [v3] H2)) fun v4 H5 =>
bindP (pickO v1 (.bool true) v4) fun v6 =>
bindP (boolOf v6) fun b7 =>
(b7 = true → (bind2 (R lim (.fn 38) [] H5) fun v8 H9 =>
K v8 H9)) ∧
(b7 = false → (bind2 (R lim (.fn 39) [] H5) fun v10 H11 =>
bind2 (R lim (.fn 40) [v10, a0] H11) fun v12 H13 =>
bind2 (R lim (.fn 56) [v10] H13) fun v14 H15 =>
bind2 (R lim (.fn 56) [v10] H15) fun v16 H17 =>
bind2 (R lim (.fn 40) [v14, a1] H17) fun v18 H19 =>
bind2 (R lim (.fn 57) [v10, v16] H19) fun v20 H21 =>
bindP (aun .not v20) fun v22 =>
bindP (boolOf v22) fun b23 =>
(b23 = true → (K (.bool false) H21)) ∧
(b23 = false → (bind2 (R lim (.fn 40) [v10, a1] H21) fun v24 H25 =>
bind2 (R lim (.fn 57) [v10, v14] H25) fun v26 H27 =>
bind2 (gd2 (some (v26, true)) H27 (R lim (.fn 38) [] H27)) fun v28 H29 =>
bindP (pickO v26 v28 (.bool false)) fun v30 =>
K v30 H29))))
def F14_Lp (R : Caller) (lim n : Nat) (K : AVal → Heap → Prop) : Nat → Tm → Heap → Prop
  | _, _, _ => False
theorem F14_eq (R : Caller) (lim n : Nat) (K : AVal → Heap → Prop) (a0 a1 : AVal) (H : Heap) : F14 R lim n K a0 a1 H = execI R lim n 39 (F14_Lp R lim n K) f14.body (argT [a0, a1]) H (retW [(.tmp 4)] K) := by kernel_rfl
theorem F14_ob (R : Caller) (lim n : Nat) (K : AVal → Heap → Prop) : Oblig R lim n 39 (F14_Lp R lim n K) f14.body (retW [(.tmp 4)] K) := (oblig_nl (by kernel_rfl))
theorem F14_run {ap : FuncId → Option AFn} (hf : ap 14 = some (.code f14)) {n lim : Nat} {K : AVal → Heap → Prop} {a0 a1 : AVal} {H : Heap} (h : F14 (Ahs.runT ap n) lim n K a0 a1 H) : ∃ v H', Ahs.runT ap (n + 1) lim (.fn 14) [a0, a1] H = some (v, H') ∧ K v H' := by
  rw [F14_eq] at h
  exact run_of_W hf (by kernel_rfl) (by kernel_rfl) (execI_sound f14.body _ _ _ _ (F14_ob _ _ _ K) (fun _ _ _ h => h) h)
def F36_j0 (R : Caller) (lim n : Nat) (K : AVal → Heap → Prop) (t3 : AVal) (H : Heap) : Prop :=
bindP (abin .gtr t3 (.int .i64 20000)) fun v41 =>
K v41 H
def F36_s0 (R : Caller) (lim n : Nat) (K : AVal → Heap → Prop) (rec0 : AVal → AVal → AVal → Heap → Prop) (t0 t3 t4 : AVal) (H : Heap) : Prop :=
bindP (alen false t0) fun v42 =>
bindP (abin .lss t4 v42) fun v43 =>
bindP (boolOf v43) fun b44 =>
(b44 = true → (bindP (aindexAddr none 6 t0 t4) fun v45 =>
bindP (faddrO 1 v45) fun v46 =>
bindP (aload H none v46) fun v47 =>
bindP (alen true v47) fun v48 =>
bindP (abin .gtr v48 (.int .i64 20000)) fun v49 =>
bindP (gd (some (v49, false)) (some t0)) fun v50 =>
bindP (gd (some (v49, false)) (some t4)) fun v51 =>
bindP (gd (some (v49, false)) (aindexAddr none 6 v50 v51)) fun v52 =>
bindP (gd (some (v49, false)) (faddrO 2 v52)) fun v53 =>
bindP (gd (some (v49, false)) (aload H none v53)) fun v54 =>
bindP (gd (some (v49, false)) (alen true v54)) fun v55 =>
bindP (gd (some (v49, false)) (abin .gtr v55 (.int .i64 20000))) fun v56 =>
bindP (pickO v49 (.bool true) v56) fun v57 =>
bindP (gd (some (v57, false)) (some t0)) fun v58 =>
bindP (gd (some (v57, false)) (some t4)) fun v59 =>
bindP (gd (some (v57, false)) (aindexAddr none 6 v58 v59)) fun v60 =>
bindP (gd (some (v57, false)) (faddrO 4 v60)) fun v61 =>
bindP (gd (some (v57, false)) (aload H (some 2) v61)) fun v62 =>
bind2 (gd2 (some (v57, false)) H (R lim (.fn 37) [v62] H)) fun v63 H64 =>
bindP (pickO v57 (.bool true) v63) fun v65 =>
bindP (boolOf v65) fun b66 =>
(b66 = true → (K (.bool true) H64)) ∧
(b66 = false → (bindP (aindexAddr none 6 t0 t4) fun v67 =>
bindP (faddrO 1 v67) fun v68 =>
bindP (aload H64 none v68) fun v69 =>
bindP (alen true v69) fun v70 =>
bindP (abin .add t3 v70) fun v71 =>
bindP (aindexAddr none 6 t0 t4) fun v72 =>
bindP (faddrO 2 v72) fun v73 =>
bindP (aload H64 none v73) fun v74 =>
bindP (alen true v74) fun v75 =>
bindP (abin .add v71 v75) fun v76 =>
bindP (abin .add t4 (.int .i64 1)) fun v77 =>
rec0 t0 v76 v77 H64)))) ∧
(b44 = false → (F36_j0 R lim n K t3 H))
def F36_l0 (R : Caller) (lim n : Nat) (K : AVal → Heap → Prop) : Nat → AVal → AVal → AVal → Heap → Prop
  | 0, _, _, _, _ => False
  | m + 1, t0, t3, t4, H => F36_s0 R lim n K (F36_l0 R lim n K m) t0 t3 t4 H
def F36 (R : Caller) (lim n : Nat) (K : AVal → Heap → Prop) (a0 : AVal) (H : Heap) : Prop :=
bindP (alen false a0) fun v1 =>
bindP (abin .gtr v1 (.int .i64 100)) fun v2 =>
bindP (boolOf v2) fun b3 =>
(b3 = true → (K (.bool true) H)) ∧
(b3 = false → (F36_l0 R lim n K n a0 (.int .i64 0) (.int .i64 0) H))
def F36_Lp (R : Caller) (lim n : Nat) (K : AVal → Heap → Prop) : Nat → Tm → Heap → Prop
  | 0, T, H => F36_l0 R lim n K n (T 0) (T 3) (T 4) H
  | _, _, _ => False
def F36_Lp0 (R : Caller) (lim n : Nat) (K : AVal → Heap → Prop) (rec0 : AVal → AVal → AVal → Heap → Prop) : Nat → Tm → Heap → Prop
  | _, _, _ => False
def F36_k0 (R : Caller) (lim n : Nat) (K : AVal → Heap → Prop) (rec0 : AVal → AVal → AVal → Heap → Prop) : Kt := fun ex T H => match ex with
  | .norm => rec0 (T 0) (T 3) (T 4) H
  | ex => (kBlk 0 (kSeq (execI R lim n 55 (F36_Lp R lim n K) f36_p1) (retW [(.tmp 2)] K))) ex T H
theorem F36_s0_eq (R : Caller) (lim n : Nat) (K : AVal → Heap → Prop) (rec0 : AVal → AVal → AVal → Heap → Prop) (T : Tm) (H : Heap) : F36_s0 R lim n K rec0 (T 0) (T 3) (T 4) H = execI R lim n 55 (F36_Lp0 R lim n K rec0) f36_p0 T H (F36_k0 R lim n K rec0) := by kernel_rfl
theorem F36_l0_ok (R : Caller) (lim n : Nat) (K : AVal → Heap → Prop) {kw : Kt} (hk : ∀ ex T H, (kBlk 0 (kSeq (execI R lim n 55 (F36_Lp R lim n K) f36_p1) (retW [(.tmp 2)] K))) ex T H → kw ex T H) : ∀ (m : Nat) (T : Tm) (H : Heap), F36_l0 R lim n K m (T 0) (T 3) (T 4) H → loopW (execW R lim n 55 f36_p0) m T H kw
  | 0, _, _, h => False.elim h
  | m + 1, T, H, h => by
    have hb : ∀ ex T H, F36_k0 R lim n K (F36_l0 R lim n K m) ex T H → (fun ex T H => match ex with | .norm => loopW (execW R lim n 55 f36_p0) m T H kw | ex => kw ex T H : Kt) ex T H := by
      intro ex T H h
      cases ex with
      | norm => exact F36_l0_ok R lim n K hk m T H h
      | exit i => exact hk _ _ _ h
      | ret => exact hk _ _ _ h
    have h' : F36_s0 R lim n K (F36_l0 R lim n K m) (T 0) (T 3) (T 4) H := h
    rw [F36_s0_eq] at h'
    exact execI_sound f36_p0 T H _ _ (oblig_nl (by kernel_rfl)) hb h'
theorem F36_eq (R : Caller) (lim n : Nat) (K : AVal → Heap → Prop) (a0 : AVal) (H : Heap) : F36 R lim n K a0 H = execI R lim n 55 (F36_Lp R lim n K) f36.body (argT [a0]) H (retW [(.tmp 2)] K) := by kernel_rfl
theorem F36_ob (R : Caller) (lim n : Nat) (K : AVal → Heap → Prop) : Oblig R lim n 55 (F36_Lp R lim n K) f36.body (retW [(.tmp 2)] K) := ⟨(oblig_nl (by kernel_rfl)), ⟨(oblig_nl (by kernel_rfl)), ⟨(oblig_nl (by kernel_rfl)), ⟨⟨(oblig_nl (by kernel_rfl)), (fun T H h => F36_l0_ok R lim n K (kBlk_mono (kSeqI_sound (oblig_nl (by kernel_rfl)) (fun _ _ _ h => h))) _ T H h)⟩, (oblig_nl (by kernel_rfl))⟩⟩⟩⟩
theorem F36_run {ap : FuncId → Option AFn} (hf : ap 36 = some (.code f36)) {n lim : Nat} {K : AVal → Heap → Prop} {a0 : AVal} {H : Heap} (h : F36 (Ahs.runT ap n) lim n K a0 H) : ∃ v H', Ahs.runT ap (n + 1) lim (.fn 36) [a0] H = some (v, H') ∧ K v H' := by
  rw [F36_eq] at h
  exact run_of_W hf (by kernel_rfl) (by kernel_rfl) (execI_sound f36.body _ _ _ _ (F36_ob _ _ _ K) (fun _ _ _ h => h) h)
def F37 (R : Caller) (lim n : Nat) (K : AVal → Heap → Prop) (a0 : AVal) (H : Heap) : Prop :=
bind2 (if (a0).cells.all (·.one) then some (.ptr (some (H.next, 0)), H.push (.cells (a0).cells)) else none) fun v1 H2 =>
bindP (faddrO 0 v1) fun v3 =>
bindP (aload H2 none v3) fun v4 =>
bindP (alen false v4) fun v5 =>
bindP (abin .gtr v5 (.int .i64 60)) fun v6 =>
bindP (gd (some (v6, false)) (faddrO 1 v1)) fun v7 =>
bindP (gd (some (v6, false)) (aload H2 none v7)) fun v8 =>
bindP (gd (some (v6, false)) (alen false v8)) fun v9 =>
bindP (gd (some (v6, false)) (abin .gtr v9 (.int .i64 60))) fun v10 =>
bindP (pickO v6 (.bool true) v10) fun v11 =>
K v11 H2
def F37_Lp (R : Caller) (lim n : Nat) (K : AVal → Heap → Prop) : Nat → Tm → Heap → Prop
  | _, _, _ => False
theorem F37_eq (R : Caller) (lim n : Nat) (K : AVal → Heap → Prop) (a0 : AVal) (H : Heap) : F37 R lim n K a0 H = execI R lim n 13 (F37_Lp R lim n K) f37.body (argT [a0]) H (retW [(.tmp 2)] K) := by kernel_rfl
theorem F37_ob (R : Caller) (lim n : Nat) (K : AVal → Heap → Prop) : Oblig R lim n 13 (F37_Lp R lim n K) f37.body (retW [(.tmp 2)] K) := (oblig_nl (by kernel_rfl))
theorem F37_run {ap : FuncId → Option AFn} (hf : ap 37 = some (.code f37)) {n lim : Nat} {K : AVal → Heap → Prop} {a0 : AVal} {H : Heap} (h : F37 (Ahs.runT ap n) lim n K a0 H) : ∃ v H', Ahs.runT ap (n + 1) lim (.fn 37) [a0] H = some (v, H') ∧ K v H' := by
  rw [F37_eq] at h
  exact run_of_W hf (by kernel_rfl) (by kernel_rfl) (execI_sound f37.body _ _ _ _ (F37_ob _ _ _ K) (fun _ _ _ h => h) h)
def F38 (R : Caller) (lim n : Nat) (K : AVal → Heap → Prop) (H : Heap) : Prop :=
bind2 (R lim (.fn 39) [] H) fun v1 H2 =>
bind2 (R lim (.fn 48) [v1, (.str [97]), (.str [120, 121, 122])] H2) fun v3 H4 =>
bindP (abin .neq v3 (.int .i64 0)) fun v5 =>
bindP (gd (some (v5, false)) (some v1)) fun v6 =>
bind2 (gd2 (some (v5, false)) H4 (R lim (.fn 43) [v6, (.str [97])] H4)) fun v7 H8 =>
bindP (gd (some (v5, false)) (abin .neq v7 (.int .i64 0))) fun v9 =>
bindP (pickO v5 (.bool true) v9) fun v10 =>
bindP (gd (some (v10, false)) (some v1)) fun v11 =>
bind2 (gd2 (some (v10, false)) H8 (R lim (.fn 48) [v11, (.str [97]), (.str [112, 113])] H8)) fun v12 H13 =>
bindP (gd (some (v10, false)) (abin .neq v12 (.int .i64 0))) fun v14 =>
bindP (pickO v10 (.bool true) v14) fun v15 =>
bindP (gd (some (v15, false)) (some v1)) fun v16 =>
bind2 (gd2 (some (v15, false)) H13 (R lim (.fn 48) [v16, (.str [97]), (.str [114, 115, 116])] H13)) fun v17 H18 =>
bindP (gd (some (v15, false)) (abin .neq v17 (.int .i64 0))) fun v19 =>
bindP (pickO v15 (.bool true) v19) fun v20 =>
bindP (boolOf v20) fun b21 =>
(b21 = true → (K (.bool false) H18)) ∧
(b21 = false → (bind2 ((fillV [(.int .i64 0)] [(0, 1, (.int .i64 1))]).map fun cs => (.sl (some (H18.next, 0)) 1 (.ex 1), H18.push (.cells cs))) fun v22 H23 =>
bind2 ((fillV [(.int .i64 0)] [(0, 1, (.int .i64 2))]).map fun cs => (.sl (some (H23.next, 0)) 1 (.ex 1), H23.push (.cells cs))) fun v24 H25 =>
bindP (buildO zf3f7a3 [(0, 1, v22), (1, 1, v24)]) fun v26 =>
bind2 (R lim (.fn 47) [v1, v26] H25) fun v27 H28 =>
bind2 (R lim (.fn 44) [v1, (.str [97])] H28) fun v29 H30 =>
bindP (extO 0 v29) fun v31 =>
bindP (extO 1 v29) fun v32 =>
bind2 (R lim (.fn 41) [v1] H30) fun v33 H34 =>
bind2 (R lim (.fn 44) [v1, (.str [97])] H34) fun v35 H36 =>
bindP (extO 0 v35) fun v37 =>
bindP (extO 1 v35) fun v38 =>
bind2 (R lim (.fn 45) [v1, (.str [97])] H36) fun v39 H40 =>
bindP (extO 0 v39) fun v41 =>
bindP (extO 1 v39) fun v42 =>
bindP (abin .eql v32 (.int .i64 7)) fun v43 =>
bindP (gd (some (v43, true)) (some v37)) fun v44 =>
bindP (gd (some (v43, true)) (abin .eql v44 (.str [120, 121, 122, 112, 113, 114, 115]))) fun v45 =>
bindP (pickO v43 v45 (.bool false)) fun v46 =>
bindP (gd (some (v46, true)) (some v38)) fun v47 =>
bindP (gd (some (v46, true)) (abin .eql v47 (.int .i64 0))) fun v48 =>
bindP (pickO v46 v48 (.bool false)) fun v49 =>
bindP (gd (some (v49, true)) (some v41)) fun v50 =>
bindP (gd (some (v49, true)) (abin .eql v50 (.int .i64 2))) fun v51 =>
bindP (pickO v49 v51 (.bool false)) fun v52 =>
bindP (gd (some (v52, true)) (some v42)) fun v53 =>
bindP (gd (some (v52, true)) (abin .eql v53 (.int .i64 2))) fun v54 =>
bindP (pickO v52 v54 (.bool false)) fun v55 =>
K v55 H40))
def F38_Lp (R : Caller) (lim n : Nat) (K : AVal → Heap → Prop) : Nat → Tm → Heap → Prop
  | _, _, _ => False
theorem F38_eq (R : Caller) (lim n : Nat) (K : AVal → Heap → Prop) (H : Heap) : F38 R lim n K  H = execI R lim n 67 (F38_Lp R lim n K) f38.body (argT []) H (retW [(.tmp 0)] K) := by kernel_rfl
theorem F38_ob (R : Caller) (lim n : Nat) (K : AVal → Heap → Prop) : Oblig R lim n 67 (F38_Lp R lim n K) f38.body (retW [(.tmp 0)] K) := (oblig_nl (by kernel_rfl))
theorem F38_run {ap : FuncId → Option AFn} (hf : ap 38 = some (.code f38)) {n lim : Nat} {K : AVal → Heap → Prop} {H : Heap} (h : F38 (Ahs.runT ap n) lim n K  H) : ∃ v H', Ahs.runT ap (n + 1) lim (.fn 38) [] H = some (v, H') ∧ K v H' := by
  rw [F38_eq] at h
  exact run_of_W hf (by kernel_rfl) (by kernel_rfl) (execI_sound f38.body _ _ _ _ (F38_ob _ _ _ K) (fun _ _ _ h => h) h)
def F39 (R : Caller) (lim n : Nat) (K : AVal → Heap → Prop) (H : Heap) : Prop :=
bind2 (if hintOK none then some (.map (some H.next), H.push (.map [] ⟨0, []⟩)) else none) fun v1 H2 =>
bindP (buildO z5cbe97 [(0, 1, v1)]) fun v3 =>
bind2 (if (v3).cells.all (·.one) then some (.ptr (some (H2.next, 0)), H2.push (.cells (v3).cells)) else none) fun v4 H5 =>
K v4 H5
def F39_Lp (R : Caller) (lim n : Nat) (K : AVal → Heap → Prop) : Nat → Tm → Heap → Prop
  | _, _, _ => False
theorem F39_eq (R : Caller) (lim n : Nat) (K : AVal → Heap → Prop) (H : Heap) : F39 R lim n K  H = execI R lim n 4 (F39_Lp R lim n K) f39.body (argT []) H (retW [(.tmp 0)] K) := by kernel_rfl
theorem F39_ob (R : Caller) (lim n : Nat) (K : AVal → Heap → Prop) : Oblig R lim n 4 (F39_Lp R lim n K) f39.body (retW [(.tmp 0)] K) := (oblig_nl (by kernel_rfl))
theorem F39_run {ap : FuncId → Option AFn} (hf : ap 39 = some (.code f39)) {n lim : Nat} {K : AVal → Heap → Prop} {H : Heap} (h : F39 (Ahs.runT ap n) lim n K  H) : ∃ v H', Ahs.runT ap (n + 1) lim (.fn 39) [] H = some (v, H') ∧ K v H' := by
  rw [F39_eq] at h
  exact run_of_W hf (by kernel_rfl) (by kernel_rfl) (execI_sound f39.body _ _ _ _ (F39_ob _ _ _ K) (fun _ _ _ h => h) h)
def F40_j0 (R : Caller) (lim n : Nat) (K : AVal → Heap → Prop) (H : Heap) : Prop :=
K (.tup []) H
def F40_s0 (R : Caller) (lim n : Nat) (K : AVal → Heap → Prop) (rec0 : AVal → AVal → AVal → Heap → Prop) (t0 t1 t4 : AVal) (H : Heap) : Prop :=
bindP (alen false t1) fun v9 =>
bindP (abin .lss t4 v9) fun v10 =>
bindP (boolOf v10) fun b11 =>
(b11 = true → (bindP (aindexAddr none 6 t1 t4) fun v12 =>
bindP (aload H (some 6) v12) fun v13 =>
bind2 (R lim (.fn 46) [t0, v13] H) fun v14 H15 =>
bindP (abin .add t4 (.int .i64 1)) fun v16 =>
rec0 t0 t1 v16 H15)) ∧
(b11 = false → (F40_j0 R lim n K H))
def F40_l0 (R : Caller) (lim n : Nat) (K : AVal → Heap → Prop) : Nat → AVal → AVal → AVal → Heap → Prop
  | 0, _, _, _, _ => False
  | m + 1, t0, t1, t4, H => F40_s0 R lim n K (F40_l0 R lim n K m) t0 t1 t4 H
def F40 (R : Caller) (lim n : Nat) (K : AVal → Heap → Prop) (a0 a1 : AVal) (H : Heap) : Prop :=
F40_l0 R lim n K n a0 a1 (.int .i64 0) H
def F40_Lp (R : Caller) (lim n : Nat) (K : AVal → Heap → Prop) : Nat → Tm → Heap → Prop
  | 0, T, H => F40_l0 R lim n K n (T 0) (T 1) (T 4) H
  | _, _, _ => False
def F40_Lp0 (R : Caller) (lim n : Nat) (K : AVal → Heap → Prop) (rec0 : AVal → AVal → AVal → Heap → Prop) : Nat → Tm → Heap → Prop
  | _, _, _ => False
def F40_k0 (R : Caller) (lim n : Nat) (K : AVal → Heap → Prop) (rec0 : AVal → AVal → AVal → Heap → Prop) : Kt := fun ex T H => match ex with
  | .norm => rec0 (T 0) (T 1) (T 4) H
  | ex => (kBlk 0 (retW [] K)) ex T H
theorem F40_s0_eq (R : Caller) (lim n : Nat) (K : AVal → Heap → Prop) (rec0 : AVal → AVal → AVal → Heap → Prop) (T : Tm) (H : Heap) : F40_s0 R lim n K rec0 (T 0) (T 1) (T 4) H = execI R lim n 17 (F40_Lp0 R lim n K rec0) f40_p0 T H (F40_k0 R lim n K rec0) := by kernel_rfl
theorem F40_l0_ok (R : Caller) (lim n : Nat) (K : AVal → Heap → Prop) {kw : Kt} (hk : ∀ ex T H, (kBlk 0 (retW [] K)) ex T H → kw ex T H) : ∀ (m : Nat) (T : Tm) (H : Heap), F40_l0 R lim n K m (T 0) (T 1) (T 4) H → loopW (execW R lim n 17 f40_p0) m T H kw
  | 0, _, _, h => False.elim h
  | m + 1, T, H, h => by
    have hb : ∀ ex T H, F40_k0 R lim n K (F40_l0 R lim n K m) ex T H → (fun ex T H => match ex with | .norm => loopW (execW R lim n 17 f40_p0) m T H kw | ex => kw ex T H : Kt) ex T H := by
      intro ex T H h
      cases ex with
      | norm => exact F40_l0_ok R lim n K hk m T H h
      | exit i => exact hk _ _ _ h
      | ret => exact hk _ _ _ h
    have h' : F40_s0 R lim n K (F40_l0 R lim n K m) (T 0) (T 1) (T 4) H := h
    rw [F40_s0_eq] at h'
    exact execI_sound f40_p0 T H _ _ (oblig_nl (by kernel_rfl)) hb h'
theorem F40_eq (R : Caller) (lim n : Nat) (K : AVal → Heap → Prop) (a0 a1 : AVal) (H : Heap) : F40 R lim n K a0 a1 H = execI R lim n 17 (F40_Lp R lim n K) f40.body (argT [a0, a1]) H (retW [] K) := by kernel_rfl
theorem F40_ob (R : Caller) (lim n : Nat) (K : AVal → Heap → Prop) : Oblig R lim n 17 (F40_Lp R lim n K) f40.body (retW [] K) := ⟨(oblig_nl (by kernel_rfl)), (fun T H h => F40_l0_ok R lim n K (kBlk_mono (fun _ _ _ h => h)) _ T H h)⟩
theorem F40_run {ap : FuncId → Option AFn} (hf : ap 40 = some (.code f40)) {n lim : Nat} {K : AVal → Heap → Prop} {a0 a1 : AVal} {H : Heap} (h : F40 (Ahs.runT ap n) lim n K a0 a1 H) : ∃ v H', Ahs.runT ap (n + 1) lim (.fn 40) [a0, a1] H = some (v, H') ∧ K v H' := by
  rw [F40_eq] at h
  exact run_of_W hf (by kernel_rfl) (by kernel_rfl) (execI_sound f40.body _ _ _ _ (F40_ob _ _ _ K) (fun _ _ _ h => h) h)
def F41_j0 (R : Caller) (lim n : Nat) (K : AVal → Heap → Prop) (H : Heap) : Prop :=
K (.tup []) H
def F41 (R : Caller) (lim n : Nat) (K : AVal → Heap → Prop) (a0 : AVal) (H : Heap) : Prop :=
bind2 (R lim (.fn 79) [a0] H) fun v1 H2 =>
bindP (aun .not v1) fun v3 =>
bindP (boolOf v3) fun b4 =>
(b4 = true → (bindP (nilO a0) fun v5 =>
bindP (faddrO 1 v5) fun v6 =>
bindP (astore lim H2 1 v6 (.bool false)) fun H7 =>
F41_j0 R lim n K H7)) ∧
(b4 = false → (F41_j0 R lim n K H2))
def F41_Lp (R : Caller) (lim n : Nat) (K : AVal → Heap → Prop) : Nat → Tm → Heap → Prop
  | _, _, _ => False
theorem F41_eq (R : Caller) (lim n : Nat) (K : AVal → Heap → Prop) (a0 : AVal) (H : Heap) : F41 R lim n K a0 H = execI R lim n 8 (F41_Lp R lim n K) f41.body (argT [a0]) H (retW [] K) := by kernel_rfl
theorem F41_ob (R : Caller) (lim n : Nat) (K : AVal → Heap → Prop) : Oblig R lim n 8 (F41_Lp R lim n K) f41.body (retW [] K) := (oblig_nl (by kernel_rfl))
theorem F41_run {ap : FuncId → Option AFn} (hf : ap 41 = some (.code f41)) {n lim : Nat} {K : AVal → Heap → Prop} {a0 : AVal} {H : Heap} (h : F41 (Ahs.runT ap n) lim n K a0 H) : ∃ v H', Ahs.runT ap (n + 1) lim (.fn 41) [a0] H = some (v, H') ∧ K v H' := by
  rw [F41_eq] at h
  exact run_of_W hf (by kernel_rfl) (by kernel_rfl) (execI_sound f41.body _ _ _ _ (F41_ob _ _ _ K) (fun _ _ _ h => h) h)
def F42_j0 (R : Caller) (lim n : Nat) (K : AVal → Heap → Prop) (H : Heap) : Prop :=
K (.tup []) H
def F42 (R : Caller) (lim n : Nat) (K : AVal → Heap → Prop) (a0 a1 : AVal) (H : Heap) : Prop :=
bind2 (R lim (.fn 79) [a0] H) fun v1 H2 =>
bindP (aun .not v1) fun v3 =>
bindP (boolOf v3) fun b4 =>
(b4 = true → (bindP (aminmax true [a1, (.int .i64 0)]) fun v5 =>
bindP (nilO a0) fun v6 =>
bindP (faddrO 2 v6) fun v7 =>
bindP (astore lim H2 1 v7 v5) fun H8 =>
F42_j0 R lim n K H8)) ∧
(b4 = false → (F42_j0 R lim n K H2))
def F42_Lp (R : Caller) (lim n : Nat) (K : AVal → Heap → Prop) : Nat → Tm → Heap → Prop
  | _, _, _ => False
theorem F42_eq (R : Caller) (lim n : Nat) (K : AVal → Heap → Prop) (a0 a1 : AVal) (H : Heap) : F42 R lim n K a0 a1 H = execI R lim n 12 (F42_Lp R lim n K) f42.body (argT [a0, a1]) H (retW [] K) := by kernel_rfl
theorem F42_ob (R : Caller) (lim n : Nat) (K : AVal → Heap → Prop) : Oblig R lim n 12 (F42_Lp R lim n K) f42.body (retW [] K) := (oblig_nl (by kernel_rfl))
theorem F42_run {ap : FuncId → Option AFn} (hf : ap 42 = some (.code f42)) {n lim : Nat} {K : AVal → Heap → Prop} {a0 a1 : AVal} {H : Heap} (h : F42 (Ahs.runT ap n) lim n K a0 a1 H) : ∃ v H', Ahs.runT ap (n + 1) lim (.fn 42) [a0, a1] H = some (v, H') ∧ K v H' := by
  rw [F42_eq] at h
  exact run_of_W hf (by kernel_rfl) (by kernel_rfl) (execI_sound f42.body _ _ _ _ (F42_ob _ _ _ K) (fun _ _ _ h => h) h)
def F43 (R : Caller) (lim n : Nat) (K : AVal → Heap → Prop) (a0 a1 : AVal) (H : Heap) : Prop :=
bind2 (if (a0).cells.all (·.one) then some (.ptr (some (H.next, 0)), H.push (.cells (a0).cells)) else none) fun v1 H2 =>
bind2 (if (a1).cells.all (·.one) then some (.ptr (some (H2.next, 0)), H2.push (.cells (a1).cells)) else none) fun v3 H4 =>
bindP (aload H4 none v1) fun v5 =>
bindP (aload H4 none v3) fun v6 =>
bindP (some (AVal.fn 81 [] [v1, v3])) fun v7 =>
bind2 (R lim (.fn 80) [v5, v6, v7] H4) fun v8 H9 =>
K v8 H9
def F43_Lp (R : Caller) (lim n : Nat) (K : AVal → Heap → Prop) : Nat → Tm → Heap → Prop
  | _, _, _ => False
theorem F43_eq (R : Caller) (lim n : Nat) (K : AVal → Heap → Prop) (a0 a1 : AVal) (H : Heap) : F43 R lim n K a0 a1 H = execI R lim n 9 (F43_Lp R lim n K) f43.body (argT [a0, a1]) H (retW [(.tmp 4)] K) := by kernel_rfl
theorem F43_ob (R : Caller) (lim n : Nat) (K : AVal → Heap → Prop) : Oblig R lim n 9 (F43_Lp R lim n K) f43.body (retW [(.tmp 4)] K) := (oblig_nl (by kernel_rfl))
theorem F43_run {ap : FuncId → Option AFn} (hf : ap 43 = some (.code f43)) {n lim : Nat} {K : AVal → Heap → Prop} {a0 a1 : AVal} {H : Heap} (h : F43 (Ahs.runT ap n) lim n K a0 a1 H) : ∃ v H', Ahs.runT ap (n + 1) lim (.fn 43) [a0, a1] H = some (v, H') ∧ K v H' := by
  rw [F43_eq] at h
  exact run_of_W hf (by kernel_rfl) (by kernel_rfl) (execI_sound f43.body _ _ _ _ (F43_ob _ _ _ K) (fun _ _ _ h => h) h)
def F44 (R : Caller) (lim n : Nat) (K : AVal → Heap → Prop) (a0 a1 : AVal) (H : Heap) : Prop :=
bind2 (R lim (.fn 82) [a0] H) fun v1 H2 =>
bindP (abin .neq v1 (.int .i64 0)) fun v3 =>
bindP (boolOf v3) fun b4 =>
(b4 = true → (K (.tup [(.str []), v1]) H2)) ∧
(b4 = false → (bindP (nilO a0) fun v5 =>
bindP (faddrO 0 v5) fun v6 =>
bindP (aload H2 none v6) fun v7 =>
bindP (alookup H2 false [.str] (.agg [(.sl none 0 (.ex 0)), (.int .i64 0), (.bool false), (.str [])]) true v7 a1) fun v8 =>
bindP (extO 0 v8) fun v9 =>
bindP (extO 1 v8) fun v10 =>
bindP (astore lim (H2.push (.cells ze3a7c2)) 4 (.ptr (some (H2.next, 0))) v9) fun H11 =>
bindP (aun .not v10) fun v12 =>
bindP (boolOf v12) fun b13 =>
(b13 = true → (K (.tup [(.str []), (.int .i64 4)]) H11)) ∧
(b13 = false → (bindP (faddrO 0 (.ptr (some (H2.next, 0)))) fun v14 =>
bindP (aload H11 none v14) fun v15 =>
bind2 (R H11.next (.fn 83) [v15, (.str [])] H11) fun v16 H17 =>
bindP (faddrO 3 (.ptr (some (H2.next, 0)))) fun v18 =>
bindP (aload H17 none v18) fun v19 =>
bindP (abin .add v16 v19) fun v20 =>
K (.tup [v20, (.int .i64 0)]) H17))))
def F44_Lp (R : Caller) (lim n : Nat) (K : AVal → Heap → Prop) : Nat → Tm → Heap → Prop
  | _, _, _ => False
theorem F44_eq (R : Caller) (lim n : Nat) (K : AVal → Heap → Prop) (a0 a1 : AVal) (H : Heap) : F44 R lim n K a0 a1 H = execI R lim n 31 (F44_Lp R lim n K) f44.body (argT [a0, a1]) H (retW [(.tmp 4), (.tmp 5)] K) := by kernel_rfl
theorem F44_ob (R : Caller) (lim n : Nat) (K : AVal → Heap → Prop) : Oblig R lim n 31 (F44_Lp R lim n K) f44.body (retW [(.tmp 4), (.tmp 5)] K) := (oblig_nl (by kernel_rfl))
theorem F44_run {ap : FuncId → Option AFn} (hf : ap 44 = some (.code f44)) {n lim : Nat} {K : AVal → Heap → Prop} {a0 a1 : AVal} {H : Heap} (h : F44 (Ahs.runT ap n) lim n K a0 a1 H) : ∃ v H', Ahs.runT ap (n + 1) lim (.fn 44) [a0, a1] H = some (v, H') ∧ K v H' := by
  rw [F44_eq] at h
  exact run_of_W hf (by kernel_rfl) (by kernel_rfl) (execI_sound f44.body _ _ _ _ (F44_ob _ _ _ K) (fun _ _ _ h => h) h)
def F45 (R : Caller) (lim n : Nat) (K : AVal → Heap → Prop) (a0 a1 : AVal) (H : Heap) : Prop :=
bind2 (R lim (.fn 79) [a0] H) fun v1 H2 =>
bindP (boolOf v1) fun b3 =>
(b3 = true → (K (.tup [(.int .i64 0), (.int .i64 0)]) H2)) ∧
(b3 = false → (bindP (nilO a0) fun v4 =>
bindP (faddrO 0 v4) fun v5 =>
bindP (aload H2 none v5) fun v6 =>
bindP (alookup H2 false [.str] (.agg [(.sl none 0 (.ex 0)), (.int .i64 0), (.bool false), (.str [])]) false v6 a1) fun v7 =>
bindP (astore lim (H2.push (.cells ze3a7c2)) 4 (.ptr (some (H2.next, 0))) v7) fun H8 =>
bindP (faddrO 0 (.ptr (some (H2.next, 0)))) fun v9 =>
bindP (aload H8 none v9) fun v10 =>
bindP (alen false v10) fun v11 =>
bindP (faddrO 1 (.ptr (some (H2.next, 0)))) fun v12 =>
bindP (aload H8 none v12) fun v13 =>
K (.tup [v11, v13]) H8))
def F45_Lp (R : Caller) (lim n : Nat) (K : AVal → Heap → Prop) : Nat → Tm → Heap → Prop
  | _, _, _ => False
theorem F45_eq (R : Caller) (lim n : Nat) (K : AVal → Heap → Prop) (a0 a1 : AVal) (H : Heap) : F45 R lim n K a0 a1 H = execI R lim n 20 (F45_Lp R lim n K) f45.body (argT [a0, a1]) H (retW [(.tmp 4), (.tmp 5)] K) := by kernel_rfl
theorem F45_ob (R : Caller) (lim n : Nat) (K : AVal → Heap → Prop) : Oblig R lim n 20 (F45_Lp R lim n K) f45.body (retW [(.tmp 4), (.tmp 5)] K) := (oblig_nl (by kernel_rfl))
theorem F45_run {ap : FuncId → Option AFn} (hf : ap 45 = some (.code f45)) {n lim : Nat} {K : AVal → Heap → Prop} {a0 a1 : AVal} {H : Heap} (h : F45 (Ahs.runT ap n) lim n K a0 a1 H) : ∃ v H', Ahs.runT ap (n + 1) lim (.fn 45) [a0, a1] H = some (v, H') ∧ K v H' := by
  rw [F45_eq] at h
  exact run_of_W hf (by kernel_rfl) (by kernel_rfl) (execI_sound f45.body _ _ _ _ (F45_ob _ _ _ K) (fun _ _ _ h => h) h)
def F46_j0 (R : Caller) (lim n : Nat) (K : AVal → Heap → Prop) (H : Heap) : Prop :=
K (.tup [(.str []), (.int .i64 0)]) H
def F46_j1 (R : Caller) (lim n : Nat) (K : AVal → Heap → Prop) (H : Heap) : Prop :=
F46_j0 R lim n K H
def F46_j2 (R : Caller) (lim n : Nat) (K : AVal → Heap → Prop) (H : Heap) : Prop :=
F46_j1 R lim n K H
def F46 (R : Caller) (lim n : Nat) (K : AVal → Heap → Prop) (a0 a1 : AVal) (H : Heap) : Prop :=
bind2 (if (a1).cells.all (·.one) then some (.ptr (some (H.next, 0)), H.push (.cells (a1).cells)) else none) fun v1 H2 =>
bindP (faddrO 0 v1) fun v3 =>
bindP (aload H2 none v3) fun v4 =>
bindP (abin .eql v4 (.int .u8 0)) fun v5 =>
bindP (boolOf v5) fun b6 =>
(b6 = true → (bindP (faddrO 1 v1) fun v7 =>
bindP (aload H2 none v7) fun v8 =>
bindP (faddrO 2 v1) fun v9 =>
bindP (aload H2 none v9) fun v10 =>
bind2 (R lim (.fn 48) [a0, v8, v10] H2) fun v11 H12 =>
K (.tup [(.str []), v11]) H12)) ∧
(b6 = false → (bindP (abin .eql v4 (.int .u8 1)) fun v13 =>
bindP (boolOf v13) fun b14 =>
(b14 = true → (bindP (faddrO 1 v1) fun v15 =>
bindP (aload H2 none v15) fun v16 =>
bind2 (R lim (.fn 43) [a0, v16] H2) fun v17 H18 =>
K (.tup [(.str []), v17]) H18)) ∧
(b14 = false → (bindP (abin .eql v4 (.int .u8 2)) fun v19 =>
bindP (boolOf v19) fun b20 =>
(b20 = true → (bindP (faddrO 1 v1) fun v21 =>
bindP (aload H2 none v21) fun v22 =>
bindP (faddrO 2 v1) fun v23 =>
bindP (aload H2 none v23) fun v24 =>
bind2 (R lim (.fn 49) [a0, v22, v24] H2) fun v25 H26 =>
K (.tup [(.str []), v25]) H26)) ∧
(b20 = false → (bindP (abin .eql v4 (.int .u8 3)) fun v27 =>
bindP (boolOf v27) fun b28 =>
(b28 = true → (bindP (faddrO 1 v1) fun v29 =>
bindP (aload H2 none v29) fun v30 =>
bind2 (R lim (.fn 51) [a0, v30] H2) fun v31 H32 =>
K (.tup [(.str []), v31]) H32)) ∧
(b28 = false → (bindP (abin .eql v4 (.int .u8 4)) fun v33 =>
bindP (boolOf v33) fun b34 =>
(b34 = true → (bindP (faddrO 1 v1) fun v35 =>
bindP (aload H2 none v35) fun v36 =>
bind2 (R lim (.fn 44) [a0, v36] H2) fun v37 H38 =>
bindP (extO 0 v37) fun v39 =>
bindP (extO 1 v37) fun v40 =>
K (.tup [v39, v40]) H38)) ∧
(b34 = false → (bindP (abin .eql v4 (.int .u8 5)) fun v41 =>
bindP (boolOf v41) fun b42 =>
(b42 = true → (bindP (faddrO 3 v1) fun v43 =>
bindP (aload H2 none v43) fun v44 =>
bind2 (R lim (.fn 42) [a0, v44] H2) fun v45 H46 =>
F46_j0 R lim n K H46)) ∧
(b42 = false → (bindP (abin .eql v4 (.int .u8 6)) fun v47 =>
bindP (boolOf v47) fun b48 =>
(b48 = true → (bindP (faddrO 4 v1) fun v49 =>
bindP (aload H2 (some 2) v49) fun v50 =>
bind2 (R lim (.fn 47) [a0, v50] H2) fun v51 H52 =>
F46_j1 R lim n K H52)) ∧
(b48 = false → (bindP (abin .eql v4 (.int .u8 7)) fun v53 =>
bindP (boolOf v53) fun b54 =>
(b54 = true → (bind2 (R lim (.fn 41) [a0] H2) fun v55 H56 =>
F46_j2 R lim n K H56)) ∧
(b54 = false → (F46_j2 R lim n K H2))))))))))))))))
def F46_Lp (R : Caller) (lim n : Nat) (K : AVal → Heap → Prop) : Nat → Tm → Heap → Prop
  | _, _, _ => False
theorem F46_eq (R : Caller) (lim n : Nat) (K : AVal → Heap → Prop) (a0 a1 : AVal) (H : Heap) : F46 R lim n K a0 a1 H = execI R lim n 60 (F46_Lp R lim n K) f46.body (argT [a0, a1]) H (retW [(.tmp 4), (.tmp 5)] K) := by kernel_rfl
theorem F46_ob (R : Caller) (lim n : Nat) (K : AVal → Heap → Prop) : Oblig R lim n 60 (F46_Lp R lim n K) f46.body (retW [(.tmp 4), (.tmp 5)] K) := (oblig_nl (by kernel_rfl))
theorem F46_run {ap : FuncId → Option AFn} (hf : ap 46 = some (.code f46)) {n lim : Nat} {K : AVal → Heap → Prop} {a0 a1 : AVal} {H : Heap} (h : F46 (Ahs.runT ap n) lim n K a0 a1 H) : ∃ v H', Ahs.runT ap (n + 1) lim (.fn 46) [a0, a1] H = some (v, H') ∧ K v H' := by
  rw [F46_eq] at h
  exact run_of_W hf (by kernel_rfl) (by kernel_rfl) (execI_sound f46.body _ _ _ _ (F46_ob _ _ _ K) (fun _ _ _ h => h) h)
def F47_j0 (R : Caller) (lim n : Nat) (K : AVal → Heap → Prop) (H : Heap) : Prop :=
K (.tup []) H
def F47_j1 (R : Caller) (lim n : Nat) (K : AVal → Heap → Prop) (rec0 : AVal → AVal → AVal → AVal → AVal → AVal → Heap → Prop) (t0 t3 t4 t6 t7 t14 t15 t16 : AVal) (H : Heap) : Prop :=
bindP (nilO t0) fun v55 =>
bindP (faddrO 0 v55) fun v56 =>
bindP (aload H none v56) fun v57 =>
bindP (aload H (some 4) t7) fun v58 =>
bind2 ((amapUpdate lim H false [.str] v57 t6 v58).map fun H => (und, H)) fun _ H59 =>
bindP (abin .add t16 (.int .i64 1)) fun v60 =>
rec0 t0 t3 t4 t14 t15 v60 H59
def F47_s0 (R : Caller) (lim n : Nat) (K : AVal → Heap → Prop) (rec0 : AVal → AVal → AVal → AVal → AVal → AVal → Heap → Prop) (t0 t3 t4 t14 t15 t16 : AVal) (H : Heap) : Prop :=
bindP (abin .lss t16 t15) fun v40 =>
bindP (boolOf v40) fun b41 =>
(b41 = true → (bindP (aindexAddr none 1 t14 t16) fun v42 =>
bindP (aload H none v42) fun v43 =>
bindP (nilO t0) fun v44 =>
bindP (faddrO 0 v44) fun v45 =>
bindP (aload H none v45) fun v46 =>
bindP (alookup H false [.str] (.agg [(.sl none 0 (.ex 0)), (.int .i64 0), (.bool false), (.str [])]) false v46 v43) fun v47 =>
bindP (astore lim (H.push (.cells ze3a7c2)) 4 (.ptr (some (H.next, 0))) v47) fun H48 =>
bindP (faddrO 1 (.ptr (some (H.next, 0)))) fun v49 =>
bindP (aload H48 none v49) fun v50 =>
bindP (faddrO 0 (.ptr (some (H.next, 0)))) fun v51 =>
bindP (aload H48 none v51) fun v52 =>
bindP (alen false v52) fun v53 =>
bindP (abin .lss v50 v53) fun v54 =>
bindP (boolOf v54) fun b61 =>
(b61 = true → (bindP (aload H48 (some 4) (.ptr (some (H.next, 0)))) fun v62 =>
bindP (aload H48 (some 2) t3) fun v63 =>
bind2 (R lim (.fn 84) [v62, v63, t4] H48) fun v64 H65 =>
bindP (astore lim H65 4 (.ptr (some (H.next, 0))) v64) fun H66 =>
bindP (abin .add t4 (.int .i64 1)) fun v67 =>
F47_j1 R lim n K rec0 t0 t3 v67 v43 (.ptr (some (H.next, 0))) t14 t15 t16 H66)) ∧
(b61 = false → (F47_j1 R lim n K rec0 t0 t3 t4 v43 (.ptr (some (H.next, 0))) t14 t15 t16 H48)))) ∧
(b41 = false → (F47_j0 R lim n K H))
def F47_l0 (R : Caller) (lim n : Nat) (K : AVal → Heap → Prop) : Nat → AVal → AVal → AVal → AVal → AVal → AVal → Heap → Prop
  | 0, _, _, _, _, _, _, _ => False
  | m + 1, t0, t3, t4, t14, t15, t16, H => F47_s0 R lim n K (F47_l0 R lim n K m) t0 t3 t4 t14 t15 t16 H
def F47 (R : Caller) (lim n : Nat) (K : AVal → Heap → Prop) (a0 a1 : AVal) (H : Heap) : Prop :=
bind2 (if (a1).cells.all (·.one) then some (.ptr (some (H.next, 0)), H.push (.cells (a1).cells)) else none) fun v1 H2 =>
bind2 (R lim (.fn 79) [a0] H2) fun v3 H4 =>
bindP (boolOf v3) fun b5 =>
(b5 = true → (K (.tup []) H4)) ∧
(b5 = false → (bindP (nilO a0) fun v6 =>
bindP (faddrO 1 v6) fun v7 =>
bindP (astore lim H4 1 v7 (.bool true)) fun H8 =>
bind2 (R lim (.fn 52) [a0] H8) fun v9 H10 =>
bindP (alen false v9) fun v11 =>
F47_l0 R lim n K n a0 v1 (.int .i64 0) v9 v11 (.int .i64 0) H10))
def F47_Lp (R : Caller) (lim n : Nat) (K : AVal → Heap → Prop) : Nat → Tm → Heap → Prop
  | 0, T, H => F47_l0 R lim n K n (T 0) (T 3) (T 4) (T 14) (T 15) (T 16) H
  | _, _, _ => False
def F47_Lp0 (R : Caller) (lim n : Nat) (K : AVal → Heap → Prop) (rec0 : AVal → AVal → AVal → AVal → AVal → AVal → Heap → Prop) : Nat → Tm → Heap → Prop
  | _, _, _ => False
def F47_k0 (R : Caller) (lim n : Nat) (K : AVal → Heap → Prop) (rec0 : AVal → AVal → AVal → AVal → AVal → AVal → Heap → Prop) : Kt := fun ex T H => match ex with
  | .norm => rec0 (T 0) (T 3) (T 4) (T 14) (T 15) (T 16) H
  | ex => (kBlk 0 (retW [] K)) ex T H
theorem F47_s0_eq (R : Caller) (lim n : Nat) (K : AVal → Heap → Prop) (rec0 : AVal → AVal → AVal → AVal → AVal → AVal → Heap → Prop) (T : Tm) (H : Heap) : F47_s0 R lim n K rec0 (T 0) (T 3) (T 4) (T 14) (T 15) (T 16) H = execI R lim n 45 (F47_Lp0 R lim n K rec0) f47_p0 T H (F47_k0 R lim n K rec0) := by kernel_rfl
theorem F47_l0_ok (R : Caller) (lim n : Nat) (K : AVal → Heap → Prop) {kw : Kt} (hk : ∀ ex T H, (kBlk 0 (retW [] K)) ex T H → kw ex T H) : ∀ (m : Nat) (T : Tm) (H : Heap), F47_l0 R lim n K m (T 0) (T 3) (T 4) (T 14) (T 15) (T 16) H → loopW (execW R lim n 45 f47_p0) m T H kw
  | 0, _, _, h => False.elim h
  | m + 1, T, H, h => by
    have hb : ∀ ex T H, F47_k0 R lim n K (F47_l0 R lim n K m) ex T H → (fun ex T H => match ex with | .norm => loopW (execW R lim n 45 f47_p0) m T H kw | ex => kw ex T H : Kt) ex T H := by
      intro ex T H h
      cases ex with
      | norm => exact F47_l0_ok R lim n K hk m T H h
      | exit i => exact hk _ _ _ h
      | ret => exact hk _ _ _ h
    have h' : F47_s0 R lim n K (F47_l0 R lim n K m) (T 0) (T 3) (T 4) (T 14) (T 15) (T 16) H := h
    rw [F47_s0_eq] at h'
    exact execI_sound f47_p0 T H _ _ (oblig_nl (by kernel_rfl)) hb h'
theorem F47_eq (R : Caller) (lim n : Nat) (K : AVal → Heap → Prop) (a0 a1 : AVal) (H : Heap) : F47 R lim n K a0 a1 H = execI R lim n 45 (F47_Lp R lim n K) f47.body (argT [a0, a1]) H (retW [] K) := by kernel_rfl
theorem F47_ob (R : Caller) (lim n : Nat) (K : AVal → Heap → Prop) : Oblig R lim n 45 (F47_Lp R lim n K) f47.body (retW [] K) := ⟨(oblig_nl (by kernel_rfl)), ⟨(oblig_nl (by kernel_rfl)), ⟨(oblig_nl (by kernel_rfl)), ⟨(oblig_nl (by kernel_rfl)), ⟨(oblig_nl (by kernel_rfl)), (fun T H h => F47_l0_ok R lim n K (kBlk_mono (fun _ _ _ h => h)) _ T H h)⟩⟩⟩⟩⟩
theorem F47_run {ap : FuncId → Option AFn} (hf : ap 47 = some (.code f47)) {n lim : Nat} {K : AVal → Heap → Prop} {a0 a1 : AVal} {H : Heap} (h : F47 (Ahs.runT ap n) lim n K a0 a1 H) : ∃ v H', Ahs.runT ap (n + 1) lim (.fn 47) [a0, a1] H = some (v, H') ∧ K v H' := by
  rw [F47_eq] at h
  exact run_of_W hf (by kernel_rfl) (by kernel_rfl) (execI_sound f47.body _ _ _ _ (F47_ob _ _ _ K) (fun _ _ _ h => h) h)
def F48 (R : Caller) (lim n : Nat) (K : AVal → Heap → Prop) (a0 a1 a2 : AVal) (H : Heap) : Prop :=
bind2 (R lim (.fn 82) [a0] H) fun v1 H2 =>
bindP (abin .neq v1 (.int .i64 0)) fun v3 =>
bindP (boolOf v3) fun b4 =>
(b4 = true → (K v1 H2)) ∧
(b4 = false → (bindP (nilO a0) fun v5 =>
bindP (faddrO 0 v5) fun v6 =>
bindP (aload H2 none v6) fun v7 =>
bindP (alookup H2 false [.str] (.agg [(.sl none 0 (.ex 0)), (.int .i64 0), (.bool false), (.str [])]) false v7 a1) fun v8 =>
bindP (astore lim (H2.push (.cells ze3a7c2)) 4 (.ptr (some (H2.next, 0))) v8) fun H9 =>
bind2 (R lim (.fn 85) [a1] H9) fun v10 H11 =>
bindP (aun .not v10) fun v12 =>
bindP (gd (some (v12, false)) (some a2)) fun v13 =>
bindP (gd (some (v12, false)) (abin .eql v13 (.str []))) fun v14 =>
bindP (pickO v12 (.bool true) v14) fun v15 =>
bindP (boolOf v15) fun b16 =>
(b16 = true → (K (.int .i64 1) H11)) ∧
(b16 = false → (bindP (faddrO 2 (.ptr (some (H2.next, 0)))) fun v17 =>
bindP (aload H11 none v17) fun v18 =>
bindP (boolOf v18) fun b19 =>
(b19 = true → (K (.int .i64 9) H11)) ∧
(b19 = false → (bind2 (R lim (.fn 86) [a0] H11) fun v20 H21 =>
bindP (abin .neq v20 (.int .i64 0)) fun v22 =>
bindP (boolOf v22) fun b23 =>
(b23 = true → (K v20 H21)) ∧
(b23 = false → (bindP (faddrO 0 (.ptr (some (H2.next, 0)))) fun v24 =>
bindP (aload H21 none v24) fun v25 =>
bind2 (R lim (.fn 87) [v25] H21) fun v26 H27 =>
bind2 ((fillV [(.str [])] [(0, 1, a2)]).map fun cs => (.sl (some (H27.next, 0)) 1 (.ex 1), H27.push (.cells cs))) fun v28 H29 =>
bind2 (aappend lim H29 [(.str [])] 16 false v26 v28) fun v30 H31 =>
bindP (faddrO 0 (.ptr (some (H2.next, 0)))) fun v32 =>
bindP (astore lim H31 1 v32 v30) fun H33 =>
bindP (nilO a0) fun v34 =>
bindP (faddrO 0 v34) fun v35 =>
bindP (aload H33 none v35) fun v36 =>
bindP (aload H33 (some 4) (.ptr (some (H2.next, 0)))) fun v37 =>
bind2 ((amapUpdate lim H33 false [.str] v36 a1 v37).map fun H => (und, H)) fun _ H38 =>
K (.int .i64 0) H38))))))))
def F48_Lp (R : Caller) (lim n : Nat) (K : AVal → Heap → Prop) : Nat → Tm → Heap → Prop
  | _, _, _ => False
theorem F48_eq (R : Caller) (lim n : Nat) (K : AVal → Heap → Prop) (a0 a1 a2 : AVal) (H : Heap) : F48 R lim n K a0 a1 a2 H = execI R lim n 50 (F48_Lp R lim n K) f48.body (argT [a0, a1, a2]) H (retW [(.tmp 6)] K) := by kernel_rfl
theorem F48_ob (R : Caller) (lim n : Nat) (K : AVal → Heap → Prop) : Oblig R lim n 50 (F48_Lp R lim n K) f48.body (retW [(.tmp 6)] K) := (oblig_nl (by kernel_rfl))
theorem F48_run {ap : FuncId → Option AFn} (hf : ap 48 = some (.code f48)) {n lim : Nat} {K : AVal → Heap → Prop} {a0 a1 a2 : AVal} {H : Heap} (h : F48 (Ahs.runT ap n) lim n K a0 a1 a2 H) : ∃ v H', Ahs.runT ap (n + 1) lim (.fn 48) [a0, a1, a2] H = some (v, H') ∧ K v H' := by
  rw [F48_eq] at h
  exact run_of_W hf (by kernel_rfl) (by kernel_rfl) (execI_sound f48.body _ _ _ _ (F48_ob _ _ _ K) (fun _ _ _ h => h) h)
def F49 (R : Caller) (lim n : Nat) (K : AVal → Heap → Prop) (a0 a1 a2 : AVal) (H : Heap) : Prop :=
bind2 (if (a0).cells.all (·.one) then some (.ptr (some (H.next, 0)), H.push (.cells (a0).cells)) else none) fun v1 H2 =>
bind2 (if (a1).cells.all (·.one) then some (.ptr (some (H2.next, 0)), H2.push (.cells (a1).cells)) else none) fun v3 H4 =>
bind2 (if (a2).cells.all (·.one) then some (.ptr (some (H4.next, 0)), H4.push (.cells (a2).cells)) else none) fun v5 H6 =>
bindP (aload H6 none v1) fun v7 =>
bind2 (R lim (.fn 82) [v7] H6) fun v8 H9 =>
bindP (abin .neq v8 (.int .i64 0)) fun v10 =>
bindP (boolOf v10) fun b11 =>
(b11 = true → (K v8 H9)) ∧
(b11 = false → (bindP (aload H9 none v5) fun v12 =>
bind2 (R lim (.fn 85) [v12] H9) fun v13 H14 =>
bindP (aun .not v13) fun v15 =>
bindP (boolOf v15) fun b16 =>
(b16 = true → (K (.int .i64 1) H14)) ∧
(b16 = false → (bindP (aload H14 none v1) fun v17 =>
bindP (aload H14 none v3) fun v18 =>
bindP (some (AVal.fn 88 [] [v1, v3, v5])) fun v19 =>
bind2 (R lim (.fn 80) [v17, v18, v19] H14) fun v20 H21 =>
K v20 H21))))
def F49_Lp (R : Caller) (lim n : Nat) (K : AVal → Heap → Prop) : Nat → Tm → Heap → Prop
  | _, _, _ => False
theorem F49_eq (R : Caller) (lim n : Nat) (K : AVal → Heap → Prop) (a0 a1 a2 : AVal) (H : Heap) : F49 R lim n K a0 a1 a2 H = execI R lim n 20 (F49_Lp R lim n K) f49.body (argT [a0, a1, a2]) H (retW [(.tmp 6)] K) := by kernel_rfl
theorem F49_ob (R : Caller) (lim n : Nat) (K : AVal → Heap → Prop) : Oblig R lim n 20 (F49_Lp R lim n K) f49.body (retW [(.tmp 6)] K) := (oblig_nl (by kernel_rfl))
theorem F49_run {ap : FuncId → Option AFn} (hf : ap 49 = some (.code f49)) {n lim : Nat} {K : AVal → Heap → Prop} {a0 a1 a2 : AVal} {H : Heap} (h : F49 (Ahs.runT ap n) lim n K a0 a1 a2 H) : ∃ v H', Ahs.runT ap (n + 1) lim (.fn 49) [a0, a1, a2] H = some (v, H') ∧ K v H' := by
  rw [F49_eq] at h
  exact run_of_W hf (by kernel_rfl) (by kernel_rfl) (execI_sound f49.body _ _ _ _ (F49_ob _ _ _ K) (fun _ _ _ h => h) h)
def F50 (R : Caller) (lim n : Nat) (K : AVal → Heap → Prop) (a0 : AVal) (H : Heap) : Prop :=
bind2 (R lim (.fn 79) [a0] H) fun v1 H2 =>
bindP (boolOf v1) fun b3 =>
(b3 = true → (K (.int .i64 0) H2)) ∧
(b3 = false → (bindP (nilO a0) fun v4 =>
bindP (faddrO 2 v4) fun v5 =>
bindP (aload H2 none v5) fun v6 =>
K v6 H2))
def F50_Lp (R : Caller) (lim n : Nat) (K : AVal → Heap → Prop) : Nat → Tm → Heap → Prop
  | _, _, _ => False
theorem F50_eq (R : Caller) (lim n : Nat) (K : AVal → Heap → Prop) (a0 : AVal) (H : Heap) : F50 R lim n K a0 H = execI R lim n 9 (F50_Lp R lim n K) f50.body (argT [a0]) H (retW [(.tmp 2)] K) := by kernel_rfl
theorem F50_ob (R : Caller) (lim n : Nat) (K : AVal → Heap → Prop) : Oblig R lim n 9 (F50_Lp R lim n K) f50.body (retW [(.tmp 2)] K) := (oblig_nl (by kernel_rfl))
theorem F50_run {ap : FuncId → Option AFn} (hf : ap 50 = some (.code f50)) {n lim : Nat} {K : AVal → Heap → Prop} {a0 : AVal} {H : Heap} (h : F50 (Ahs.runT ap n) lim n K a0 H) : ∃ v H', Ahs.runT ap (n + 1) lim (.fn 50) [a0] H = some (v, H') ∧ K v H' := by
  rw [F50_eq] at h
  exact run_of_W hf (by kernel_rfl) (by kernel_rfl) (execI_sound f50.body _ _ _ _ (F50_ob _ _ _ K) (fun _ _ _ h => h) h)
def F51 (R : Caller) (lim n : Nat) (K : AVal → Heap → Prop) (a0 a1 : AVal) (H : Heap) : Prop :=
bind2 (if (a0).cells.all (·.one) then some (.ptr (some (H.next, 0)), H.push (.cells (a0).cells)) else none) fun v1 H2 =>
bind2 (if (a1).cells.all (·.one) then some (.ptr (some (H2.next, 0)), H2.push (.cells (a1).cells)) else none) fun v3 H4 =>
bindP (aload H4 none v1) fun v5 =>
bindP (aload H4 none v3) fun v6 =>
bindP (some (AVal.fn 89 [] [v1, v3])) fun v7 =>
bind2 (R lim (.fn 80) [v5, v6, v7] H4) fun v8 H9 =>
K v8 H9
def F51_Lp (R : Caller) (lim n : Nat) (K : AVal → Heap → Prop) : Nat → Tm → Heap → Prop
  | _, _, _ => False
theorem F51_eq (R : Caller) (lim n : Nat) (K : AVal → Heap → Prop) (a0 a1 : AVal) (H : Heap) : F51 R lim n K a0 a1 H = execI R lim n 9 (F51_Lp R lim n K) f51.body (argT [a0, a1]) H (retW [(.tmp 4)] K) := by kernel_rfl
theorem F51_ob (R : Caller) (lim n : Nat) (K : AVal → Heap → Prop) : Oblig R lim n 9 (F51_Lp R lim n K) f51.body (retW [(.tmp 4)] K) := (oblig_nl (by kernel_rfl))
theorem F51_run {ap : FuncId → Option AFn} (hf : ap 51 = some (.code f51)) {n lim : Nat} {K : AVal → Heap → Prop} {a0 a1 : AVal} {H : Heap} (h : F51 (Ahs.runT ap n) lim n K a0 a1 H) : ∃ v H', Ahs.runT ap (n + 1) lim (.fn 51) [a0, a1] H = some (v, H') ∧ K v H' := by
  rw [F51_eq] at h
  exact run_of_W hf (by kernel_rfl) (by kernel_rfl) (execI_sound f51.body _ _ _ _ (F51_ob _ _ _ K) (fun _ _ _ h => h) h)
def F52 (R : Caller) (lim n : Nat) (K : AVal → Heap → Prop) (a0 : AVal) (H : Heap) : Prop :=
bind2 (R lim (.fn 79) [a0] H) fun v1 H2 =>
bindP (boolOf v1) fun b3 =>
(b3 = true → (K (.sl none 0 (.ex 0)) H2)) ∧
(b3 = false → (bindP (nilO a0) fun v4 =>
bindP (faddrO 0 v4) fun v5 =>
bindP (aload H2 none v5) fun v6 =>
bind2 (R lim (.fn 91) [v6] H2) fun v7 H8 =>
bind2 (R lim (.fn 90) [v7] H8) fun v9 H10 =>
K v9 H10))
def F52_Lp (R : Caller) (lim n : Nat) (K : AVal → Heap → Prop) : Nat → Tm → Heap → Prop
  | _, _, _ => False
theorem F52_eq (R : Caller) (lim n : Nat) (K : AVal → Heap → Prop) (a0 : AVal) (H : Heap) : F52 R lim n K a0 H = execI R lim n 11 (F52_Lp R lim n K) f52.body (argT [a0]) H (retW [(.tmp 2)] K) := by kernel_rfl
theorem F52_ob (R : Caller) (lim n : Nat) (K : AVal → Heap → Prop) : Oblig R lim n 11 (F52_Lp R lim n K) f52.body (retW [(.tmp 2)] K) := (oblig_nl (by kernel_rfl))
theorem F52_run {ap : FuncId → Option AFn} (hf : ap 52 = some (.code f52)) {n lim : Nat} {K : AVal → Heap → Prop} {a0 : AVal} {H : Heap} (h : F52 (Ahs.runT ap n) lim n K a0 H) : ∃ v H', Ahs.runT ap (n + 1) lim (.fn 52) [a0] H = some (v, H') ∧ K v H' := by
  rw [F52_eq] at h
  exact run_of_W hf (by kernel_rfl) (by kernel_rfl) (execI_sound f52.body _ _ _ _ (F52_ob _ _ _ K) (fun _ _ _ h => h) h)
def F53_j0 (R : Caller) (lim n : Nat) (K : AVal → Heap → Prop) (H : Heap) : Prop :=
K (.tup [(.str []), (.int .i64 0)]) H
def F53_j1 (R : Caller) (lim n : Nat) (K : AVal → Heap → Prop) (H : Heap) : Prop :=
F53_j0 R lim n K H
def F53_j2 (R : Caller) (lim n : Nat) (K : AVal → Heap → Prop) (H : Heap) : Prop :=
F53_j1 R lim n K H
def F53 (R : Caller) (lim n : Nat) (K : AVal → Heap → Prop) (a0 a1 : AVal) (H : Heap) : Prop :=
bind2 (if (a1).cells.all (·.one) then some (.ptr (some (H.next, 0)), H.push (.cells (a1).cells)) else none) fun v1 H2 =>
bindP (faddrO 0 v1) fun v3 =>
bindP (aload H2 none v3) fun v4 =>
bindP (abin .eql v4 (.int .u8 0)) fun v5 =>
bindP (boolOf v5) fun b6 =>
(b6 = true → (bindP (faddrO 1 v1) fun v7 =>
bindP (aload H2 none v7) fun v8 =>
bindP (faddrO 2 v1) fun v9 =>
bindP (aload H2 none v9) fun v10 =>
bind2 (R lim (.fn 92) [a0, v8, v10] H2) fun v11 H12 =>
K (.tup [(.str []), v11]) H12)) ∧
(b6 = false → (bindP (abin .eql v4 (.int .u8 1)) fun v13 =>
bindP (boolOf v13) fun b14 =>
(b14 = true → (bindP (faddrO 1 v1) fun v15 =>
bindP (aload H2 none v15) fun v16 =>
bind2 (R lim (.fn 93) [a0, v16] H2) fun v17 H18 =>
K (.tup [(.str []), v17]) H18)) ∧
(b14 = false → (bindP (abin .eql v4 (.int .u8 2)) fun v19 =>
bindP (boolOf v19) fun b20 =>
(b20 = true → (bindP (faddrO 1 v1) fun v21 =>
bindP (aload H2 none v21) fun v22 =>
bindP (faddrO 2 v1) fun v23 =>
bindP (aload H2 none v23) fun v24 =>
bind2 (R lim (.fn 94) [a0, v22, v24] H2) fun v25 H26 =>
K (.tup [(.str []), v25]) H26)) ∧
(b20 = false → (bindP (abin .eql v4 (.int .u8 3)) fun v27 =>
bindP (boolOf v27) fun b28 =>
(b28 = true → (bindP (faddrO 1 v1) fun v29 =>
bindP (aload H2 none v29) fun v30 =>
bind2 (R lim (.fn 95) [a0, v30] H2) fun v31 H32 =>
K (.tup [(.str []), v31]) H32)) ∧
(b28 = false → (bindP (abin .eql v4 (.int .u8 4)) fun v33 =>
bindP (boolOf v33) fun b34 =>
(b34 = true → (bindP (faddrO 1 v1) fun v35 =>
bindP (aload H2 none v35) fun v36 =>
bind2 (R lim (.fn 96) [a0, v36] H2) fun v37 H38 =>
bindP (extO 0 v37) fun v39 =>
bindP (extO 1 v37) fun v40 =>
K (.tup [v39, v40]) H38)) ∧
(b34 = false → (bindP (abin .eql v4 (.int .u8 5)) fun v41 =>
bindP (boolOf v41) fun b42 =>
(b42 = true → (bindP (faddrO 3 v1) fun v43 =>
bindP (aload H2 none v43) fun v44 =>
bind2 (R lim (.fn 97) [a0, v44] H2) fun v45 H46 =>
F53_j0 R lim n K H46)) ∧
(b42 = false → (bindP (abin .eql v4 (.int .u8 6)) fun v47 =>
bindP (boolOf v47) fun b48 =>
(b48 = true → (bindP (faddrO 4 v1) fun v49 =>
bindP (aload H2 (some 2) v49) fun v50 =>
bind2 (R lim (.fn 98) [a0, v50] H2) fun v51 H52 =>
F53_j1 R lim n K H52)) ∧
(b48 = false → (bindP (abin .eql v4 (.int .u8 7)) fun v53 =>
bindP (boolOf v53) fun b54 =>
(b54 = true → (bindP (nilO a0) fun v55 =>
bindP (faddrO 1 v55) fun v56 =>
bindP (astore lim H2 1 v56 (.bool false)) fun H57 =>
F53_j2 R lim n K H57)) ∧
(b54 = false → (F53_j2 R lim n K H2))))))))))))))))
def F53_Lp (R : Caller) (lim n : Nat) (K : AVal → Heap → Prop) : Nat → Tm → Heap → Prop
  | _, _, _ => False
theorem F53_eq (R : Caller) (lim n : Nat) (K : AVal → Heap → Prop) (a0 a1 : AVal) (H : Heap) : F53 R lim n K a0 a1 H = execI R lim n 61 (F53_Lp R lim n K) f53.body (argT [a0, a1]) H (retW [(.tmp 4), (.tmp 5)] K) := by kernel_rfl
theorem F53_ob (R : Caller) (lim n : Nat) (K : AVal → Heap → Prop) : Oblig R lim n 61 (F53_Lp R lim n K) f53.body (retW [(.tmp 4), (.tmp 5)] K) := (oblig_nl (by kernel_rfl))
theorem F53_run {ap : FuncId → Option AFn} (hf : ap 53 = some (.code f53)) {n lim : Nat} {K : AVal → Heap → Prop} {a0 a1 : AVal} {H : Heap} (h : F53 (Ahs.runT ap n) lim n K a0 a1 H) : ∃ v H', Ahs.runT ap (n + 1) lim (.fn 53) [a0, a1] H = some (v, H') ∧ K v H' := by
  rw [F53_eq] at h
  exact run_of_W hf (by kernel_rfl) (by kernel_rfl) (execI_sound f53.body _ _ _ _ (F53_ob _ _ _ K) (fun _ _ _ h => h) h)
def F54_j0 (R : Caller) (lim n : Nat) (K : AVal → Heap → Prop) (H : Heap) : Prop :=
K (.bool true) H
def F54_s0 (R : Caller) (lim n : Nat) (K : AVal → Heap → Prop) (rec0 : AVal → AVal → AVal → AVal → Heap → Prop) (t0 t1 t5 t6 : AVal) (H : Heap) : Prop :=
bindP (alen false t5) fun v84 =>
bindP (abin .lss t6 v84) fun v85 =>
bindP (boolOf v85) fun b86 =>
(b86 = true → (bindP (nilO t1) fun v87 =>
bindP (faddrO 0 v87) fun v88 =>
bindP (aload H none v88) fun v89 =>
bindP (aindexAddr none 5 v89 t6) fun v90 =>
bindP (aload H (some 5) v90) fun v91 =>
bindP (astore lim (H.push (.cells z11b428)) 5 (.ptr (some (H.next, 0))) v91) fun H92 =>
bindP (aindexAddr none 1 t5 t6) fun v93 =>
bindP (aload H92 none v93) fun v94 =>
bind2 (R lim (.fn 45) [t0, v94] H92) fun v95 H96 =>
bindP (extO 0 v95) fun v97 =>
bindP (extO 1 v95) fun v98 =>
bindP (aindexAddr none 1 t5 t6) fun v99 =>
bindP (aload H96 none v99) fun v100 =>
bind2 (R lim (.fn 44) [t0, v100] H96) fun v101 H102 =>
bindP (extO 0 v101) fun v103 =>
bindP (extO 1 v101) fun v104 =>
bindP (aindexAddr none 1 t5 t6) fun v105 =>
bindP (aload H102 none v105) fun v106 =>
bindP (faddrO 0 (.ptr (some (H.next, 0)))) fun v107 =>
bindP (aload H102 none v107) fun v108 =>
bindP (abin .neq v106 v108) fun v109 =>
bindP (gd (some (v109, false)) (some v97)) fun v110 =>
bindP (gd (some (v109, false)) (faddrO 1 (.ptr (some (H.next, 0))))) fun v111 =>
bindP (gd (some (v109, false)) (aload H102 none v111)) fun v112 =>
bindP (gd (some (v109, false)) (alen false v112)) fun v113 =>
bindP (gd (some (v109, false)) (abin .neq v110 v113)) fun v114 =>
bindP (pickO v109 (.bool true) v114) fun v115 =>
bindP (gd (some (v115, false)) (some v98)) fun v116 =>
bindP (gd (some (v115, false)) (faddrO 2 (.ptr (some (H.next, 0))))) fun v117 =>
bindP (gd (some (v115, false)) (aload H102 none v117)) fun v118 =>
bindP (gd (some (v115, false)) (abin .neq v116 v118)) fun v119 =>
bindP (pickO v115 (.bool true) v119) fun v120 =>
bindP (gd (some (v120, false)) (some t1)) fun v121 =>
bindP (gd (some (v120, false)) (nilO v121)) fun v122 =>
bindP (gd (some (v120, false)) (faddrO 1 v122)) fun v123 =>
bindP (gd (some (v120, false)) (aload H102 none v123)) fun v124 =>
bindP (gd (some (v120, false)) (aun .not v124)) fun v125 =>
bindP (gd (some (v120, false)) (some v125)) fun v126 =>
bindP (gd (some (v126, true)) (some v103)) fun v127 =>
bindP (gd (some (v126, true)) (aload H102 (some 5) (.ptr (some (H.next, 0))))) fun v128 =>
bind2 (gd2 (some (v126, true)) H102 (R lim (.fn 99) [v128] H102)) fun v129 H130 =>
bindP (gd (some (v126, true)) (abin .neq v127 v129)) fun v131 =>
bindP (gd (some (v126, true)) (some v131)) fun v132 =>
bindP (gd (some (v132, false)) (some v104)) fun v133 =>
bindP (gd (some (v132, false)) (abin .neq v133 (.int .i64 0))) fun v134 =>
bindP (gd (some (v126, true)) (pickO v132 (.bool true) v134)) fun v135 =>
bindP (gd (some (v120, false)) (pickO v126 v135 (.bool false))) fun v136 =>
bindP (pickO v120 (.bool true) v136) fun v137 =>
bindP (boolOf v137) fun b138 =>
(b138 = true → (K (.bool false) H130)) ∧
(b138 = false → (bindP (abin .add t6 (.int .i64 1)) fun v139 =>
rec0 t0 t1 t5 v139 H130)))) ∧
(b86 = false → (F54_j0 R lim n K H))
def F54_l0 (R : Caller) (lim n : Nat) (K : AVal → Heap → Prop) : Nat → AVal → AVal → AVal → AVal → Heap → Prop
  | 0, _, _, _, _, _ => False
  | m + 1, t0, t1, t5, t6, H => F54_s0 R lim n K (F54_l0 R lim n K m) t0 t1 t5 t6 H
def F54 (R : Caller) (lim n : Nat) (K : AVal → Heap → Prop) (a0 a1 : AVal) (H : Heap) : Prop :=
bind2 (R lim (.fn 52) [a0] H) fun v1 H2 =>
bindP (alen false v1) fun v3 =>
bindP (nilO a1) fun v4 =>
bindP (faddrO 0 v4) fun v5 =>
bindP (aload H2 none v5) fun v6 =>
bindP (alen false v6) fun v7 =>
bindP (abin .neq v3 v7) fun v8 =>
bindP (gd (some (v8, false)) (some a0)) fun v9 =>
bind2 (gd2 (some (v8, false)) H2 (R H2.next (.fn 55) [v9] H2)) fun v10 H11 =>
bindP (gd (some (v8, false)) (some a1)) fun v12 =>
bindP (gd (some (v8, false)) (nilO v12)) fun v13 =>
bindP (gd (some (v8, false)) (faddrO 1 v13)) fun v14 =>
bindP (gd (some (v8, false)) (aload H11 none v14)) fun v15 =>
bindP (gd (some (v8, false)) (eqvO true .bool v10 v15)) fun v16 =>
bindP (pickO v8 (.bool true) v16) fun v17 =>
bindP (gd (some (v17, false)) (some a0)) fun v18 =>
bind2 (gd2 (some (v17, false)) H11 (R H11.next (.fn 50) [v18] H11)) fun v19 H20 =>
bindP (gd (some (v17, false)) (some a1)) fun v21 =>
bindP (gd (some (v17, false)) (nilO v21)) fun v22 =>
bindP (gd (some (v17, false)) (faddrO 2 v22)) fun v23 =>
bindP (gd (some (v17, false)) (aload H20 none v23)) fun v24 =>
bindP (gd (some (v17, false)) (abin .neq v19 v24)) fun v25 =>
bindP (pickO v17 (.bool true) v25) fun v26 =>
bindP (boolOf v26) fun b27 =>
(b27 = true → (K (.bool false) H20)) ∧
(b27 = false → (F54_l0 R lim n K n a0 a1 v1 (.int .i64 0) H20))
def F54_Lp (R : Caller) (lim n : Nat) (K : AVal → Heap → Prop) : Nat → Tm → Heap → Prop
  | 0, T, H => F54_l0 R lim n K n (T 0) (T 1) (T 5) (T 6) H
  | _, _, _ => False
def F54_Lp0 (R : Caller) (lim n : Nat) (K : AVal → Heap → Prop) (rec0 : AVal → AVal → AVal → AVal → Heap → Prop) : Nat → Tm → Heap → Prop
  | _, _, _ => False
def F54_k0 (R : Caller) (lim n : Nat) (K : AVal → Heap → Prop) (rec0 : AVal → AVal → AVal → AVal → Heap → Prop) : Kt := fun ex T H => match ex with
  | .norm => rec0 (T 0) (T 1) (T 5) (T 6) H
  | ex => (kBlk 0 (kSeq (execI R lim n 108 (F54_Lp R lim n K) f54_p1) (retW [(.tmp 4)] K))) ex T H
theorem F54_s0_eq (R : Caller) (lim n : Nat) (K : AVal → Heap → Prop) (rec0 : AVal → AVal → AVal → AVal → Heap → Prop) (T : Tm) (H : Heap) : F54_s0 R lim n K rec0 (T 0) (T 1) (T 5) (T 6) H = execI R lim n 108 (F54_Lp0 R lim n K rec0) f54_p0 T H (F54_k0 R lim n K rec0) := by kernel_rfl
theorem F54_l0_ok (R : Caller) (lim n : Nat) (K : AVal → Heap → Prop) {kw : Kt} (hk : ∀ ex T H, (kBlk 0 (kSeq (execI R lim n 108 (F54_Lp R lim n K) f54_p1) (retW [(.tmp 4)] K))) ex T H → kw ex T H) : ∀ (m : Nat) (T : Tm) (H : Heap), F54_l0 R lim n K m (T 0) (T 1) (T 5) (T 6) H → loopW (execW R lim n 108 f54_p0) m T H kw
  | 0, _, _, h => False.elim h
  | m + 1, T, H, h => by
    have hb : ∀ ex T H, F54_k0 R lim n K (F54_l0 R lim n K m) ex T H → (fun ex T H => match ex with | .norm => loopW (execW R lim n 108 f54_p0) m T H kw | ex => kw ex T H : Kt) ex T H := by
      intro ex T H h
      cases ex with
      | norm => exact F54_l0_ok R lim n K hk m T H h
      | exit i => exact hk _ _ _ h
      | ret => exact hk _ _ _ h
    have h' : F54_s0 R lim n K (F54_l0 R lim n K m) (T 0) (T 1) (T 5) (T 6) H := h
    rw [F54_s0_eq] at h'
    exact execI_sound f54_p0 T H _ _ (oblig_nl (by kernel_rfl)) hb h'
theorem F54_eq (R : Caller) (lim n : Nat) (K : AVal → Heap → Prop) (a0 a1 : AVal) (H : Heap) : F54 R lim n K a0 a1 H = execI R lim n 108 (F54_Lp R lim n K) f54.body (argT [a0, a1]) H (retW [(.tmp 4)] K) := by kernel_rfl
theorem F54_ob (R : Caller) (lim n : Nat) (K : AVal → Heap → Prop) : Oblig R lim n 108 (F54_Lp R lim n K) f54.body (retW [(.tmp 4)] K) := ⟨(oblig_nl (by kernel_rfl)), ⟨(oblig_nl (by kernel_rfl)), ⟨(oblig_nl (by kernel_rfl)), ⟨⟨(oblig_nl (by kernel_rfl)), (fun T H h => F54_l0_ok R lim n K (kBlk_mono (kSeqI_sound (oblig_nl (by kernel_rfl)) (fun _ _ _ h => h))) _ T H h)⟩, (oblig_nl (by kernel_rfl))⟩⟩⟩⟩
theorem F54_run {ap : FuncId → Option AFn} (hf : ap 54 = some (.code f54)) {n lim : Nat} {K : AVal → Heap → Prop} {a0 a1 : AVal} {H : Heap} (h : F54 (Ahs.runT ap n) lim n K a0 a1 H) : ∃ v H', Ahs.runT ap (n + 1) lim (.fn 54) [a0, a1] H = some (v, H') ∧ K v H' := by
  rw [F54_eq] at h
  exact run_of_W hf (by kernel_rfl) (by kernel_rfl) (execI_sound f54.body _ _ _ _ (F54_ob _ _ _ K) (fun _ _ _ h => h) h)
def F55 (R : Caller) (lim n : Nat) (K : AVal → Heap → Prop) (a0 : AVal) (H : Heap) : Prop :=
bind2 (R lim (.fn 79) [a0] H) fun v1 H2 =>
bindP (gd (some (v1, false)) (some a0)) fun v3 =>
bindP (gd (some (v1, false)) (nilO v3)) fun v4 =>
bindP (gd (some (v1, false)) (faddrO 1 v4)) fun v5 =>
bindP (gd (some (v1, false)) (aload H2 none v5)) fun v6 =>
bindP (pickO v1 (.bool true) v6) fun v7 =>
K v7 H2
def F55_Lp (R : Caller) (lim n : Nat) (K : AVal → Heap → Prop) : Nat → Tm → Heap → Prop
  | _, _, _ => False
theorem F55_eq (R : Caller) (lim n : Nat) (K : AVal → Heap → Prop) (a0 : AVal) (H : Heap) : F55 R lim n K a0 H = execI R lim n 11 (F55_Lp R lim n K) f55.body (argT [a0]) H (retW [(.tmp 2)] K) := by kernel_rfl
theorem F55_ob (R : Caller) (lim n : Nat) (K : AVal → Heap → Prop) : Oblig R lim n 11 (F55_Lp R lim n K) f55.body (retW [(.tmp 2)] K) := (oblig_nl (by kernel_rfl))
theorem F55_run {ap : FuncId → Option AFn} (hf : ap 55 = some (.code f55)) {n lim : Nat} {K : AVal → Heap → Prop} {a0 : AVal} {H : Heap} (h : F55 (Ahs.runT ap n) lim n K a0 H) : ∃ v H', Ahs.runT ap (n + 1) lim (.fn 55) [a0] H = some (v, H') ∧ K v H' := by
  rw [F55_eq] at h
  exact run_of_W hf (by kernel_rfl) (by kernel_rfl) (execI_sound f55.body _ _ _ _ (F55_ob _ _ _ K) (fun _ _ _ h => h) h)
def F57_j0 (R : Caller) (lim n : Nat) (K : AVal → Heap → Prop) (H : Heap) : Prop :=
K (.bool true) H
def F57_s0 (R : Caller) (lim n : Nat) (K : AVal → Heap → Prop) (rec0 : AVal → AVal → AVal → AVal → AVal → Heap → Prop) (t0 t1 t5 t6 t7 : AVal) (H : Heap) : Prop :=
bindP (alen false t5) fun v75 =>
bindP (abin .lss t7 v75) fun v76 =>
bindP (boolOf v76) fun b77 =>
(b77 = true → (bindP (aindexAddr none 1 t5 t7) fun v78 =>
bindP (aload H none v78) fun v79 =>
bind2 (R lim (.fn 45) [t0, v79] H) fun v80 H81 =>
bindP (extO 0 v80) fun v82 =>
bindP (extO 1 v80) fun v83 =>
bindP (aindexAddr none 1 t6 t7) fun v84 =>
bindP (aload H81 none v84) fun v85 =>
bind2 (R lim (.fn 45) [t1, v85] H81) fun v86 H87 =>
bindP (extO 0 v86) fun v88 =>
bindP (extO 1 v86) fun v89 =>
bindP (aindexAddr none 1 t5 t7) fun v90 =>
bindP (aload H87 none v90) fun v91 =>
bind2 (R lim (.fn 44) [t0, v91] H87) fun v92 H93 =>
bindP (extO 0 v92) fun v94 =>
bindP (extO 1 v92) fun v95 =>
bindP (aindexAddr none 1 t6 t7) fun v96 =>
bindP (aload H93 none v96) fun v97 =>
bind2 (R lim (.fn 44) [t1, v97] H93) fun v98 H99 =>
bindP (extO 0 v98) fun v100 =>
bindP (extO 1 v98) fun v101 =>
bindP (aindexAddr none 1 t5 t7) fun v102 =>
bindP (aload H99 none v102) fun v103 =>
bindP (aindexAddr none 1 t6 t7) fun v104 =>
bindP (aload H99 none v104) fun v105 =>
bindP (abin .neq v103 v105) fun v106 =>
bindP (gd (some (v106, false)) (some v82)) fun v107 =>
bindP (gd (some (v106, false)) (some v88)) fun v108 =>
bindP (gd (some (v106, false)) (abin .neq v107 v108)) fun v109 =>
bindP (pickO v106 (.bool true) v109) fun v110 =>
bindP (gd (some (v110, false)) (some v83)) fun v111 =>
bindP (gd (some (v110, false)) (some v89)) fun v112 =>
bindP (gd (some (v110, false)) (abin .neq v111 v112)) fun v113 =>
bindP (pickO v110 (.bool true) v113) fun v114 =>
bindP (gd (some (v114, false)) (some v94)) fun v115 =>
bindP (gd (some (v114, false)) (some v100)) fun v116 =>
bindP (gd (some (v114, false)) (abin .neq v115 v116)) fun v117 =>
bindP (pickO v114 (.bool true) v117) fun v118 =>
bindP (gd (some (v118, false)) (some v95)) fun v119 =>
bindP (gd (some (v118, false)) (some v101)) fun v120 =>
bindP (gd (some (v118, false)) (abin .neq v119 v120)) fun v121 =>
bindP (pickO v118 (.bool true) v121) fun v122 =>
bindP (boolOf v122) fun b123 =>
(b123 = true → (K (.bool false) H99)) ∧
(b123 = false → (bindP (abin .add t7 (.int .i64 1)) fun v124 =>
rec0 t0 t1 t5 t6 v124 H99)))) ∧
(b77 = false → (F57_j0 R lim n K H))
def F57_l0 (R : Caller) (lim n : Nat) (K : AVal → Heap → Prop) : Nat → AVal → AVal → AVal → AVal → AVal → Heap → Prop
  | 0, _, _, _, _, _, _ => False
  | m + 1, t0, t1, t5, t6, t7, H => F57_s0 R lim n K (F57_l0 R lim n K m) t0 t1 t5 t6 t7 H
def F57 (R : Caller) (lim n : Nat) (K : AVal → Heap → Prop) (a0 a1 : AVal) (H : Heap) : Prop :=
bind2 (R lim (.fn 52) [a0] H) fun v1 H2 =>
bind2 (R lim (.fn 52) [a1] H2) fun v3 H4 =>
bindP (alen false v1) fun v5 =>
bindP (alen false v3) fun v6 =>
bindP (abin .neq v5 v6) fun v7 =>
bindP (gd (some (v7, false)) (some a0)) fun v8 =>
bind2 (gd2 (some (v7, false)) H4 (R lim (.fn 55) [v8] H4)) fun v9 H10 =>
bindP (gd (some (v7, false)) (some a1)) fun v11 =>
bind2 (gd2 (some (v7, false)) H10 (R lim (.fn 55) [v11] H10)) fun v12 H13 =>
bindP (gd (some (v7, false)) (eqvO true .bool v9 v12)) fun v14 =>
bindP (pickO v7 (.bool true) v14) fun v15 =>
bindP (gd (some (v15, false)) (some a0)) fun v16 =>
bind2 (gd2 (some (v15, false)) H13 (R lim (.fn 50) [v16] H13)) fun v17 H18 =>
bindP (gd (some (v15, false)) (some a1)) fun v19 =>
bind2 (gd2 (some (v15, false)) H18 (R lim (.fn 50) [v19] H18)) fun v20 H21 =>
bindP (gd (some (v15, false)) (abin .neq v17 v20)) fun v22 =>
bindP (pickO v15 (.bool true) v22) fun v23 =>
bindP (boolOf v23) fun b24 =>
(b24 = true → (K (.bool false) H21)) ∧
(b24 = false → (F57_l0 R lim n K n a0 a1 v1 v3 (.int .i64 0) H21))
def F57_Lp (R : Caller) (lim n : Nat) (K : AVal → Heap → Prop) : Nat → Tm → Heap → Prop
  | 0, T, H => F57_l0 R lim n K n (T 0) (T 1) (T 5) (T 6) (T 7) H
  | _, _, _ => False
def F57_Lp0 (R : Caller) (lim n : Nat) (K : AVal → Heap → Prop) (rec0 : AVal → AVal → AVal → AVal → AVal → Heap → Prop) : Nat → Tm → Heap → Prop
  | _, _, _ => False
def F57_k0 (R : Caller) (lim n : Nat) (K : AVal → Heap → Prop) (rec0 : AVal → AVal → AVal → AVal → AVal → Heap → Prop) : Kt := fun ex T H => match ex with
  | .norm => rec0 (T 0) (T 1) (T 5) (T 6) (T 7) H
  | ex => (kBlk 0 (kSeq (execI R lim n 110 (F57_Lp R lim n K) f57_p1) (retW [(.tmp 4)] K))) ex T H
theorem F57_s0_eq (R : Caller) (lim n : Nat) (K : AVal → Heap → Prop) (rec0 : AVal → AVal → AVal → AVal → AVal → Heap → Prop) (T : Tm) (H : Heap) : F57_s0 R lim n K rec0 (T 0) (T 1) (T 5) (T 6) (T 7) H = execI R lim n 110 (F57_Lp0 R lim n K rec0) f57_p0 T H (F57_k0 R lim n K rec0) := by kernel_rfl
theorem F57_l0_ok (R : Caller) (lim n : Nat) (K : AVal → Heap → Prop) {kw : Kt} (hk : ∀ ex T H, (kBlk 0 (kSeq (execI R lim n 110 (F57_Lp R lim n K) f57_p1) (retW [(.tmp 4)] K))) ex T H → kw ex T H) : ∀ (m : Nat) (T : Tm) (H : Heap), F57_l0 R lim n K m (T 0) (T 1) (T 5) (T 6) (T 7) H → loopW (execW R lim n 110 f57_p0) m T H kw
  | 0, _, _, h => False.elim h
  | m + 1, T, H, h => by
    have hb : ∀ ex T H, F57_k0 R lim n K (F57_l0 R lim n K m) ex T H → (fun ex T H => match ex with | .norm => loopW (execW R lim n 110 f57_p0) m T H kw | ex => kw ex T H : Kt) ex T H := by
      intro ex T H h
      cases ex with
      | norm => exact F57_l0_ok R lim n K hk m T H h
      | exit i => exact hk _ _ _ h
      | ret => exact hk _ _ _ h
    have h' : F57_s0 R lim n K (F57_l0 R lim n K m) (T 0) (T 1) (T 5) (T 6) (T 7) H := h
    rw [F57_s0_eq] at h'
    exact execI_sound f57_p0 T H _ _ (oblig_nl (by kernel_rfl)) hb h'
theorem F57_eq (R : Caller) (lim n : Nat) (K : AVal → Heap → Prop) (a0 a1 : AVal) (H : Heap) : F57 R lim n K a0 a1 H = execI R lim n 110 (F57_Lp R lim n K) f57.body (argT [a0, a1]) H (retW [(.tmp 4)] K) := by kernel_rfl
theorem F57_ob (R : Caller) (lim n : Nat) (K : AVal → Heap → Prop) : Oblig R lim n 110 (F57_Lp R lim n K) f57.body (retW [(.tmp 4)] K) := ⟨(oblig_nl (by kernel_rfl)), ⟨(oblig_nl (by kernel_rfl)), ⟨(oblig_nl (by kernel_rfl)), ⟨(oblig_nl (by kernel_rfl)), ⟨⟨(oblig_nl (by kernel_rfl)), (fun T H h => F57_l0_ok R lim n K (kBlk_mono (kSeqI_sound (oblig_nl (by kernel_rfl)) (fun _ _ _ h => h))) _ T H h)⟩, (oblig_nl (by kernel_rfl))⟩⟩⟩⟩⟩
theorem F57_run {ap : FuncId → Option AFn} (hf : ap 57 = some (.code f57)) {n lim : Nat} {K : AVal → Heap → Prop} {a0 a1 : AVal} {H : Heap} (h : F57 (Ahs.runT ap n) lim n K a0 a1 H) : ∃ v H', Ahs.runT ap (n + 1) lim (.fn 57) [a0, a1] H = some (v, H') ∧ K v H' := by
  rw [F57_eq] at h
  exact run_of_W hf (by kernel_rfl) (by kernel_rfl) (execI_sound f57.body _ _ _ _ (F57_ob _ _ _ K) (fun _ _ _ h => h) h)
def F79 (R : Caller) (lim n : Nat) (K : AVal → Heap → Prop) (a0 : AVal) (H : Heap) : Prop :=
bindP (eqvO false .ptr a0 (.ptr none)) fun v1 =>
bindP (gd (some (v1, false)) (some a0)) fun v2 =>
bindP (gd (some (v1, false)) (nilO v2)) fun v3 =>
bindP (gd (some (v1, false)) (faddrO 0 v3)) fun v4 =>
bindP (gd (some (v1, false)) (aload H none v4)) fun v5 =>
bindP (gd (some (v1, false)) (eqvO false .map v5 (.map none))) fun v6 =>
bindP (pickO v1 (.bool true) v6) fun v7 =>
K v7 H
def F79_Lp (R : Caller) (lim n : Nat) (K : AVal → Heap → Prop) : Nat → Tm → Heap → Prop
  | _, _, _ => False
theorem F79_eq (R : Caller) (lim n : Nat) (K : AVal → Heap → Prop) (a0 : AVal) (H : Heap) : F79 R lim n K a0 H = execI R lim n 12 (F79_Lp R lim n K) f79.body (argT [a0]) H (retW [(.tmp 2)] K) := by kernel_rfl
theorem F79_ob (R : Caller) (lim n : Nat) (K : AVal → Heap → Prop) : Oblig R lim n 12 (F79_Lp R lim n K) f79.body (retW [(.tmp 2)] K) := (oblig_nl (by kernel_rfl))
theorem F79_run {ap : FuncId → Option AFn} (hf : ap 79 = some (.code f79)) {n lim : Nat} {K : AVal → Heap → Prop} {a0 : AVal} {H : Heap} (h : F79 (Ahs.runT ap n) lim n K a0 H) : ∃ v H', Ahs.runT ap (n + 1) lim (.fn 79) [a0] H = some (v, H') ∧ K v H' := by
  rw [F79_eq] at h
  exact run_of_W hf (by kernel_rfl) (by kernel_rfl) (execI_sound f79.body _ _ _ _ (F79_ob _ _ _ K) (fun _ _ _ h => h) h)
def F80 (R : Caller) (lim n : Nat) (K : AVal → Heap → Prop) (a0 a1 a2 : AVal) (H : Heap) : Prop :=
bind2 (R lim (.fn 82) [a0] H) fun v1 H2 =>
bindP (abin .neq v1 (.int .i64 0)) fun v3 =>
bindP (boolOf v3) fun b4 =>
(b4 = true → (K v1 H2)) ∧
(b4 = false → (bindP (nilO a0) fun v5 =>
bindP (faddrO 0 v5) fun v6 =>
bindP (aload H2 none v6) fun v7 =>
bindP (alookup H2 false [.str] (.agg [(.sl none 0 (.ex 0)), (.int .i64 0), (.bool false), (.str [])]) true v7 a1) fun v8 =>
bindP (extO 0 v8) fun v9 =>
bindP (extO 1 v8) fun v10 =>
bindP (astore lim (H2.push (.cells ze3a7c2)) 4 (.ptr (some (H2.next, 0))) v9) fun H11 =>
bindP (aun .not v10) fun v12 =>
bindP (boolOf v12) fun b13 =>
(b13 = true → (K (.int .i64 4) H11)) ∧
(b13 = false → (bind2 (R lim (.fn 86) [a0] H11) fun v14 H15 =>
bindP (abin .neq v14 (.int .i64 0)) fun v16 =>
bindP (boolOf v16) fun b17 =>
(b17 = true → (K v14 H15)) ∧
(b17 = false → (bindP (aload H15 (some 4) (.ptr (some (H2.next, 0)))) fun v18 =>
bind2 (callvO R lim a2 [v18] H15) fun v19 H20 =>
K (.int .i64 0) H20))))))
def F80_Lp (R : Caller) (lim n : Nat) (K : AVal → Heap → Prop) : Nat → Tm → Heap → Prop
  | _, _, _ => False
theorem F80_eq (R : Caller) (lim n : Nat) (K : AVal → Heap → Prop) (a0 a1 a2 : AVal) (H : Heap) : F80 R lim n K a0 a1 a2 H = execI R lim n 35 (F80_Lp R lim n K) f80.body (argT [a0, a1, a2]) H (retW [(.tmp 6)] K) := by kernel_rfl
theorem F80_ob (R : Caller) (lim n : Nat) (K : AVal → Heap → Prop) : Oblig R lim n 35 (F80_Lp R lim n K) f80.body (retW [(.tmp 6)] K) := (oblig_nl (by kernel_rfl))
theorem F80_run {ap : FuncId → Option AFn} (hf : ap 80 = some (.code f80)) {n lim : Nat} {K : AVal → Heap → Prop} {a0 a1 a2 : AVal} {H : Heap} (h : F80 (Ahs.runT ap n) lim n K a0 a1 a2 H) : ∃ v H', Ahs.runT ap (n + 1) lim (.fn 80) [a0, a1, a2] H = some (v, H') ∧ K v H' := by
  rw [F80_eq] at h
  exact run_of_W hf (by kernel_rfl) (by kernel_rfl) (execI_sound f80.body _ _ _ _ (F80_ob _ _ _ K) (fun _ _ _ h => h) h)
def F81 (R : Caller) (lim n : Nat) (K : AVal → Heap → Prop) (a0 a1 a2 : AVal) (H : Heap) : Prop :=
bind2 (if (a0).cells.all (·.one) then some (.ptr (some (H.next, 0)), H.push (.cells (a0).cells)) else none) fun v1 H2 =>
bindP (faddrO 0 v1) fun v3 =>
bindP (aload H2 none v3) fun v4 =>
bindP (alen false v4) fun v5 =>
bindP (faddrO 1 v1) fun v6 =>
bindP (astore lim H2 1 v6 v5) fun H7 =>
bindP (aload H7 none a1) fun v8 =>
bindP (nilO v8) fun v9 =>
bindP (faddrO 0 v9) fun v10 =>
bindP (aload H7 none v10) fun v11 =>
bindP (aload H7 none a2) fun v12 =>
bindP (aload H7 (some 4) v1) fun v13 =>
bind2 ((amapUpdate lim H7 false [.str] v11 v12 v13).map fun H => (und, H)) fun _ H14 =>
K (.tup []) H14
def F81_Lp (R : Caller) (lim n : Nat) (K : AVal → Heap → Prop) : Nat → Tm → Heap → Prop
  | _, _, _ => False
theorem F81_eq (R : Caller) (lim n : Nat) (K : AVal → Heap → Prop) (a0 a1 a2 : AVal) (H : Heap) : F81 R lim n K a0 a1 a2 H = execI R lim n 14 (F81_Lp R lim n K) f81.body (argT [a0, a1, a2]) H (retW [] K) := by kernel_rfl
theorem F81_ob (R : Caller) (lim n : Nat) (K : AVal → Heap → Prop) : Oblig R lim n 14 (F81_Lp R lim n K) f81.body (retW [] K) := (oblig_nl (by kernel_rfl))
theorem F81_run {ap : FuncId → Option AFn} (hf : ap 81 = some (.code f81)) {n lim : Nat} {K : AVal → Heap → Prop} {a0 a1 a2 : AVal} {H : Heap} (h : F81 (Ahs.runT ap n) lim n K a0 a1 a2 H) : ∃ v H', Ahs.runT ap (n + 1) lim (.fn 81) [a0, a1, a2] H = some (v, H') ∧ K v H' := by
  rw [F81_eq] at h
  exact run_of_W hf (by kernel_rfl) (by kernel_rfl) (execI_sound f81.body _ _ _ _ (F81_ob _ _ _ K) (fun _ _ _ h => h) h)
def F82 (R : Caller) (lim n : Nat) (K : AVal → Heap → Prop) (a0 : AVal) (H : Heap) : Prop :=
bind2 (R lim (.fn 79) [a0] H) fun v1 H2 =>
bindP (boolOf v1) fun b3 =>
(b3 = true → (K (.int .i64 2) H2)) ∧
(b3 = false → (bindP (nilO a0) fun v4 =>
bindP (faddrO 1 v4) fun v5 =>
bindP (aload H2 none v5) fun v6 =>
bindP (boolOf v6) fun b7 =>
(b7 = true → (K (.int .i64 7) H2)) ∧
(b7 = false → (K (.int .i64 0) H2))))
def F82_Lp (R : Caller) (lim n : Nat) (K : AVal → Heap → Prop) : Nat → Tm → Heap → Prop
  | _, _, _ => False
theorem F82_eq (R : Caller) (lim n : Nat) (K : AVal → Heap → Prop) (a0 : AVal) (H : Heap) : F82 R lim n K a0 H = execI R lim n 11 (F82_Lp R lim n K) f82.body (argT [a0]) H (retW [(.tmp 2)] K) := by kernel_rfl
theorem F82_ob (R : Caller) (lim n : Nat) (K : AVal → Heap → Prop) : Oblig R lim n 11 (F82_Lp R lim n K) f82.body (retW [(.tmp 2)] K) := (oblig_nl (by kernel_rfl))
theorem F82_run {ap : FuncId → Option AFn} (hf : ap 82 = some (.code f82)) {n lim : Nat} {K : AVal → Heap → Prop} {a0 : AVal} {H : Heap} (h : F82 (Ahs.runT ap n) lim n K a0 H) : ∃ v H', Ahs.runT ap (n + 1) lim (.fn 82) [a0] H = some (v, H') ∧ K v H' := by
  rw [F82_eq] at h
  exact run_of_W hf (by kernel_rfl) (by kernel_rfl) (execI_sound f82.body _ _ _ _ (F82_ob _ _ _ K) (fun _ _ _ h => h) h)
def F83_j0 (R : Caller) (lim n : Nat) (K : AVal → Heap → Prop) (t8 : AVal) (H : Heap) : Prop :=
bind2 (R lim (.fn 107) [t8] H) fun v72 H73 =>
K v72 H73
def F83_s3 (R : Caller) (lim n : Nat) (K : AVal → Heap → Prop) (rec3 : AVal → AVal → AVal → AVal → AVal → Heap → Prop) (t1 t8 t63 t64 t65 : AVal) (H : Heap) : Prop :=
bindP (abin .lss t65 t64) fun v74 =>
bindP (boolOf v74) fun b75 =>
(b75 = true → (bindP (aindexAddr none 1 t63 t65) fun v76 =>
bindP (aload H none v76) fun v77 =>
bind2 (R lim (.fn 106) [t8, t1] H) fun v78 H79 =>
bind2 (R lim (.fn 106) [t8, v77] H79) fun v80 H81 =>
bindP (abin .add t65 (.int .i64 1)) fun v82 =>
rec3 t1 t8 t63 t64 v82 H81)) ∧
(b75 = false → (F83_j0 R lim n K t8 H))
def F83_l3 (R : Caller) (lim n : Nat) (K : AVal → Heap → Prop) : Nat → AVal → AVal → AVal → AVal → AVal → Heap → Prop
  | 0, _, _, _, _, _, _ => False
  | m + 1, t1, t8, t63, t64, t65, H => F83_s3 R lim n K (F83_l3 R lim n K m) t1 t8 t63 t64 t65 H
def F83_j1 (R : Caller) (lim n : Nat) (K : AVal → Heap → Prop) (t0 t1 t5 : AVal) (H : Heap) : Prop :=
bind2 (R lim (.fn 105) [(.ptr (some (H.next, 0))), t5] (H.push (.cells z052929))) fun v53 H54 =>
bindP (aindexAddr none 1 t0 (.int .i64 0)) fun v55 =>
bindP (aload H54 none v55) fun v56 =>
bind2 (R lim (.fn 106) [(.ptr (some (H.next, 0))), v56] H54) fun v57 H58 =>
bindP (aslice 1 t0 (some (.int .i64 1)) none none) fun v59 =>
bindP (alen false v59) fun v60 =>
F83_l3 R lim n K n t1 (.ptr (some (H.next, 0))) v59 v60 (.int .i64 0) H58
def F83_j2 (R : Caller) (lim n : Nat) (K : AVal → Heap → Prop) (rec1 : AVal → AVal → AVal → AVal → AVal → AVal → Heap → Prop) (t0 t1 t5 t7 t39 t40 t41 : AVal) (H : Heap) : Prop :=
bindP (alen true t7) fun v90 =>
bindP (abin .add t5 v90) fun v91 =>
bindP (abin .add t41 (.int .i64 1)) fun v92 =>
rec1 t0 t1 v91 t39 t40 v92 H
def F83_s1 (R : Caller) (lim n : Nat) (K : AVal → Heap → Prop) (rec1 : AVal → AVal → AVal → AVal → AVal → AVal → Heap → Prop) (t0 t1 t5 t39 t40 t41 : AVal) (H : Heap) : Prop :=
bindP (abin .lss t41 t40) fun v83 =>
bindP (boolOf v83) fun b84 =>
(b84 = true → (bindP (aindexAddr none 1 t39 t41) fun v85 =>
bindP (aload H none v85) fun v86 =>
bindP (alen true v86) fun v87 =>
bindP (abin .sub (.int .i64 9223372036854775807) t5) fun v88 =>
bindP (abin .gtr v87 v88) fun v89 =>
bindP (boolOf v89) fun b93 =>
(b93 = true → (bindP (some (AVal.iface 9 (.str [115, 116, 114, 105, 110, 103, 115, 58, 32, 74, 111, 105, 110, 32, 111, 117, 116, 112, 117, 116, 32, 108, 101, 110, 103, 116, 104, 32, 111, 118, 101, 114, 102, 108, 111, 119]))) fun v94 =>
bindP ((none : Option AVal)) fun _ =>
F83_j2 R lim n K rec1 t0 t1 t5 v86 t39 t40 t41 H)) ∧
(b93 = false → (F83_j2 R lim n K rec1 t0 t1 t5 v86 t39 t40 t41 H)))) ∧
(b84 = false → (F83_j1 R lim n K t0 t1 t5 H))
def F83_l1 (R : Caller) (lim n : Nat) (K : AVal → Heap → Prop) : Nat → AVal → AVal → AVal → AVal → AVal → AVal → Heap → Prop
  | 0, _, _, _, _, _, _, _ => False
  | m + 1, t0, t1, t5, t39, t40, t41, H => F83_s1 R lim n K (F83_l1 R lim n K m) t0 t1 t5 t39 t40 t41 H
def F83_j3 (R : Caller) (lim n : Nat) (K : AVal → Heap → Prop) (t0 t1 t5 : AVal) (H : Heap) : Prop :=
bindP (alen false t0) fun v10 =>
F83_l1 R lim n K n t0 t1 t5 t0 v10 (.int .i64 0) H
def F83_j4 (R : Caller) (lim n : Nat) (K : AVal → Heap → Prop) (t0 t1 t5 : AVal) (H : Heap) : Prop :=
bindP (alen true t1) fun v101 =>
bindP (alen false t0) fun v102 =>
bindP (abin .sub v102 (.int .i64 1)) fun v103 =>
bindP (abin .mul v101 v103) fun v104 =>
bindP (abin .add t5 v104) fun v105 =>
F83_j3 R lim n K t0 t1 v105 H
def F83 (R : Caller) (lim n : Nat) (K : AVal → Heap → Prop) (a0 a1 : AVal) (H : Heap) : Prop :=
bindP (alen false a0) fun v1 =>
bindP (abin .eql v1 (.int .i64 0)) fun v2 =>
bindP (boolOf v2) fun b3 =>
(b3 = true → (K (.str []) H)) ∧
(b3 = false → (bindP (abin .eql v1 (.int .i64 1)) fun v4 =>
bindP (boolOf v4) fun b5 =>
(b5 = true → (bindP (aindexAddr none 1 a0 (.int .i64 0)) fun v6 =>
bindP (aload H none v6) fun v7 =>
K v7 H)) ∧
(b5 = false → (bindP (alen true a1) fun v8 =>
bindP (abin .gtr v8 (.int .i64 0)) fun v9 =>
bindP (boolOf v9) fun b95 =>
(b95 = true → (bindP (alen true a1) fun v96 =>
bindP (alen false a0) fun v97 =>
bindP (abin .sub v97 (.int .i64 1)) fun v98 =>
bindP (abin .quo (.int .i64 9223372036854775807) v98) fun v99 =>
bindP (abin .geq v96 v99) fun v100 =>
bindP (boolOf v100) fun b106 =>
(b106 = true → (bindP (some (AVal.iface 9 (.str [115, 116, 114, 105, 110, 103, 115, 58, 32, 74, 111, 105, 110, 32, 111, 117, 116, 112, 117, 116, 32, 108, 101, 110, 103, 116, 104, 32, 111, 118, 101, 114, 102, 108, 111, 119]))) fun v107 =>
bindP ((none : Option AVal)) fun _ =>
F83_j4 R lim n K a0 a1 (.int .i64 0) H)) ∧
(b106 = false → (F83_j4 R lim n K a0 a1 (.int .i64 0) H)))) ∧
(b95 = false → (F83_j3 R lim n K a0 a1 (.int .i64 0) H))))))
def F83_Lp (R : Caller) (lim n : Nat) (K : AVal → Heap → Prop) : Nat → Tm → Heap → Prop
  | 1, T, H => F83_l1 R lim n K n (T 0) (T 1) (T 5) (T 39) (T 40) (T 41) H
  | 3, T, H => F83_l3 R lim n K n (T 1) (T 8) (T 63) (T 64) (T 65) H
  | _, _, _ => False
def F83_Lp1 (R : Caller) (lim n : Nat) (K : AVal → Heap → Prop) (rec1 : AVal → AVal → AVal → AVal → AVal → AVal → Heap → Prop) : Nat → Tm → Heap → Prop
  | _, _, _ => False
def F83_Lp3 (R : Caller) (lim n : Nat) (K : AVal → Heap → Prop) (rec3 : AVal → AVal → AVal → AVal → AVal → Heap → Prop) : Nat → Tm → Heap → Prop
  | _, _, _ => False
def F83_k3 (R : Caller) (lim n : Nat) (K : AVal → Heap → Prop) (rec3 : AVal → AVal → AVal → AVal → AVal → Heap → Prop) : Kt := fun ex T H => match ex with
  | .norm => rec3 (T 1) (T 8) (T 63) (T 64) (T 65) H
  | ex => (kBlk 3 (kSeq (execI R lim n 75 (F83_Lp R lim n K) f83_p1) (retW [(.tmp 4)] K))) ex T H
theorem F83_s3_eq (R : Caller) (lim n : Nat) (K : AVal → Heap → Prop) (rec3 : AVal → AVal → AVal → AVal → AVal → Heap → Prop) (T : Tm) (H : Heap) : F83_s3 R lim n K rec3 (T 1) (T 8) (T 63) (T 64) (T 65) H = execI R lim n 75 (F83_Lp3 R lim n K rec3) f83_p0 T H (F83_k3 R lim n K rec3) := by kernel_rfl
theorem F83_l3_ok (R : Caller) (lim n : Nat) (K : AVal → Heap → Prop) {kw : Kt} (hk : ∀ ex T H, (kBlk 3 (kSeq (execI R lim n 75 (F83_Lp R lim n K) f83_p1) (retW [(.tmp 4)] K))) ex T H → kw ex T H) : ∀ (m : Nat) (T : Tm) (H : Heap), F83_l3 R lim n K m (T 1) (T 8) (T 63) (T 64) (T 65) H → loopW (execW R lim n 75 f83_p0) m T H kw
  | 0, _, _, h => False.elim h
  | m + 1, T, H, h => by
    have hb : ∀ ex T H, F83_k3 R lim n K (F83_l3 R lim n K m) ex T H → (fun ex T H => match ex with | .norm => loopW (execW R lim n 75 f83_p0) m T H kw | ex => kw ex T H : Kt) ex T H := by
      intro ex T H h
      cases ex with
      | norm => exact F83_l3_ok R lim n K hk m T H h
      | exit i => exact hk _ _ _ h
      | ret => exact hk _ _ _ h
    have h' : F83_s3 R lim n K (F83_l3 R lim n K m) (T 1) (T 8) (T 63) (T 64) (T 65) H := h
    rw [F83_s3_eq] at h'
    exact execI_sound f83_p0 T H _ _ (oblig_nl (by kernel_rfl)) hb h'
def F83_k1 (R : Caller) (lim n : Nat) (K : AVal → Heap → Prop) (rec1 : AVal → AVal → AVal → AVal → AVal → AVal → Heap → Prop) : Kt := fun ex T H => match ex with
  | .norm => rec1 (T 0) (T 1) (T 5) (T 39) (T 40) (T 41) H
  | ex => (kBlk 1 (kSeq (execI R lim n 75 (F83_Lp R lim n K) f83_p3) (retW [(.tmp 4)] K))) ex T H
theorem F83_s1_eq (R : Caller) (lim n : Nat) (K : AVal → Heap → Prop) (rec1 : AVal → AVal → AVal → AVal → AVal → AVal → Heap → Prop) (T : Tm) (H : Heap) : F83_s1 R lim n K rec1 (T 0) (T 1) (T 5) (T 39) (T 40) (T 41) H = execI R lim n 75 (F83_Lp1 R lim n K rec1) f83_p2 T H (F83_k1 R lim n K rec1) := by kernel_rfl
theorem F83_l1_ok (R : Caller) (lim n : Nat) (K : AVal → Heap → Prop) {kw : Kt} (hk : ∀ ex T H, (kBlk 1 (kSeq (execI R lim n 75 (F83_Lp R lim n K) f83_p3) (retW [(.tmp 4)] K))) ex T H → kw ex T H) : ∀ (m : Nat) (T : Tm) (H : Heap), F83_l1 R lim n K m (T 0) (T 1) (T 5) (T 39) (T 40) (T 41) H → loopW (execW R lim n 75 f83_p2) m T H kw
  | 0, _, _, h => False.elim h
  | m + 1, T, H, h => by
    have hb : ∀ ex T H, F83_k1 R lim n K (F83_l1 R lim n K m) ex T H → (fun ex T H => match ex with | .norm => loopW (execW R lim n 75 f83_p2) m T H kw | ex => kw ex T H : Kt) ex T H := by
      intro ex T H h
      cases ex with
      | norm => exact F83_l1_ok R lim n K hk m T H h
      | exit i => exact hk _ _ _ h
      | ret => exact hk _ _ _ h
    have h' : F83_s1 R lim n K (F83_l1 R lim n K m) (T 0) (T 1) (T 5) (T 39) (T 40) (T 41) H := h
    rw [F83_s1_eq] at h'
    exact execI_sound f83_p2 T H _ _ (oblig_nl (by kernel_rfl)) hb h'
theorem F83_eq (R : Caller) (lim n : Nat) (K : AVal → Heap → Prop) (a0 a1 : AVal) (H : Heap) : F83 R lim n K a0 a1 H = execI R lim n 75 (F83_Lp R lim n K) f83.body (argT [a0, a1]) H (retW [(.tmp 4)] K) := by kernel_rfl
theorem F83_ob (R : Caller) (lim n : Nat) (K : AVal → Heap → Prop) : Oblig R lim n 75 (F83_Lp R lim n K) f83.body (retW [(.tmp 4)] K) := ⟨(oblig_nl (by kernel_rfl)), ⟨(oblig_nl (by kernel_rfl)), ⟨(oblig_nl (by kernel_rfl)), ⟨(oblig_nl (by kernel_rfl)), ⟨⟨(oblig_nl (by kernel_rfl)), (fun T H h => F83_l1_ok R lim n K (kBlk_mono (kSeqI_sound ⟨(oblig_nl (by kernel_rfl)), ⟨(oblig_nl (by kernel_rfl)), ⟨(oblig_nl (by kernel_rfl)), ⟨⟨(oblig_nl (by kernel_rfl)), (fun T H h => F83_l3_ok R lim n K (kBlk_mono (kSeqI_sound (oblig_nl (by kernel_rfl)) (fun _ _ _ h => h))) _ T H h)⟩, (oblig_nl (by kernel_rfl))⟩⟩⟩⟩ (fun _ _ _ h => h))) _ T H h)⟩, ⟨(oblig_nl (by kernel_rfl)), ⟨(oblig_nl (by kernel_rfl)), ⟨(oblig_nl (by kernel_rfl)), ⟨⟨(oblig_nl (by kernel_rfl)), (fun T H h => F83_l3_ok R lim n K (kBlk_mono (kSeqI_sound (oblig_nl (by kernel_rfl)) (fun _ _ _ h => h))) _ T H h)⟩, (oblig_nl (by kernel_rfl))⟩⟩⟩⟩⟩⟩⟩⟩⟩
theorem F83_run {ap : FuncId → Option AFn} (hf : ap 83 = some (.code f83)) {n lim : Nat} {K : AVal → Heap → Prop} {a0 a1 : AVal} {H : Heap} (h : F83 (Ahs.runT ap n) lim n K a0 a1 H) : ∃ v H', Ahs.runT ap (n + 1) lim (.fn 83) [a0, a1] H = some (v, H') ∧ K v H' := by
  rw [F83_eq] at h
  exact run_of_W hf (by kernel_rfl) (by kernel_rfl) (execI_sound f83.body _ _ _ _ (F83_ob _ _ _ K) (fun _ _ _ h => h) h)
def F84_j0 (R : Caller) (lim n : Nat) (K : AVal → Heap → Prop) (t3 t6 t8 : AVal) (H : Heap) : Prop :=
bindP (faddrO 0 t3) fun v32 =>
bindP (aload H none v32) fun v33 =>
bindP (aslice 1 v33 none (some t8) none) fun v34 =>
bind2 (R lim (.fn 87) [v34] H) fun v35 H36 =>
bindP (faddrO 0 t3) fun v37 =>
bindP (astore lim H36 1 v37 v35) fun H38 =>
bindP (faddrO 1 t3) fun v39 =>
bindP (astore lim H38 1 v39 t8) fun H40 =>
bindP (aload H40 (some 4) t3) fun v41 =>
bindP (astore lim H40 4 t6 v41) fun H42 =>
bindP (aload H42 (some 4) t6) fun v43 =>
K v43 H42
def F84_j1 (R : Caller) (lim n : Nat) (K : AVal → Heap → Prop) (t3 t6 t8 t9 t10 : AVal) (H : Heap) : Prop :=
bindP (asliceStr t9 none (some t10)) fun v56 =>
bindP (faddrO 3 t3) fun v57 =>
bindP (astore lim H 1 v57 v56) fun H58 =>
F84_j0 R lim n K t3 t6 t8 H58
def F84_j2 (R : Caller) (lim n : Nat) (K : AVal → Heap → Prop) (t2 t3 t4 t6 t7 : AVal) (H : Heap) : Prop :=
bindP (faddrO 1 t3) fun v9 =>
bindP (aload H none v9) fun v10 =>
bindP (abin .add v10 t7) fun v11 =>
bindP (faddrO 2 t3) fun v12 =>
bindP (aload H none v12) fun v13 =>
bindP (gd (some (v13, false)) (some v11)) fun v14 =>
bindP (gd (some (v13, false)) (faddrO 0 t3)) fun v15 =>
bindP (gd (some (v13, false)) (aload H none v15)) fun v16 =>
bindP (gd (some (v13, false)) (alen false v16)) fun v17 =>
bindP (gd (some (v13, false)) (abin .lss v14 v17)) fun v18 =>
bindP (pickO v13 (.bool true) v18) fun v19 =>
bindP (faddrO 2 t3) fun v20 =>
bindP (astore lim H 1 v20 v19) fun H21 =>
bindP (faddrO 0 t3) fun v22 =>
bindP (aload H21 none v22) fun v23 =>
bindP (alen false v23) fun v24 =>
bindP (abin .lss v11 v24) fun v25 =>
bindP (gd (some (v25, true)) (some t2)) fun v26 =>
bindP (gd (some (v25, true)) (faddrO 1 t4)) fun v27 =>
bindP (gd (some (v25, true)) (aload H21 none v27)) fun v28 =>
bindP (gd (some (v25, true)) (alen false v28)) fun v29 =>
bindP (gd (some (v25, true)) (abin .lss v26 v29)) fun v30 =>
bindP (pickO v25 v30 (.bool false)) fun v31 =>
bindP (boolOf v31) fun b44 =>
(b44 = true → (bindP (faddrO 0 t3) fun v45 =>
bindP (aload H21 none v45) fun v46 =>
bindP (aindexAddr none 1 v46 v11) fun v47 =>
bindP (aload H21 none v47) fun v48 =>
bindP (faddrO 1 t4) fun v49 =>
bindP (aload H21 none v49) fun v50 =>
bindP (aindexAddr none 1 v50 t2) fun v51 =>
bindP (aload H21 none v51) fun v52 =>
bindP (alen true v48) fun v53 =>
bindP (abin .rem v52 v53) fun v54 =>
bindP (abin .lss v54 (.int .i64 0)) fun v55 =>
bindP (boolOf v55) fun b59 =>
(b59 = true → (bindP (alen true v48) fun v60 =>
bindP (abin .add v54 v60) fun v61 =>
F84_j1 R lim n K t3 t6 v11 v48 v61 H21)) ∧
(b59 = false → (F84_j1 R lim n K t3 t6 v11 v48 v54 H21)))) ∧
(b44 = false → (F84_j0 R lim n K t3 t6 v11 H21))
def F84 (R : Caller) (lim n : Nat) (K : AVal → Heap → Prop) (a0 a1 a2 : AVal) (H : Heap) : Prop :=
bind2 (if (a0).cells.all (·.one) then some (.ptr (some (H.next, 0)), H.push (.cells (a0).cells)) else none) fun v1 H2 =>
bind2 (if (a1).cells.all (·.one) then some (.ptr (some (H2.next, 0)), H2.push (.cells (a1).cells)) else none) fun v3 H4 =>
bindP (faddrO 0 v3) fun v5 =>
bindP (aload (H4.push (.cells ze3a7c2)) none v5) fun v6 =>
bindP (alen false v6) fun v7 =>
bindP (abin .lss a2 v7) fun v8 =>
bindP (boolOf v8) fun b62 =>
(b62 = true → (bindP (faddrO 0 v3) fun v63 =>
bindP (aload (H4.push (.cells ze3a7c2)) none v63) fun v64 =>
bindP (aindexAddr none 1 v64 a2) fun v65 =>
bindP (aload (H4.push (.cells ze3a7c2)) none v65) fun v66 =>
bindP (aminmax true [v66, (.int .i64 0)]) fun v67 =>
bindP (faddrO 0 v1) fun v68 =>
bindP (aload (H4.push (.cells ze3a7c2)) none v68) fun v69 =>
bindP (alen false v69) fun v70 =>
bindP (faddrO 1 v1) fun v71 =>
bindP (aload (H4.push (.cells ze3a7c2)) none v71) fun v72 =>
bindP (abin .sub v70 v72) fun v73 =>
bindP (aminmax false [v67, v73]) fun v74 =>
F84_j2 R lim n K a2 v1 v3 (.ptr (some (H4.next, 0))) v74 (H4.push (.cells ze3a7c2)))) ∧
(b62 = false → (F84_j2 R lim n K a2 v1 v3 (.ptr (some (H4.next, 0))) (.int .i64 0) (H4.push (.cells ze3a7c2))))
def F84_Lp (R : Caller) (lim n : Nat) (K : AVal → Heap → Prop) : Nat → Tm → Heap → Prop
  | _, _, _ => False
theorem F84_eq (R : Caller) (lim n : Nat) (K : AVal → Heap → Prop) (a0 a1 a2 : AVal) (H : Heap) : F84 R lim n K a0 a1 a2 H = execI R lim n 87 (F84_Lp R lim n K) f84.body (argT [a0, a1, a2]) H (retW [(.cell 6 (some 4))] K) := by kernel_rfl
theorem F84_ob (R : Caller) (lim n : Nat) (K : AVal → Heap → Prop) : Oblig R lim n 87 (F84_Lp R lim n K) f84.body (retW [(.cell 6 (some 4))] K) := (oblig_nl (by kernel_rfl))
theorem F84_run {ap : FuncId → Option AFn} (hf : ap 84 = some (.code f84)) {n lim : Nat} {K : AVal → Heap → Prop} {a0 a1 a2 : AVal} {H : Heap} (h : F84 (Ahs.runT ap n) lim n K a0 a1 a2 H) : ∃ v H', Ahs.runT ap (n + 1) lim (.fn 84) [a0, a1, a2] H = some (v, H') ∧ K v H' := by
  rw [F84_eq] at h
  exact run_of_W hf (by kernel_rfl) (by kernel_rfl) (execI_sound f84.body _ _ _ _ (F84_ob _ _ _ K) (fun _ _ _ h => h) h)
def F85 (R : Caller) (lim n : Nat) (K : AVal → Heap → Prop) (a0 : AVal) (H : Heap) : Prop :=
bindP (abin .neq a0 (.str [])) fun v1 =>
bindP (gd (some (v1, true)) (some a0)) fun v2 =>
bindP (gd (some (v1, true)) (alen true v2)) fun v3 =>
bindP (gd (some (v1, true)) (abin .leq v3 (.int .i64 32))) fun v4 =>
bindP (pickO v1 v4 (.bool false)) fun v5 =>
K v5 H
def F85_Lp (R : Caller) (lim n : Nat) (K : AVal → Heap → Prop) : Nat → Tm → Heap → Prop
  | _, _, _ => False
theorem F85_eq (R : Caller) (lim n : Nat) (K : AVal → Heap → Prop) (a0 : AVal) (H : Heap) : F85 R lim n K a0 H = execI R lim n 10 (F85_Lp R lim n K) f85.body (argT [a0]) H (retW [(.tmp 2)] K) := by kernel_rfl
theorem F85_ob (R : Caller) (lim n : Nat) (K : AVal → Heap → Prop) : Oblig R lim n 10 (F85_Lp R lim n K) f85.body (retW [(.tmp 2)] K) := (oblig_nl (by kernel_rfl))
theorem F85_run {ap : FuncId → Option AFn} (hf : ap 85 = some (.code f85)) {n lim : Nat} {K : AVal → Heap → Prop} {a0 : AVal} {H : Heap} (h : F85 (Ahs.runT ap n) lim n K a0 H) : ∃ v H', Ahs.runT ap (n + 1) lim (.fn 85) [a0] H = some (v, H') ∧ K v H' := by
  rw [F85_eq] at h
  exact run_of_W hf (by kernel_rfl) (by kernel_rfl) (execI_sound f85.body _ _ _ _ (F85_ob _ _ _ K) (fun _ _ _ h => h) h)
def F86_j0 (R : Caller) (lim n : Nat) (K : AVal → Heap → Prop) (t0 : AVal) (H : Heap) : Prop :=
bind2 (R lim (.fn 82) [t0] H) fun v5 H6 =>
K v5 H6
def F86 (R : Caller) (lim n : Nat) (K : AVal → Heap → Prop) (a0 : AVal) (H : Heap) : Prop :=
bindP (nilO a0) fun v1 =>
bindP (faddrO 2 v1) fun v2 =>
bindP (aload H none v2) fun v3 =>
bindP (abin .gtr v3 (.int .i64 0)) fun v4 =>
bindP (boolOf v4) fun b7 =>
(b7 = true → (bindP (nilO a0) fun v8 =>
bindP (faddrO 2 v8) fun v9 =>
bindP (aload H none v9) fun v10 =>
bindP (abin .sub v10 (.int .i64 1)) fun v11 =>
bindP (nilO a0) fun v12 =>
bindP (faddrO 2 v12) fun v13 =>
bindP (astore lim H 1 v13 v11) fun H14 =>
bindP (nilO a0) fun v15 =>
bindP (faddrO 2 v15) fun v16 =>
bindP (aload H14 none v16) fun v17 =>
bindP (abin .eql v17 (.int .i64 0)) fun v18 =>
bindP (nilO a0) fun v19 =>
bindP (faddrO 1 v19) fun v20 =>
bindP (astore lim H14 1 v20 v18) fun H21 =>
F86_j0 R lim n K a0 H21)) ∧
(b7 = false → (F86_j0 R lim n K a0 H))
def F86_Lp (R : Caller) (lim n : Nat) (K : AVal → Heap → Prop) : Nat → Tm → Heap → Prop
  | _, _, _ => False
theorem F86_eq (R : Caller) (lim n : Nat) (K : AVal → Heap → Prop) (a0 : AVal) (H : Heap) : F86 R lim n K a0 H = execI R lim n 25 (F86_Lp R lim n K) f86.body (argT [a0]) H (retW [(.tmp 2)] K) := by kernel_rfl
theorem F86_ob (R : Caller) (lim n : Nat) (K : AVal → Heap → Prop) : Oblig R lim n 25 (F86_Lp R lim n K) f86.body (retW [(.tmp 2)] K) := (oblig_nl (by kernel_rfl))
theorem F86_run {ap : FuncId → Option AFn} (hf : ap 86 = some (.code f86)) {n lim : Nat} {K : AVal → Heap → Prop} {a0 : AVal} {H : Heap} (h : F86 (Ahs.runT ap n) lim n K a0 H) : ∃ v H', Ahs.runT ap (n + 1) lim (.fn 86) [a0] H = some (v, H') ∧ K v H' := by
  rw [F86_eq] at h
  exact run_of_W hf (by kernel_rfl) (by kernel_rfl) (execI_sound f86.body _ _ _ _ (F86_ob _ _ _ K) (fun _ _ _ h => h) h)
def F87 (R : Caller) (lim n : Nat) (K : AVal → Heap → Prop) (a0 : AVal) (H : Heap) : Prop :=
bindP (alen false a0) fun v1 =>
bindP (alen false a0) fun v2 =>
bindP (aslice 1 a0 none (some v1) (some v2)) fun v3 =>
K v3 H
def F87_Lp (R : Caller) (lim n : Nat) (K : AVal → Heap → Prop) : Nat → Tm → Heap → Prop
  | _, _, _ => False
theorem F87_eq (R : Caller) (lim n : Nat) (K : AVal → Heap → Prop) (a0 : AVal) (H : Heap) : F87 R lim n K a0 H = execI R lim n 9 (F87_Lp R lim n K) f87.body (argT [a0]) H (retW [(.tmp 2)] K) := by kernel_rfl
theorem F87_ob (R : Caller) (lim n : Nat) (K : AVal → Heap → Prop) : Oblig R lim n 9 (F87_Lp R lim n K) f87.body (retW [(.tmp 2)] K) := (oblig_nl (by kernel_rfl))
theorem F87_run {ap : FuncId → Option AFn} (hf : ap 87 = some (.code f87)) {n lim : Nat} {K : AVal → Heap → Prop} {a0 : AVal} {H : Heap} (h : F87 (Ahs.runT ap n) lim n K a0 H) : ∃ v H', Ahs.runT ap (n + 1) lim (.fn 87) [a0] H = some (v, H') ∧ K v H' := by
  rw [F87_eq] at h
  exact run_of_W hf (by kernel_rfl) (by kernel_rfl) (execI_sound f87.body _ _ _ _ (F87_ob _ _ _ K) (fun _ _ _ h => h) h)
def F88 (R : Caller) (lim n : Nat) (K : AVal → Heap → Prop) (a0 a1 a2 a3 : AVal) (H : Heap) : Prop :=
bind2 (if (a0).cells.all (·.one) then some (.ptr (some (H.next, 0)), H.push (.cells (a0).cells)) else none) fun v1 H2 =>
bindP (aload H2 none a1) fun v3 =>
bindP (nilO v3) fun v4 =>
bindP (faddrO 0 v4) fun v5 =>
bindP (aload H2 none v5) fun v6 =>
bindP (aload H2 none a2) fun v7 =>
bind2 ((amapDelete lim H2 false [.str] v6 v7).map fun H => (und, H)) fun _ H8 =>
bindP (aload H8 none a1) fun v9 =>
bindP (nilO v9) fun v10 =>
bindP (faddrO 0 v10) fun v11 =>
bindP (aload H8 none v11) fun v12 =>
bindP (aload H8 none a3) fun v13 =>
bindP (aload H8 (some 4) v1) fun v14 =>
bind2 ((amapUpdate lim H8 false [.str] v12 v13 v14).map fun H => (und, H)) fun _ H15 =>
K (.tup []) H15
def F88_Lp (R : Caller) (lim n : Nat) (K : AVal → Heap → Prop) : Nat → Tm → Heap → Prop
  | _, _, _ => False
theorem F88_eq (R : Caller) (lim n : Nat) (K : AVal → Heap → Prop) (a0 a1 a2 a3 : AVal) (H : Heap) : F88 R lim n K a0 a1 a2 a3 H = execI R lim n 16 (F88_Lp R lim n K) f88.body (argT [a0, a1, a2, a3]) H (retW [] K) := by kernel_rfl
theorem F88_ob (R : Caller) (lim n : Nat) (K : AVal → Heap → Prop) : Oblig R lim n 16 (F88_Lp R lim n K) f88.body (retW [] K) := (oblig_nl (by kernel_rfl))
theorem F88_run {ap : FuncId → Option AFn} (hf : ap 88 = some (.code f88)) {n lim : Nat} {K : AVal → Heap → Prop} {a0 a1 a2 a3 : AVal} {H : Heap} (h : F88 (Ahs.runT ap n) lim n K a0 a1 a2 a3 H) : ∃ v H', Ahs.runT ap (n + 1) lim (.fn 88) [a0, a1, a2, a3] H = some (v, H') ∧ K v H' := by
  rw [F88_eq] at h
  exact run_of_W hf (by kernel_rfl) (by kernel_rfl) (execI_sound f88.body _ _ _ _ (F88_ob _ _ _ K) (fun _ _ _ h => h) h)
def F89 (R : Caller) (lim n : Nat) (K : AVal → Heap → Prop) (a0 a1 a2 : AVal) (H : Heap) : Prop :=
bind2 (if (a0).cells.all (·.one) then some (.ptr (some (H.next, 0)), H.push (.cells (a0).cells)) else none) fun v1 H2 =>
bindP (aload H2 none a1) fun v3 =>
bindP (nilO v3) fun v4 =>
bindP (faddrO 0 v4) fun v5 =>
bindP (aload H2 none v5) fun v6 =>
bindP (aload H2 none a2) fun v7 =>
bind2 ((amapDelete lim H2 false [.str] v6 v7).map fun H => (und, H)) fun _ H8 =>
K (.tup []) H8
def F89_Lp (R : Caller) (lim n : Nat) (K : AVal → Heap → Prop) : Nat → Tm → Heap → Prop
  | _, _, _ => False
theorem F89_eq (R : Caller) (lim n : Nat) (K : AVal → Heap → Prop) (a0 a1 a2 : AVal) (H : Heap) : F89 R lim n K a0 a1 a2 H = execI R lim n 9 (F89_Lp R lim n K) f89.body (argT [a0, a1, a2]) H (retW [] K) := by kernel_rfl
theorem F89_ob (R : Caller) (lim n : Nat) (K : AVal → Heap → Prop) : Oblig R lim n 9 (F89_Lp R lim n K) f89.body (retW [] K) := (oblig_nl (by kernel_rfl))
theorem F89_run {ap : FuncId → Option AFn} (hf : ap 89 = some (.code f89)) {n lim : Nat} {K : AVal → Heap → Prop} {a0 a1 a2 : AVal} {H : Heap} (h : F89 (Ahs.runT ap n) lim n K a0 a1 a2 H) : ∃ v H', Ahs.runT ap (n + 1) lim (.fn 89) [a0, a1, a2] H = some (v, H') ∧ K v H' := by
  rw [F89_eq] at h
  exact run_of_W hf (by kernel_rfl) (by kernel_rfl) (execI_sound f89.body _ _ _ _ (F89_ob _ _ _ K) (fun _ _ _ h => h) h)
def F92_j0 (R : Caller) (lim n : Nat) (K : AVal → Heap → Prop) (t0 t2 t7 : AVal) (H : Heap) : Prop :=
bindP (faddrO 3 t7) fun v18 =>
bindP (aload H none v18) fun v19 =>
bindP (boolOf v19) fun b20 =>
(b20 = true → (K (.int .i64 9) H)) ∧
(b20 = false → (bind2 (R lim (.fn 113) [t0] H) fun v21 H22 =>
bindP (aun .not v21) fun v23 =>
bindP (boolOf v23) fun b24 =>
(b24 = true → (K (.int .i64 7) H22)) ∧
(b24 = false → (bind2 ((fillV [] []).map fun cs => (.sl (some (H22.next, 0)) 0 (.ex 0), H22.push (.cells cs))) fun v25 H26 =>
bindP (faddrO 1 t7) fun v27 =>
bindP (aload H26 none v27) fun v28 =>
bind2 (aappend lim H26 [(.str [])] 16 false v25 v28) fun v29 H30 =>
bind2 ((fillV [(.str [])] [(0, 1, t2)]).map fun cs => (.sl (some (H30.next, 0)) 1 (.ex 1), H30.push (.cells cs))) fun v31 H32 =>
bind2 (aappend lim H32 [(.str [])] 16 false v29 v31) fun v33 H34 =>
bindP (faddrO 1 t7) fun v35 =>
bindP (astore lim H34 1 v35 v33) fun H36 =>
bindP (aload H36 (some 5) t7) fun v37 =>
bind2 (R lim (.fn 114) [t0, v37] H36) fun v38 H39 =>
K (.int .i64 0) H39))))
def F92 (R : Caller) (lim n : Nat) (K : AVal → Heap → Prop) (a0 a1 a2 : AVal) (H : Heap) : Prop :=
bindP (nilO a0) fun v1 =>
bindP (faddrO 1 v1) fun v2 =>
bindP (aload H none v2) fun v3 =>
bindP (boolOf v3) fun b4 =>
(b4 = true → (K (.int .i64 7) H)) ∧
(b4 = false → (bind2 (R lim (.fn 111) [a1] H) fun v5 H6 =>
bindP (aun .not v5) fun v7 =>
bindP (gd (some (v7, false)) (some a2)) fun v8 =>
bindP (gd (some (v7, false)) (alen true v8)) fun v9 =>
bindP (gd (some (v7, false)) (abin .eql v9 (.int .i64 0))) fun v10 =>
bindP (pickO v7 (.bool true) v10) fun v11 =>
bindP (boolOf v11) fun b12 =>
(b12 = true → (K (.int .i64 1) H6)) ∧
(b12 = false → (bindP (buildO z11b428 [(0, 1, a1)]) fun v13 =>
bindP (astore lim (H6.push (.cells z11b428)) 5 (.ptr (some (H6.next, 0))) v13) fun H14 =>
bind2 (R lim (.fn 112) [a0, a1] H14) fun v15 H16 =>
bindP (abin .geq v15 (.int .i64 0)) fun v17 =>
bindP (boolOf v17) fun b40 =>
(b40 = true → (bindP (nilO a0) fun v41 =>
bindP (faddrO 0 v41) fun v42 =>
bindP (aload H16 none v42) fun v43 =>
bindP (aindexAddr none 5 v43 v15) fun v44 =>
bindP (aload H16 (some 5) v44) fun v45 =>
bindP (astore lim H16 5 (.ptr (some (H6.next, 0))) v45) fun H46 =>
F92_j0 R lim n K a0 a2 (.ptr (some (H6.next, 0))) H46)) ∧
(b40 = false → (F92_j0 R lim n K a0 a2 (.ptr (some (H6.next, 0))) H16))))))
def F92_Lp (R : Caller) (lim n : Nat) (K : AVal → Heap → Prop) : Nat → Tm → Heap → Prop
  | _, _, _ => False
theorem F92_eq (R : Caller) (lim n : Nat) (K : AVal → Heap → Prop) (a0 a1 a2 : AVal) (H : Heap) : F92 R lim n K a0 a1 a2 H = execI R lim n 51 (F92_Lp R lim n K) f92.body (argT [a0, a1, a2]) H (retW [(.tmp 6)] K) := by kernel_rfl
theorem F92_ob (R : Caller) (lim n : Nat) (K : AVal → Heap → Prop) : Oblig R lim n 51 (F92_Lp R lim n K) f92.body (retW [(.tmp 6)] K) := (oblig_nl (by kernel_rfl))
theorem F92_run {ap : FuncId → Option AFn} (hf : ap 92 = some (.code f92)) {n lim : Nat} {K : AVal → Heap → Prop} {a0 a1 a2 : AVal} {H : Heap} (h : F92 (Ahs.runT ap n) lim n K a0 a1 a2 H) : ∃ v H', Ahs.runT ap (n + 1) lim (.fn 92) [a0, a1, a2] H = some (v, H') ∧ K v H' := by
  rw [F92_eq] at h
  exact run_of_W hf (by kernel_rfl) (by kernel_rfl) (execI_sound f92.body _ _ _ _ (F92_ob _ _ _ K) (fun _ _ _ h => h) h)
def F93 (R : Caller) (lim n : Nat) (K : AVal → Heap → Prop) (a0 a1 : AVal) (H : Heap) : Prop :=
bindP (nilO a0) fun v1 =>
bindP (faddrO 1 v1) fun v2 =>
bindP (aload H none v2) fun v3 =>
bindP (boolOf v3) fun b4 =>
(b4 = true → (K (.int .i64 7) H)) ∧
(b4 = false → (bind2 (R lim (.fn 112) [a0, a1] H) fun v5 H6 =>
bindP (abin .lss v5 (.int .i64 0)) fun v7 =>
bindP (boolOf v7) fun b8 =>
(b8 = true → (K (.int .i64 4) H6)) ∧
(b8 = false → (bind2 (R lim (.fn 113) [a0] H6) fun v9 H10 =>
bindP (aun .not v9) fun v11 =>
bindP (boolOf v11) fun b12 =>
(b12 = true → (K (.int .i64 7) H10)) ∧
(b12 = false → (bindP (nilO a0) fun v13 =>
bindP (faddrO 0 v13) fun v14 =>
bindP (aload H10 none v14) fun v15 =>
bindP (nilO a0) fun v16 =>
bindP (faddrO 0 v16) fun v17 =>
bindP (aload H10 none v17) fun v18 =>
bindP (aindexAddr none 5 v18 v5) fun v19 =>
bindP (faddrO 1 v19) fun v20 =>
bindP (aload H10 none v20) fun v21 =>
bindP (alen false v21) fun v22 =>
bindP (aindexAddr none 5 v15 v5) fun v23 =>
bindP (faddrO 2 v23) fun v24 =>
bindP (astore lim H10 1 v24 v22) fun H25 =>
K (.int .i64 0) H25))))))
def F93_Lp (R : Caller) (lim n : Nat) (K : AVal → Heap → Prop) : Nat → Tm → Heap → Prop
  | _, _, _ => False
theorem F93_eq (R : Caller) (lim n : Nat) (K : AVal → Heap → Prop) (a0 a1 : AVal) (H : Heap) : F93 R lim n K a0 a1 H = execI R lim n 34 (F93_Lp R lim n K) f93.body (argT [a0, a1]) H (retW [(.tmp 4)] K) := by kernel_rfl
theorem F93_ob (R : Caller) (lim n : Nat) (K : AVal → Heap → Prop) : Oblig R lim n 34 (F93_Lp R lim n K) f93.body (retW [(.tmp 4)] K) := (oblig_nl (by kernel_rfl))
theorem F93_run {ap : FuncId → Option AFn} (hf : ap 93 = some (.code f93)) {n lim : Nat} {K : AVal → Heap → Prop} {a0 a1 : AVal} {H : Heap} (h : F93 (Ahs.runT ap n) lim n K a0 a1 H) : ∃ v H', Ahs.runT ap (n + 1) lim (.fn 93) [a0, a1] H = some (v, H') ∧ K v H' := by
  rw [F93_eq] at h
  exact run_of_W hf (by kernel_rfl) (by kernel_rfl) (execI_sound f93.body _ _ _ _ (F93_ob _ _ _ K) (fun _ _ _ h => h) h)
def F94 (R : Caller) (lim n : Nat) (K : AVal → Heap → Prop) (a0 a1 a2 : AVal) (H : Heap) : Prop :=
bindP (nilO a0) fun v1 =>
bindP (faddrO 1 v1) fun v2 =>
bindP (aload H none v2) fun v3 =>
bindP (boolOf v3) fun b4 =>
(b4 = true → (K (.int .i64 7) H)) ∧
(b4 = false → (bind2 (R lim (.fn 111) [a2] H) fun v5 H6 =>
bindP (aun .not v5) fun v7 =>
bindP (boolOf v7) fun b8 =>
(b8 = true → (K (.int .i64 1) H6)) ∧
(b8 = false → (bind2 (R lim (.fn 112) [a0, a1] H6) fun v9 H10 =>
bindP (abin .lss v9 (.int .i64 0)) fun v11 =>
bindP (boolOf v11) fun b12 =>
(b12 = true → (K (.int .i64 4) H10)) ∧
(b12 = false → (bind2 (R lim (.fn 113) [a0] H10) fun v13 H14 =>
bindP (aun .not v13) fun v15 =>
bindP (boolOf v15) fun b16 =>
(b16 = true → (K (.int .i64 7) H14)) ∧
(b16 = false → (bindP (nilO a0) fun v17 =>
bindP (faddrO 0 v17) fun v18 =>
bindP (aload H14 none v18) fun v19 =>
bindP (aindexAddr none 5 v19 v9) fun v20 =>
bindP (aload H14 (some 5) v20) fun v21 =>
bindP (astore lim (H14.push (.cells z11b428)) 5 (.ptr (some (H14.next, 0))) v21) fun H22 =>
bind2 (R lim (.fn 115) [a0, a1] H22) fun v23 H24 =>
bindP (faddrO 0 (.ptr (some (H14.next, 0)))) fun v25 =>
bindP (astore lim H24 1 v25 a2) fun H26 =>
bindP (aload H26 (some 5) (.ptr (some (H14.next, 0)))) fun v27 =>
bind2 (R lim (.fn 114) [a0, v27] H26) fun v28 H29 =>
K (.int .i64 0) H29))))))))
def F94_Lp (R : Caller) (lim n : Nat) (K : AVal → Heap → Prop) : Nat → Tm → Heap → Prop
  | _, _, _ => False
theorem F94_eq (R : Caller) (lim n : Nat) (K : AVal → Heap → Prop) (a0 a1 a2 : AVal) (H : Heap) : F94 R lim n K a0 a1 a2 H = execI R lim n 39 (F94_Lp R lim n K) f94.body (argT [a0, a1, a2]) H (retW [(.tmp 6)] K) := by kernel_rfl
theorem F94_ob (R : Caller) (lim n : Nat) (K : AVal → Heap → Prop) : Oblig R lim n 39 (F94_Lp R lim n K) f94.body (retW [(.tmp 6)] K) := (oblig_nl (by kernel_rfl))
theorem F94_run {ap : FuncId → Option AFn} (hf : ap 94 = some (.code f94)) {n lim : Nat} {K : AVal → Heap → Prop} {a0 a1 a2 : AVal} {H : Heap} (h : F94 (Ahs.runT ap n) lim n K a0 a1 a2 H) : ∃ v H', Ahs.runT ap (n + 1) lim (.fn 94) [a0, a1, a2] H = some (v, H') ∧ K v H' := by
  rw [F94_eq] at h
  exact run_of_W hf (by kernel_rfl) (by kernel_rfl) (execI_sound f94.body _ _ _ _ (F94_ob _ _ _ K) (fun _ _ _ h => h) h)
def F95 (R : Caller) (lim n : Nat) (K : AVal → Heap → Prop) (a0 a1 : AVal) (H : Heap) : Prop :=
bindP (nilO a0) fun v1 =>
bindP (faddrO 1 v1) fun v2 =>
bindP (aload H none v2) fun v3 =>
bindP (boolOf v3) fun b4 =>
(b4 = true → (K (.int .i64 7) H)) ∧
(b4 = false → (bind2 (R lim (.fn 112) [a0, a1] H) fun v5 H6 =>
bindP (abin .lss v5 (.int .i64 0)) fun v7 =>
bindP (boolOf v7) fun b8 =>
(b8 = true → (K (.int .i64 4) H6)) ∧
(b8 = false → (bind2 (R lim (.fn 113) [a0] H6) fun v9 H10 =>
bindP (aun .not v9) fun v11 =>
bindP (boolOf v11) fun b12 =>
(b12 = true → (K (.int .i64 7) H10)) ∧
(b12 = false → (bind2 (R lim (.fn 115) [a0, a1] H10) fun v13 H14 =>
K (.int .i64 0) H14))))))
def F95_Lp (R : Caller) (lim n : Nat) (K : AVal → Heap → Prop) : Nat → Tm → Heap → Prop
  | _, _, _ => False
theorem F95_eq (R : Caller) (lim n : Nat) (K : AVal → Heap → Prop) (a0 a1 : AVal) (H : Heap) : F95 R lim n K a0 a1 H = execI R lim n 19 (F95_Lp R lim n K) f95.body (argT [a0, a1]) H (retW [(.tmp 4)] K) := by kernel_rfl
theorem F95_ob (R : Caller) (lim n : Nat) (K : AVal → Heap → Prop) : Oblig R lim n 19 (F95_Lp R lim n K) f95.body (retW [(.tmp 4)] K) := (oblig_nl (by kernel_rfl))
theorem F95_run {ap : FuncId → Option AFn} (hf : ap 95 = some (.code f95)) {n lim : Nat} {K : AVal → Heap → Prop} {a0 a1 : AVal} {H : Heap} (h : F95 (Ahs.runT ap n) lim n K a0 a1 H) : ∃ v H', Ahs.runT ap (n + 1) lim (.fn 95) [a0, a1] H = some (v, H') ∧ K v H' := by
  rw [F95_eq] at h
  exact run_of_W hf (by kernel_rfl) (by kernel_rfl) (execI_sound f95.body _ _ _ _ (F95_ob _ _ _ K) (fun _ _ _ h => h) h)
def F96 (R : Caller) (lim n : Nat) (K : AVal → Heap → Prop) (a0 a1 : AVal) (H : Heap) : Prop :=
bindP (nilO a0) fun v1 =>
bindP (faddrO 1 v1) fun v2 =>
bindP (aload H none v2) fun v3 =>
bindP (boolOf v3) fun b4 =>
(b4 = true → (K (.tup [(.str []), (.int .i64 7)]) H)) ∧
(b4 = false → (bind2 (R lim (.fn 112) [a0, a1] H) fun v5 H6 =>
bindP (abin .lss v5 (.int .i64 0)) fun v7 =>
bindP (boolOf v7) fun b8 =>
(b8 = true → (K (.tup [(.str []), (.int .i64 4)]) H6)) ∧
(b8 = false → (bindP (nilO a0) fun v9 =>
bindP (faddrO 0 v9) fun v10 =>
bindP (aload H6 none v10) fun v11 =>
bindP (aindexAddr none 5 v11 v5) fun v12 =>
bindP (aload H6 (some 5) v12) fun v13 =>
bind2 (R lim (.fn 99) [v13] H6) fun v14 H15 =>
K (.tup [v14, (.int .i64 0)]) H15))))
def F96_Lp (R : Caller) (lim n : Nat) (K : AVal → Heap → Prop) : Nat → Tm → Heap → Prop
  | _, _, _ => False
theorem F96_eq (R : Caller) (lim n : Nat) (K : AVal → Heap → Prop) (a0 a1 : AVal) (H : Heap) : F96 R lim n K a0 a1 H = execI R lim n 24 (F96_Lp R lim n K) f96.body (argT [a0, a1]) H (retW [(.tmp 4), (.tmp 5)] K) := by kernel_rfl
theorem F96_ob (R : Caller) (lim n : Nat) (K : AVal → Heap → Prop) : Oblig R lim n 24 (F96_Lp R lim n K) f96.body (retW [(.tmp 4), (.tmp 5)] K) := (oblig_nl (by kernel_rfl))
theorem F96_run {ap : FuncId → Option AFn} (hf : ap 96 = some (.code f96)) {n lim : Nat} {K : AVal → Heap → Prop} {a0 a1 : AVal} {H : Heap} (h : F96 (Ahs.runT ap n) lim n K a0 a1 H) : ∃ v H', Ahs.runT ap (n + 1) lim (.fn 96) [a0, a1] H = some (v, H') ∧ K v H' := by
  rw [F96_eq] at h
  exact run_of_W hf (by kernel_rfl) (by kernel_rfl) (execI_sound f96.body _ _ _ _ (F96_ob _ _ _ K) (fun _ _ _ h => h) h)
def F97_j0 (R : Caller) (lim n : Nat) (K : AVal → Heap → Prop) (H : Heap) : Prop :=
K (.tup []) H
def F97 (R : Caller) (lim n : Nat) (K : AVal → Heap → Prop) (a0 a1 : AVal) (H : Heap) : Prop :=
bindP (nilO a0) fun v1 =>
bindP (faddrO 2 v1) fun v2 =>
bindP (astore lim H 1 v2 a1) fun H3 =>
bindP (abin .lss a1 (.int .i64 1)) fun v4 =>
bindP (boolOf v4) fun b5 =>
(b5 = true → (bindP (nilO a0) fun v6 =>
bindP (faddrO 2 v6) fun v7 =>
bindP (astore lim H3 1 v7 (.int .i64 0)) fun H8 =>
F97_j0 R lim n K H8)) ∧
(b5 = false → (F97_j0 R lim n K H3))
def F97_Lp (R : Caller) (lim n : Nat) (K : AVal → Heap → Prop) : Nat → Tm → Heap → Prop
  | _, _, _ => False
theorem F97_eq (R : Caller) (lim n : Nat) (K : AVal → Heap → Prop) (a0 a1 : AVal) (H : Heap) : F97 R lim n K a0 a1 H = execI R lim n 13 (F97_Lp R lim n K) f97.body (argT [a0, a1]) H (retW [] K) := by kernel_rfl
theorem F97_ob (R : Caller) (lim n : Nat) (K : AVal → Heap → Prop) : Oblig R lim n 13 (F97_Lp R lim n K) f97.body (retW [] K) := (oblig_nl (by kernel_rfl))
theorem F97_run {ap : FuncId → Option AFn} (hf : ap 97 = some (.code f97)) {n lim : Nat} {K : AVal → Heap → Prop} {a0 a1 : AVal} {H : Heap} (h : F97 (Ahs.runT ap n) lim n K a0 a1 H) : ∃ v H', Ahs.runT ap (n + 1) lim (.fn 97) [a0, a1] H = some (v, H') ∧ K v H' := by
  rw [F97_eq] at h
  exact run_of_W hf (by kernel_rfl) (by kernel_rfl) (execI_sound f97.body _ _ _ _ (F97_ob _ _ _ K) (fun _ _ _ h => h) h)
def F98_j0 (R : Caller) (lim n : Nat) (K : AVal → Heap → Prop) (t0 t4 : AVal) (H : Heap) : Prop :=
bindP (nilO t0) fun v40 =>
bindP (faddrO 0 v40) fun v41 =>
bindP (astore lim H 1 v41 t4) fun H42 =>
K (.tup []) H42
def F98_j1 (R : Caller) (lim n : Nat) (K : AVal → Heap → Prop) (rec0 : AVal → AVal → AVal → AVal → AVal → Heap → Prop) (t0 t3 t4 t5 t6 t7 : AVal) (H : Heap) : Prop :=
bindP (aload H (some 5) t7) fun v61 =>
bind2 ((fillV z11b428 [(0, 5, v61)]).map fun cs => (.sl (some (H.next, 0)) 1 (.ex 1), H.push (.cells cs))) fun v62 H63 =>
bind2 (aappend lim H63 z11b428 72 false t4 v62) fun v64 H65 =>
bindP (abin .add t6 (.int .i64 1)) fun v66 =>
rec0 t0 t3 v64 t5 v66 H65
def F98_s0 (R : Caller) (lim n : Nat) (K : AVal → Heap → Prop) (rec0 : AVal → AVal → AVal → AVal → AVal → Heap → Prop) (t0 t3 t4 t5 t6 : AVal) (H : Heap) : Prop :=
bindP (nilO t0) fun v43 =>
bindP (faddrO 0 v43) fun v44 =>
bindP (aload H none v44) fun v45 =>
bindP (alen false v45) fun v46 =>
bindP (abin .lss t6 v46) fun v47 =>
bindP (boolOf v47) fun b48 =>
(b48 = true → (bindP (nilO t0) fun v49 =>
bindP (faddrO 0 v49) fun v50 =>
bindP (aload H none v50) fun v51 =>
bindP (aindexAddr none 5 v51 t6) fun v52 =>
bindP (aload H (some 5) v52) fun v53 =>
bindP (astore lim (H.push (.cells z11b428)) 5 (.ptr (some (H.next, 0))) v53) fun H54 =>
bindP (faddrO 2 (.ptr (some (H.next, 0)))) fun v55 =>
bindP (aload H54 none v55) fun v56 =>
bindP (faddrO 1 (.ptr (some (H.next, 0)))) fun v57 =>
bindP (aload H54 none v57) fun v58 =>
bindP (alen false v58) fun v59 =>
bindP (abin .lss v56 v59) fun v60 =>
bindP (boolOf v60) fun b67 =>
(b67 = true → (bindP (aload H54 (some 5) (.ptr (some (H.next, 0)))) fun v68 =>
bindP (aload H54 (some 2) t3) fun v69 =>
bind2 (R lim (.fn 116) [v68, v69, t5] H54) fun v70 H71 =>
bindP (astore lim H71 5 (.ptr (some (H.next, 0))) v70) fun H72 =>
bindP (abin .add t5 (.int .i64 1)) fun v73 =>
F98_j1 R lim n K rec0 t0 t3 t4 v73 t6 (.ptr (some (H.next, 0))) H72)) ∧
(b67 = false → (F98_j1 R lim n K rec0 t0 t3 t4 t5 t6 (.ptr (some (H.next, 0))) H54)))) ∧
(b48 = false → (F98_j0 R lim n K t0 t4 H))
def F98_l0 (R : Caller) (lim n : Nat) (K : AVal → Heap → Prop) : Nat → AVal → AVal → AVal → AVal → AVal → Heap → Prop
  | 0, _, _, _, _, _, _ => False
  | m + 1, t0, t3, t4, t5, t6, H => F98_s0 R lim n K (F98_l0 R lim n K m) t0 t3 t4 t5 t6 H
def F98 (R : Caller) (lim n : Nat) (K : AVal → Heap → Prop) (a0 a1 : AVal) (H : Heap) : Prop :=
bind2 (if (a1).cells.all (·.one) then some (.ptr (some (H.next, 0)), H.push (.cells (a1).cells)) else none) fun v1 H2 =>
bindP (nilO a0) fun v3 =>
bindP (faddrO 1 v3) fun v4 =>
bindP (astore lim H2 1 v4 (.bool true)) fun H5 =>
F98_l0 R lim n K n a0 v1 (.sl none 0 (.ex 0)) (.int .i64 0) (.int .i64 0) H5
def F98_Lp (R : Caller) (lim n : Nat) (K : AVal → Heap → Prop) : Nat → Tm → Heap → Prop
  | 0, T, H => F98_l0 R lim n K n (T 0) (T 3) (T 4) (T 5) (T 6) H
  | _, _, _ => False
def F98_Lp0 (R : Caller) (lim n : Nat) (K : AVal → Heap → Prop) (rec0 : AVal → AVal → AVal → AVal → AVal → Heap → Prop) : Nat → Tm → Heap → Prop
  | _, _, _ => False
def F98_k0 (R : Caller) (lim n : Nat) (K : AVal → Heap → Prop) (rec0 : AVal → AVal → AVal → AVal → AVal → Heap → Prop) : Kt := fun ex T H => match ex with
  | .norm => rec0 (T 0) (T 3) (T 4) (T 5) (T 6) H
  | ex => (kBlk 0 (kSeq (execI R lim n 47 (F98_Lp R lim n K) f98_p1) (retW [] K))) ex T H
theorem F98_s0_eq (R : Caller) (lim n : Nat) (K : AVal → Heap → Prop) (rec0 : AVal → AVal → AVal → AVal → AVal → Heap → Prop) (T : Tm) (H : Heap) : F98_s0 R lim n K rec0 (T 0) (T 3) (T 4) (T 5) (T 6) H = execI R lim n 47 (F98_Lp0 R lim n K rec0) f98_p0 T H (F98_k0 R lim n K rec0) := by kernel_rfl
theorem F98_l0_ok (R : Caller) (lim n : Nat) (K : AVal → Heap → Prop) {kw : Kt} (hk : ∀ ex T H, (kBlk 0 (kSeq (execI R lim n 47 (F98_Lp R lim n K) f98_p1) (retW [] K))) ex T H → kw ex T H) : ∀ (m : Nat) (T : Tm) (H : Heap), F98_l0 R lim n K m (T 0) (T 3) (T 4) (T 5) (T 6) H → loopW (execW R lim n 47 f98_p0) m T H kw
  | 0, _, _, h => False.elim h
  | m + 1, T, H, h => by
    have hb : ∀ ex T H, F98_k0 R lim n K (F98_l0 R lim n K m) ex T H → (fun ex T H => match ex with | .norm => loopW (execW R lim n 47 f98_p0) m T H kw | ex => kw ex T H : Kt) ex T H := by
      intro ex T H h
      cases ex with
      | norm => exact F98_l0_ok R lim n K hk m T H h
      | exit i => exact hk _ _ _ h
      | ret => exact hk _ _ _ h
    have h' : F98_s0 R lim n K (F98_l0 R lim n K m) (T 0) (T 3) (T 4) (T 5) (T 6) H := h
    rw [F98_s0_eq] at h'
    exact execI_sound f98_p0 T H _ _ (oblig_nl (by kernel_rfl)) hb h'
theorem F98_eq (R : Caller) (lim n : Nat) (K : AVal → Heap → Prop) (a0 a1 : AVal) (H : Heap) : F98 R lim n K a0 a1 H = execI R lim n 47 (F98_Lp R lim n K) f98.body (argT [a0, a1]) H (retW [] K) := by kernel_rfl
theorem F98_ob (R : Caller) (lim n : Nat) (K : AVal → Heap → Prop) : Oblig R lim n 47 (F98_Lp R lim n K) f98.body (retW [] K) := ⟨(oblig_nl (by kernel_rfl)), ⟨(oblig_nl (by kernel_rfl)), ⟨(oblig_nl (by kernel_rfl)), ⟨(oblig_nl (by kernel_rfl)), ⟨⟨(oblig_nl (by kernel_rfl)), (fun T H h => F98_l0_ok R lim n K (kBlk_mono (kSeqI_sound (oblig_nl (by kernel_rfl)) (fun _ _ _ h => h))) _ T H h)⟩, (oblig_nl (by kernel_rfl))⟩⟩⟩⟩⟩
theorem F98_run {ap : FuncId → Option AFn} (hf : ap 98 = some (.code f98)) {n lim : Nat} {K : AVal → Heap → Prop} {a0 a1 : AVal} {H : Heap} (h : F98 (Ahs.runT ap n) lim n K a0 a1 H) : ∃ v H', Ahs.runT ap (n + 1) lim (.fn 98) [a0, a1] H = some (v, H') ∧ K v H' := by
  rw [F98_eq] at h
  exact run_of_W hf (by kernel_rfl) (by kernel_rfl) (execI_sound f98.body _ _ _ _ (F98_ob _ _ _ K) (fun _ _ _ h => h) h)
def F99_j0 (R : Caller) (lim n : Nat) (K : AVal → Heap → Prop) (t1 t3 : AVal) (H : Heap) : Prop :=
bindP (faddrO 4 t1) fun v17 =>
bindP (aload H none v17) fun v18 =>
bindP (abin .add t3 v18) fun v19 =>
K v19 H
def F99_s0 (R : Caller) (lim n : Nat) (K : AVal → Heap → Prop) (rec0 : AVal → AVal → AVal → Heap → Prop) (t1 t3 t4 : AVal) (H : Heap) : Prop :=
bindP (faddrO 1 t1) fun v20 =>
bindP (aload H none v20) fun v21 =>
bindP (alen false v21) fun v22 =>
bindP (abin .lss t4 v22) fun v23 =>
bindP (boolOf v23) fun b24 =>
(b24 = true → (bindP (faddrO 1 t1) fun v25 =>
bindP (aload H none v25) fun v26 =>
bindP (aindexAddr none 1 v26 t4) fun v27 =>
bindP (aload H none v27) fun v28 =>
bindP (abin .add t3 v28) fun v29 =>
bindP (abin .add t4 (.int .i64 1)) fun v30 =>
rec0 t1 v29 v30 H)) ∧
(b24 = false → (F99_j0 R lim n K t1 t3 H))
def F99_l0 (R : Caller) (lim n : Nat) (K : AVal → Heap → Prop) : Nat → AVal → AVal → AVal → Heap → Prop
  | 0, _, _, _, _ => False
  | m + 1, t1, t3, t4, H => F99_s0 R lim n K (F99_l0 R lim n K m) t1 t3 t4 H
def F99 (R : Caller) (lim n : Nat) (K : AVal → Heap → Prop) (a0 : AVal) (H : Heap) : Prop :=
bind2 (if (a0).cells.all (·.one) then some (.ptr (some (H.next, 0)), H.push (.cells (a0).cells)) else none) fun v1 H2 =>
F99_l0 R lim n K n v1 (.str []) (.int .i64 0) H2
def F99_Lp (R : Caller) (lim n : Nat) (K : AVal → Heap → Prop) : Nat → Tm → Heap → Prop
  | 0, T, H => F99_l0 R lim n K n (T 1) (T 3) (T 4) H
  | _, _, _ => False
def F99_Lp0 (R : Caller) (lim n : Nat) (K : AVal → Heap → Prop) (rec0 : AVal → AVal → AVal → Heap → Prop) : Nat → Tm → Heap → Prop
  | _, _, _ => False
def F99_k0 (R : Caller) (lim n : Nat) (K : AVal → Heap → Prop) (rec0 : AVal → AVal → AVal → Heap → Prop) : Kt := fun ex T H => match ex with
  | .norm => rec0 (T 1) (T 3) (T 4) H
  | ex => (kBlk 0 (kSeq (execI R lim n 23 (F99_Lp R lim n K) f99_p1) (retW [(.tmp 2)] K))) ex T H
theorem F99_s0_eq (R : Caller) (lim n : Nat) (K : AVal → Heap → Prop) (rec0 : AVal → AVal → AVal → Heap → Prop) (T : Tm) (H : Heap) : F99_s0 R lim n K rec0 (T 1) (T 3) (T 4) H = execI R lim n 23 (F99_Lp0 R lim n K rec0) f99_p0 T H (F99_k0 R lim n K rec0) := by kernel_rfl
theorem F99_l0_ok (R : Caller) (lim n : Nat) (K : AVal → Heap → Prop) {kw : Kt} (hk : ∀ ex T H, (kBlk 0 (kSeq (execI R lim n 23 (F99_Lp R lim n K) f99_p1) (retW [(.tmp 2)] K))) ex T H → kw ex T H) : ∀ (m : Nat) (T : Tm) (H : Heap), F99_l0 R lim n K m (T 1) (T 3) (T 4) H → loopW (execW R lim n 23 f99_p0) m T H kw
  | 0, _, _, h => False.elim h
  | m + 1, T, H, h => by
    have hb : ∀ ex T H, F99_k0 R lim n K (F99_l0 R lim n K m) ex T H → (fun ex T H => match ex with | .norm => loopW (execW R lim n 23 f99_p0) m T H kw | ex => kw ex T H : Kt) ex T H := by
      intro ex T H h
      cases ex with
      | norm => exact F99_l0_ok R lim n K hk m T H h
      | exit i => exact hk _ _ _ h
      | ret => exact hk _ _ _ h
    have h' : F99_s0 R lim n K (F99_l0 R lim n K m) (T 1) (T 3) (T 4) H := h
    rw [F99_s0_eq] at h'
    exact execI_sound f99_p0 T H _ _ (oblig_nl (by kernel_rfl)) hb h'
theorem F99_eq (R : Caller) (lim n : Nat) (K : AVal → Heap → Prop) (a0 : AVal) (H : Heap) : F99 R lim n K a0 H = execI R lim n 23 (F99_Lp R lim n K) f99.body (argT [a0]) H (retW [(.tmp 2)] K) := by kernel_rfl
theorem F99_ob (R : Caller) (lim n : Nat) (K : AVal → Heap → Prop) : Oblig R lim n 23 (F99_Lp R lim n K) f99.body (retW [(.tmp 2)] K) := ⟨(oblig_nl (by kernel_rfl)), ⟨(oblig_nl (by kernel_rfl)), ⟨⟨(oblig_nl (by kernel_rfl)), (fun T H h => F99_l0_ok R lim n K (kBlk_mono (kSeqI_sound (oblig_nl (by kernel_rfl)) (fun _ _ _ h => h))) _ T H h)⟩, (oblig_nl (by kernel_rfl))⟩⟩⟩
theorem F99_run {ap : FuncId → Option AFn} (hf : ap 99 = some (.code f99)) {n lim : Nat} {K : AVal → Heap → Prop} {a0 : AVal} {H : Heap} (h : F99 (Ahs.runT ap n) lim n K a0 H) : ∃ v H', Ahs.runT ap (n + 1) lim (.fn 99) [a0] H = some (v, H') ∧ K v H' := by
  rw [F99_eq] at h
  exact run_of_W hf (by kernel_rfl) (by kernel_rfl) (execI_sound f99.body _ _ _ _ (F99_ob _ _ _ K) (fun _ _ _ h => h) h)
def F100 (R : Caller) (lim n : Nat) (K : AVal → Heap → Prop) (a0 : AVal) (H : Heap) : Prop :=
bindP (eqvO false .sl a0 (.sl none 0 (.ex 0))) fun v1 =>
bindP (boolOf v1) fun b2 =>
(b2 = true → (K (.sl none 0 (.ex 0)) H)) ∧
(b2 = false → (bind2 ((fillV [] []).map fun cs => (.sl (some (H.next, 0)) 0 (.ex 0), H.push (.cells cs))) fun v3 H4 =>
bind2 (aappend lim H4 [(.str [])] 16 false v3 a0) fun v5 H6 =>
K v5 H6))
def F100_Lp (R : Caller) (lim n : Nat) (K : AVal → Heap → Prop) : Nat → Tm → Heap → Prop
  | _, _, _ => False
theorem F100_eq (R : Caller) (lim n : Nat) (K : AVal → Heap → Prop) (a0 : AVal) (H : Heap) : F100 R lim n K a0 H = execI R lim n 8 (F100_Lp R lim n K) f100.body (argT [a0]) H (retW [(.tmp 2)] K) := by kernel_rfl
theorem F100_ob (R : Caller) (lim n : Nat) (K : AVal → Heap → Prop) : Oblig R lim n 8 (F100_Lp R lim n K) f100.body (retW [(.tmp 2)] K) := (oblig_nl (by kernel_rfl))
theorem F100_run {ap : FuncId → Option AFn} (hf : ap 100 = some (.code f100)) {n lim : Nat} {K : AVal → Heap → Prop} {a0 : AVal} {H : Heap} (h : F100 (Ahs.runT ap n) lim n K a0 H) : ∃ v H', Ahs.runT ap (n + 1) lim (.fn 100) [a0] H = some (v, H') ∧ K v H' := by
  rw [F100_eq] at h
  exact run_of_W hf (by kernel_rfl) (by kernel_rfl) (execI_sound f100.body _ _ _ _ (F100_ob _ _ _ K) (fun _ _ _ h => h) h)
def F111 (R : Caller) (lim n : Nat) (K : AVal → Heap → Prop) (a0 : AVal) (H : Heap) : Prop :=
bindP (alen true a0) fun v1 =>
bindP (abin .geq v1 (.int .i64 1)) fun v2 =>
bindP (gd (some (v2, true)) (some a0)) fun v3 =>
bindP (gd (some (v2, true)) (alen true v3)) fun v4 =>
bindP (gd (some (v2, true)) (abin .leq v4 (.int .i64 32))) fun v5 =>
bindP (pickO v2 v5 (.bool false)) fun v6 =>
K v6 H
def F111_Lp (R : Caller) (lim n : Nat) (K : AVal → Heap → Prop) : Nat → Tm → Heap → Prop
  | _, _, _ => False
theorem F111_eq (R : Caller) (lim n : Nat) (K : AVal → Heap → Prop) (a0 : AVal) (H : Heap) : F111 R lim n K a0 H = execI R lim n 11 (F111_Lp R lim n K) f111.body (argT [a0]) H (retW [(.tmp 2)] K) := by kernel_rfl
theorem F111_ob (R : Caller) (lim n : Nat) (K : AVal → Heap → Prop) : Oblig R lim n 11 (F111_Lp R lim n K) f111.body (retW [(.tmp 2)] K) := (oblig_nl (by kernel_rfl))
theorem F111_run {ap : FuncId → Option AFn} (hf : ap 111 = some (.code f111)) {n lim : Nat} {K : AVal → Heap → Prop} {a0 : AVal} {H : Heap} (h : F111 (Ahs.runT ap n) lim n K a0 H) : ∃ v H', Ahs.runT ap (n + 1) lim (.fn 111) [a0] H = some (v, H') ∧ K v H' := by
  rw [F111_eq] at h
  exact run_of_W hf (by kernel_rfl) (by kernel_rfl) (execI_sound f111.body _ _ _ _ (F111_ob _ _ _ K) (fun _ _ _ h => h) h)
def F112_j0 (R : Caller) (lim n : Nat) (K : AVal → Heap → Prop) (H : Heap) : Prop :=
K (.int .i64 (-1)) H
def F112_s0 (R : Caller) (lim n : Nat) (K : AVal → Heap → Prop) (rec0 : AVal → AVal → AVal → Heap → Prop) (t0 t1 t5 : AVal) (H : Heap) : Prop :=
bindP (nilO t0) fun v16 =>
bindP (faddrO 0 v16) fun v17 =>
bindP (aload H none v17) fun v18 =>
bindP (alen false v18) fun v19 =>
bindP (abin .lss t5 v19) fun v20 =>
bindP (boolOf v20) fun b21 =>
(b21 = true → (bindP (nilO t0) fun v22 =>
bindP (faddrO 0 v22) fun v23 =>
bindP (aload H none v23) fun v24 =>
bindP (aindexAddr none 5 v24 t5) fun v25 =>
bindP (faddrO 0 v25) fun v26 =>
bindP (aload H none v26) fun v27 =>
bindP (abin .eql v27 t1) fun v28 =>
bindP (boolOf v28) fun b29 =>
(b29 = true → (K t5 H)) ∧
(b29 = false → (bindP (abin .add t5 (.int .i64 1)) fun v30 =>
rec0 t0 t1 v30 H)))) ∧
(b21 = false → (F112_j0 R lim n K H))
def F112_l0 (R : Caller) (lim n : Nat) (K : AVal → Heap → Prop) : Nat → AVal → AVal → AVal → Heap → Prop
  | 0, _, _, _, _ => False
  | m + 1, t0, t1, t5, H => F112_s0 R lim n K (F112_l0 R lim n K m) t0 t1 t5 H
def F112 (R : Caller) (lim n : Nat) (K : AVal → Heap → Prop) (a0 a1 : AVal) (H : Heap) : Prop :=
F112_l0 R lim n K n a0 a1 (.int .i64 0) H
def F112_Lp (R : Caller) (lim n : Nat) (K : AVal → Heap → Prop) : Nat → Tm → Heap → Prop
  | 0, T, H => F112_l0 R lim n K n (T 0) (T 1) (T 5) H
  | _, _, _ => False
def F112_Lp0 (R : Caller) (lim n : Nat) (K : AVal → Heap → Prop) (rec0 : AVal → AVal → AVal → Heap → Prop) : Nat → Tm → Heap → Prop
  | _, _, _ => False
def F112_k0 (R : Caller) (lim n : Nat) (K : AVal → Heap → Prop) (rec0 : AVal → AVal → AVal → Heap → Prop) : Kt := fun ex T H => match ex with
  | .norm => rec0 (T 0) (T 1) (T 5) H
  | ex => (kBlk 0 (kSeq (execI R lim n 26 (F112_Lp R lim n K) f112_p1) (retW [(.tmp 4)] K))) ex T H
theorem F112_s0_eq (R : Caller) (lim n : Nat) (K : AVal → Heap → Prop) (rec0 : AVal → AVal → AVal → Heap → Prop) (T : Tm) (H : Heap) : F112_s0 R lim n K rec0 (T 0) (T 1) (T 5) H = execI R lim n 26 (F112_Lp0 R lim n K rec0) f112_p0 T H (F112_k0 R lim n K rec0) := by kernel_rfl
theorem F112_l0_ok (R : Caller) (lim n : Nat) (K : AVal → Heap → Prop) {kw : Kt} (hk : ∀ ex T H, (kBlk 0 (kSeq (execI R lim n 26 (F112_Lp R lim n K) f112_p1) (retW [(.tmp 4)] K))) ex T H → kw ex T H) : ∀ (m : Nat) (T : Tm) (H : Heap), F112_l0 R lim n K m (T 0) (T 1) (T 5) H → loopW (execW R lim n 26 f112_p0) m T H kw
  | 0, _, _, h => False.elim h
  | m + 1, T, H, h => by
    have hb : ∀ ex T H, F112_k0 R lim n K (F112_l0 R lim n K m) ex T H → (fun ex T H => match ex with | .norm => loopW (execW R lim n 26 f112_p0) m T H kw | ex => kw ex T H : Kt) ex T H := by
      intro ex T H h
      cases ex with
      | norm => exact F112_l0_ok R lim n K hk m T H h
      | exit i => exact hk _ _ _ h
      | ret => exact hk _ _ _ h
    have h' : F112_s0 R lim n K (F112_l0 R lim n K m) (T 0) (T 1) (T 5) H := h
    rw [F112_s0_eq] at h'
    exact execI_sound f112_p0 T H _ _ (oblig_nl (by kernel_rfl)) hb h'
theorem F112_eq (R : Caller) (lim n : Nat) (K : AVal → Heap → Prop) (a0 a1 : AVal) (H : Heap) : F112 R lim n K a0 a1 H = execI R lim n 26 (F112_Lp R lim n K) f112.body (argT [a0, a1]) H (retW [(.tmp 4)] K) := by kernel_rfl
theorem F112_ob (R : Caller) (lim n : Nat) (K : AVal → Heap → Prop) : Oblig R lim n 26 (F112_Lp R lim n K) f112.body (retW [(.tmp 4)] K) := ⟨(oblig_nl (by kernel_rfl)), ⟨⟨(oblig_nl (by kernel_rfl)), (fun T H h => F112_l0_ok R lim n K (kBlk_mono (kSeqI_sound (oblig_nl (by kernel_rfl)) (fun _ _ _ h => h))) _ T H h)⟩, (oblig_nl (by kernel_rfl))⟩⟩
theorem F112_run {ap : FuncId → Option AFn} (hf : ap 112 = some (.code f112)) {n lim : Nat} {K : AVal → Heap → Prop} {a0 a1 : AVal} {H : Heap} (h : F112 (Ahs.runT ap n) lim n K a0 a1 H) : ∃ v H', Ahs.runT ap (n + 1) lim (.fn 112) [a0, a1] H = some (v, H') ∧ K v H' := by
  rw [F112_eq] at h
  exact run_of_W hf (by kernel_rfl) (by kernel_rfl) (execI_sound f112.body _ _ _ _ (F112_ob _ _ _ K) (fun _ _ _ h => h) h)
def F113_j0 (R : Caller) (lim n : Nat) (K : AVal → Heap → Prop) (t0 : AVal) (H : Heap) : Prop :=
bindP (nilO t0) fun v9 =>
bindP (faddrO 1 v9) fun v10 =>
bindP (aload H none v10) fun v11 =>
bindP (aun .not v11) fun v12 =>
K v12 H
def F113_j1 (R : Caller) (lim n : Nat) (K : AVal → Heap → Prop) (t0 : AVal) (H : Heap) : Prop :=
bindP (nilO t0) fun v5 =>
bindP (faddrO 2 v5) fun v6 =>
bindP (aload H none v6) fun v7 =>
bindP (abin .gtr v7 (.int .i64 0)) fun v8 =>
bindP (boolOf v8) fun b13 =>
(b13 = true → (bindP (nilO t0) fun v14 =>
bindP (faddrO 2 v14) fun v15 =>
bindP (aload H none v15) fun v16 =>
bindP (abin .sub v16 (.int .i64 1)) fun v17 =>
bindP (nilO t0) fun v18 =>
bindP (faddrO 2 v18) fun v19 =>
bindP (astore lim H 1 v19 v17) fun H20 =>
F113_j0 R lim n K t0 H20)) ∧
(b13 = false → (F113_j0 R lim n K t0 H))
def F113 (R : Caller) (lim n : Nat) (K : AVal → Heap → Prop) (a0 : AVal) (H : Heap) : Prop :=
bindP (nilO a0) fun v1 =>
bindP (faddrO 2 v1) fun v2 =>
bindP (aload H none v2) fun v3 =>
bindP (abin .eql v3 (.int .i64 1)) fun v4 =>
bindP (boolOf v4) fun b21 =>
(b21 = true → (bindP (nilO a0) fun v22 =>
bindP (faddrO 1 v22) fun v23 =>
bindP (astore lim H 1 v23 (.bool true)) fun H24 =>
F113_j1 R lim n K a0 H24)) ∧
(b21 = false → (F113_j1 R lim n K a0 H))
def F113_Lp (R : Caller) (lim n : Nat) (K : AVal → Heap → Prop) : Nat → Tm → Heap → Prop
  | _, _, _ => False
theorem F113_eq (R : Caller) (lim n : Nat) (K : AVal → Heap → Prop) (a0 : AVal) (H : Heap) : F113 R lim n K a0 H = execI R lim n 29 (F113_Lp R lim n K) f113.body (argT [a0]) H (retW [(.tmp 2)] K) := by kernel_rfl
theorem F113_ob (R : Caller) (lim n : Nat) (K : AVal → Heap → Prop) : Oblig R lim n 29 (F113_Lp R lim n K) f113.body (retW [(.tmp 2)] K) := (oblig_nl (by kernel_rfl))
theorem F113_run {ap : FuncId → Option AFn} (hf : ap 113 = some (.code f113)) {n lim : Nat} {K : AVal → Heap → Prop} {a0 : AVal} {H : Heap} (h : F113 (Ahs.runT ap n) lim n K a0 H) : ∃ v H', Ahs.runT ap (n + 1) lim (.fn 113) [a0] H = some (v, H') ∧ K v H' := by
  rw [F113_eq] at h
  exact run_of_W hf (by kernel_rfl) (by kernel_rfl) (execI_sound f113.body _ _ _ _ (F113_ob _ _ _ K) (fun _ _ _ h => h) h)
def F114_j0 (R : Caller) (lim n : Nat) (K : AVal → Heap → Prop) (t0 t4 : AVal) (H : Heap) : Prop :=
bindP (nilO t0) fun v59 =>
bindP (faddrO 0 v59) fun v60 =>
bindP (astore lim H 1 v60 t4) fun H61 =>
K (.tup []) H61
def F114_j1 (R : Caller) (lim n : Nat) (K : AVal → Heap → Prop) (t0 t3 t4 t5 : AVal) (H : Heap) : Prop :=
bindP (aun .not t5) fun v58 =>
bindP (boolOf v58) fun b62 =>
(b62 = true → (bindP (aload H (some 5) t3) fun v63 =>
bind2 ((fillV z11b428 [(0, 5, v63)]).map fun cs => (.sl (some (H.next, 0)) 1 (.ex 1), H.push (.cells cs))) fun v64 H65 =>
bind2 (aappend lim H65 z11b428 72 false t4 v64) fun v66 H67 =>
F114_j0 R lim n K t0 v66 H67)) ∧
(b62 = false → (F114_j0 R lim n K t0 t4 H))
def F114_j2 (R : Caller) (lim n : Nat) (K : AVal → Heap → Prop) (rec0 : AVal → AVal → AVal → AVal → AVal → Heap → Prop) (t0 t3 t4 t5 t6 : AVal) (H : Heap) : Prop :=
bindP (abin .add t6 (.int .i64 1)) fun v74 =>
rec0 t0 t3 t4 t5 v74 H
def F114_j3 (R : Caller) (lim n : Nat) (K : AVal → Heap → Prop) (rec0 : AVal → AVal → AVal → AVal → AVal → Heap → Prop) (t0 t3 t4 t5 t6 : AVal) (H : Heap) : Prop :=
bindP (nilO t0) fun v98 =>
bindP (faddrO 0 v98) fun v99 =>
bindP (aload H none v99) fun v100 =>
bindP (aindexAddr none 5 v100 t6) fun v101 =>
bindP (aload H (some 5) v101) fun v102 =>
bind2 ((fillV z11b428 [(0, 5, v102)]).map fun cs => (.sl (some (H.next, 0)) 1 (.ex 1), H.push (.cells cs))) fun v103 H104 =>
bind2 (aappend lim H104 z11b428 72 false t4 v103) fun v105 H106 =>
F114_j2 R lim n K rec0 t0 t3 v105 t5 t6 H106
def F114_s0 (R : Caller) (lim n : Nat) (K : AVal → Heap → Prop) (rec0 : AVal → AVal → AVal → AVal → AVal → Heap → Prop) (t0 t3 t4 t5 t6 : AVal) (H : Heap) : Prop :=
bindP (nilO t0) fun v68 =>
bindP (faddrO 0 v68) fun v69 =>
bindP (aload H none v69) fun v70 =>
bindP (alen false v70) fun v71 =>
bindP (abin .lss t6 v71) fun v72 =>
bindP (boolOf v72) fun b73 =>
(b73 = true → (bindP (nilO t0) fun v75 =>
bindP (faddrO 0 v75) fun v76 =>
bindP (aload H none v76) fun v77 =>
bindP (aindexAddr none 5 v77 t6) fun v78 =>
bindP (faddrO 0 v78) fun v79 =>
bindP (aload H none v79) fun v80 =>
bindP (faddrO 0 t3) fun v81 =>
bindP (aload H none v81) fun v82 =>
bindP (abin .eql v80 v82) fun v83 =>
bindP (boolOf v83) fun b84 =>
(b84 = true → (F114_j2 R lim n K rec0 t0 t3 t4 t5 t6 H)) ∧
(b84 = false → (bindP (aun .not t5) fun v85 =>
bindP (gd (some (v85, true)) (faddrO 0 t3)) fun v86 =>
bindP (gd (some (v85, true)) (aload H none v86)) fun v87 =>
bindP (gd (some (v85, true)) (some t0)) fun v88 =>
bindP (gd (some (v85, true)) (nilO v88)) fun v89 =>
bindP (gd (some (v85, true)) (faddrO 0 v89)) fun v90 =>
bindP (gd (some (v85, true)) (aload H none v90)) fun v91 =>
bindP (gd (some (v85, true)) (some t6)) fun v92 =>
bindP (gd (some (v85, true)) (aindexAddr none 5 v91 v92)) fun v93 =>
bindP (gd (some (v85, true)) (faddrO 0 v93)) fun v94 =>
bindP (gd (some (v85, true)) (aload H none v94)) fun v95 =>
bindP (gd (some (v85, true)) (abin .lss v87 v95)) fun v96 =>
bindP (pickO v85 v96 (.bool false)) fun v97 =>
bindP (boolOf v97) fun b107 =>
(b107 = true → (bindP (aload H (some 5) t3) fun v108 =>
bind2 ((fillV z11b428 [(0, 5, v108)]).map fun cs => (.sl (some (H.next, 0)) 1 (.ex 1), H.push (.cells cs))) fun v109 H110 =>
bind2 (aappend lim H110 z11b428 72 false t4 v109) fun v111 H112 =>
F114_j3 R lim n K rec0 t0 t3 v111 (.bool true) t6 H112)) ∧
(b107 = false → (F114_j3 R lim n K rec0 t0 t3 t4 t5 t6 H)))))) ∧
(b73 = false → (F114_j1 R lim n K t0 t3 t4 t5 H))
def F114_l0 (R : Caller) (lim n : Nat) (K : AVal → Heap → Prop) : Nat → AVal → AVal → AVal → AVal → AVal → Heap → Prop
  | 0, _, _, _, _, _, _ => False
  | m + 1, t0, t3, t4, t5, t6, H => F114_s0 R lim n K (F114_l0 R lim n K m) t0 t3 t4 t5 t6 H
def F114 (R : Caller) (lim n : Nat) (K : AVal → Heap → Prop) (a0 a1 : AVal) (H : Heap) : Prop :=
bind2 (if (a1).cells.all (·.one) then some (.ptr (some (H.next, 0)), H.push (.cells (a1).cells)) else none) fun v1 H2 =>
F114_l0 R lim n K n a0 v1 (.sl none 0 (.ex 0)) (.bool false) (.int .i64 0) H2
def F114_Lp (R : Caller) (lim n : Nat) (K : AVal → Heap → Prop) : Nat → Tm → Heap → Prop
  | 0, T, H => F114_l0 R lim n K n (T 0) (T 3) (T 4) (T 5) (T 6) H
  | _, _, _ => False
def F114_Lp0 (R : Caller) (lim n : Nat) (K : AVal → Heap → Prop) (rec0 : AVal → AVal → AVal → AVal → AVal → Heap → Prop) : Nat → Tm → Heap → Prop
  | _, _, _ => False
def F114_k0 (R : Caller) (lim n : Nat) (K : AVal → Heap → Prop) (rec0 : AVal → AVal → AVal → AVal → AVal → Heap → Prop) : Kt := fun ex T H => match ex with
  | .norm => rec0 (T 0) (T 3) (T 4) (T 5) (T 6) H
  | ex => (kBlk 0 (kSeq (execI R lim n 66 (F114_Lp R lim n K) f114_p1) (retW [] K))) ex T H
theorem F114_s0_eq (R : Caller) (lim n : Nat) (K : AVal → Heap → Prop) (rec0 : AVal → AVal → AVal → AVal → AVal → Heap → Prop) (T : Tm) (H : Heap) : F114_s0 R lim n K rec0 (T 0) (T 3) (T 4) (T 5) (T 6) H = execI R lim n 66 (F114_Lp0 R lim n K rec0) f114_p0 T H (F114_k0 R lim n K rec0) := by kernel_rfl
theorem F114_l0_ok (R : Caller) (lim n : Nat) (K : AVal → Heap → Prop) {kw : Kt} (hk : ∀ ex T H, (kBlk 0 (kSeq (execI R lim n 66 (F114_Lp R lim n K) f114_p1) (retW [] K))) ex T H → kw ex T H) : ∀ (m : Nat) (T : Tm) (H : Heap), F114_l0 R lim n K m (T 0) (T 3) (T 4) (T 5) (T 6) H → loopW (execW R lim n 66 f114_p0) m T H kw
  | 0, _, _, h => False.elim h
  | m + 1, T, H, h => by
    have hb : ∀ ex T H, F114_k0 R lim n K (F114_l0 R lim n K m) ex T H → (fun ex T H => match ex with | .norm => loopW (execW R lim n 66 f114_p0) m T H kw | ex => kw ex T H : Kt) ex T H := by
      intro ex T H h
      cases ex with
      | norm => exact F114_l0_ok R lim n K hk m T H h
      | exit i => exact hk _ _ _ h
      | ret => exact hk _ _ _ h
    have h' : F114_s0 R lim n K (F114_l0 R lim n K m) (T 0) (T 3) (T 4) (T 5) (T 6) H := h
    rw [F114_s0_eq] at h'
    exact execI_sound f114_p0 T H _ _ (oblig_nl (by kernel_rfl)) hb h'
theorem F114_eq (R : Caller) (lim n : Nat) (K : AVal → Heap → Prop) (a0 a1 : AVal) (H : Heap) : F114 R lim n K a0 a1 H = execI R lim n 66 (F114_Lp R lim n K) f114.body (argT [a0, a1]) H (retW [] K) := by kernel_rfl
theorem F114_ob (R : Caller) (lim n : Nat) (K : AVal → Heap → Prop) : Oblig R lim n 66 (F114_Lp R lim n K) f114.body (retW [] K) := ⟨(oblig_nl (by kernel_rfl)), ⟨(oblig_nl (by kernel_rfl)), ⟨(oblig_nl (by kernel_rfl)), ⟨⟨(oblig_nl (by kernel_rfl)), (fun T H h => F114_l0_ok R lim n K (kBlk_mono (kSeqI_sound (oblig_nl (by kernel_rfl)) (fun _ _ _ h => h))) _ T H h)⟩, (oblig_nl (by kernel_rfl))⟩⟩⟩⟩
theorem F114_run {ap : FuncId → Option AFn} (hf : ap 114 = some (.code f114)) {n lim : Nat} {K : AVal → Heap → Prop} {a0 a1 : AVal} {H : Heap} (h : F114 (Ahs.runT ap n) lim n K a0 a1 H) : ∃ v H', Ahs.runT ap (n + 1) lim (.fn 114) [a0, a1] H = some (v, H') ∧ K v H' := by
  rw [F114_eq] at h
  exact run_of_W hf (by kernel_rfl) (by kernel_rfl) (execI_sound f114.body _ _ _ _ (F114_ob _ _ _ K) (fun _ _ _ h => h) h)
def F115_j0 (R : Caller) (lim n : Nat) (K : AVal → Heap → Prop) (t0 t4 : AVal) (H : Heap) : Prop :=
bindP (nilO t0) fun v28 =>
bindP (faddrO 0 v28) fun v29 =>
bindP (astore lim H 1 v29 t4) fun H30 =>
K (.tup []) H30
def F115_j1 (R : Caller) (lim n : Nat) (K : AVal → Heap → Prop) (rec0 : AVal → AVal → AVal → AVal → Heap → Prop) (t0 t1 t4 t5 : AVal) (H : Heap) : Prop :=
bindP (abin .add t5 (.int .i64 1)) fun v44 =>
rec0 t0 t1 t4 v44 H
def F115_s0 (R : Caller) (lim n : Nat) (K : AVal → Heap → Prop) (rec0 : AVal → AVal → AVal → AVal → Heap → Prop) (t0 t1 t4 t5 : AVal) (H : Heap) : Prop :=
bindP (nilO t0) fun v31 =>
bindP (faddrO 0 v31) fun v32 =>
bindP (aload H none v32) fun v33 =>
bindP (alen false v33) fun v34 =>
bindP (abin .lss t5 v34) fun v35 =>
bindP (boolOf v35) fun b36 =>
(b36 = true → (bindP (nilO t0) fun v37 =>
bindP (faddrO 0 v37) fun v38 =>
bindP (aload H none v38) fun v39 =>
bindP (aindexAddr none 5 v39 t5) fun v40 =>
bindP (faddrO 0 v40) fun v41 =>
bindP (aload H none v41) fun v42 =>
bindP (abin .neq v42 t1) fun v43 =>
bindP (boolOf v43) fun b45 =>
(b45 = true → (bindP (nilO t0) fun v46 =>
bindP (faddrO 0 v46) fun v47 =>
bindP (aload H none v47) fun v48 =>
bindP (aindexAddr none 5 v48 t5) fun v49 =>
bindP (aload H (some 5) v49) fun v50 =>
bind2 ((fillV z11b428 [(0, 5, v50)]).map fun cs => (.sl (some (H.next, 0)) 1 (.ex 1), H.push (.cells cs))) fun v51 H52 =>
bind2 (aappend lim H52 z11b428 72 false t4 v51) fun v53 H54 =>
F115_j1 R lim n K rec0 t0 t1 v53 t5 H54)) ∧
(b45 = false → (F115_j1 R lim n K rec0 t0 t1 t4 t5 H)))) ∧
(b36 = false → (F115_j0 R lim n K t0 t4 H))
def F115_l0 (R : Caller) (lim n : Nat) (K : AVal → Heap → Prop) : Nat → AVal → AVal → AVal → AVal → Heap → Prop
  | 0, _, _, _, _, _ => False
  | m + 1, t0, t1, t4, t5, H => F115_s0 R lim n K (F115_l0 R lim n K m) t0 t1 t4 t5 H
def F115 (R : Caller) (lim n : Nat) (K : AVal → Heap → Prop) (a0 a1 : AVal) (H : Heap) : Prop :=
F115_l0 R lim n K n a0 a1 (.sl none 0 (.ex 0)) (.int .i64 0) H
def F115_Lp (R : Caller) (lim n : Nat) (K : AVal → Heap → Prop) : Nat → Tm → Heap → Prop
  | 0, T, H => F115_l0 R lim n K n (T 0) (T 1) (T 4) (T 5) H
  | _, _, _ => False
def F115_Lp0 (R : Caller) (lim n : Nat) (K : AVal → Heap → Prop) (rec0 : AVal → AVal → AVal → AVal → Heap → Prop) : Nat → Tm → Heap → Prop
  | _, _, _ => False
def F115_k0 (R : Caller) (lim n : Nat) (K : AVal → Heap → Prop) (rec0 : AVal → AVal → AVal → AVal → Heap → Prop) : Kt := fun ex T H => match ex with
  | .norm => rec0 (T 0) (T 1) (T 4) (T 5) H
  | ex => (kBlk 0 (kSeq (execI R lim n 39 (F115_Lp R lim n K) f115_p1) (retW [] K))) ex T H
theorem F115_s0_eq (R : Caller) (lim n : Nat) (K : AVal → Heap → Prop) (rec0 : AVal → AVal → AVal → AVal → Heap → Prop) (T : Tm) (H : Heap) : F115_s0 R lim n K rec0 (T 0) (T 1) (T 4) (T 5) H = execI R lim n 39 (F115_Lp0 R lim n K rec0) f115_p0 T H (F115_k0 R lim n K rec0) := by kernel_rfl
theorem F115_l0_ok (R : Caller) (lim n : Nat) (K : AVal → Heap → Prop) {kw : Kt} (hk : ∀ ex T H, (kBlk 0 (kSeq (execI R lim n 39 (F115_Lp R lim n K) f115_p1) (retW [] K))) ex T H → kw ex T H) : ∀ (m : Nat) (T : Tm) (H : Heap), F115_l0 R lim n K m (T 0) (T 1) (T 4) (T 5) H → loopW (execW R lim n 39 f115_p0) m T H kw
  | 0, _, _, h => False.elim h
  | m + 1, T, H, h => by
    have hb : ∀ ex T H, F115_k0 R lim n K (F115_l0 R lim n K m) ex T H → (fun ex T H => match ex with | .norm => loopW (execW R lim n 39 f115_p0) m T H kw | ex => kw ex T H : Kt) ex T H := by
      intro ex T H h
      cases ex with
      | norm => exact F115_l0_ok R lim n K hk m T H h
      | exit i => exact hk _ _ _ h
      | ret => exact hk _ _ _ h
    have h' : F115_s0 R lim n K (F115_l0 R lim n K m) (T 0) (T 1) (T 4) (T 5) H := h
    rw [F115_s0_eq] at h'
    exact execI_sound f115_p0 T H _ _ (oblig_nl (by kernel_rfl)) hb h'
theorem F115_eq (R : Caller) (lim n : Nat) (K : AVal → Heap → Prop) (a0 a1 : AVal) (H : Heap) : F115 R lim n K a0 a1 H = execI R lim n 39 (F115_Lp R lim n K) f115.body (argT [a0, a1]) H (retW [] K) := by kernel_rfl
theorem F115_ob (R : Caller) (lim n : Nat) (K : AVal → Heap → Prop) : Oblig R lim n 39 (F115_Lp R lim n K) f115.body (retW [] K) := ⟨(oblig_nl (by kernel_rfl)), ⟨⟨(oblig_nl (by kernel_rfl)), (fun T H h => F115_l0_ok R lim n K (kBlk_mono (kSeqI_sound (oblig_nl (by kernel_rfl)) (fun _ _ _ h => h))) _ T H h)⟩, (oblig_nl (by kernel_rfl))⟩⟩
theorem F115_run {ap : FuncId → Option AFn} (hf : ap 115 = some (.code f115)) {n lim : Nat} {K : AVal → Heap → Prop} {a0 a1 : AVal} {H : Heap} (h : F115 (Ahs.runT ap n) lim n K a0 a1 H) : ∃ v H', Ahs.runT ap (n + 1) lim (.fn 115) [a0, a1] H = some (v, H') ∧ K v H' := by
  rw [F115_eq] at h
  exact run_of_W hf (by kernel_rfl) (by kernel_rfl) (execI_sound f115.body _ _ _ _ (F115_ob _ _ _ K) (fun _ _ _ h => h) h)
def F116_j0 (R : Caller) (lim n : Nat) (K : AVal → Heap → Prop) (t3 t6 t7 : AVal) (H : Heap) : Prop :=
bind2 ((fillV [] []).map fun cs => (.sl (some (H.next, 0)) 0 (.ex 0), H.push (.cells cs))) fun v32 H33 =>
bindP (faddrO 1 t3) fun v34 =>
bindP (aload H33 none v34) fun v35 =>
bindP (aslice 1 v35 none (some t7) none) fun v36 =>
bind2 (aappend lim H33 [(.str [])] 16 false v32 v36) fun v37 H38 =>
bindP (faddrO 1 t3) fun v39 =>
bindP (astore lim H38 1 v39 v37) fun H40 =>
bindP (faddrO 2 t3) fun v41 =>
bindP (astore lim H40 1 v41 t7) fun H42 =>
bindP (aload H42 (some 5) t3) fun v43 =>
bindP (astore lim H42 5 t6 v43) fun H44 =>
bindP (aload H44 (some 5) t6) fun v45 =>
K v45 H44
def F116_j1 (R : Caller) (lim n : Nat) (K : AVal → Heap → Prop) (t3 t6 t7 t9 : AVal) (H : Heap) : Prop :=
bindP (faddrO 1 t3) fun v58 =>
bindP (aload H none v58) fun v59 =>
bindP (aindexAddr none 1 v59 t7) fun v60 =>
bindP (aload H none v60) fun v61 =>
bindP (asliceStr v61 none (some t9)) fun v62 =>
bindP (faddrO 4 t3) fun v63 =>
bindP (astore lim H 1 v63 v62) fun H64 =>
F116_j0 R lim n K t3 t6 t7 H64
def F116_j2 (R : Caller) (lim n : Nat) (K : AVal → Heap → Prop) (t2 t3 t4 t6 t7 : AVal) (H : Heap) : Prop :=
bindP (faddrO 1 t3) fun v22 =>
bindP (aload H none v22) fun v23 =>
bindP (alen false v23) fun v24 =>
bindP (abin .lss t7 v24) fun v25 =>
bindP (gd (some (v25, true)) (some t2)) fun v26 =>
bindP (gd (some (v25, true)) (faddrO 1 t4)) fun v27 =>
bindP (gd (some (v25, true)) (aload H none v27)) fun v28 =>
bindP (gd (some (v25, true)) (alen false v28)) fun v29 =>
bindP (gd (some (v25, true)) (abin .lss v26 v29)) fun v30 =>
bindP (pickO v25 v30 (.bool false)) fun v31 =>
bindP (boolOf v31) fun b46 =>
(b46 = true → (bindP (faddrO 1 t3) fun v47 =>
bindP (aload H none v47) fun v48 =>
bindP (aindexAddr none 1 v48 t7) fun v49 =>
bindP (aload H none v49) fun v50 =>
bindP (alen true v50) fun v51 =>
bindP (faddrO 1 t4) fun v52 =>
bindP (aload H none v52) fun v53 =>
bindP (aindexAddr none 1 v53 t2) fun v54 =>
bindP (aload H none v54) fun v55 =>
bindP (abin .rem v55 v51) fun v56 =>
bindP (abin .lss v56 (.int .i64 0)) fun v57 =>
bindP (boolOf v57) fun b65 =>
(b65 = true → (bindP (abin .add v56 v51) fun v66 =>
F116_j1 R lim n K t3 t6 t7 v66 H)) ∧
(b65 = false → (F116_j1 R lim n K t3 t6 t7 v56 H)))) ∧
(b46 = false → (F116_j0 R lim n K t3 t6 t7 H))
def F116_j3 (R : Caller) (lim n : Nat) (K : AVal → Heap → Prop) (t2 t3 t4 t6 t7 : AVal) (H : Heap) : Prop :=
bindP (faddrO 1 t3) fun v18 =>
bindP (aload H none v18) fun v19 =>
bindP (alen false v19) fun v20 =>
bindP (abin .lss t7 v20) fun v21 =>
bindP (boolOf v21) fun b67 =>
(b67 = true → (bindP (faddrO 3 t3) fun v68 =>
bindP (astore lim H 1 v68 (.bool true)) fun H69 =>
F116_j2 R lim n K t2 t3 t4 t6 t7 H69)) ∧
(b67 = false → (F116_j2 R lim n K t2 t3 t4 t6 t7 H))
def F116_j4 (R : Caller) (lim n : Nat) (K : AVal → Heap → Prop) (t2 t3 t4 t6 t7 : AVal) (H : Heap) : Prop :=
F116_j3 R lim n K t2 t3 t4 t6 t7 H
def F116 (R : Caller) (lim n : Nat) (K : AVal → Heap → Prop) (a0 a1 a2 : AVal) (H : Heap) : Prop :=
bind2 (if (a0).cells.all (·.one) then some (.ptr (some (H.next, 0)), H.push (.cells (a0).cells)) else none) fun v1 H2 =>
bind2 (if (a1).cells.all (·.one) then some (.ptr (some (H2.next, 0)), H2.push (.cells (a1).cells)) else none) fun v3 H4 =>
bindP (faddrO 2 v1) fun v5 =>
bindP (aload (H4.push (.cells z11b428)) none v5) fun v6 =>
bindP (faddrO 0 v3) fun v7 =>
bindP (aload (H4.push (.cells z11b428)) none v7) fun v8 =>
bindP (alen false v8) fun v9 =>
bindP (abin .lss a2 v9) fun v10 =>
bindP (gd (some (v10, true)) (faddrO 0 v3)) fun v11 =>
bindP (gd (some (v10, true)) (aload (H4.push (.cells z11b428)) none v11)) fun v12 =>
bindP (gd (some (v10, true)) (some a2)) fun v13 =>
bindP (gd (some (v10, true)) (aindexAddr none 1 v12 v13)) fun v14 =>
bindP (gd (some (v10, true)) (aload (H4.push (.cells z11b428)) none v14)) fun v15 =>
bindP (gd (some (v10, true)) (abin .gtr v15 (.int .i64 0))) fun v16 =>
bindP (pickO v10 v16 (.bool false)) fun v17 =>
bindP (boolOf v17) fun b70 =>
(b70 = true → (bindP (faddrO 1 v1) fun v71 =>
bindP (aload (H4.push (.cells z11b428)) none v71) fun v72 =>
bindP (alen false v72) fun v73 =>
bindP (faddrO 0 v3) fun v74 =>
bindP (aload (H4.push (.cells z11b428)) none v74) fun v75 =>
bindP (aindexAddr none 1 v75 a2) fun v76 =>
bindP (aload (H4.push (.cells z11b428)) none v76) fun v77 =>
bindP (faddrO 1 v1) fun v78 =>
bindP (aload (H4.push (.cells z11b428)) none v78) fun v79 =>
bindP (alen false v79) fun v80 =>
bindP (faddrO 2 v1) fun v81 =>
bindP (aload (H4.push (.cells z11b428)) none v81) fun v82 =>
bindP (abin .sub v80 v82) fun v83 =>
bindP (abin .lss v77 v83) fun v84 =>
bindP (boolOf v84) fun b85 =>
(b85 = true → (bindP (faddrO 2 v1) fun v86 =>
bindP (aload (H4.push (.cells z11b428)) none v86) fun v87 =>
bindP (faddrO 0 v3) fun v88 =>
bindP (aload (H4.push (.cells z11b428)) none v88) fun v89 =>
bindP (aindexAddr none 1 v89 a2) fun v90 =>
bindP (aload (H4.push (.cells z11b428)) none v90) fun v91 =>
bindP (abin .add v87 v91) fun v92 =>
F116_j4 R lim n K a2 v1 v3 (.ptr (some (H4.next, 0))) v92 (H4.push (.cells z11b428)))) ∧
(b85 = false → (F116_j4 R lim n K a2 v1 v3 (.ptr (some (H4.next, 0))) v73 (H4.push (.cells z11b428)))))) ∧
(b70 = false → (F116_j3 R lim n K a2 v1 v3 (.ptr (some (H4.next, 0))) v6 (H4.push (.cells z11b428))))
def F116_Lp (R : Caller) (lim n : Nat) (K : AVal → Heap → Prop) : Nat → Tm → Heap → Prop
  | _, _, _ => False
theorem F116_eq (R : Caller) (lim n : Nat) (K : AVal → Heap → Prop) (a0 a1 a2 : AVal) (H : Heap) : F116 R lim n K a0 a1 a2 H = execI R lim n 102 (F116_Lp R lim n K) f116.body (argT [a0, a1, a2]) H (retW [(.cell 6 (some 5))] K) := by kernel_rfl
theorem F116_ob (R : Caller) (lim n : Nat) (K : AVal → Heap → Prop) : Oblig R lim n 102 (F116_Lp R lim n K) f116.body (retW [(.cell 6 (some 5))] K) := (oblig_nl (by kernel_rfl))
theorem F116_run {ap : FuncId → Option AFn} (hf : ap 116 = some (.code f116)) {n lim : Nat} {K : AVal → Heap → Prop} {a0 a1 a2 : AVal} {H : Heap} (h : F116 (Ahs.runT ap n) lim n K a0 a1 a2 H) : ∃ v H', Ahs.runT ap (n + 1) lim (.fn 116) [a0, a1, a2] H = some (v, H') ∧ K v H' := by
  rw [F116_eq] at h
  exact run_of_W hf (by kernel_rfl) (by kernel_rfl) (execI_sound f116.body _ _ _ _ (F116_ob _ _ _ K) (fun _ _ _ h => h) h)
end Go.Proofs.Ytjflpnahjooffaa.disk
