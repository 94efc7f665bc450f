/- What each function comes to, as one formula; printed by genw.py. -/
import Derived.Test.YtpefhojmfcenfaaCgAp
import Derived.Test.YtpefhojmfcenfaaBhsW1
set_option maxRecDepth 100000
set_option linter.unusedVariables false
namespace Go.Proofs.Ytpefhojmfcenfaa.conf
open Go.Ahs
def z0 : List AVal := [(.int .u8 0), (.int .u8 0), (.int .u8 0)]
def z1 : List AVal := [(.int .u64 0), (.int .u64 0), (.int .u64 0), (.int .u64 0), (.int .u64 0), (.int .u64 0)]
def F10_j0 (R : Caller) (lim n : Nat) (K : AVal → Heap → Prop) (t0 t2 t3 t5 t9 t10 t11 : AVal) (H : Heap) : Prop :=
bind2 (R lim (.fn 41) [t0, t10] H) fun v58 H59 =>
bindP (aun .not v58) fun v60 =>
bindP (gd (some (v60, false)) (some t0)) fun v61 =>
bindP (gd (some (v60, false)) (some t11)) fun v62 =>
bind2 (gd2 (some (v60, false)) H59 (R lim (.fn 41) [v61, v62] H59)) fun v63 H64 =>
bindP (pickO v60 (.bool true) v63) fun v65 =>
bindP (boolOf v65) fun b66 =>
(b66 = true → (K (.bool false) H64)) ∧
(b66 = false → (bindP (abin .rem t2 (.int .u8 6)) fun v67 =>
bindP (aindexAddr (some 6) 1 t5 v67) fun v68 =>
bindP (aload H64 none v68) fun v69 =>
bindP (aminmax true [v69, t3]) fun v70 =>
bindP (aindexAddr (some 6) 1 t5 v67) fun v71 =>
bindP (astore lim H64 1 v71 v70) fun H72 =>
bindP (aload H72 (some 6) t5) fun v73 =>
bind2 (R lim (.fn 37) [t0, v73] H72) fun v74 H75 =>
bindP (abin .geq v74 t9) fun v76 =>
bind2 (gd2 (some (v76, true)) H75 (R lim (.fn 39) [] H75)) fun v77 H78 =>
bindP (pickO v76 v77 (.bool false)) fun v79 =>
K v79 H78))
def F10_j1 (R : Caller) (lim n : Nat) (K : AVal → Heap → Prop) (rec0 : AVal → AVal → AVal → AVal → AVal → AVal → AVal → AVal → Heap → Prop) (t0 t2 t3 t5 t9 t10 t11 t12 : AVal) (H : Heap) : Prop :=
bindP (abin .add t12 (.int .u8 1)) fun v88 =>
rec0 t0 t2 t3 t5 t9 t10 t11 v88 H
def F10_j2 (R : Caller) (lim n : Nat) (K : AVal → Heap → Prop) (rec0 : AVal → AVal → AVal → AVal → AVal → AVal → AVal → AVal → Heap → Prop) (t0 t2 t3 t5 t9 t10 t11 t12 : AVal) (H : Heap) : Prop :=
bindP (aindexAddr (some 6) 1 t5 t12) fun v85 =>
bindP (aload H none v85) fun v86 =>
bindP (abin .gtr v86 t9) fun v87 =>
bindP (boolOf v87) fun b89 =>
(b89 = true → (bind2 ((fillV [(.int .u8 0)] [(0, 1, t12)]).map fun cs => (.sl (some (H.next, 0)) 1 (.ex 1), H.push (.cells cs))) fun v90 H91 =>
bind2 (R lim (.fn 40) [v90] H91) fun v92 H93 =>
bindP (abin .or t11 v92) fun v94 =>
F10_j1 R lim n K rec0 t0 t2 t3 t5 t9 t10 v94 t12 H93)) ∧
(b89 = false → (F10_j1 R lim n K rec0 t0 t2 t3 t5 t9 t10 t11 t12 H))
def F10_s0 (R : Caller) (lim n : Nat) (K : AVal → Heap → Prop) (rec0 : AVal → AVal → AVal → AVal → AVal → AVal → AVal → AVal → Heap → Prop) (t0 t2 t3 t5 t9 t10 t11 t12 : AVal) (H : Heap) : Prop :=
bindP (abin .leq t12 (.int .u8 5)) fun v80 =>
bindP (boolOf v80) fun b81 =>
(b81 = true → (bindP (aindexAddr (some 6) 1 t5 t12) fun v82 =>
bindP (aload H none v82) fun v83 =>
bindP (abin .geq v83 t9) fun v84 =>
bindP (boolOf v84) fun b95 =>
(b95 = true → (bind2 ((fillV [(.int .u8 0)] [(0, 1, t12)]).map fun cs => (.sl (some (H.next, 0)) 1 (.ex 1), H.push (.cells cs))) fun v96 H97 =>
bind2 (R lim (.fn 40) [v96] H97) fun v98 H99 =>
bindP (abin .or t10 v98) fun v100 =>
F10_j2 R lim n K rec0 t0 t2 t3 t5 t9 v100 t11 t12 H99)) ∧
(b95 = false → (F10_j2 R lim n K rec0 t0 t2 t3 t5 t9 t10 t11 t12 H)))) ∧
(b81 = false → (F10_j0 R lim n K t0 t2 t3 t5 t9 t10 t11 H))
def F10_l0 (R : Caller) (lim n : Nat) (K : AVal → Heap → Prop) : Nat → AVal → AVal → AVal → AVal → AVal → AVal → AVal → AVal → Heap → Prop
  | 0, _, _, _, _, _, _, _, _, _ => False
  | m + 1, t0, t2, t3, t5, t9, t10, t11, t12, H => F10_s0 R lim n K (F10_l0 R lim n K m) t0 t2 t3 t5 t9 t10 t11 t12 H
def F10 (R : Caller) (lim n : Nat) (K : AVal → Heap → Prop) (a0 a1 a2 a3 : AVal) (H : Heap) : Prop :=
bind2 (if (a1).cells.all (·.one) then some (.ptr (some (H.next, 0)), H.push (.cells (a1).cells)) else none) fun v1 H2 =>
bindP (aload H2 (some 6) v1) fun v3 =>
bind2 (R lim (.fn 37) [a0, v3] H2) fun v4 H5 =>
bind2 (R lim (.fn 38) [a0] H5) fun v6 H7 =>
bindP (alen false v6) fun v8 =>
bindP (abin .eql v8 (.int .i64 0)) fun v9 =>
bindP (boolOf v9) fun b10 =>
(b10 = true → (bindP (abin .eql v4 (.int .u64 0)) fun v11 =>
bind2 (gd2 (some (v11, true)) H7 (R lim (.fn 39) [] H7)) fun v12 H13 =>
bindP (pickO v11 v12 (.bool false)) fun v14 =>
K v14 H13)) ∧
(b10 = false → (F10_l0 R lim n K n a0 a2 a3 v1 v4 (.int .u8 0) (.int .u8 0) (.int .u8 1) H7))
def F10_Lp (R : Caller) (lim n : Nat) (K : AVal → Heap → Prop) : Nat → Tm → Heap → Prop
  | 0, T, H => F10_l0 R lim n K n (T 0) (T 2) (T 3) (T 5) (T 9) (T 10) (T 11) (T 12) H
  | _, _, _ => False
def F10_Lp0 (R : Caller) (lim n : Nat) (K : AVal → Heap → Prop) (rec0 : AVal → AVal → AVal → AVal → AVal → AVal → AVal → AVal → Heap → Prop) : Nat → Tm → Heap → Prop
  | _, _, _ => False
def F10_k0 (R : Caller) (lim n : Nat) (K : AVal → Heap → Prop) (rec0 : AVal → AVal → AVal → AVal → AVal → AVal → AVal → AVal → Heap → Prop) : Kt := fun ex T H => match ex with
  | .norm => rec0 (T 0) (T 2) (T 3) (T 5) (T 9) (T 10) (T 11) (T 12) H
  | ex => (kBlk 0 (kSeq (execI R lim n 76 (F10_Lp R lim n K) f10_p1) (retW [(.tmp 8)] K))) ex T H
theorem F10_s0_eq (R : Caller) (lim n : Nat) (K : AVal → Heap → Prop) (rec0 : AVal → AVal → AVal → AVal → AVal → AVal → AVal → AVal → Heap → Prop) (T : Tm) (H : Heap) : F10_s0 R lim n K rec0 (T 0) (T 2) (T 3) (T 5) (T 9) (T 10) (T 11) (T 12) H = execI R lim n 76 (F10_Lp0 R lim n K rec0) f10_p0 T H (F10_k0 R lim n K rec0) := by kernel_rfl
theorem F10_l0_ok (R : Caller) (lim n : Nat) (K : AVal → Heap → Prop) {kw : Kt} (hk : ∀ ex T H, (kBlk 0 (kSeq (execI R lim n 76 (F10_Lp R lim n K) f10_p1) (retW [(.tmp 8)] K))) ex T H → kw ex T H) : ∀ (m : Nat) (T : Tm) (H : Heap), F10_l0 R lim n K m (T 0) (T 2) (T 3) (T 5) (T 9) (T 10) (T 11) (T 12) H → loopW (execW R lim n 76 f10_p0) m T H kw
  | 0, _, _, h => False.elim h
  | m + 1, T, H, h => by
    have hb : ∀ ex T H, F10_k0 R lim n K (F10_l0 R lim n K m) ex T H → (fun ex T H => match ex with | .norm => loopW (execW R lim n 76 f10_p0) m T H kw | ex => kw ex T H : Kt) ex T H := by
      intro ex T H h
      cases ex with
      | norm => exact F10_l0_ok R lim n K hk m T H h
      | exit i => exact hk _ _ _ h
      | ret => exact hk _ _ _ h
    have h' : F10_s0 R lim n K (F10_l0 R lim n K m) (T 0) (T 2) (T 3) (T 5) (T 9) (T 10) (T 11) (T 12) H := h
    rw [F10_s0_eq] at h'
    exact execI_sound f10_p0 T H _ _ (oblig_nl (by kernel_rfl)) hb h'
theorem F10_eq (R : Caller) (lim n : Nat) (K : AVal → Heap → Prop) (a0 a1 a2 a3 : AVal) (H : Heap) : F10 R lim n K a0 a1 a2 a3 H = execI R lim n 76 (F10_Lp R lim n K) f10.body (argT [a0, a1, a2, a3]) H (retW [(.tmp 8)] K) := by kernel_rfl
theorem F10_ob (R : Caller) (lim n : Nat) (K : AVal → Heap → Prop) : Oblig R lim n 76 (F10_Lp R lim n K) f10.body (retW [(.tmp 8)] K) := ⟨(oblig_nl (by kernel_rfl)), ⟨(oblig_nl (by kernel_rfl)), ⟨(oblig_nl (by kernel_rfl)), ⟨(oblig_nl (by kernel_rfl)), ⟨⟨(oblig_nl (by kernel_rfl)), (fun T H h => F10_l0_ok R lim n K (kBlk_mono (kSeqI_sound (oblig_nl (by kernel_rfl)) (fun _ _ _ h => h))) _ T H h)⟩, (oblig_nl (by kernel_rfl))⟩⟩⟩⟩⟩
theorem F10_run {ap : FuncId → Option AFn} (hf : ap 10 = some (.code f10)) {n lim : Nat} {K : AVal → Heap → Prop} {a0 a1 a2 a3 : AVal} {H : Heap} (h : F10 (Ahs.runT ap n) lim n K a0 a1 a2 a3 H) : ∃ v H', Ahs.runT ap (n + 1) lim (.fn 10) [a0, a1, a2, a3] H = some (v, H') ∧ K v H' := by
  rw [F10_eq] at h
  exact run_of_W hf (by kernel_rfl) (by kernel_rfl) (execI_sound f10.body _ _ _ _ (F10_ob _ _ _ K) (fun _ _ _ h => h) h)
def F11_j0 (R : Caller) (lim n : Nat) (K : AVal → Heap → Prop) (H : Heap) : Prop :=
K (.bool false) H
def F11_s0 (R : Caller) (lim n : Nat) (K : AVal → Heap → Prop) (rec0 : AVal → AVal → AVal → AVal → AVal → Heap → Prop) (t0 t1 t2 t3 t9 : AVal) (H : Heap) : Prop :=
bindP (abin .leq t9 (.int .u8 5)) fun v42 =>
bindP (boolOf v42) fun b43 =>
(b43 = true → (bind2 (R lim (.fn 43) [t0, t9] H) fun v44 H45 =>
bindP (gd (some (v44, true)) (some t1)) fun v46 =>
bindP (gd (some (v44, true)) (some t9)) fun v47 =>
bind2 (gd2 (some (v44, true)) H45 (R lim (.fn 43) [v46, v47] H45)) fun v48 H49 =>
bindP (pickO v44 v48 (.bool false)) fun v50 =>
bindP (gd (some (v50, true)) (some t2)) fun v51 =>
bindP (gd (some (v50, true)) (some t9)) fun v52 =>
bind2 (gd2 (some (v50, true)) H49 (R lim (.fn 43) [v51, v52] H49)) fun v53 H54 =>
bindP (pickO v50 v53 (.bool false)) fun v55 =>
bindP (gd (some (v55, true)) (some t3)) fun v56 =>
bindP (gd (some (v55, true)) (some t9)) fun v57 =>
bind2 (gd2 (some (v55, true)) H54 (R lim (.fn 43) [v56, v57] H54)) fun v58 H59 =>
bindP (pickO v55 v58 (.bool false)) fun v60 =>
bindP (boolOf v60) fun b61 =>
(b61 = true → (bind2 (R lim (.fn 39) [] H59) fun v62 H63 =>
K v62 H63)) ∧
(b61 = false → (bindP (abin .add t9 (.int .u8 1)) fun v64 =>
rec0 t0 t1 t2 t3 v64 H59)))) ∧
(b43 = false → (F11_j0 R lim n K H))
def F11_l0 (R : Caller) (lim n : Nat) (K : AVal → Heap → Prop) : Nat → AVal → AVal → AVal → AVal → AVal → Heap → Prop
  | 0, _, _, _, _, _, _ => False
  | m + 1, t0, t1, t2, t3, t9, H => F11_s0 R lim n K (F11_l0 R lim n K m) t0 t1 t2 t3 t9 H
def F11 (R : Caller) (lim n : Nat) (K : AVal → Heap → Prop) (a0 a1 a2 a3 : AVal) (H : Heap) : Prop :=
bind2 (R lim (.fn 42) [a0, a1] H) fun v1 H2 =>
bindP (aun .not v1) fun v3 =>
bindP (gd (some (v3, false)) (some a0)) fun v4 =>
bindP (gd (some (v3, false)) (some a2)) fun v5 =>
bind2 (gd2 (some (v3, false)) H2 (R lim (.fn 41) [v4, v5] H2)) fun v6 H7 =>
bindP (gd (some (v3, false)) (aun .not v6)) fun v8 =>
bindP (pickO v3 (.bool true) v8) fun v9 =>
bindP (gd (some (v9, false)) (some a1)) fun v10 =>
bindP (gd (some (v9, false)) (some a3)) fun v11 =>
bind2 (gd2 (some (v9, false)) H7 (R lim (.fn 41) [v10, v11] H7)) fun v12 H13 =>
bindP (gd (some (v9, false)) (aun .not v12)) fun v14 =>
bindP (pickO v9 (.bool true) v14) fun v15 =>
bindP (boolOf v15) fun b16 =>
(b16 = true → (bind2 (R lim (.fn 39) [] H13) fun v17 H18 =>
K v17 H18)) ∧
(b16 = false → (F11_l0 R lim n K n a0 a1 a2 a3 (.int .u8 1) H13))
def F11_Lp (R : Caller) (lim n : Nat) (K : AVal → Heap → Prop) : Nat → Tm → Heap → Prop
  | 0, T, H => F11_l0 R lim n K n (T 0) (T 1) (T 2) (T 3) (T 9) H
  | _, _, _ => False
def F11_Lp0 (R : Caller) (lim n : Nat) (K : AVal → Heap → Prop) (rec0 : AVal → AVal → AVal → AVal → AVal → Heap → Prop) : Nat → Tm → Heap → Prop
  | _, _, _ => False
def F11_k0 (R : Caller) (lim n : Nat) (K : AVal → Heap → Prop) (rec0 : AVal → AVal → AVal → AVal → AVal → Heap → Prop) : Kt := fun ex T H => match ex with
  | .norm => rec0 (T 0) (T 1) (T 2) (T 3) (T 9) H
  | ex => (kBlk 0 (kSeq (execI R lim n 50 (F11_Lp R lim n K) f11_p1) (retW [(.tmp 8)] K))) ex T H
theorem F11_s0_eq (R : Caller) (lim n : Nat) (K : AVal → Heap → Prop) (rec0 : AVal → AVal → AVal → AVal → AVal → Heap → Prop) (T : Tm) (H : Heap) : F11_s0 R lim n K rec0 (T 0) (T 1) (T 2) (T 3) (T 9) H = execI R lim n 50 (F11_Lp0 R lim n K rec0) f11_p0 T H (F11_k0 R lim n K rec0) := by kernel_rfl
theorem F11_l0_ok (R : Caller) (lim n : Nat) (K : AVal → Heap → Prop) {kw : Kt} (hk : ∀ ex T H, (kBlk 0 (kSeq (execI R lim n 50 (F11_Lp R lim n K) f11_p1) (retW [(.tmp 8)] K))) ex T H → kw ex T H) : ∀ (m : Nat) (T : Tm) (H : Heap), F11_l0 R lim n K m (T 0) (T 1) (T 2) (T 3) (T 9) H → loopW (execW R lim n 50 f11_p0) m T H kw
  | 0, _, _, h => False.elim h
  | m + 1, T, H, h => by
    have hb : ∀ ex T H, F11_k0 R lim n K (F11_l0 R lim n K m) ex T H → (fun ex T H => match ex with | .norm => loopW (execW R lim n 50 f11_p0) m T H kw | ex => kw ex T H : Kt) ex T H := by
      intro ex T H h
      cases ex with
      | norm => exact F11_l0_ok R lim n K hk m T H h
      | exit i => exact hk _ _ _ h
      | ret => exact hk _ _ _ h
    have h' : F11_s0 R lim n K (F11_l0 R lim n K m) (T 0) (T 1) (T 2) (T 3) (T 9) H := h
    rw [F11_s0_eq] at h'
    exact execI_sound f11_p0 T H _ _ (oblig_nl (by kernel_rfl)) hb h'
theorem F11_eq (R : Caller) (lim n : Nat) (K : AVal → Heap → Prop) (a0 a1 a2 a3 : AVal) (H : Heap) : F11 R lim n K a0 a1 a2 a3 H = execI R lim n 50 (F11_Lp R lim n K) f11.body (argT [a0, a1, a2, a3]) H (retW [(.tmp 8)] K) := by kernel_rfl
theorem F11_ob (R : Caller) (lim n : Nat) (K : AVal → Heap → Prop) : Oblig R lim n 50 (F11_Lp R lim n K) f11.body (retW [(.tmp 8)] K) := ⟨(oblig_nl (by kernel_rfl)), ⟨(oblig_nl (by kernel_rfl)), ⟨⟨(oblig_nl (by kernel_rfl)), (fun T H h => F11_l0_ok R lim n K (kBlk_mono (kSeqI_sound (oblig_nl (by kernel_rfl)) (fun _ _ _ h => h))) _ T H h)⟩, (oblig_nl (by kernel_rfl))⟩⟩⟩
theorem F11_run {ap : FuncId → Option AFn} (hf : ap 11 = some (.code f11)) {n lim : Nat} {K : AVal → Heap → Prop} {a0 a1 a2 a3 : AVal} {H : Heap} (h : F11 (Ahs.runT ap n) lim n K a0 a1 a2 a3 H) : ∃ v H', Ahs.runT ap (n + 1) lim (.fn 11) [a0, a1, a2, a3] H = some (v, H') ∧ K v H' := by
  rw [F11_eq] at h
  exact run_of_W hf (by kernel_rfl) (by kernel_rfl) (execI_sound f11.body _ _ _ _ (F11_ob _ _ _ K) (fun _ _ _ h => h) h)
def F12_j0 (R : Caller) (lim n : Nat) (K : AVal → Heap → Prop) (t0 t1 t2 t3 t10 : AVal) (H : Heap) : Prop :=
bind2 (R lim (.fn 47) [t0, t3] H) fun v102 H103 =>
bindP (extO 0 v102) fun v104 =>
bindP (extO 1 v102) fun v105 =>
bind2 (R lim (.fn 48) [t0, t3] H103) fun v106 H107 =>
bindP (extO 0 v106) fun v108 =>
bindP (extO 1 v106) fun v109 =>
bind2 (R lim (.fn 49) [t0, t3] H107) fun v110 H111 =>
bindP (extO 0 v110) fun v112 =>
bindP (extO 1 v110) fun v113 =>
bind2 (R lim (.fn 50) [t0, t3] H111) fun v114 H115 =>
bindP (extO 0 v114) fun v116 =>
bindP (extO 1 v114) fun v117 =>
bindP (abin .neq v104 v108) fun v118 =>
bindP (gd (some (v118, false)) (some v105)) fun v119 =>
bindP (gd (some (v118, false)) (some v109)) fun v120 =>
bindP (gd (some (v118, false)) (abin .neq v119 v120)) fun v121 =>
bindP (pickO v118 (.bool true) v121) fun v122 =>
bindP (gd (some (v122, false)) (some v112)) fun v123 =>
bindP (gd (some (v122, false)) (some v116)) fun v124 =>
bindP (gd (some (v122, false)) (abin .neq v123 v124)) fun v125 =>
bindP (pickO v122 (.bool true) v125) fun v126 =>
bindP (gd (some (v126, false)) (some v113)) fun v127 =>
bindP (gd (some (v126, false)) (some v117)) fun v128 =>
bindP (gd (some (v126, false)) (abin .neq v127 v128)) fun v129 =>
bindP (pickO v126 (.bool true) v129) fun v130 =>
bindP (boolOf v130) fun b131 =>
(b131 = true → (K (.bool false) H115)) ∧
(b131 = false → (bind2 (R lim (.fn 41) [t0, t2] H115) fun v132 H133 =>
bind2 (R lim (.fn 51) [t0, t2] H133) fun v134 H135 =>
bindP (eqvO false .bool v132 v134) fun v136 =>
bindP (gd (some (v136, true)) (some t0)) fun v137 =>
bindP (gd (some (v136, true)) (aload H135 (some 6) t10)) fun v138 =>
bind2 (gd2 (some (v136, true)) H135 (R H135.next (.fn 37) [v137, v138] H135)) fun v139 H140 =>
bindP (gd (some (v136, true)) (some t0)) fun v141 =>
bindP (gd (some (v136, true)) (aload H140 (some 6) t10)) fun v142 =>
bind2 (gd2 (some (v136, true)) H140 (R lim (.fn 52) [v141, v142] H140)) fun v143 H144 =>
bindP (gd (some (v136, true)) (abin .eql v139 v143)) fun v145 =>
bindP (pickO v136 v145 (.bool false)) fun v146 =>
bindP (gd (some (v146, true)) (some t0)) fun v147 =>
bindP (gd (some (v146, true)) (some t1)) fun v148 =>
bind2 (gd2 (some (v146, true)) H144 (R lim (.fn 42) [v147, v148] H144)) fun v149 H150 =>
bindP (gd (some (v146, true)) (some t0)) fun v151 =>
bindP (gd (some (v146, true)) (some t1)) fun v152 =>
bind2 (gd2 (some (v146, true)) H150 (R lim (.fn 53) [v151, v152] H150)) fun v153 H154 =>
bindP (gd (some (v146, true)) (eqvO false .bool v149 v153)) fun v155 =>
bindP (pickO v146 v155 (.bool false)) fun v156 =>
bind2 (gd2 (some (v156, true)) H154 (R lim (.fn 39) [] H154)) fun v157 H158 =>
bindP (pickO v156 v157 (.bool false)) fun v159 =>
K v159 H158))
def F12_s0 (R : Caller) (lim n : Nat) (K : AVal → Heap → Prop) (rec0 : AVal → AVal → AVal → AVal → AVal → AVal → AVal → AVal → Heap → Prop) (t0 t1 t2 t3 t10 t13 t14 t15 : AVal) (H : Heap) : Prop :=
bindP (alen false t13) fun v160 =>
bindP (abin .lss t15 v160) fun v161 =>
bindP (boolOf v161) fun b162 =>
(b162 = true → (bindP (aindexAddr none 1 t13 t15) fun v163 =>
bindP (aload H none v163) fun v164 =>
bindP (aindexAddr none 1 t14 t15) fun v165 =>
bindP (aload H none v165) fun v166 =>
bindP (abin .neq v164 v166) fun v167 =>
bindP (boolOf v167) fun b168 =>
(b168 = true → (K (.bool false) H)) ∧
(b168 = false → (bindP (abin .add t15 (.int .i64 1)) fun v169 =>
rec0 t0 t1 t2 t3 t10 t13 t14 v169 H)))) ∧
(b162 = false → (F12_j0 R lim n K t0 t1 t2 t3 t10 H))
def F12_l0 (R : Caller) (lim n : Nat) (K : AVal → Heap → Prop) : Nat → AVal → AVal → AVal → AVal → AVal → AVal → AVal → AVal → Heap → Prop
  | 0, _, _, _, _, _, _, _, _, _ => False
  | m + 1, t0, t1, t2, t3, t10, t13, t14, t15, H => F12_s0 R lim n K (F12_l0 R lim n K m) t0 t1 t2 t3 t10 t13 t14 t15 H
def F12 (R : Caller) (lim n : Nat) (K : AVal → Heap → Prop) (a0 a1 a2 a3 a4 a5 : AVal) (H : Heap) : Prop :=
bind2 (if (a4).cells.all (·.one) then some (.ptr (some (H.next, 0)), H.push (.cells (a4).cells)) else none) fun v1 H2 =>
bindP (alen false a5) fun v3 =>
bindP (abin .gtr v3 (.int .i64 100)) fun v4 =>
bindP (boolOf v4) fun b5 =>
(b5 = true → (bind2 (R lim (.fn 39) [] H2) fun v6 H7 =>
K v6 H7)) ∧
(b5 = false → (bind2 (R lim (.fn 38) [a0] H2) fun v8 H9 =>
bind2 (R lim (.fn 44) [a0] H9) fun v10 H11 =>
bindP (alen false v8) fun v12 =>
bindP (alen false v10) fun v13 =>
bindP (abin .neq v12 v13) fun v14 =>
bindP (gd (some (v14, false)) (some a5)) fun v15 =>
bind2 (gd2 (some (v14, false)) H11 (R lim (.fn 40) [v15] H11)) fun v16 H17 =>
bindP (gd (some (v14, false)) (some a5)) fun v18 =>
bind2 (gd2 (some (v14, false)) H17 (R lim (.fn 45) [v18] H17)) fun v19 H20 =>
bindP (gd (some (v14, false)) (abin .neq v16 v19)) fun v21 =>
bindP (pickO v14 (.bool true) v21) fun v22 =>
bindP (gd (some (v22, false)) (some a0)) fun v23 =>
bindP (gd (some (v22, false)) (some a3)) fun v24 =>
bind2 (gd2 (some (v22, false)) H20 (R lim (.fn 43) [v23, v24] H20)) fun v25 H26 =>
bindP (gd (some (v22, false)) (some a0)) fun v27 =>
bindP (gd (some (v22, false)) (some a3)) fun v28 =>
bind2 (gd2 (some (v22, false)) H26 (R lim (.fn 46) [v27, v28] H26)) fun v29 H30 =>
bindP (gd (some (v22, false)) (eqvO true .bool v25 v29)) fun v31 =>
bindP (pickO v22 (.bool true) v31) fun v32 =>
bindP (boolOf v32) fun b33 =>
(b33 = true → (K (.bool false) H30)) ∧
(b33 = false → (F12_l0 R lim n K n a0 a1 a2 a3 v1 v8 v10 (.int .i64 0) H30))))
def F12_Lp (R : Caller) (lim n : Nat) (K : AVal → Heap → Prop) : Nat → Tm → Heap → Prop
  | 0, T, H => F12_l0 R lim n K n (T 0) (T 1) (T 2) (T 3) (T 10) (T 13) (T 14) (T 15) H
  | _, _, _ => False
def F12_Lp0 (R : Caller) (lim n : Nat) (K : AVal → Heap → Prop) (rec0 : AVal → AVal → AVal → AVal → AVal → AVal → AVal → AVal → Heap → Prop) : Nat → Tm → Heap → Prop
  | _, _, _ => False
def F12_k0 (R : Caller) (lim n : Nat) (K : AVal → Heap → Prop) (rec0 : AVal → AVal → AVal → AVal → AVal → AVal → AVal → AVal → Heap → Prop) : Kt := fun ex T H => match ex with
  | .norm => rec0 (T 0) (T 1) (T 2) (T 3) (T 10) (T 13) (T 14) (T 15) H
  | ex => (kBlk 0 (kSeq (execI R lim n 138 (F12_Lp R lim n K) f12_p1) (retW [(.tmp 12)] K))) ex T H
theorem F12_s0_eq (R : Caller) (lim n : Nat) (K : AVal → Heap → Prop) (rec0 : AVal → AVal → AVal → AVal → AVal → AVal → AVal → AVal → Heap → Prop) (T : Tm) (H : Heap) : F12_s0 R lim n K rec0 (T 0) (T 1) (T 2) (T 3) (T 10) (T 13) (T 14) (T 15) H = execI R lim n 138 (F12_Lp0 R lim n K rec0) f12_p0 T H (F12_k0 R lim n K rec0) := by kernel_rfl
theorem F12_l0_ok (R : Caller) (lim n : Nat) (K : AVal → Heap → Prop) {kw : Kt} (hk : ∀ ex T H, (kBlk 0 (kSeq (execI R lim n 138 (F12_Lp R lim n K) f12_p1) (retW [(.tmp 12)] K))) ex T H → kw ex T H) : ∀ (m : Nat) (T : Tm) (H : Heap), F12_l0 R lim n K m (T 0) (T 1) (T 2) (T 3) (T 10) (T 13) (T 14) (T 15) H → loopW (execW R lim n 138 f12_p0) m T H kw
  | 0, _, _, h => False.elim h
  | m + 1, T, H, h => by
    have hb : ∀ ex T H, F12_k0 R lim n K (F12_l0 R lim n K m) ex T H → (fun ex T H => match ex with | .norm => loopW (execW R lim n 138 f12_p0) m T H kw | ex => kw ex T H : Kt) ex T H := by
      intro ex T H h
      cases ex with
      | norm => exact F12_l0_ok R lim n K hk m T H h
      | exit i => exact hk _ _ _ h
      | ret => exact hk _ _ _ h
    have h' : F12_s0 R lim n K (F12_l0 R lim n K m) (T 0) (T 1) (T 2) (T 3) (T 10) (T 13) (T 14) (T 15) H := h
    rw [F12_s0_eq] at h'
    exact execI_sound f12_p0 T H _ _ (oblig_nl (by kernel_rfl)) hb h'
theorem F12_eq (R : Caller) (lim n : Nat) (K : AVal → Heap → Prop) (a0 a1 a2 a3 a4 a5 : AVal) (H : Heap) : F12 R lim n K a0 a1 a2 a3 a4 a5 H = execI R lim n 138 (F12_Lp R lim n K) f12.body (argT [a0, a1, a2, a3, a4, a5]) H (retW [(.tmp 12)] K) := by kernel_rfl
theorem F12_ob (R : Caller) (lim n : Nat) (K : AVal → Heap → Prop) : Oblig R lim n 138 (F12_Lp R lim n K) f12.body (retW [(.tmp 12)] K) := ⟨(oblig_nl (by kernel_rfl)), ⟨(oblig_nl (by kernel_rfl)), ⟨(oblig_nl (by kernel_rfl)), ⟨(oblig_nl (by kernel_rfl)), ⟨(oblig_nl (by kernel_rfl)), ⟨⟨(oblig_nl (by kernel_rfl)), (fun T H h => F12_l0_ok R lim n K (kBlk_mono (kSeqI_sound (oblig_nl (by kernel_rfl)) (fun _ _ _ h => h))) _ T H h)⟩, (oblig_nl (by kernel_rfl))⟩⟩⟩⟩⟩⟩
theorem F12_run {ap : FuncId → Option AFn} (hf : ap 12 = some (.code f12)) {n lim : Nat} {K : AVal → Heap → Prop} {a0 a1 a2 a3 a4 a5 : AVal} {H : Heap} (h : F12 (Ahs.runT ap n) lim n K a0 a1 a2 a3 a4 a5 H) : ∃ v H', Ahs.runT ap (n + 1) lim (.fn 12) [a0, a1, a2, a3, a4, a5] H = some (v, H') ∧ K v H' := by
  rw [F12_eq] at h
  exact run_of_W hf (by kernel_rfl) (by kernel_rfl) (execI_sound f12.body _ _ _ _ (F12_ob _ _ _ K) (fun _ _ _ h => h) h)
def F14_j0 (R : Caller) (lim n : Nat) (K : AVal → Heap → Prop) (t0 t1 t2 t7 : AVal) (H : Heap) : Prop :=
bind2 (R lim (.fn 41) [t0, t1] H) fun v15 H16 =>
bindP (gd (some (v15, true)) (some t0)) fun v17 =>
bindP (gd (some (v15, true)) (some t1)) fun v18 =>
bindP (gd (some (v15, true)) (some t2)) fun v19 =>
bind2 (gd2 (some (v15, true)) H16 ((fillV [(.int .u8 0)] [(0, 1, v19)]).map fun cs => (.sl (some (H16.next, 0)) 1 (.ex 1), H16.push (.cells cs)))) fun v20 H21 =>
bind2 (gd2 (some (v15, true)) H21 (R lim (.fn 40) [v20] H21)) fun v22 H23 =>
bindP (gd (some (v15, true)) (abin .or v18 v22)) fun v24 =>
bind2 (gd2 (some (v15, true)) H23 (R lim (.fn 41) [v17, v24] H23)) fun v25 H26 =>
bindP (gd (some (v15, true)) (aun .not v25)) fun v27 =>
bindP (pickO v15 v27 (.bool false)) fun v28 =>
bindP (gd (some (v28, false)) (some t0)) fun v29 =>
bindP (gd (some (v28, false)) (some t0)) fun v30 =>
bind2 (gd2 (some (v28, false)) H26 (R lim (.fn 41) [v29, v30] H26)) fun v31 H32 =>
bindP (gd (some (v28, false)) (some t7)) fun v33 =>
bindP (gd (some (v28, false)) (abin .neq v33 (.int .u8 0))) fun v34 =>
bindP (gd (some (v28, false)) (eqvO true .bool v31 v34)) fun v35 =>
bindP (pickO v28 (.bool true) v35) fun v36 =>
bindP (gd (some (v36, false)) (some t0)) fun v37 =>
bind2 (gd2 (some (v36, false)) H32 (R lim (.fn 41) [v37, (.int .u8 0)] H32)) fun v38 H39 =>
bindP (pickO v36 (.bool true) v38) fun v40 =>
bindP (boolOf v40) fun b41 =>
(b41 = true → (K (.bool false) H39)) ∧
(b41 = false → (bind2 (R lim (.fn 41) [t0, t1] H39) fun v42 H43 =>
bind2 (R lim (.fn 41) [t7, t1] H43) fun v44 H45 =>
bindP (eqvO false .bool v42 v44) fun v46 =>
bind2 (gd2 (some (v46, true)) H45 (R lim (.fn 39) [] H45)) fun v47 H48 =>
bindP (pickO v46 v47 (.bool false)) fun v49 =>
K v49 H48))
def F14_j1 (R : Caller) (lim n : Nat) (K : AVal → Heap → Prop) (t0 t1 t2 t7 : AVal) (H : Heap) : Prop :=
bind2 (R lim (.fn 49) [t0, t2] H) fun v10 H11 =>
bindP (extO 0 v10) fun v12 =>
bindP (extO 1 v10) fun v13 =>
bindP (abin .eql v13 (.int .i64 0)) fun v14 =>
bindP (boolOf v14) fun b50 =>
(b50 = true → (bind2 (R lim (.fn 47) [v12, t2] H11) fun v51 H52 =>
bindP (extO 0 v51) fun v53 =>
bindP (extO 1 v51) fun v54 =>
bind2 (R lim (.fn 42) [t0, v12] H52) fun v55 H56 =>
bindP (aun .not v55) fun v57 =>
bindP (gd (some (v57, false)) (some v12)) fun v58 =>
bindP (gd (some (v57, false)) (some t2)) fun v59 =>
bind2 (gd2 (some (v57, false)) H56 (R lim (.fn 43) [v58, v59] H56)) fun v60 H61 =>
bindP (pickO v57 (.bool true) v60) fun v62 =>
bindP (gd (some (v62, false)) (some v54)) fun v63 =>
bindP (gd (some (v62, false)) (abin .neq v63 (.int .i64 0))) fun v64 =>
bindP (pickO v62 (.bool true) v64) fun v65 =>
bindP (gd (some (v65, false)) (some v53)) fun v66 =>
bindP (gd (some (v65, false)) (some t7)) fun v67 =>
bindP (gd (some (v65, false)) (abin .neq v66 v67)) fun v68 =>
bindP (pickO v65 (.bool true) v68) fun v69 =>
bindP (boolOf v69) fun b70 =>
(b70 = true → (K (.bool false) H61)) ∧
(b70 = false → (F14_j0 R lim n K t0 t1 t2 t7 H61)))) ∧
(b50 = false → (F14_j0 R lim n K t0 t1 t2 t7 H11))
def F14 (R : Caller) (lim n : Nat) (K : AVal → Heap → Prop) (a0 a1 a2 : AVal) (H : Heap) : Prop :=
bind2 (R lim (.fn 38) [a0] H) fun v1 H2 =>
bind2 (R lim (.fn 40) [v1] H2) fun v3 H4 =>
bind2 (R lim (.fn 47) [a0, a2] H4) fun v5 H6 =>
bindP (extO 0 v5) fun v7 =>
bindP (extO 1 v5) fun v8 =>
bindP (abin .eql v8 (.int .i64 0)) fun v9 =>
bindP (boolOf v9) fun b71 =>
(b71 = true → (bind2 (R lim (.fn 49) [v7, a2] H6) fun v72 H73 =>
bindP (extO 0 v72) fun v74 =>
bindP (extO 1 v72) fun v75 =>
bind2 (R lim (.fn 42) [a0, v7] H73) fun v76 H77 =>
bindP (aun .not v76) fun v78 =>
bindP (gd (some (v78, false)) (some v7)) fun v79 =>
bindP (gd (some (v78, false)) (some a2)) fun v80 =>
bind2 (gd2 (some (v78, false)) H77 (R lim (.fn 43) [v79, v80] H77)) fun v81 H82 =>
bindP (gd (some (v78, false)) (aun .not v81)) fun v83 =>
bindP (pickO v78 (.bool true) v83) fun v84 =>
bindP (gd (some (v84, false)) (some v75)) fun v85 =>
bindP (gd (some (v84, false)) (abin .neq v85 (.int .i64 0))) fun v86 =>
bindP (pickO v84 (.bool true) v86) fun v87 =>
bindP (gd (some (v87, false)) (some v74)) fun v88 =>
bindP (gd (some (v87, false)) (some v3)) fun v89 =>
bindP (gd (some (v87, false)) (abin .neq v88 v89)) fun v90 =>
bindP (pickO v87 (.bool true) v90) fun v91 =>
bindP (boolOf v91) fun b92 =>
(b92 = true → (K (.bool false) H82)) ∧
(b92 = false → (F14_j1 R lim n K a0 a1 a2 v3 H82)))) ∧
(b71 = false → (F14_j1 R lim n K a0 a1 a2 v3 H6))
def F14_Lp (R : Caller) (lim n : Nat) (K : AVal → Heap → Prop) : Nat → Tm → Heap → Prop
  | _, _, _ => False
theorem F14_eq (R : Caller) (lim n : Nat) (K : AVal → Heap → Prop) (a0 a1 a2 : AVal) (H : Heap) : F14 R lim n K a0 a1 a2 H = execI R lim n 118 (F14_Lp R lim n K) f14.body (argT [a0, a1, a2]) H (retW [(.tmp 6)] K) := by kernel_rfl
theorem F14_ob (R : Caller) (lim n : Nat) (K : AVal → Heap → Prop) : Oblig R lim n 118 (F14_Lp R lim n K) f14.body (retW [(.tmp 6)] K) := (oblig_nl (by kernel_rfl))
theorem F14_run {ap : FuncId → Option AFn} (hf : ap 14 = some (.code f14)) {n lim : Nat} {K : AVal → Heap → Prop} {a0 a1 a2 : AVal} {H : Heap} (h : F14 (Ahs.runT ap n) lim n K a0 a1 a2 H) : ∃ v H', Ahs.runT ap (n + 1) lim (.fn 14) [a0, a1, a2] H = some (v, H') ∧ K v H' := by
  rw [F14_eq] at h
  exact run_of_W hf (by kernel_rfl) (by kernel_rfl) (execI_sound f14.body _ _ _ _ (F14_ob _ _ _ K) (fun _ _ _ h => h) h)
def F37_j0 (R : Caller) (lim n : Nat) (K : AVal → Heap → Prop) (t5 : AVal) (H : Heap) : Prop :=
bindP (alen false t5) fun v27 =>
bindP (abin .eql v27 (.int .i64 0)) fun v28 =>
bindP (boolOf v28) fun b29 =>
(b29 = true → (K (.int .u64 0) H)) ∧
(b29 = false → (bind2 (R lim (.fn 70) [t5] H) fun v30 H31 =>
bindP (alen false t5) fun v32 =>
bindP (abin .sub v32 (.int .i64 1)) fun v33 =>
bindP (abin .quo v33 (.int .i64 2)) fun v34 =>
bindP (aindexAddr none 1 t5 v34) fun v35 =>
bindP (aload H31 none v35) fun v36 =>
K v36 H31))
def F37_s0 (R : Caller) (lim n : Nat) (K : AVal → Heap → Prop) (rec0 : AVal → AVal → AVal → AVal → AVal → Heap → Prop) (t3 t5 t9 t10 t11 : AVal) (H : Heap) : Prop :=
bindP (abin .lss t11 t10) fun v37 =>
bindP (boolOf v37) fun b38 =>
(b38 = true → (bindP (aindexAddr none 1 t9 t11) fun v39 =>
bindP (aload H none v39) fun v40 =>
bindP (aindexAddr (some 6) 1 t3 v40) fun v41 =>
bindP (aload H none v41) fun v42 =>
bind2 ((fillV [(.int .u64 0)] [(0, 1, v42)]).map fun cs => (.sl (some (H.next, 0)) 1 (.ex 1), H.push (.cells cs))) fun v43 H44 =>
bind2 (aappend lim H44 [(.int .u64 0)] 8 false t5 v43) fun v45 H46 =>
bindP (abin .add t11 (.int .i64 1)) fun v47 =>
rec0 t3 v45 t9 t10 v47 H46)) ∧
(b38 = false → (F37_j0 R lim n K t5 H))
def F37_l0 (R : Caller) (lim n : Nat) (K : AVal → Heap → Prop) : Nat → AVal → AVal → AVal → AVal → AVal → Heap → Prop
  | 0, _, _, _, _, _, _ => False
  | m + 1, t3, t5, t9, t10, t11, H => F37_s0 R lim n K (F37_l0 R lim n K m) t3 t5 t9 t10 t11 H
def F37 (R : Caller) (lim n : Nat) (K : AVal → Heap → Prop) (a0 a1 : AVal) (H : Heap) : Prop :=
bind2 (if (a1).cells.all (·.one) then some (.ptr (some (H.next, 0)), H.push (.cells (a1).cells)) else none) fun v1 H2 =>
bind2 (R lim (.fn 38) [a0] H2) fun v3 H4 =>
bindP (alen false v3) fun v5 =>
F37_l0 R lim n K n v1 (.sl none 0 (.ex 0)) v3 v5 (.int .i64 0) H4
def F37_Lp (R : Caller) (lim n : Nat) (K : AVal → Heap → Prop) : Nat → Tm → Heap → Prop
  | 0, T, H => F37_l0 R lim n K n (T 3) (T 5) (T 9) (T 10) (T 11) H
  | _, _, _ => False
def F37_Lp0 (R : Caller) (lim n : Nat) (K : AVal → Heap → Prop) (rec0 : AVal → AVal → AVal → AVal → AVal → Heap → Prop) : Nat → Tm → Heap → Prop
  | _, _, _ => False
def F37_k0 (R : Caller) (lim n : Nat) (K : AVal → Heap → Prop) (rec0 : AVal → AVal → AVal → AVal → AVal → Heap → Prop) : Kt := fun ex T H => match ex with
  | .norm => rec0 (T 3) (T 5) (T 9) (T 10) (T 11) H
  | ex => (kBlk 0 (kSeq (execI R lim n 34 (F37_Lp R lim n K) f37_p1) (retW [(.tmp 4)] K))) ex T H
theorem F37_s0_eq (R : Caller) (lim n : Nat) (K : AVal → Heap → Prop) (rec0 : AVal → AVal → AVal → AVal → AVal → Heap → Prop) (T : Tm) (H : Heap) : F37_s0 R lim n K rec0 (T 3) (T 5) (T 9) (T 10) (T 11) H = execI R lim n 34 (F37_Lp0 R lim n K rec0) f37_p0 T H (F37_k0 R lim n K rec0) := by kernel_rfl
theorem F37_l0_ok (R : Caller) (lim n : Nat) (K : AVal → Heap → Prop) {kw : Kt} (hk : ∀ ex T H, (kBlk 0 (kSeq (execI R lim n 34 (F37_Lp R lim n K) f37_p1) (retW [(.tmp 4)] K))) ex T H → kw ex T H) : ∀ (m : Nat) (T : Tm) (H : Heap), F37_l0 R lim n K m (T 3) (T 5) (T 9) (T 10) (T 11) H → loopW (execW R lim n 34 f37_p0) m T H kw
  | 0, _, _, h => False.elim h
  | m + 1, T, H, h => by
    have hb : ∀ ex T H, F37_k0 R lim n K (F37_l0 R lim n K m) ex T H → (fun ex T H => match ex with | .norm => loopW (execW R lim n 34 f37_p0) m T H kw | ex => kw ex T H : Kt) ex T H := by
      intro ex T H h
      cases ex with
      | norm => exact F37_l0_ok R lim n K hk m T H h
      | exit i => exact hk _ _ _ h
      | ret => exact hk _ _ _ h
    have h' : F37_s0 R lim n K (F37_l0 R lim n K m) (T 3) (T 5) (T 9) (T 10) (T 11) H := h
    rw [F37_s0_eq] at h'
    exact execI_sound f37_p0 T H _ _ (oblig_nl (by kernel_rfl)) hb h'
theorem F37_eq (R : Caller) (lim n : Nat) (K : AVal → Heap → Prop) (a0 a1 : AVal) (H : Heap) : F37 R lim n K a0 a1 H = execI R lim n 34 (F37_Lp R lim n K) f37.body (argT [a0, a1]) H (retW [(.tmp 4)] K) := by kernel_rfl
theorem F37_ob (R : Caller) (lim n : Nat) (K : AVal → Heap → Prop) : Oblig R lim n 34 (F37_Lp R lim n K) f37.body (retW [(.tmp 4)] K) := ⟨(oblig_nl (by kernel_rfl)), ⟨(oblig_nl (by kernel_rfl)), ⟨⟨(oblig_nl (by kernel_rfl)), (fun T H h => F37_l0_ok R lim n K (kBlk_mono (kSeqI_sound (oblig_nl (by kernel_rfl)) (fun _ _ _ h => h))) _ T H h)⟩, (oblig_nl (by kernel_rfl))⟩⟩⟩
theorem F37_run {ap : FuncId → Option AFn} (hf : ap 37 = some (.code f37)) {n lim : Nat} {K : AVal → Heap → Prop} {a0 a1 : AVal} {H : Heap} (h : F37 (Ahs.runT ap n) lim n K a0 a1 H) : ∃ v H', Ahs.runT ap (n + 1) lim (.fn 37) [a0, a1] H = some (v, H') ∧ K v H' := by
  rw [F37_eq] at h
  exact run_of_W hf (by kernel_rfl) (by kernel_rfl) (execI_sound f37.body _ _ _ _ (F37_ob _ _ _ K) (fun _ _ _ h => h) h)
def F38_j0 (R : Caller) (lim n : Nat) (K : AVal → Heap → Prop) (t3 : AVal) (H : Heap) : Prop :=
K t3 H
def F38_j1 (R : Caller) (lim n : Nat) (K : AVal → Heap → Prop) (rec0 : AVal → AVal → AVal → Heap → Prop) (t0 t3 t4 : AVal) (H : Heap) : Prop :=
bindP (abin .add t4 (.int .u8 1)) fun v15 =>
rec0 t0 t3 v15 H
def F38_s0 (R : Caller) (lim n : Nat) (K : AVal → Heap → Prop) (rec0 : AVal → AVal → AVal → Heap → Prop) (t0 t3 t4 : AVal) (H : Heap) : Prop :=
bindP (abin .leq t4 (.int .u8 5)) fun v11 =>
bindP (boolOf v11) fun b12 =>
(b12 = true → (bind2 (R lim (.fn 43) [t0, t4] H) fun v13 H14 =>
bindP (boolOf v13) fun b16 =>
(b16 = true → (bind2 ((fillV [(.int .u8 0)] [(0, 1, t4)]).map fun cs => (.sl (some (H14.next, 0)) 1 (.ex 1), H14.push (.cells cs))) fun v17 H18 =>
bind2 (aappend lim H18 [(.int .u8 0)] 1 false t3 v17) fun v19 H20 =>
F38_j1 R lim n K rec0 t0 v19 t4 H20)) ∧
(b16 = false → (F38_j1 R lim n K rec0 t0 t3 t4 H14)))) ∧
(b12 = false → (F38_j0 R lim n K t3 H))
def F38_l0 (R : Caller) (lim n : Nat) (K : AVal → Heap → Prop) : Nat → AVal → AVal → AVal → Heap → Prop
  | 0, _, _, _, _ => False
  | m + 1, t0, t3, t4, H => F38_s0 R lim n K (F38_l0 R lim n K m) t0 t3 t4 H
def F38 (R : Caller) (lim n : Nat) (K : AVal → Heap → Prop) (a0 : AVal) (H : Heap) : Prop :=
F38_l0 R lim n K n a0 (.sl none 0 (.ex 0)) (.int .u8 1) H
def F38_Lp (R : Caller) (lim n : Nat) (K : AVal → Heap → Prop) : Nat → Tm → Heap → Prop
  | 0, T, H => F38_l0 R lim n K n (T 0) (T 3) (T 4) H
  | _, _, _ => False
def F38_Lp0 (R : Caller) (lim n : Nat) (K : AVal → Heap → Prop) (rec0 : AVal → AVal → AVal → Heap → Prop) : Nat → Tm → Heap → Prop
  | _, _, _ => False
def F38_k0 (R : Caller) (lim n : Nat) (K : AVal → Heap → Prop) (rec0 : AVal → AVal → AVal → Heap → Prop) : Kt := fun ex T H => match ex with
  | .norm => rec0 (T 0) (T 3) (T 4) H
  | ex => (kBlk 0 (kSeq (execI R lim n 17 (F38_Lp R lim n K) f38_p1) (retW [(.tmp 2)] K))) ex T H
theorem F38_s0_eq (R : Caller) (lim n : Nat) (K : AVal → Heap → Prop) (rec0 : AVal → AVal → AVal → Heap → Prop) (T : Tm) (H : Heap) : F38_s0 R lim n K rec0 (T 0) (T 3) (T 4) H = execI R lim n 17 (F38_Lp0 R lim n K rec0) f38_p0 T H (F38_k0 R lim n K rec0) := by kernel_rfl
theorem F38_l0_ok (R : Caller) (lim n : Nat) (K : AVal → Heap → Prop) {kw : Kt} (hk : ∀ ex T H, (kBlk 0 (kSeq (execI R lim n 17 (F38_Lp R lim n K) f38_p1) (retW [(.tmp 2)] K))) ex T H → kw ex T H) : ∀ (m : Nat) (T : Tm) (H : Heap), F38_l0 R lim n K m (T 0) (T 3) (T 4) H → loopW (execW R lim n 17 f38_p0) m T H kw
  | 0, _, _, h => False.elim h
  | m + 1, T, H, h => by
    have hb : ∀ ex T H, F38_k0 R lim n K (F38_l0 R lim n K m) ex T H → (fun ex T H => match ex with | .norm => loopW (execW R lim n 17 f38_p0) m T H kw | ex => kw ex T H : Kt) ex T H := by
      intro ex T H h
      cases ex with
      | norm => exact F38_l0_ok R lim n K hk m T H h
      | exit i => exact hk _ _ _ h
      | ret => exact hk _ _ _ h
    have h' : F38_s0 R lim n K (F38_l0 R lim n K m) (T 0) (T 3) (T 4) H := h
    rw [F38_s0_eq] at h'
    exact execI_sound f38_p0 T H _ _ (oblig_nl (by kernel_rfl)) hb h'
theorem F38_eq (R : Caller) (lim n : Nat) (K : AVal → Heap → Prop) (a0 : AVal) (H : Heap) : F38 R lim n K a0 H = execI R lim n 17 (F38_Lp R lim n K) f38.body (argT [a0]) H (retW [(.tmp 2)] K) := by kernel_rfl
theorem F38_ob (R : Caller) (lim n : Nat) (K : AVal → Heap → Prop) : Oblig R lim n 17 (F38_Lp R lim n K) f38.body (retW [(.tmp 2)] K) := ⟨(oblig_nl (by kernel_rfl)), ⟨(oblig_nl (by kernel_rfl)), ⟨⟨(oblig_nl (by kernel_rfl)), (fun T H h => F38_l0_ok R lim n K (kBlk_mono (kSeqI_sound (oblig_nl (by kernel_rfl)) (fun _ _ _ h => h))) _ T H h)⟩, (oblig_nl (by kernel_rfl))⟩⟩⟩
theorem F38_run {ap : FuncId → Option AFn} (hf : ap 38 = some (.code f38)) {n lim : Nat} {K : AVal → Heap → Prop} {a0 : AVal} {H : Heap} (h : F38 (Ahs.runT ap n) lim n K a0 H) : ∃ v H', Ahs.runT ap (n + 1) lim (.fn 38) [a0] H = some (v, H') ∧ K v H' := by
  rw [F38_eq] at h
  exact run_of_W hf (by kernel_rfl) (by kernel_rfl) (execI_sound f38.body _ _ _ _ (F38_ob _ _ _ K) (fun _ _ _ h => h) h)
def F39 (R : Caller) (lim n : Nat) (K : AVal → Heap → Prop) (H : Heap) : Prop :=
bind2 ((fillV z0 [(0, 1, (.int .u8 1)), (1, 1, (.int .u8 2)), (2, 1, (.int .u8 3))]).map fun cs => (.sl (some (H.next, 0)) 3 (.ex 3), H.push (.cells cs))) fun v1 H2 =>
bind2 (R lim (.fn 40) [v1] H2) fun v3 H4 =>
bindP (abin .eql v3 (.int .u8 7)) fun v5 =>
bindP (gd (some (v5, true)) (some v3)) fun v6 =>
bind2 (gd2 (some (v5, true)) H4 (R lim (.fn 41) [v6, (.int .u8 3)] H4)) fun v7 H8 =>
bindP (pickO v5 v7 (.bool false)) fun v9 =>
bindP (gd (some (v9, true)) (some v3)) fun v10 =>
bind2 (gd2 (some (v9, true)) H8 (R lim (.fn 41) [v10, (.int .u8 1)] H8)) fun v11 H12 =>
bindP (gd (some (v9, true)) (aun .not v11)) fun v13 =>
bindP (pickO v9 v13 (.bool false)) fun v14 =>
bindP (gd (some (v14, true)) (some v3)) fun v15 =>
bindP (gd (some (v14, true)) (buildO z1 [(0, 1, (.int .u64 0)), (1, 1, (.int .u64 9)), (2, 1, (.int .u64 4)), (3, 1, (.int .u64 6))])) fun v16 =>
bind2 (gd2 (some (v14, true)) H12 (R lim (.fn 37) [v15, v16] H12)) fun v17 H18 =>
bindP (gd (some (v14, true)) (abin .eql v17 (.int .u64 6))) fun v19 =>
bindP (pickO v14 v19 (.bool false)) fun v20 =>
bindP (gd (some (v20, true)) (some v3)) fun v21 =>
bind2 (gd2 (some (v20, true)) H18 (R lim (.fn 43) [v21, (.int .u8 2)] H18)) fun v22 H23 =>
bindP (pickO v20 v22 (.bool false)) fun v24 =>
bindP (gd (some (v24, true)) (some v3)) fun v25 =>
bind2 (gd2 (some (v24, true)) H23 (R lim (.fn 43) [v25, (.int .u8 4)] H23)) fun v26 H27 =>
bindP (gd (some (v24, true)) (aun .not v26)) fun v28 =>
bindP (pickO v24 v28 (.bool false)) fun v29 =>
bindP (gd (some (v29, true)) (some v3)) fun v30 =>
bind2 (gd2 (some (v29, true)) H27 (R lim (.fn 38) [v30] H27)) fun v31 H32 =>
bindP (gd (some (v29, true)) (alen false v31)) fun v33 =>
bindP (gd (some (v29, true)) (abin .eql v33 (.int .i64 3))) fun v34 =>
bindP (pickO v29 v34 (.bool false)) fun v35 =>
K v35 H32
def F39_Lp (R : Caller) (lim n : Nat) (K : AVal → Heap → Prop) : Nat → Tm → Heap → Prop
  | _, _, _ => False
theorem F39_eq (R : Caller) (lim n : Nat) (K : AVal → Heap → Prop) (H : Heap) : F39 R lim n K  H = execI R lim n 36 (F39_Lp R lim n K) f39.body (argT []) H (retW [(.tmp 0)] K) := by kernel_rfl
theorem F39_ob (R : Caller) (lim n : Nat) (K : AVal → Heap → Prop) : Oblig R lim n 36 (F39_Lp R lim n K) f39.body (retW [(.tmp 0)] K) := (oblig_nl (by kernel_rfl))
theorem F39_run {ap : FuncId → Option AFn} (hf : ap 39 = some (.code f39)) {n lim : Nat} {K : AVal → Heap → Prop} {H : Heap} (h : F39 (Ahs.runT ap n) lim n K  H) : ∃ v H', Ahs.runT ap (n + 1) lim (.fn 39) [] H = some (v, H') ∧ K v H' := by
  rw [F39_eq] at h
  exact run_of_W hf (by kernel_rfl) (by kernel_rfl) (execI_sound f39.body _ _ _ _ (F39_ob _ _ _ K) (fun _ _ _ h => h) h)
def F40_j0 (R : Caller) (lim n : Nat) (K : AVal → Heap → Prop) (t3 : AVal) (H : Heap) : Prop :=
K t3 H
def F40_s0 (R : Caller) (lim n : Nat) (K : AVal → Heap → Prop) (rec0 : AVal → AVal → AVal → AVal → Heap → Prop) (t3 t6 t7 t8 : AVal) (H : Heap) : Prop :=
bindP (abin .lss t8 t7) fun v10 =>
bindP (boolOf v10) fun b11 =>
(b11 = true → (bindP (aindexAddr none 1 t6 t8) fun v12 =>
bindP (aload H none v12) fun v13 =>
bind2 (R lim (.fn 71) [v13] H) fun v14 H15 =>
bindP (abin .or t3 v14) fun v16 =>
bindP (abin .add t8 (.int .i64 1)) fun v17 =>
rec0 v16 t6 t7 v17 H15)) ∧
(b11 = false → (F40_j0 R lim n K t3 H))
def F40_l0 (R : Caller) (lim n : Nat) (K : AVal → Heap → Prop) : Nat → AVal → AVal → AVal → AVal → Heap → Prop
  | 0, _, _, _, _, _ => False
  | m + 1, t3, t6, t7, t8, H => F40_s0 R lim n K (F40_l0 R lim n K m) t3 t6 t7 t8 H
def F40 (R : Caller) (lim n : Nat) (K : AVal → Heap → Prop) (a0 : AVal) (H : Heap) : Prop :=
bindP (alen false a0) fun v1 =>
F40_l0 R lim n K n (.int .u8 0) a0 v1 (.int .i64 0) H
def F40_Lp (R : Caller) (lim n : Nat) (K : AVal → Heap → Prop) : Nat → Tm → Heap → Prop
  | 0, T, H => F40_l0 R lim n K n (T 3) (T 6) (T 7) (T 8) H
  | _, _, _ => False
def F40_Lp0 (R : Caller) (lim n : Nat) (K : AVal → Heap → Prop) (rec0 : AVal → AVal → AVal → AVal → Heap → Prop) : Nat → Tm → Heap → Prop
  | _, _, _ => False
def F40_k0 (R : Caller) (lim n : Nat) (K : AVal → Heap → Prop) (rec0 : AVal → AVal → AVal → AVal → Heap → Prop) : Kt := fun ex T H => match ex with
  | .norm => rec0 (T 3) (T 6) (T 7) (T 8) H
  | ex => (kBlk 0 (kSeq (execI R lim n 18 (F40_Lp R lim n K) f40_p1) (retW [(.tmp 2)] K))) ex T H
theorem F40_s0_eq (R : Caller) (lim n : Nat) (K : AVal → Heap → Prop) (rec0 : AVal → AVal → AVal → AVal → Heap → Prop) (T : Tm) (H : Heap) : F40_s0 R lim n K rec0 (T 3) (T 6) (T 7) (T 8) H = execI R lim n 18 (F40_Lp0 R lim n K rec0) f40_p0 T H (F40_k0 R lim n K rec0) := by kernel_rfl
theorem F40_l0_ok (R : Caller) (lim n : Nat) (K : AVal → Heap → Prop) {kw : Kt} (hk : ∀ ex T H, (kBlk 0 (kSeq (execI R lim n 18 (F40_Lp R lim n K) f40_p1) (retW [(.tmp 2)] K))) ex T H → kw ex T H) : ∀ (m : Nat) (T : Tm) (H : Heap), F40_l0 R lim n K m (T 3) (T 6) (T 7) (T 8) H → loopW (execW R lim n 18 f40_p0) m T H kw
  | 0, _, _, h => False.elim h
  | m + 1, T, H, h => by
    have hb : ∀ ex T H, F40_k0 R lim n K (F40_l0 R lim n K m) ex T H → (fun ex T H => match ex with | .norm => loopW (execW R lim n 18 f40_p0) m T H kw | ex => kw ex T H : Kt) ex T H := by
      intro ex T H h
      cases ex with
      | norm => exact F40_l0_ok R lim n K hk m T H h
      | exit i => exact hk _ _ _ h
      | ret => exact hk _ _ _ h
    have h' : F40_s0 R lim n K (F40_l0 R lim n K m) (T 3) (T 6) (T 7) (T 8) H := h
    rw [F40_s0_eq] at h'
    exact execI_sound f40_p0 T H _ _ (oblig_nl (by kernel_rfl)) hb h'
theorem F40_eq (R : Caller) (lim n : Nat) (K : AVal → Heap → Prop) (a0 : AVal) (H : Heap) : F40 R lim n K a0 H = execI R lim n 18 (F40_Lp R lim n K) f40.body (argT [a0]) H (retW [(.tmp 2)] K) := by kernel_rfl
theorem F40_ob (R : Caller) (lim n : Nat) (K : AVal → Heap → Prop) : Oblig R lim n 18 (F40_Lp R lim n K) f40.body (retW [(.tmp 2)] K) := ⟨(oblig_nl (by kernel_rfl)), ⟨(oblig_nl (by kernel_rfl)), ⟨⟨(oblig_nl (by kernel_rfl)), (fun T H h => F40_l0_ok R lim n K (kBlk_mono (kSeqI_sound (oblig_nl (by kernel_rfl)) (fun _ _ _ h => h))) _ T H h)⟩, (oblig_nl (by kernel_rfl))⟩⟩⟩
theorem F40_run {ap : FuncId → Option AFn} (hf : ap 40 = some (.code f40)) {n lim : Nat} {K : AVal → Heap → Prop} {a0 : AVal} {H : Heap} (h : F40 (Ahs.runT ap n) lim n K a0 H) : ∃ v H', Ahs.runT ap (n + 1) lim (.fn 40) [a0] H = some (v, H') ∧ K v H' := by
  rw [F40_eq] at h
  exact run_of_W hf (by kernel_rfl) (by kernel_rfl) (execI_sound f40.body _ _ _ _ (F40_ob _ _ _ K) (fun _ _ _ h => h) h)
def F41 (R : Caller) (lim n : Nat) (K : AVal → Heap → Prop) (a0 a1 : AVal) (H : Heap) : Prop :=
bindP (abin .and a0 (.int .u8 31)) fun v1 =>
bindP (abin .and v1 a1) fun v2 =>
bind2 (R lim (.fn 72) [v2] H) fun v3 H4 =>
bindP (abin .mul (.int .i64 2) v3) fun v5 =>
bind2 (R lim (.fn 72) [v1] H4) fun v6 H7 =>
bindP (abin .gtr v5 v6) fun v8 =>
K v8 H7
def F41_Lp (R : Caller) (lim n : Nat) (K : AVal → Heap → Prop) : Nat → Tm → Heap → Prop
  | _, _, _ => False
theorem F41_eq (R : Caller) (lim n : Nat) (K : AVal → Heap → Prop) (a0 a1 : AVal) (H : Heap) : F41 R lim n K a0 a1 H = execI R lim n 15 (F41_Lp R lim n K) f41.body (argT [a0, a1]) H (retW [(.tmp 4)] K) := by kernel_rfl
theorem F41_ob (R : Caller) (lim n : Nat) (K : AVal → Heap → Prop) : Oblig R lim n 15 (F41_Lp R lim n K) f41.body (retW [(.tmp 4)] K) := (oblig_nl (by kernel_rfl))
theorem F41_run {ap : FuncId → Option AFn} (hf : ap 41 = some (.code f41)) {n lim : Nat} {K : AVal → Heap → Prop} {a0 a1 : AVal} {H : Heap} (h : F41 (Ahs.runT ap n) lim n K a0 a1 H) : ∃ v H', Ahs.runT ap (n + 1) lim (.fn 41) [a0, a1] H = some (v, H') ∧ K v H' := by
  rw [F41_eq] at h
  exact run_of_W hf (by kernel_rfl) (by kernel_rfl) (execI_sound f41.body _ _ _ _ (F41_ob _ _ _ K) (fun _ _ _ h => h) h)
def F42 (R : Caller) (lim n : Nat) (K : AVal → Heap → Prop) (a0 a1 : AVal) (H : Heap) : Prop :=
bindP (abin .xor a0 a1) fun v1 =>
bindP (abin .and v1 (.int .u8 31)) fun v2 =>
bind2 (R lim (.fn 72) [v2] H) fun v3 H4 =>
bindP (abin .leq v3 (.int .i64 1)) fun v5 =>
K v5 H4
def F42_Lp (R : Caller) (lim n : Nat) (K : AVal → Heap → Prop) : Nat → Tm → Heap → Prop
  | _, _, _ => False
theorem F42_eq (R : Caller) (lim n : Nat) (K : AVal → Heap → Prop) (a0 a1 : AVal) (H : Heap) : F42 R lim n K a0 a1 H = execI R lim n 11 (F42_Lp R lim n K) f42.body (argT [a0, a1]) H (retW [(.tmp 4)] K) := by kernel_rfl
theorem F42_ob (R : Caller) (lim n : Nat) (K : AVal → Heap → Prop) : Oblig R lim n 11 (F42_Lp R lim n K) f42.body (retW [(.tmp 4)] K) := (oblig_nl (by kernel_rfl))
theorem F42_run {ap : FuncId → Option AFn} (hf : ap 42 = some (.code f42)) {n lim : Nat} {K : AVal → Heap → Prop} {a0 a1 : AVal} {H : Heap} (h : F42 (Ahs.runT ap n) lim n K a0 a1 H) : ∃ v H', Ahs.runT ap (n + 1) lim (.fn 42) [a0, a1] H = some (v, H') ∧ K v H' := by
  rw [F42_eq] at h
  exact run_of_W hf (by kernel_rfl) (by kernel_rfl) (execI_sound f42.body _ _ _ _ (F42_ob _ _ _ K) (fun _ _ _ h => h) h)
def F43 (R : Caller) (lim n : Nat) (K : AVal → Heap → Prop) (a0 a1 : AVal) (H : Heap) : Prop :=
bind2 (R lim (.fn 71) [a1] H) fun v1 H2 =>
bindP (abin .and a0 v1) fun v3 =>
bindP (abin .neq v3 (.int .u8 0)) fun v4 =>
K v4 H2
def F43_Lp (R : Caller) (lim n : Nat) (K : AVal → Heap → Prop) : Nat → Tm → Heap → Prop
  | _, _, _ => False
theorem F43_eq (R : Caller) (lim n : Nat) (K : AVal → Heap → Prop) (a0 a1 : AVal) (H : Heap) : F43 R lim n K a0 a1 H = execI R lim n 10 (F43_Lp R lim n K) f43.body (argT [a0, a1]) H (retW [(.tmp 4)] K) := by kernel_rfl
theorem F43_ob (R : Caller) (lim n : Nat) (K : AVal → Heap → Prop) : Oblig R lim n 10 (F43_Lp R lim n K) f43.body (retW [(.tmp 4)] K) := (oblig_nl (by kernel_rfl))
theorem F43_run {ap : FuncId → Option AFn} (hf : ap 43 = some (.code f43)) {n lim : Nat} {K : AVal → Heap → Prop} {a0 a1 : AVal} {H : Heap} (h : F43 (Ahs.runT ap n) lim n K a0 a1 H) : ∃ v H', Ahs.runT ap (n + 1) lim (.fn 43) [a0, a1] H = some (v, H') ∧ K v H' := by
  rw [F43_eq] at h
  exact run_of_W hf (by kernel_rfl) (by kernel_rfl) (execI_sound f43.body _ _ _ _ (F43_ob _ _ _ K) (fun _ _ _ h => h) h)
def F44_j0 (R : Caller) (lim n : Nat) (K : AVal → Heap → Prop) (t3 : AVal) (H : Heap) : Prop :=
K t3 H
def F44_j1 (R : Caller) (lim n : Nat) (K : AVal → Heap → Prop) (rec0 : AVal → AVal → AVal → Heap → Prop) (t0 t3 t4 : AVal) (H : Heap) : Prop :=
bindP (abin .quo t0 (.int .u8 2)) fun v16 =>
bindP (abin .add t4 (.int .u8 1)) fun v17 =>
rec0 v16 t3 v17 H
def F44_s0 (R : Caller) (lim n : Nat) (K : AVal → Heap → Prop) (rec0 : AVal → AVal → AVal → Heap → Prop) (t0 t3 t4 : AVal) (H : Heap) : Prop :=
bindP (abin .leq t4 (.int .u8 5)) fun v12 =>
bindP (boolOf v12) fun b13 =>
(b13 = true → (bindP (abin .rem t0 (.int .u8 2)) fun v14 =>
bindP (abin .eql v14 (.int .u8 1)) fun v15 =>
bindP (boolOf v15) fun b18 =>
(b18 = true → (bind2 ((fillV [(.int .u8 0)] [(0, 1, t4)]).map fun cs => (.sl (some (H.next, 0)) 1 (.ex 1), H.push (.cells cs))) fun v19 H20 =>
bind2 (aappend lim H20 [(.int .u8 0)] 1 false t3 v19) fun v21 H22 =>
F44_j1 R lim n K rec0 t0 v21 t4 H22)) ∧
(b18 = false → (F44_j1 R lim n K rec0 t0 t3 t4 H)))) ∧
(b13 = false → (F44_j0 R lim n K t3 H))
def F44_l0 (R : Caller) (lim n : Nat) (K : AVal → Heap → Prop) : Nat → AVal → AVal → AVal → Heap → Prop
  | 0, _, _, _, _ => False
  | m + 1, t0, t3, t4, H => F44_s0 R lim n K (F44_l0 R lim n K m) t0 t3 t4 H
def F44 (R : Caller) (lim n : Nat) (K : AVal → Heap → Prop) (a0 : AVal) (H : Heap) : Prop :=
F44_l0 R lim n K n a0 (.sl none 0 (.ex 0)) (.int .u8 1) H
def F44_Lp (R : Caller) (lim n : Nat) (K : AVal → Heap → Prop) : Nat → Tm → Heap → Prop
  | 0, T, H => F44_l0 R lim n K n (T 0) (T 3) (T 4) H
  | _, _, _ => False
def F44_Lp0 (R : Caller) (lim n : Nat) (K : AVal → Heap → Prop) (rec0 : AVal → AVal → AVal → Heap → Prop) : Nat → Tm → Heap → Prop
  | _, _, _ => False
def F44_k0 (R : Caller) (lim n : Nat) (K : AVal → Heap → Prop) (rec0 : AVal → AVal → AVal → Heap → Prop) : Kt := fun ex T H => match ex with
  | .norm => rec0 (T 0) (T 3) (T 4) H
  | ex => (kBlk 0 (kSeq (execI R lim n 19 (F44_Lp R lim n K) f44_p1) (retW [(.tmp 2)] K))) ex T H
theorem F44_s0_eq (R : Caller) (lim n : Nat) (K : AVal → Heap → Prop) (rec0 : AVal → AVal → AVal → Heap → Prop) (T : Tm) (H : Heap) : F44_s0 R lim n K rec0 (T 0) (T 3) (T 4) H = execI R lim n 19 (F44_Lp0 R lim n K rec0) f44_p0 T H (F44_k0 R lim n K rec0) := by kernel_rfl
theorem F44_l0_ok (R : Caller) (lim n : Nat) (K : AVal → Heap → Prop) {kw : Kt} (hk : ∀ ex T H, (kBlk 0 (kSeq (execI R lim n 19 (F44_Lp R lim n K) f44_p1) (retW [(.tmp 2)] K))) ex T H → kw ex T H) : ∀ (m : Nat) (T : Tm) (H : Heap), F44_l0 R lim n K m (T 0) (T 3) (T 4) H → loopW (execW R lim n 19 f44_p0) m T H kw
  | 0, _, _, h => False.elim h
  | m + 1, T, H, h => by
    have hb : ∀ ex T H, F44_k0 R lim n K (F44_l0 R lim n K m) ex T H → (fun ex T H => match ex with | .norm => loopW (execW R lim n 19 f44_p0) m T H kw | ex => kw ex T H : Kt) ex T H := by
      intro ex T H h
      cases ex with
      | norm => exact F44_l0_ok R lim n K hk m T H h
      | exit i => exact hk _ _ _ h
      | ret => exact hk _ _ _ h
    have h' : F44_s0 R lim n K (F44_l0 R lim n K m) (T 0) (T 3) (T 4) H := h
    rw [F44_s0_eq] at h'
    exact execI_sound f44_p0 T H _ _ (oblig_nl (by kernel_rfl)) hb h'
theorem F44_eq (R : Caller) (lim n : Nat) (K : AVal → Heap → Prop) (a0 : AVal) (H : Heap) : F44 R lim n K a0 H = execI R lim n 19 (F44_Lp R lim n K) f44.body (argT [a0]) H (retW [(.tmp 2)] K) := by kernel_rfl
theorem F44_ob (R : Caller) (lim n : Nat) (K : AVal → Heap → Prop) : Oblig R lim n 19 (F44_Lp R lim n K) f44.body (retW [(.tmp 2)] K) := ⟨(oblig_nl (by kernel_rfl)), ⟨(oblig_nl (by kernel_rfl)), ⟨⟨(oblig_nl (by kernel_rfl)), (fun T H h => F44_l0_ok R lim n K (kBlk_mono (kSeqI_sound (oblig_nl (by kernel_rfl)) (fun _ _ _ h => h))) _ T H h)⟩, (oblig_nl (by kernel_rfl))⟩⟩⟩
theorem F44_run {ap : FuncId → Option AFn} (hf : ap 44 = some (.code f44)) {n lim : Nat} {K : AVal → Heap → Prop} {a0 : AVal} {H : Heap} (h : F44 (Ahs.runT ap n) lim n K a0 H) : ∃ v H', Ahs.runT ap (n + 1) lim (.fn 44) [a0] H = some (v, H') ∧ K v H' := by
  rw [F44_eq] at h
  exact run_of_W hf (by kernel_rfl) (by kernel_rfl) (execI_sound f44.body _ _ _ _ (F44_ob _ _ _ K) (fun _ _ _ h => h) h)
def F45_j0 (R : Caller) (lim n : Nat) (K : AVal → Heap → Prop) (t3 : AVal) (H : Heap) : Prop :=
K t3 H
def F45_j1 (R : Caller) (lim n : Nat) (K : AVal → Heap → Prop) (rec0 : AVal → AVal → AVal → AVal → Heap → Prop) (t0 t3 t4 t5 : AVal) (H : Heap) : Prop :=
bindP (abin .mul t4 (.int .u8 2)) fun v13 =>
bindP (abin .add t5 (.int .u8 1)) fun v14 =>
rec0 t0 t3 v13 v14 H
def F45_s0 (R : Caller) (lim n : Nat) (K : AVal → Heap → Prop) (rec0 : AVal → AVal → AVal → AVal → Heap → Prop) (t0 t3 t4 t5 : AVal) (H : Heap) : Prop :=
bindP (abin .leq t5 (.int .u8 5)) fun v9 =>
bindP (boolOf v9) fun b10 =>
(b10 = true → (bind2 (R lim (.fn 73) [t0, t5] H) fun v11 H12 =>
bindP (boolOf v11) fun b15 =>
(b15 = true → (bindP (abin .add t3 t4) fun v16 =>
F45_j1 R lim n K rec0 t0 v16 t4 t5 H12)) ∧
(b15 = false → (F45_j1 R lim n K rec0 t0 t3 t4 t5 H12)))) ∧
(b10 = false → (F45_j0 R lim n K t3 H))
def F45_l0 (R : Caller) (lim n : Nat) (K : AVal → Heap → Prop) : Nat → AVal → AVal → AVal → AVal → Heap → Prop
  | 0, _, _, _, _, _ => False
  | m + 1, t0, t3, t4, t5, H => F45_s0 R lim n K (F45_l0 R lim n K m) t0 t3 t4 t5 H
def F45 (R : Caller) (lim n : Nat) (K : AVal → Heap → Prop) (a0 : AVal) (H : Heap) : Prop :=
F45_l0 R lim n K n a0 (.int .u8 0) (.int .u8 1) (.int .u8 1) H
def F45_Lp (R : Caller) (lim n : Nat) (K : AVal → Heap → Prop) : Nat → Tm → Heap → Prop
  | 0, T, H => F45_l0 R lim n K n (T 0) (T 3) (T 4) (T 5) H
  | _, _, _ => False
def F45_Lp0 (R : Caller) (lim n : Nat) (K : AVal → Heap → Prop) (rec0 : AVal → AVal → AVal → AVal → Heap → Prop) : Nat → Tm → Heap → Prop
  | _, _, _ => False
def F45_k0 (R : Caller) (lim n : Nat) (K : AVal → Heap → Prop) (rec0 : AVal → AVal → AVal → AVal → Heap → Prop) : Kt := fun ex T H => match ex with
  | .norm => rec0 (T 0) (T 3) (T 4) (T 5) H
  | ex => (kBlk 0 (kSeq (execI R lim n 19 (F45_Lp R lim n K) f45_p1) (retW [(.tmp 2)] K))) ex T H
theorem F45_s0_eq (R : Caller) (lim n : Nat) (K : AVal → Heap → Prop) (rec0 : AVal → AVal → AVal → AVal → Heap → Prop) (T : Tm) (H : Heap) : F45_s0 R lim n K rec0 (T 0) (T 3) (T 4) (T 5) H = execI R lim n 19 (F45_Lp0 R lim n K rec0) f45_p0 T H (F45_k0 R lim n K rec0) := by kernel_rfl
theorem F45_l0_ok (R : Caller) (lim n : Nat) (K : AVal → Heap → Prop) {kw : Kt} (hk : ∀ ex T H, (kBlk 0 (kSeq (execI R lim n 19 (F45_Lp R lim n K) f45_p1) (retW [(.tmp 2)] K))) ex T H → kw ex T H) : ∀ (m : Nat) (T : Tm) (H : Heap), F45_l0 R lim n K m (T 0) (T 3) (T 4) (T 5) H → loopW (execW R lim n 19 f45_p0) m T H kw
  | 0, _, _, h => False.elim h
  | m + 1, T, H, h => by
    have hb : ∀ ex T H, F45_k0 R lim n K (F45_l0 R lim n K m) ex T H → (fun ex T H => match ex with | .norm => loopW (execW R lim n 19 f45_p0) m T H kw | ex => kw ex T H : Kt) ex T H := by
      intro ex T H h
      cases ex with
      | norm => exact F45_l0_ok R lim n K hk m T H h
      | exit i => exact hk _ _ _ h
      | ret => exact hk _ _ _ h
    have h' : F45_s0 R lim n K (F45_l0 R lim n K m) (T 0) (T 3) (T 4) (T 5) H := h
    rw [F45_s0_eq] at h'
    exact execI_sound f45_p0 T H _ _ (oblig_nl (by kernel_rfl)) hb h'
theorem F45_eq (R : Caller) (lim n : Nat) (K : AVal → Heap → Prop) (a0 : AVal) (H : Heap) : F45 R lim n K a0 H = execI R lim n 19 (F45_Lp R lim n K) f45.body (argT [a0]) H (retW [(.tmp 2)] K) := by kernel_rfl
theorem F45_ob (R : Caller) (lim n : Nat) (K : AVal → Heap → Prop) : Oblig R lim n 19 (F45_Lp R lim n K) f45.body (retW [(.tmp 2)] K) := ⟨(oblig_nl (by kernel_rfl)), ⟨(oblig_nl (by kernel_rfl)), ⟨(oblig_nl (by kernel_rfl)), ⟨⟨(oblig_nl (by kernel_rfl)), (fun T H h => F45_l0_ok R lim n K (kBlk_mono (kSeqI_sound (oblig_nl (by kernel_rfl)) (fun _ _ _ h => h))) _ T H h)⟩, (oblig_nl (by kernel_rfl))⟩⟩⟩⟩
theorem F45_run {ap : FuncId → Option AFn} (hf : ap 45 = some (.code f45)) {n lim : Nat} {K : AVal → Heap → Prop} {a0 : AVal} {H : Heap} (h : F45 (Ahs.runT ap n) lim n K a0 H) : ∃ v H', Ahs.runT ap (n + 1) lim (.fn 45) [a0] H = some (v, H') ∧ K v H' := by
  rw [F45_eq] at h
  exact run_of_W hf (by kernel_rfl) (by kernel_rfl) (execI_sound f45.body _ _ _ _ (F45_ob _ _ _ K) (fun _ _ _ h => h) h)
def F46 (R : Caller) (lim n : Nat) (K : AVal → Heap → Prop) (a0 a1 : AVal) (H : Heap) : Prop :=
bind2 (R lim (.fn 44) [a0] H) fun v1 H2 =>
bind2 (R lim (.fn 73) [v1, a1] H2) fun v3 H4 =>
K v3 H4
def F46_Lp (R : Caller) (lim n : Nat) (K : AVal → Heap → Prop) : Nat → Tm → Heap → Prop
  | _, _, _ => False
theorem F46_eq (R : Caller) (lim n : Nat) (K : AVal → Heap → Prop) (a0 a1 : AVal) (H : Heap) : F46 R lim n K a0 a1 H = execI R lim n 9 (F46_Lp R lim n K) f46.body (argT [a0, a1]) H (retW [(.tmp 4)] K) := by kernel_rfl
theorem F46_ob (R : Caller) (lim n : Nat) (K : AVal → Heap → Prop) : Oblig R lim n 9 (F46_Lp R lim n K) f46.body (retW [(.tmp 4)] K) := (oblig_nl (by kernel_rfl))
theorem F46_run {ap : FuncId → Option AFn} (hf : ap 46 = some (.code f46)) {n lim : Nat} {K : AVal → Heap → Prop} {a0 a1 : AVal} {H : Heap} (h : F46 (Ahs.runT ap n) lim n K a0 a1 H) : ∃ v H', Ahs.runT ap (n + 1) lim (.fn 46) [a0, a1] H = some (v, H') ∧ K v H' := by
  rw [F46_eq] at h
  exact run_of_W hf (by kernel_rfl) (by kernel_rfl) (execI_sound f46.body _ _ _ _ (F46_ob _ _ _ K) (fun _ _ _ h => h) h)
def F47 (R : Caller) (lim n : Nat) (K : AVal → Heap → Prop) (a0 a1 : AVal) (H : Heap) : Prop :=
bind2 (R lim (.fn 71) [a1] H) fun v1 H2 =>
bindP (abin .eql v1 (.int .u8 0)) fun v3 =>
bindP (boolOf v3) fun b4 =>
(b4 = true → (K (.tup [(.int .u8 0), (.int .i64 1)]) H2)) ∧
(b4 = false → (bind2 (R lim (.fn 43) [a0, a1] H2) fun v5 H6 =>
bindP (boolOf v5) fun b7 =>
(b7 = true → (K (.tup [(.int .u8 0), (.int .i64 5)]) H6)) ∧
(b7 = false → (bind2 (R lim (.fn 71) [a1] H6) fun v8 H9 =>
bindP (abin .or a0 v8) fun v10 =>
bindP (abin .and v10 (.int .u8 31)) fun v11 =>
K (.tup [v11, (.int .i64 0)]) H9))))
def F47_Lp (R : Caller) (lim n : Nat) (K : AVal → Heap → Prop) : Nat → Tm → Heap → Prop
  | _, _, _ => False
theorem F47_eq (R : Caller) (lim n : Nat) (K : AVal → Heap → Prop) (a0 a1 : AVal) (H : Heap) : F47 R lim n K a0 a1 H = execI R lim n 19 (F47_Lp R lim n K) f47.body (argT [a0, a1]) H (retW [(.tmp 4), (.tmp 5)] K) := by kernel_rfl
theorem F47_ob (R : Caller) (lim n : Nat) (K : AVal → Heap → Prop) : Oblig R lim n 19 (F47_Lp R lim n K) f47.body (retW [(.tmp 4), (.tmp 5)] K) := (oblig_nl (by kernel_rfl))
theorem F47_run {ap : FuncId → Option AFn} (hf : ap 47 = some (.code f47)) {n lim : Nat} {K : AVal → Heap → Prop} {a0 a1 : AVal} {H : Heap} (h : F47 (Ahs.runT ap n) lim n K a0 a1 H) : ∃ v H', Ahs.runT ap (n + 1) lim (.fn 47) [a0, a1] H = some (v, H') ∧ K v H' := by
  rw [F47_eq] at h
  exact run_of_W hf (by kernel_rfl) (by kernel_rfl) (execI_sound f47.body _ _ _ _ (F47_ob _ _ _ K) (fun _ _ _ h => h) h)
def F48 (R : Caller) (lim n : Nat) (K : AVal → Heap → Prop) (a0 a1 : AVal) (H : Heap) : Prop :=
bindP (abin .lss a1 (.int .u8 1)) fun v1 =>
bindP (gd (some (v1, false)) (some a1)) fun v2 =>
bindP (gd (some (v1, false)) (abin .gtr v2 (.int .u8 5))) fun v3 =>
bindP (pickO v1 (.bool true) v3) fun v4 =>
bindP (boolOf v4) fun b5 =>
(b5 = true → (K (.tup [(.int .u8 0), (.int .i64 1)]) H)) ∧
(b5 = false → (bind2 (R lim (.fn 46) [a0, a1] H) fun v6 H7 =>
bindP (boolOf v6) fun b8 =>
(b8 = true → (K (.tup [(.int .u8 0), (.int .i64 5)]) H7)) ∧
(b8 = false → (bind2 (R lim (.fn 44) [a0] H7) fun v9 H10 =>
bind2 ((fillV [(.int .u8 0)] [(0, 1, a1)]).map fun cs => (.sl (some (H10.next, 0)) 1 (.ex 1), H10.push (.cells cs))) fun v11 H12 =>
bind2 (aappend lim H12 [(.int .u8 0)] 1 false v9 v11) fun v13 H14 =>
bind2 (R lim (.fn 45) [v13] H14) fun v15 H16 =>
K (.tup [v15, (.int .i64 0)]) H16))))
def F48_Lp (R : Caller) (lim n : Nat) (K : AVal → Heap → Prop) : Nat → Tm → Heap → Prop
  | _, _, _ => False
theorem F48_eq (R : Caller) (lim n : Nat) (K : AVal → Heap → Prop) (a0 a1 : AVal) (H : Heap) : F48 R lim n K a0 a1 H = execI R lim n 21 (F48_Lp R lim n K) f48.body (argT [a0, a1]) H (retW [(.tmp 4), (.tmp 5)] K) := by kernel_rfl
theorem F48_ob (R : Caller) (lim n : Nat) (K : AVal → Heap → Prop) : Oblig R lim n 21 (F48_Lp R lim n K) f48.body (retW [(.tmp 4), (.tmp 5)] K) := (oblig_nl (by kernel_rfl))
theorem F48_run {ap : FuncId → Option AFn} (hf : ap 48 = some (.code f48)) {n lim : Nat} {K : AVal → Heap → Prop} {a0 a1 : AVal} {H : Heap} (h : F48 (Ahs.runT ap n) lim n K a0 a1 H) : ∃ v H', Ahs.runT ap (n + 1) lim (.fn 48) [a0, a1] H = some (v, H') ∧ K v H' := by
  rw [F48_eq] at h
  exact run_of_W hf (by kernel_rfl) (by kernel_rfl) (execI_sound f48.body _ _ _ _ (F48_ob _ _ _ K) (fun _ _ _ h => h) h)
def F49 (R : Caller) (lim n : Nat) (K : AVal → Heap → Prop) (a0 a1 : AVal) (H : Heap) : Prop :=
bind2 (R lim (.fn 71) [a1] H) fun v1 H2 =>
bindP (abin .eql v1 (.int .u8 0)) fun v3 =>
bindP (boolOf v3) fun b4 =>
(b4 = true → (K (.tup [(.int .u8 0), (.int .i64 1)]) H2)) ∧
(b4 = false → (bind2 (R lim (.fn 43) [a0, a1] H2) fun v5 H6 =>
bindP (aun .not v5) fun v7 =>
bindP (boolOf v7) fun b8 =>
(b8 = true → (K (.tup [(.int .u8 0), (.int .i64 4)]) H6)) ∧
(b8 = false → (bind2 (R lim (.fn 71) [a1] H6) fun v9 H10 =>
bindP (abin .andNot a0 v9) fun v11 =>
bindP (abin .and v11 (.int .u8 31)) fun v12 =>
K (.tup [v12, (.int .i64 0)]) H10))))
def F49_Lp (R : Caller) (lim n : Nat) (K : AVal → Heap → Prop) : Nat → Tm → Heap → Prop
  | _, _, _ => False
theorem F49_eq (R : Caller) (lim n : Nat) (K : AVal → Heap → Prop) (a0 a1 : AVal) (H : Heap) : F49 R lim n K a0 a1 H = execI R lim n 20 (F49_Lp R lim n K) f49.body (argT [a0, a1]) H (retW [(.tmp 4), (.tmp 5)] K) := by kernel_rfl
theorem F49_ob (R : Caller) (lim n : Nat) (K : AVal → Heap → Prop) : Oblig R lim n 20 (F49_Lp R lim n K) f49.body (retW [(.tmp 4), (.tmp 5)] K) := (oblig_nl (by kernel_rfl))
theorem F49_run {ap : FuncId → Option AFn} (hf : ap 49 = some (.code f49)) {n lim : Nat} {K : AVal → Heap → Prop} {a0 a1 : AVal} {H : Heap} (h : F49 (Ahs.runT ap n) lim n K a0 a1 H) : ∃ v H', Ahs.runT ap (n + 1) lim (.fn 49) [a0, a1] H = some (v, H') ∧ K v H' := by
  rw [F49_eq] at h
  exact run_of_W hf (by kernel_rfl) (by kernel_rfl) (execI_sound f49.body _ _ _ _ (F49_ob _ _ _ K) (fun _ _ _ h => h) h)
def F50_j0 (R : Caller) (lim n : Nat) (K : AVal → Heap → Prop) (t7 : AVal) (H : Heap) : Prop :=
bind2 (R lim (.fn 45) [t7] H) fun v28 H29 =>
K (.tup [v28, (.int .i64 0)]) H29
def F50_j1 (R : Caller) (lim n : Nat) (K : AVal → Heap → Prop) (rec0 : AVal → AVal → AVal → AVal → Heap → Prop) (t1 t6 t7 t8 : AVal) (H : Heap) : Prop :=
bindP (abin .add t8 (.int .i64 1)) fun v36 =>
rec0 t1 t6 t7 v36 H
def F50_s0 (R : Caller) (lim n : Nat) (K : AVal → Heap → Prop) (rec0 : AVal → AVal → AVal → AVal → Heap → Prop) (t1 t6 t7 t8 : AVal) (H : Heap) : Prop :=
bindP (alen false t6) fun v30 =>
bindP (abin .lss t8 v30) fun v31 =>
bindP (boolOf v31) fun b32 =>
(b32 = true → (bindP (aindexAddr none 1 t6 t8) fun v33 =>
bindP (aload H none v33) fun v34 =>
bindP (abin .neq v34 t1) fun v35 =>
bindP (boolOf v35) fun b37 =>
(b37 = true → (bindP (aindexAddr none 1 t6 t8) fun v38 =>
bindP (aload H none v38) fun v39 =>
bind2 ((fillV [(.int .u8 0)] [(0, 1, v39)]).map fun cs => (.sl (some (H.next, 0)) 1 (.ex 1), H.push (.cells cs))) fun v40 H41 =>
bind2 (aappend lim H41 [(.int .u8 0)] 1 false t7 v40) fun v42 H43 =>
F50_j1 R lim n K rec0 t1 t6 v42 t8 H43)) ∧
(b37 = false → (F50_j1 R lim n K rec0 t1 t6 t7 t8 H)))) ∧
(b32 = false → (F50_j0 R lim n K t7 H))
def F50_l0 (R : Caller) (lim n : Nat) (K : AVal → Heap → Prop) : Nat → AVal → AVal → AVal → AVal → Heap → Prop
  | 0, _, _, _, _, _ => False
  | m + 1, t1, t6, t7, t8, H => F50_s0 R lim n K (F50_l0 R lim n K m) t1 t6 t7 t8 H
def F50 (R : Caller) (lim n : Nat) (K : AVal → Heap → Prop) (a0 a1 : AVal) (H : Heap) : Prop :=
bindP (abin .lss a1 (.int .u8 1)) fun v1 =>
bindP (gd (some (v1, false)) (some a1)) fun v2 =>
bindP (gd (some (v1, false)) (abin .gtr v2 (.int .u8 5))) fun v3 =>
bindP (pickO v1 (.bool true) v3) fun v4 =>
bindP (boolOf v4) fun b5 =>
(b5 = true → (K (.tup [(.int .u8 0), (.int .i64 1)]) H)) ∧
(b5 = false → (bind2 (R lim (.fn 46) [a0, a1] H) fun v6 H7 =>
bindP (aun .not v6) fun v8 =>
bindP (boolOf v8) fun b9 =>
(b9 = true → (K (.tup [(.int .u8 0), (.int .i64 4)]) H7)) ∧
(b9 = false → (bind2 (R lim (.fn 44) [a0] H7) fun v10 H11 =>
F50_l0 R lim n K n a1 v10 (.sl none 0 (.ex 0)) (.int .i64 0) H11))))
def F50_Lp (R : Caller) (lim n : Nat) (K : AVal → Heap → Prop) : Nat → Tm → Heap → Prop
  | 0, T, H => F50_l0 R lim n K n (T 1) (T 6) (T 7) (T 8) H
  | _, _, _ => False
def F50_Lp0 (R : Caller) (lim n : Nat) (K : AVal → Heap → Prop) (rec0 : AVal → AVal → AVal → AVal → Heap → Prop) : Nat → Tm → Heap → Prop
  | _, _, _ => False
def F50_k0 (R : Caller) (lim n : Nat) (K : AVal → Heap → Prop) (rec0 : AVal → AVal → AVal → AVal → Heap → Prop) : Kt := fun ex T H => match ex with
  | .norm => rec0 (T 1) (T 6) (T 7) (T 8) H
  | ex => (kBlk 0 (kSeq (execI R lim n 42 (F50_Lp R lim n K) f50_p1) (retW [(.tmp 4), (.tmp 5)] K))) ex T H
theorem F50_s0_eq (R : Caller) (lim n : Nat) (K : AVal → Heap → Prop) (rec0 : AVal → AVal → AVal → AVal → Heap → Prop) (T : Tm) (H : Heap) : F50_s0 R lim n K rec0 (T 1) (T 6) (T 7) (T 8) H = execI R lim n 42 (F50_Lp0 R lim n K rec0) f50_p0 T H (F50_k0 R lim n K rec0) := by kernel_rfl
theorem F50_l0_ok (R : Caller) (lim n : Nat) (K : AVal → Heap → Prop) {kw : Kt} (hk : ∀ ex T H, (kBlk 0 (kSeq (execI R lim n 42 (F50_Lp R lim n K) f50_p1) (retW [(.tmp 4), (.tmp 5)] K))) ex T H → kw ex T H) : ∀ (m : Nat) (T : Tm) (H : Heap), F50_l0 R lim n K m (T 1) (T 6) (T 7) (T 8) H → loopW (execW R lim n 42 f50_p0) m T H kw
  | 0, _, _, h => False.elim h
  | m + 1, T, H, h => by
    have hb : ∀ ex T H, F50_k0 R lim n K (F50_l0 R lim n K m) ex T H → (fun ex T H => match ex with | .norm => loopW (execW R lim n 42 f50_p0) m T H kw | ex => kw ex T H : Kt) ex T H := by
      intro ex T H h
      cases ex with
      | norm => exact F50_l0_ok R lim n K hk m T H h
      | exit i => exact hk _ _ _ h
      | ret => exact hk _ _ _ h
    have h' : F50_s0 R lim n K (F50_l0 R lim n K m) (T 1) (T 6) (T 7) (T 8) H := h
    rw [F50_s0_eq] at h'
    exact execI_sound f50_p0 T H _ _ (oblig_nl (by kernel_rfl)) hb h'
theorem F50_eq (R : Caller) (lim n : Nat) (K : AVal → Heap → Prop) (a0 a1 : AVal) (H : Heap) : F50 R lim n K a0 a1 H = execI R lim n 42 (F50_Lp R lim n K) f50.body (argT [a0, a1]) H (retW [(.tmp 4), (.tmp 5)] K) := by kernel_rfl
theorem F50_ob (R : Caller) (lim n : Nat) (K : AVal → Heap → Prop) : Oblig R lim n 42 (F50_Lp R lim n K) f50.body (retW [(.tmp 4), (.tmp 5)] K) := ⟨(oblig_nl (by kernel_rfl)), ⟨(oblig_nl (by kernel_rfl)), ⟨(oblig_nl (by kernel_rfl)), ⟨(oblig_nl (by kernel_rfl)), ⟨(oblig_nl (by kernel_rfl)), ⟨⟨(oblig_nl (by kernel_rfl)), (fun T H h => F50_l0_ok R lim n K (kBlk_mono (kSeqI_sound (oblig_nl (by kernel_rfl)) (fun _ _ _ h => h))) _ T H h)⟩, (oblig_nl (by kernel_rfl))⟩⟩⟩⟩⟩⟩
theorem F50_run {ap : FuncId → Option AFn} (hf : ap 50 = some (.code f50)) {n lim : Nat} {K : AVal → Heap → Prop} {a0 a1 : AVal} {H : Heap} (h : F50 (Ahs.runT ap n) lim n K a0 a1 H) : ∃ v H', Ahs.runT ap (n + 1) lim (.fn 50) [a0, a1] H = some (v, H') ∧ K v H' := by
  rw [F50_eq] at h
  exact run_of_W hf (by kernel_rfl) (by kernel_rfl) (execI_sound f50.body _ _ _ _ (F50_ob _ _ _ K) (fun _ _ _ h => h) h)
def F51_j0 (R : Caller) (lim n : Nat) (K : AVal → Heap → Prop) (t5 t6 : AVal) (H : Heap) : Prop :=
bindP (alen false t5) fun v16 =>
bindP (abin .sub v16 t6) fun v17 =>
bindP (abin .gtr t6 v17) fun v18 =>
K v18 H
def F51_j1 (R : Caller) (lim n : Nat) (K : AVal → Heap → Prop) (rec0 : AVal → AVal → AVal → AVal → Heap → Prop) (t1 t5 t6 t7 : AVal) (H : Heap) : Prop :=
bindP (abin .add t7 (.int .i64 1)) fun v26 =>
rec0 t1 t5 t6 v26 H
def F51_s0 (R : Caller) (lim n : Nat) (K : AVal → Heap → Prop) (rec0 : AVal → AVal → AVal → AVal → Heap → Prop) (t1 t5 t6 t7 : AVal) (H : Heap) : Prop :=
bindP (alen false t5) fun v19 =>
bindP (abin .lss t7 v19) fun v20 =>
bindP (boolOf v20) fun b21 =>
(b21 = true → (bindP (aindexAddr none 1 t5 t7) fun v22 =>
bindP (aload H none v22) fun v23 =>
bind2 (R lim (.fn 46) [t1, v23] H) fun v24 H25 =>
bindP (boolOf v24) fun b27 =>
(b27 = true → (bindP (abin .add t6 (.int .i64 1)) fun v28 =>
F51_j1 R lim n K rec0 t1 t5 v28 t7 H25)) ∧
(b27 = false → (F51_j1 R lim n K rec0 t1 t5 t6 t7 H25)))) ∧
(b21 = false → (F51_j0 R lim n K t5 t6 H))
def F51_l0 (R : Caller) (lim n : Nat) (K : AVal → Heap → Prop) : Nat → AVal → AVal → AVal → AVal → Heap → Prop
  | 0, _, _, _, _, _ => False
  | m + 1, t1, t5, t6, t7, H => F51_s0 R lim n K (F51_l0 R lim n K m) t1 t5 t6 t7 H
def F51 (R : Caller) (lim n : Nat) (K : AVal → Heap → Prop) (a0 a1 : AVal) (H : Heap) : Prop :=
bind2 (R lim (.fn 44) [a0] H) fun v1 H2 =>
F51_l0 R lim n K n a1 v1 (.int .i64 0) (.int .i64 0) H2
def F51_Lp (R : Caller) (lim n : Nat) (K : AVal → Heap → Prop) : Nat → Tm → Heap → Prop
  | 0, T, H => F51_l0 R lim n K n (T 1) (T 5) (T 6) (T 7) H
  | _, _, _ => False
def F51_Lp0 (R : Caller) (lim n : Nat) (K : AVal → Heap → Prop) (rec0 : AVal → AVal → AVal → AVal → Heap → Prop) : Nat → Tm → Heap → Prop
  | _, _, _ => False
def F51_k0 (R : Caller) (lim n : Nat) (K : AVal → Heap → Prop) (rec0 : AVal → AVal → AVal → AVal → Heap → Prop) : Kt := fun ex T H => match ex with
  | .norm => rec0 (T 1) (T 5) (T 6) (T 7) H
  | ex => (kBlk 0 (kSeq (execI R lim n 30 (F51_Lp R lim n K) f51_p1) (retW [(.tmp 4)] K))) ex T H
theorem F51_s0_eq (R : Caller) (lim n : Nat) (K : AVal → Heap → Prop) (rec0 : AVal → AVal → AVal → AVal → Heap → Prop) (T : Tm) (H : Heap) : F51_s0 R lim n K rec0 (T 1) (T 5) (T 6) (T 7) H = execI R lim n 30 (F51_Lp0 R lim n K rec0) f51_p0 T H (F51_k0 R lim n K rec0) := by kernel_rfl
theorem F51_l0_ok (R : Caller) (lim n : Nat) (K : AVal → Heap → Prop) {kw : Kt} (hk : ∀ ex T H, (kBlk 0 (kSeq (execI R lim n 30 (F51_Lp R lim n K) f51_p1) (retW [(.tmp 4)] K))) ex T H → kw ex T H) : ∀ (m : Nat) (T : Tm) (H : Heap), F51_l0 R lim n K m (T 1) (T 5) (T 6) (T 7) H → loopW (execW R lim n 30 f51_p0) m T H kw
  | 0, _, _, h => False.elim h
  | m + 1, T, H, h => by
    have hb : ∀ ex T H, F51_k0 R lim n K (F51_l0 R lim n K m) ex T H → (fun ex T H => match ex with | .norm => loopW (execW R lim n 30 f51_p0) m T H kw | ex => kw ex T H : Kt) ex T H := by
      intro ex T H h
      cases ex with
      | norm => exact F51_l0_ok R lim n K hk m T H h
      | exit i => exact hk _ _ _ h
      | ret => exact hk _ _ _ h
    have h' : F51_s0 R lim n K (F51_l0 R lim n K m) (T 1) (T 5) (T 6) (T 7) H := h
    rw [F51_s0_eq] at h'
    exact execI_sound f51_p0 T H _ _ (oblig_nl (by kernel_rfl)) hb h'
theorem F51_eq (R : Caller) (lim n : Nat) (K : AVal → Heap → Prop) (a0 a1 : AVal) (H : Heap) : F51 R lim n K a0 a1 H = execI R lim n 30 (F51_Lp R lim n K) f51.body (argT [a0, a1]) H (retW [(.tmp 4)] K) := by kernel_rfl
theorem F51_ob (R : Caller) (lim n : Nat) (K : AVal → Heap → Prop) : Oblig R lim n 30 (F51_Lp R lim n K) f51.body (retW [(.tmp 4)] K) := ⟨(oblig_nl (by kernel_rfl)), ⟨(oblig_nl (by kernel_rfl)), ⟨(oblig_nl (by kernel_rfl)), ⟨⟨(oblig_nl (by kernel_rfl)), (fun T H h => F51_l0_ok R lim n K (kBlk_mono (kSeqI_sound (oblig_nl (by kernel_rfl)) (fun _ _ _ h => h))) _ T H h)⟩, (oblig_nl (by kernel_rfl))⟩⟩⟩⟩
theorem F51_run {ap : FuncId → Option AFn} (hf : ap 51 = some (.code f51)) {n lim : Nat} {K : AVal → Heap → Prop} {a0 a1 : AVal} {H : Heap} (h : F51 (Ahs.runT ap n) lim n K a0 a1 H) : ∃ v H', Ahs.runT ap (n + 1) lim (.fn 51) [a0, a1] H = some (v, H') ∧ K v H' := by
  rw [F51_eq] at h
  exact run_of_W hf (by kernel_rfl) (by kernel_rfl) (execI_sound f51.body _ _ _ _ (F51_ob _ _ _ K) (fun _ _ _ h => h) h)
def F52_j0 (R : Caller) (lim n : Nat) (K : AVal → Heap → Prop) (t6 : AVal) (H : Heap) : Prop :=
K t6 H
def F52_j1 (R : Caller) (lim n : Nat) (K : AVal → Heap → Prop) (rec0 : AVal → AVal → AVal → AVal → Heap → Prop) (t3 t5 t6 t7 : AVal) (H : Heap) : Prop :=
bindP (abin .add t7 (.int .i64 1)) fun v86 =>
rec0 t3 t5 t6 v86 H
def F52_j2 (R : Caller) (lim n : Nat) (K : AVal → Heap → Prop) (rec0 : AVal → AVal → AVal → AVal → Heap → Prop) (t3 t5 t6 t7 t8 t9 : AVal) (H : Heap) : Prop :=
bindP (alen false t5) fun v79 =>
bindP (abin .sub v79 t9) fun v80 =>
bindP (abin .gtr t9 v80) fun v81 =>
bindP (gd (some (v81, true)) (some t8)) fun v82 =>
bindP (gd (some (v81, true)) (some t6)) fun v83 =>
bindP (gd (some (v81, true)) (abin .gtr v82 v83)) fun v84 =>
bindP (pickO v81 v84 (.bool false)) fun v85 =>
bindP (boolOf v85) fun b87 =>
(b87 = true → (F52_j1 R lim n K rec0 t3 t5 t8 t7 H)) ∧
(b87 = false → (F52_j1 R lim n K rec0 t3 t5 t6 t7 H))
def F52_j3 (R : Caller) (lim n : Nat) (K : AVal → Heap → Prop) (rec0 : AVal → AVal → AVal → AVal → Heap → Prop) (rec2 : AVal → AVal → AVal → AVal → AVal → AVal → AVal → Heap → Prop) (t3 t5 t6 t7 t8 t9 t10 : AVal) (H : Heap) : Prop :=
bindP (abin .add t10 (.int .i64 1)) fun v96 =>
rec2 t3 t5 t6 t7 t8 t9 v96 H
def F52_s2 (R : Caller) (lim n : Nat) (K : AVal → Heap → Prop) (rec0 : AVal → AVal → AVal → AVal → Heap → Prop) (rec2 : AVal → AVal → AVal → AVal → AVal → AVal → AVal → Heap → Prop) (t3 t5 t6 t7 t8 t9 t10 : AVal) (H : Heap) : Prop :=
bindP (alen false t5) fun v88 =>
bindP (abin .lss t10 v88) fun v89 =>
bindP (boolOf v89) fun b90 =>
(b90 = true → (bindP (aindexAddr none 1 t5 t10) fun v91 =>
bindP (aload H none v91) fun v92 =>
bindP (aindexAddr (some 6) 1 t3 v92) fun v93 =>
bindP (aload H none v93) fun v94 =>
bindP (abin .geq v94 t8) fun v95 =>
bindP (boolOf v95) fun b97 =>
(b97 = true → (bindP (abin .add t9 (.int .i64 1)) fun v98 =>
F52_j3 R lim n K rec0 rec2 t3 t5 t6 t7 t8 v98 t10 H)) ∧
(b97 = false → (F52_j3 R lim n K rec0 rec2 t3 t5 t6 t7 t8 t9 t10 H)))) ∧
(b90 = false → (F52_j2 R lim n K rec0 t3 t5 t6 t7 t8 t9 H))
def F52_l2 (R : Caller) (lim n : Nat) (K : AVal → Heap → Prop) (rec0 : AVal → AVal → AVal → AVal → Heap → Prop) : Nat → AVal → AVal → AVal → AVal → AVal → AVal → AVal → Heap → Prop
  | 0, _, _, _, _, _, _, _, _ => False
  | m + 1, t3, t5, t6, t7, t8, t9, t10, H => F52_s2 R lim n K rec0 (F52_l2 R lim n K rec0 m) t3 t5 t6 t7 t8 t9 t10 H
def F52_s0 (R : Caller) (lim n : Nat) (K : AVal → Heap → Prop) (rec0 : AVal → AVal → AVal → AVal → Heap → Prop) (t3 t5 t6 t7 : AVal) (H : Heap) : Prop :=
bindP (alen false t5) fun v52 =>
bindP (abin .lss t7 v52) fun v53 =>
bindP (boolOf v53) fun b54 =>
(b54 = true → (bindP (aindexAddr none 1 t5 t7) fun v55 =>
bindP (aload H none v55) fun v56 =>
bindP (aindexAddr (some 6) 1 t3 v56) fun v57 =>
bindP (aload H none v57) fun v58 =>
F52_l2 R lim n K rec0 n t3 t5 t6 t7 v58 (.int .i64 0) (.int .i64 0) H)) ∧
(b54 = false → (F52_j0 R lim n K t6 H))
def F52_l0 (R : Caller) (lim n : Nat) (K : AVal → Heap → Prop) : Nat → AVal → AVal → AVal → AVal → Heap → Prop
  | 0, _, _, _, _, _ => False
  | m + 1, t3, t5, t6, t7, H => F52_s0 R lim n K (F52_l0 R lim n K m) t3 t5 t6 t7 H
def F52 (R : Caller) (lim n : Nat) (K : AVal → Heap → Prop) (a0 a1 : AVal) (H : Heap) : Prop :=
bind2 (if (a1).cells.all (·.one) then some (.ptr (some (H.next, 0)), H.push (.cells (a1).cells)) else none) fun v1 H2 =>
bind2 (R lim (.fn 44) [a0] H2) fun v3 H4 =>
F52_l0 R lim n K n v1 v3 (.int .u64 0) (.int .i64 0) H4
def F52_Lp (R : Caller) (lim n : Nat) (K : AVal → Heap → Prop) : Nat → Tm → Heap → Prop
  | 0, T, H => F52_l0 R lim n K n (T 3) (T 5) (T 6) (T 7) H
  | _, _, _ => False
def F52_Lp0 (R : Caller) (lim n : Nat) (K : AVal → Heap → Prop) (rec0 : AVal → AVal → AVal → AVal → Heap → Prop) : Nat → Tm → Heap → Prop
  | 2, T, H => F52_l2 R lim n K rec0 n (T 3) (T 5) (T 6) (T 7) (T 8) (T 9) (T 10) H
  | _, _, _ => False
def F52_Lp2 (R : Caller) (lim n : Nat) (K : AVal → Heap → Prop) (rec0 : AVal → AVal → AVal → AVal → Heap → Prop) (rec2 : AVal → AVal → AVal → AVal → AVal → AVal → AVal → Heap → Prop) : Nat → Tm → Heap → Prop
  | _, _, _ => False
def F52_k0 (R : Caller) (lim n : Nat) (K : AVal → Heap → Prop) (rec0 : AVal → AVal → AVal → AVal → Heap → Prop) : Kt := fun ex T H => match ex with
  | .norm => rec0 (T 3) (T 5) (T 6) (T 7) H
  | ex => (kBlk 0 (kSeq (execI R lim n 54 (F52_Lp R lim n K) f52_p1) (retW [(.tmp 4)] K))) ex T H
def F52_k2 (R : Caller) (lim n : Nat) (K : AVal → Heap → Prop) (rec0 : AVal → AVal → AVal → AVal → Heap → Prop) (rec2 : AVal → AVal → AVal → AVal → AVal → AVal → AVal → Heap → Prop) : Kt := fun ex T H => match ex with
  | .norm => rec2 (T 3) (T 5) (T 6) (T 7) (T 8) (T 9) (T 10) H
  | ex => (kBlk 2 (kSeq (execI R lim n 54 (F52_Lp0 R lim n K rec0) f52_p3) (kBlk 1 (kSeq (execI R lim n 54 (F52_Lp0 R lim n K rec0) f52_p4) (F52_k0 R lim n K rec0))))) ex T H
theorem F52_s2_eq (R : Caller) (lim n : Nat) (K : AVal → Heap → Prop) (rec0 : AVal → AVal → AVal → AVal → Heap → Prop) (rec2 : AVal → AVal → AVal → AVal → AVal → AVal → AVal → Heap → Prop) (T : Tm) (H : Heap) : F52_s2 R lim n K rec0 rec2 (T 3) (T 5) (T 6) (T 7) (T 8) (T 9) (T 10) H = execI R lim n 54 (F52_Lp2 R lim n K rec0 rec2) f52_p2 T H (F52_k2 R lim n K rec0 rec2) := by kernel_rfl
theorem F52_l2_ok (R : Caller) (lim n : Nat) (K : AVal → Heap → Prop) (rec0 : AVal → AVal → AVal → AVal → Heap → Prop) {kw : Kt} (hk : ∀ ex T H, (kBlk 2 (kSeq (execI R lim n 54 (F52_Lp0 R lim n K rec0) f52_p3) (kBlk 1 (kSeq (execI R lim n 54 (F52_Lp0 R lim n K rec0) f52_p4) (F52_k0 R lim n K rec0))))) ex T H → kw ex T H) : ∀ (m : Nat) (T : Tm) (H : Heap), F52_l2 R lim n K rec0 m (T 3) (T 5) (T 6) (T 7) (T 8) (T 9) (T 10) H → loopW (execW R lim n 54 f52_p2) m T H kw
  | 0, _, _, h => False.elim h
  | m + 1, T, H, h => by
    have hb : ∀ ex T H, F52_k2 R lim n K rec0 (F52_l2 R lim n K rec0 m) ex T H → (fun ex T H => match ex with | .norm => loopW (execW R lim n 54 f52_p2) m T H kw | ex => kw ex T H : Kt) ex T H := by
      intro ex T H h
      cases ex with
      | norm => exact F52_l2_ok R lim n K rec0 hk m T H h
      | exit i => exact hk _ _ _ h
      | ret => exact hk _ _ _ h
    have h' : F52_s2 R lim n K rec0 (F52_l2 R lim n K rec0 m) (T 3) (T 5) (T 6) (T 7) (T 8) (T 9) (T 10) H := h
    rw [F52_s2_eq] at h'
    exact execI_sound f52_p2 T H _ _ (oblig_nl (by kernel_rfl)) hb h'
theorem F52_s0_eq (R : Caller) (lim n : Nat) (K : AVal → Heap → Prop) (rec0 : AVal → AVal → AVal → AVal → Heap → Prop) (T : Tm) (H : Heap) : F52_s0 R lim n K rec0 (T 3) (T 5) (T 6) (T 7) H = execI R lim n 54 (F52_Lp0 R lim n K rec0) f52_p0 T H (F52_k0 R lim n K rec0) := by kernel_rfl
theorem F52_l0_ok (R : Caller) (lim n : Nat) (K : AVal → Heap → Prop) {kw : Kt} (hk : ∀ ex T H, (kBlk 0 (kSeq (execI R lim n 54 (F52_Lp R lim n K) f52_p1) (retW [(.tmp 4)] K))) ex T H → kw ex T H) : ∀ (m : Nat) (T : Tm) (H : Heap), F52_l0 R lim n K m (T 3) (T 5) (T 6) (T 7) H → loopW (execW R lim n 54 f52_p0) m T H kw
  | 0, _, _, h => False.elim h
  | m + 1, T, H, h => by
    have hb : ∀ ex T H, F52_k0 R lim n K (F52_l0 R lim n K m) ex T H → (fun ex T H => match ex with | .norm => loopW (execW R lim n 54 f52_p0) m T H kw | ex => kw ex T H : Kt) ex T H := by
      intro ex T H h
      cases ex with
      | norm => exact F52_l0_ok R lim n K hk m T H h
      | exit i => exact hk _ _ _ h
      | ret => exact hk _ _ _ h
    have h' : F52_s0 R lim n K (F52_l0 R lim n K m) (T 3) (T 5) (T 6) (T 7) H := h
    rw [F52_s0_eq] at h'
    exact execI_sound f52_p0 T H _ _ ⟨(oblig_nl (by kernel_rfl)), ⟨⟨(oblig_nl (by kernel_rfl)), ⟨(oblig_nl (by kernel_rfl)), ⟨⟨(oblig_nl (by kernel_rfl)), (fun T H h => F52_l2_ok R lim n K (F52_l0 R lim n K m) (kBlk_mono (kSeqI_sound (oblig_nl (by kernel_rfl)) (kBlk_mono (kSeqI_sound (oblig_nl (by kernel_rfl)) (hb))))) _ T H h)⟩, (oblig_nl (by kernel_rfl))⟩⟩⟩, (oblig_nl (by kernel_rfl))⟩⟩ hb h'
theorem F52_eq (R : Caller) (lim n : Nat) (K : AVal → Heap → Prop) (a0 a1 : AVal) (H : Heap) : F52 R lim n K a0 a1 H = execI R lim n 54 (F52_Lp R lim n K) f52.body (argT [a0, a1]) H (retW [(.tmp 4)] K) := by kernel_rfl
theorem F52_ob (R : Caller) (lim n : Nat) (K : AVal → Heap → Prop) : Oblig R lim n 54 (F52_Lp R lim n K) f52.body (retW [(.tmp 4)] K) := ⟨(oblig_nl (by kernel_rfl)), ⟨(oblig_nl (by kernel_rfl)), ⟨(oblig_nl (by kernel_rfl)), ⟨⟨(oblig_nl (by kernel_rfl)), (fun T H h => F52_l0_ok R lim n K (kBlk_mono (kSeqI_sound (oblig_nl (by kernel_rfl)) (fun _ _ _ h => h))) _ T H h)⟩, (oblig_nl (by kernel_rfl))⟩⟩⟩⟩
theorem F52_run {ap : FuncId → Option AFn} (hf : ap 52 = some (.code f52)) {n lim : Nat} {K : AVal → Heap → Prop} {a0 a1 : AVal} {H : Heap} (h : F52 (Ahs.runT ap n) lim n K a0 a1 H) : ∃ v H', Ahs.runT ap (n + 1) lim (.fn 52) [a0, a1] H = some (v, H') ∧ K v H' := by
  rw [F52_eq] at h
  exact run_of_W hf (by kernel_rfl) (by kernel_rfl) (execI_sound f52.body _ _ _ _ (F52_ob _ _ _ K) (fun _ _ _ h => h) h)
def F53_j0 (R : Caller) (lim n : Nat) (K : AVal → Heap → Prop) (t5 : AVal) (H : Heap) : Prop :=
bindP (abin .lss t5 (.int .i64 2)) fun v12 =>
K v12 H
def F53_j1 (R : Caller) (lim n : Nat) (K : AVal → Heap → Prop) (rec0 : AVal → AVal → AVal → AVal → Heap → Prop) (t0 t1 t5 t6 : AVal) (H : Heap) : Prop :=
bindP (abin .add t6 (.int .u8 1)) fun v20 =>
rec0 t0 t1 t5 v20 H
def F53_s0 (R : Caller) (lim n : Nat) (K : AVal → Heap → Prop) (rec0 : AVal → AVal → AVal → AVal → Heap → Prop) (t0 t1 t5 t6 : AVal) (H : Heap) : Prop :=
bindP (abin .leq t6 (.int .u8 5)) fun v13 =>
bindP (boolOf v13) fun b14 =>
(b14 = true → (bind2 (R lim (.fn 46) [t0, t6] H) fun v15 H16 =>
bind2 (R lim (.fn 46) [t1, t6] H16) fun v17 H18 =>
bindP (eqvO true .bool v15 v17) fun v19 =>
bindP (boolOf v19) fun b21 =>
(b21 = true → (bindP (abin .add t5 (.int .i64 1)) fun v22 =>
F53_j1 R lim n K rec0 t0 t1 v22 t6 H18)) ∧
(b21 = false → (F53_j1 R lim n K rec0 t0 t1 t5 t6 H18)))) ∧
(b14 = false → (F53_j0 R lim n K t5 H))
def F53_l0 (R : Caller) (lim n : Nat) (K : AVal → Heap → Prop) : Nat → AVal → AVal → AVal → AVal → Heap → Prop
  | 0, _, _, _, _, _ => False
  | m + 1, t0, t1, t5, t6, H => F53_s0 R lim n K (F53_l0 R lim n K m) t0 t1 t5 t6 H
def F53 (R : Caller) (lim n : Nat) (K : AVal → Heap → Prop) (a0 a1 : AVal) (H : Heap) : Prop :=
F53_l0 R lim n K n a0 a1 (.int .i64 0) (.int .u8 1) H
def F53_Lp (R : Caller) (lim n : Nat) (K : AVal → Heap → Prop) : Nat → Tm → Heap → Prop
  | 0, T, H => F53_l0 R lim n K n (T 0) (T 1) (T 5) (T 6) H
  | _, _, _ => False
def F53_Lp0 (R : Caller) (lim n : Nat) (K : AVal → Heap → Prop) (rec0 : AVal → AVal → AVal → AVal → Heap → Prop) : Nat → Tm → Heap → Prop
  | _, _, _ => False
def F53_k0 (R : Caller) (lim n : Nat) (K : AVal → Heap → Prop) (rec0 : AVal → AVal → AVal → AVal → Heap → Prop) : Kt := fun ex T H => match ex with
  | .norm => rec0 (T 0) (T 1) (T 5) (T 6) H
  | ex => (kBlk 0 (kSeq (execI R lim n 22 (F53_Lp R lim n K) f53_p1) (retW [(.tmp 4)] K))) ex T H
theorem F53_s0_eq (R : Caller) (lim n : Nat) (K : AVal → Heap → Prop) (rec0 : AVal → AVal → AVal → AVal → Heap → Prop) (T : Tm) (H : Heap) : F53_s0 R lim n K rec0 (T 0) (T 1) (T 5) (T 6) H = execI R lim n 22 (F53_Lp0 R lim n K rec0) f53_p0 T H (F53_k0 R lim n K rec0) := by kernel_rfl
theorem F53_l0_ok (R : Caller) (lim n : Nat) (K : AVal → Heap → Prop) {kw : Kt} (hk : ∀ ex T H, (kBlk 0 (kSeq (execI R lim n 22 (F53_Lp R lim n K) f53_p1) (retW [(.tmp 4)] K))) ex T H → kw ex T H) : ∀ (m : Nat) (T : Tm) (H : Heap), F53_l0 R lim n K m (T 0) (T 1) (T 5) (T 6) H → loopW (execW R lim n 22 f53_p0) m T H kw
  | 0, _, _, h => False.elim h
  | m + 1, T, H, h => by
    have hb : ∀ ex T H, F53_k0 R lim n K (F53_l0 R lim n K m) ex T H → (fun ex T H => match ex with | .norm => loopW (execW R lim n 22 f53_p0) m T H kw | ex => kw ex T H : Kt) ex T H := by
      intro ex T H h
      cases ex with
      | norm => exact F53_l0_ok R lim n K hk m T H h
      | exit i => exact hk _ _ _ h
      | ret => exact hk _ _ _ h
    have h' : F53_s0 R lim n K (F53_l0 R lim n K m) (T 0) (T 1) (T 5) (T 6) H := h
    rw [F53_s0_eq] at h'
    exact execI_sound f53_p0 T H _ _ (oblig_nl (by kernel_rfl)) hb h'
theorem F53_eq (R : Caller) (lim n : Nat) (K : AVal → Heap → Prop) (a0 a1 : AVal) (H : Heap) : F53 R lim n K a0 a1 H = execI R lim n 22 (F53_Lp R lim n K) f53.body (argT [a0, a1]) H (retW [(.tmp 4)] K) := by kernel_rfl
theorem F53_ob (R : Caller) (lim n : Nat) (K : AVal → Heap → Prop) : Oblig R lim n 22 (F53_Lp R lim n K) f53.body (retW [(.tmp 4)] K) := ⟨(oblig_nl (by kernel_rfl)), ⟨(oblig_nl (by kernel_rfl)), ⟨⟨(oblig_nl (by kernel_rfl)), (fun T H h => F53_l0_ok R lim n K (kBlk_mono (kSeqI_sound (oblig_nl (by kernel_rfl)) (fun _ _ _ h => h))) _ T H h)⟩, (oblig_nl (by kernel_rfl))⟩⟩⟩
theorem F53_run {ap : FuncId → Option AFn} (hf : ap 53 = some (.code f53)) {n lim : Nat} {K : AVal → Heap → Prop} {a0 a1 : AVal} {H : Heap} (h : F53 (Ahs.runT ap n) lim n K a0 a1 H) : ∃ v H', Ahs.runT ap (n + 1) lim (.fn 53) [a0, a1] H = some (v, H') ∧ K v H' := by
  rw [F53_eq] at h
  exact run_of_W hf (by kernel_rfl) (by kernel_rfl) (execI_sound f53.body _ _ _ _ (F53_ob _ _ _ K) (fun _ _ _ h => h) h)
def F70 (R : Caller) (lim n : Nat) (K : AVal → Heap → Prop) (a0 : AVal) (H : Heap) : Prop :=
bindP (alen false a0) fun v1 =>
bindP (convO .u64 v1) fun v2 =>
bind2 (R lim (.fn 77) [v2] H) fun v3 H4 =>
bind2 (R lim (.fn 76) [a0, (.int .i64 0), v1, v3] H4) fun v5 H6 =>
K (.tup []) H6
def F70_Lp (R : Caller) (lim n : Nat) (K : AVal → Heap → Prop) : Nat → Tm → Heap → Prop
  | _, _, _ => False
theorem F70_eq (R : Caller) (lim n : Nat) (K : AVal → Heap → Prop) (a0 : AVal) (H : Heap) : F70 R lim n K a0 H = execI R lim n 11 (F70_Lp R lim n K) f70.body (argT [a0]) H (retW [] K) := by kernel_rfl
theorem F70_ob (R : Caller) (lim n : Nat) (K : AVal → Heap → Prop) : Oblig R lim n 11 (F70_Lp R lim n K) f70.body (retW [] K) := (oblig_nl (by kernel_rfl))
theorem F70_run {ap : FuncId → Option AFn} (hf : ap 70 = some (.code f70)) {n lim : Nat} {K : AVal → Heap → Prop} {a0 : AVal} {H : Heap} (h : F70 (Ahs.runT ap n) lim n K a0 H) : ∃ v H', Ahs.runT ap (n + 1) lim (.fn 70) [a0] H = some (v, H') ∧ K v H' := by
  rw [F70_eq] at h
  exact run_of_W hf (by kernel_rfl) (by kernel_rfl) (execI_sound f70.body _ _ _ _ (F70_ob _ _ _ K) (fun _ _ _ h => h) h)
def F71 (R : Caller) (lim n : Nat) (K : AVal → Heap → Prop) (a0 : AVal) (H : Heap) : Prop :=
bindP (abin .lss a0 (.int .u8 1)) fun v1 =>
bindP (gd (some (v1, false)) (some a0)) fun v2 =>
bindP (gd (some (v1, false)) (abin .gtr v2 (.int .u8 5))) fun v3 =>
bindP (pickO v1 (.bool true) v3) fun v4 =>
bindP (boolOf v4) fun b5 =>
(b5 = true → (K (.int .u8 0) H)) ∧
(b5 = false → (bindP (abin .sub a0 (.int .u8 1)) fun v6 =>
bindP (abin .shl (.int .u8 1) v6) fun v7 =>
K v7 H))
def F71_Lp (R : Caller) (lim n : Nat) (K : AVal → Heap → Prop) : Nat → Tm → Heap → Prop
  | _, _, _ => False
theorem F71_eq (R : Caller) (lim n : Nat) (K : AVal → Heap → Prop) (a0 : AVal) (H : Heap) : F71 R lim n K a0 H = execI R lim n 12 (F71_Lp R lim n K) f71.body (argT [a0]) H (retW [(.tmp 2)] K) := by kernel_rfl
theorem F71_ob (R : Caller) (lim n : Nat) (K : AVal → Heap → Prop) : Oblig R lim n 12 (F71_Lp R lim n K) f71.body (retW [(.tmp 2)] K) := (oblig_nl (by kernel_rfl))
theorem F71_run {ap : FuncId → Option AFn} (hf : ap 71 = some (.code f71)) {n lim : Nat} {K : AVal → Heap → Prop} {a0 : AVal} {H : Heap} (h : F71 (Ahs.runT ap n) lim n K a0 H) : ∃ v H', Ahs.runT ap (n + 1) lim (.fn 71) [a0] H = some (v, H') ∧ K v H' := by
  rw [F71_eq] at h
  exact run_of_W hf (by kernel_rfl) (by kernel_rfl) (execI_sound f71.body _ _ _ _ (F71_ob _ _ _ K) (fun _ _ _ h => h) h)
def F72 (R : Caller) (lim n : Nat) (K : AVal → Heap → Prop) (a0 : AVal) (H : Heap) : Prop :=
bindP (aindexStr (.str [0, 1, 1, 2, 1, 2, 2, 3, 1, 2, 2, 3, 2, 3, 3, 4, 1, 2, 2, 3, 2, 3, 3, 4, 2, 3, 3, 4, 3, 4, 4, 5, 1, 2, 2, 3, 2, 3, 3, 4, 2, 3, 3, 4, 3, 4, 4, 5, 2, 3, 3, 4, 3, 4, 4, 5, 3, 4, 4, 5, 4, 5, 5, 6, 1, 2, 2, 3, 2, 3, 3, 4, 2, 3, 3, 4, 3, 4, 4, 5, 2, 3, 3, 4, 3, 4, 4, 5, 3, 4, 4, 5, 4, 5, 5, 6, 2, 3, 3, 4, 3, 4, 4, 5, 3, 4, 4, 5, 4, 5, 5, 6, 3, 4, 4, 5, 4, 5, 5, 6, 4, 5, 5, 6, 5, 6, 6, 7, 1, 2, 2, 3, 2, 3, 3, 4, 2, 3, 3, 4, 3, 4, 4, 5, 2, 3, 3, 4, 3, 4, 4, 5, 3, 4, 4, 5, 4, 5, 5, 6, 2, 3, 3, 4, 3, 4, 4, 5, 3, 4, 4, 5, 4, 5, 5, 6, 3, 4, 4, 5, 4, 5, 5, 6, 4, 5, 5, 6, 5, 6, 6, 7, 2, 3, 3, 4, 3, 4, 4, 5, 3, 4, 4, 5, 4, 5, 5, 6, 3, 4, 4, 5, 4, 5, 5, 6, 4, 5, 5, 6, 5, 6, 6, 7, 3, 4, 4, 5, 4, 5, 5, 6, 4, 5, 5, 6, 5, 6, 6, 7, 4, 5, 5, 6, 5, 6, 6, 7, 5, 6, 6, 7, 6, 7, 7, 8]) a0) fun v1 =>
bindP (convO .i64 v1) fun v2 =>
K v2 H
def F72_Lp (R : Caller) (lim n : Nat) (K : AVal → Heap → Prop) : Nat → Tm → Heap → Prop
  | _, _, _ => False
theorem F72_eq (R : Caller) (lim n : Nat) (K : AVal → Heap → Prop) (a0 : AVal) (H : Heap) : F72 R lim n K a0 H = execI R lim n 6 (F72_Lp R lim n K) f72.body (argT [a0]) H (retW [(.tmp 2)] K) := by kernel_rfl
theorem F72_ob (R : Caller) (lim n : Nat) (K : AVal → Heap → Prop) : Oblig R lim n 6 (F72_Lp R lim n K) f72.body (retW [(.tmp 2)] K) := (oblig_nl (by kernel_rfl))
theorem F72_run {ap : FuncId → Option AFn} (hf : ap 72 = some (.code f72)) {n lim : Nat} {K : AVal → Heap → Prop} {a0 : AVal} {H : Heap} (h : F72 (Ahs.runT ap n) lim n K a0 H) : ∃ v H', Ahs.runT ap (n + 1) lim (.fn 72) [a0] H = some (v, H') ∧ K v H' := by
  rw [F72_eq] at h
  exact run_of_W hf (by kernel_rfl) (by kernel_rfl) (execI_sound f72.body _ _ _ _ (F72_ob _ _ _ K) (fun _ _ _ h => h) h)
def F73_j0 (R : Caller) (lim n : Nat) (K : AVal → Heap → Prop) (H : Heap) : Prop :=
K (.bool false) H
def F73_s0 (R : Caller) (lim n : Nat) (K : AVal → Heap → Prop) (rec0 : AVal → AVal → AVal → Heap → Prop) (t0 t1 t5 : AVal) (H : Heap) : Prop :=
bindP (alen false t0) fun v9 =>
bindP (abin .lss t5 v9) fun v10 =>
bindP (boolOf v10) fun b11 =>
(b11 = true → (bindP (aindexAddr none 1 t0 t5) fun v12 =>
bindP (aload H none v12) fun v13 =>
bindP (abin .eql v13 t1) fun v14 =>
bindP (boolOf v14) fun b15 =>
(b15 = true → (K (.bool true) H)) ∧
(b15 = false → (bindP (abin .add t5 (.int .i64 1)) fun v16 =>
rec0 t0 t1 v16 H)))) ∧
(b11 = false → (F73_j0 R lim n K H))
def F73_l0 (R : Caller) (lim n : Nat) (K : AVal → Heap → Prop) : Nat → AVal → AVal → AVal → Heap → Prop
  | 0, _, _, _, _ => False
  | m + 1, t0, t1, t5, H => F73_s0 R lim n K (F73_l0 R lim n K m) t0 t1 t5 H
def F73 (R : Caller) (lim n : Nat) (K : AVal → Heap → Prop) (a0 a1 : AVal) (H : Heap) : Prop :=
F73_l0 R lim n K n a0 a1 (.int .i64 0) H
def F73_Lp (R : Caller) (lim n : Nat) (K : AVal → Heap → Prop) : Nat → Tm → Heap → Prop
  | 0, T, H => F73_l0 R lim n K n (T 0) (T 1) (T 5) H
  | _, _, _ => False
def F73_Lp0 (R : Caller) (lim n : Nat) (K : AVal → Heap → Prop) (rec0 : AVal → AVal → AVal → Heap → Prop) : Nat → Tm → Heap → Prop
  | _, _, _ => False
def F73_k0 (R : Caller) (lim n : Nat) (K : AVal → Heap → Prop) (rec0 : AVal → AVal → AVal → Heap → Prop) : Kt := fun ex T H => match ex with
  | .norm => rec0 (T 0) (T 1) (T 5) H
  | ex => (kBlk 0 (kSeq (execI R lim n 18 (F73_Lp R lim n K) f73_p1) (retW [(.tmp 4)] K))) ex T H
theorem F73_s0_eq (R : Caller) (lim n : Nat) (K : AVal → Heap → Prop) (rec0 : AVal → AVal → AVal → Heap → Prop) (T : Tm) (H : Heap) : F73_s0 R lim n K rec0 (T 0) (T 1) (T 5) H = execI R lim n 18 (F73_Lp0 R lim n K rec0) f73_p0 T H (F73_k0 R lim n K rec0) := by kernel_rfl
theorem F73_l0_ok (R : Caller) (lim n : Nat) (K : AVal → Heap → Prop) {kw : Kt} (hk : ∀ ex T H, (kBlk 0 (kSeq (execI R lim n 18 (F73_Lp R lim n K) f73_p1) (retW [(.tmp 4)] K))) ex T H → kw ex T H) : ∀ (m : Nat) (T : Tm) (H : Heap), F73_l0 R lim n K m (T 0) (T 1) (T 5) H → loopW (execW R lim n 18 f73_p0) m T H kw
  | 0, _, _, h => False.elim h
  | m + 1, T, H, h => by
    have hb : ∀ ex T H, F73_k0 R lim n K (F73_l0 R lim n K m) ex T H → (fun ex T H => match ex with | .norm => loopW (execW R lim n 18 f73_p0) m T H kw | ex => kw ex T H : Kt) ex T H := by
      intro ex T H h
      cases ex with
      | norm => exact F73_l0_ok R lim n K hk m T H h
      | exit i => exact hk _ _ _ h
      | ret => exact hk _ _ _ h
    have h' : F73_s0 R lim n K (F73_l0 R lim n K m) (T 0) (T 1) (T 5) H := h
    rw [F73_s0_eq] at h'
    exact execI_sound f73_p0 T H _ _ (oblig_nl (by kernel_rfl)) hb h'
theorem F73_eq (R : Caller) (lim n : Nat) (K : AVal → Heap → Prop) (a0 a1 : AVal) (H : Heap) : F73 R lim n K a0 a1 H = execI R lim n 18 (F73_Lp R lim n K) f73.body (argT [a0, a1]) H (retW [(.tmp 4)] K) := by kernel_rfl
theorem F73_ob (R : Caller) (lim n : Nat) (K : AVal → Heap → Prop) : Oblig R lim n 18 (F73_Lp R lim n K) f73.body (retW [(.tmp 4)] K) := ⟨(oblig_nl (by kernel_rfl)), ⟨⟨(oblig_nl (by kernel_rfl)), (fun T H h => F73_l0_ok R lim n K (kBlk_mono (kSeqI_sound (oblig_nl (by kernel_rfl)) (fun _ _ _ h => h))) _ T H h)⟩, (oblig_nl (by kernel_rfl))⟩⟩
theorem F73_run {ap : FuncId → Option AFn} (hf : ap 73 = some (.code f73)) {n lim : Nat} {K : AVal → Heap → Prop} {a0 a1 : AVal} {H : Heap} (h : F73 (Ahs.runT ap n) lim n K a0 a1 H) : ∃ v H', Ahs.runT ap (n + 1) lim (.fn 73) [a0, a1] H = some (v, H') ∧ K v H' := by
  rw [F73_eq] at h
  exact run_of_W hf (by kernel_rfl) (by kernel_rfl) (execI_sound f73.body _ _ _ _ (F73_ob _ _ _ K) (fun _ _ _ h => h) h)
def F76_j0 (R : Caller) (lim n : Nat) (K : AVal → Heap → Prop) (H : Heap) : Prop :=
K (.tup []) H
def F76_j1 (R : Caller) (lim n : Nat) (K : AVal → Heap → Prop) (rec0 : AVal → AVal → AVal → AVal → AVal → AVal → Heap → Prop) (t0 t1 t2 t3 t8 t9 : AVal) (H : Heap) : Prop :=
rec0 t0 t1 t2 t3 t8 t9 H
def F76_j2 (R : Caller) (lim n : Nat) (K : AVal → Heap → Prop) (rec0 : AVal → AVal → AVal → AVal → AVal → AVal → Heap → Prop) (t0 t1 t2 t3 t8 t9 : AVal) (H : Heap) : Prop :=
F76_j1 R lim n K rec0 t0 t1 t2 t3 t8 t9 H
def F76_j3 (R : Caller) (lim n : Nat) (K : AVal → Heap → Prop) (rec0 : AVal → AVal → AVal → AVal → AVal → AVal → Heap → Prop) (t0 t1 t2 t3 t8 t9 t10 t11 : AVal) (H : Heap) : Prop :=
bindP (abin .gtr t1 (.int .i64 0)) fun v89 =>
bindP (gd (some (v89, true)) (some t0)) fun v90 =>
bindP (gd (some (v89, true)) (some t1)) fun v91 =>
bindP (gd (some (v89, true)) (abin .sub v91 (.int .i64 1))) fun v92 =>
bindP (gd (some (v89, true)) (aindexAddr none 1 v90 v92)) fun v93 =>
bindP (gd (some (v89, true)) (aload H none v93)) fun v94 =>
bindP (gd (some (v89, true)) (some t0)) fun v95 =>
bindP (gd (some (v89, true)) (some t11)) fun v96 =>
bindP (gd (some (v89, true)) (aindexAddr none 1 v95 v96)) fun v97 =>
bindP (gd (some (v89, true)) (aload H none v97)) fun v98 =>
bind2 (gd2 (some (v89, true)) H (R lim (.fn 85) [v94, v98] H)) fun v99 H100 =>
bindP (gd (some (v89, true)) (aun .not v99)) fun v101 =>
bindP (pickO v89 v101 (.bool false)) fun v102 =>
bindP (boolOf v102) fun b103 =>
(b103 = true → (bind2 (R lim (.fn 86) [t0, t1, t2, t11] H100) fun v104 H105 =>
F76_j1 R lim n K rec0 t0 v104 t2 t3 t8 t9 H105)) ∧
(b103 = false → (bind2 (R lim (.fn 87) [t0, t1, t2, t11] H100) fun v106 H107 =>
bindP (extO 0 v106) fun v108 =>
bindP (extO 1 v106) fun v109 =>
bindP (abin .sub v108 t1) fun v110 =>
bindP (abin .sub t2 v108) fun v111 =>
bindP (abin .quo t10 (.int .i64 8)) fun v112 =>
bindP (abin .lss v110 v111) fun v113 =>
bindP (boolOf v113) fun b114 =>
(b114 = true → (bindP (abin .geq v110 v112) fun v115 =>
bind2 (R lim (.fn 76) [t0, t1, v108, t3] H107) fun v116 H117 =>
bindP (abin .add v108 (.int .i64 1)) fun v118 =>
F76_j2 R lim n K rec0 t0 v118 t2 t3 v115 v109 H117)) ∧
(b114 = false → (bindP (abin .geq v111 v112) fun v119 =>
bindP (abin .add v108 (.int .i64 1)) fun v120 =>
bind2 (R lim (.fn 76) [t0, v120, t2, t3] H107) fun v121 H122 =>
F76_j2 R lim n K rec0 t0 t1 v108 t3 v119 v109 H122))))
def F76_j4 (R : Caller) (lim n : Nat) (K : AVal → Heap → Prop) (rec0 : AVal → AVal → AVal → AVal → AVal → AVal → Heap → Prop) (t0 t1 t2 t3 t8 t9 t10 t11 t12 : AVal) (H : Heap) : Prop :=
bindP (gd (some (t8, true)) (some t9)) fun v84 =>
bindP (pickO t8 v84 (.bool false)) fun v85 =>
bindP (gd (some (v85, true)) (some t12)) fun v86 =>
bindP (gd (some (v85, true)) (abin .eql v86 (.int .i64 1))) fun v87 =>
bindP (pickO v85 v87 (.bool false)) fun v88 =>
bindP (boolOf v88) fun b123 =>
(b123 = true → (bind2 (R lim (.fn 84) [t0, t1, t2] H) fun v124 H125 =>
bindP (boolOf v124) fun b126 =>
(b126 = true → (K (.tup []) H125)) ∧
(b126 = false → (F76_j3 R lim n K rec0 t0 t1 t2 t3 t8 t9 t10 t11 H125)))) ∧
(b123 = false → (F76_j3 R lim n K rec0 t0 t1 t2 t3 t8 t9 t10 t11 H))
def F76_j5 (R : Caller) (lim n : Nat) (K : AVal → Heap → Prop) (rec0 : AVal → AVal → AVal → AVal → AVal → AVal → Heap → Prop) (t0 t1 t2 t3 t8 t9 t10 : AVal) (H : Heap) : Prop :=
bind2 (R lim (.fn 82) [t0, t1, t2] H) fun v79 H80 =>
bindP (extO 0 v79) fun v81 =>
bindP (extO 1 v79) fun v82 =>
bindP (abin .eql v82 (.int .i64 2)) fun v83 =>
bindP (boolOf v83) fun b127 =>
(b127 = true → (bind2 (R lim (.fn 83) [t0, t1, t2] H80) fun v128 H129 =>
bindP (abin .sub t2 (.int .i64 1)) fun v130 =>
bindP (abin .sub v81 t1) fun v131 =>
bindP (abin .sub v130 v131) fun v132 =>
F76_j4 R lim n K rec0 t0 t1 t2 t3 t8 t9 t10 v132 (.int .i64 1) H129)) ∧
(b127 = false → (F76_j4 R lim n K rec0 t0 t1 t2 t3 t8 t9 t10 v81 v82 H80))
def F76_s0 (R : Caller) (lim n : Nat) (K : AVal → Heap → Prop) (rec0 : AVal → AVal → AVal → AVal → AVal → AVal → Heap → Prop) (t0 t1 t2 t3 t8 t9 : AVal) (H : Heap) : Prop :=
bindP (abin .sub t2 t1) fun v69 =>
bindP (abin .leq v69 (.int .i64 12)) fun v70 =>
bindP (boolOf v70) fun b71 =>
(b71 = true → (bind2 (R lim (.fn 79) [t0, t1, t2] H) fun v72 H73 =>
K (.tup []) H73)) ∧
(b71 = false → (bindP (abin .eql t3 (.int .i64 0)) fun v74 =>
bindP (boolOf v74) fun b75 =>
(b75 = true → (bind2 (R lim (.fn 80) [t0, t1, t2] H) fun v76 H77 =>
K (.tup []) H77)) ∧
(b75 = false → (bindP (aun .not t8) fun v78 =>
bindP (boolOf v78) fun b133 =>
(b133 = true → (bind2 (R lim (.fn 81) [t0, t1, t2] H) fun v134 H135 =>
bindP (abin .sub t3 (.int .i64 1)) fun v136 =>
F76_j5 R lim n K rec0 t0 t1 t2 v136 t8 t9 v69 H135)) ∧
(b133 = false → (F76_j5 R lim n K rec0 t0 t1 t2 t3 t8 t9 v69 H))))))
def F76_l0 (R : Caller) (lim n : Nat) (K : AVal → Heap → Prop) : Nat → AVal → AVal → AVal → AVal → AVal → AVal → Heap → Prop
  | 0, _, _, _, _, _, _, _ => False
  | m + 1, t0, t1, t2, t3, t8, t9, H => F76_s0 R lim n K (F76_l0 R lim n K m) t0 t1 t2 t3 t8 t9 H
def F76 (R : Caller) (lim n : Nat) (K : AVal → Heap → Prop) (a0 a1 a2 a3 : AVal) (H : Heap) : Prop :=
F76_l0 R lim n K n a0 a1 a2 a3 (.bool true) (.bool true) H
def F76_Lp (R : Caller) (lim n : Nat) (K : AVal → Heap → Prop) : Nat → Tm → Heap → Prop
  | 0, T, H => F76_l0 R lim n K n (T 0) (T 1) (T 2) (T 3) (T 8) (T 9) H
  | _, _, _ => False
def F76_Lp0 (R : Caller) (lim n : Nat) (K : AVal → Heap → Prop) (rec0 : AVal → AVal → AVal → AVal → AVal → AVal → Heap → Prop) : Nat → Tm → Heap → Prop
  | _, _, _ => False
def F76_k0 (R : Caller) (lim n : Nat) (K : AVal → Heap → Prop) (rec0 : AVal → AVal → AVal → AVal → AVal → AVal → Heap → Prop) : Kt := fun ex T H => match ex with
  | .norm => rec0 (T 0) (T 1) (T 2) (T 3) (T 8) (T 9) H
  | ex => (kBlk 0 (retW [] K)) ex T H
theorem F76_s0_eq (R : Caller) (lim n : Nat) (K : AVal → Heap → Prop) (rec0 : AVal → AVal → AVal → AVal → AVal → AVal → Heap → Prop) (T : Tm) (H : Heap) : F76_s0 R lim n K rec0 (T 0) (T 1) (T 2) (T 3) (T 8) (T 9) H = execI R lim n 134 (F76_Lp0 R lim n K rec0) f76_p0 T H (F76_k0 R lim n K rec0) := by kernel_rfl
theorem F76_l0_ok (R : Caller) (lim n : Nat) (K : AVal → Heap → Prop) {kw : Kt} (hk : ∀ ex T H, (kBlk 0 (retW [] K)) ex T H → kw ex T H) : ∀ (m : Nat) (T : Tm) (H : Heap), F76_l0 R lim n K m (T 0) (T 1) (T 2) (T 3) (T 8) (T 9) H → loopW (execW R lim n 134 f76_p0) m T H kw
  | 0, _, _, h => False.elim h
  | m + 1, T, H, h => by
    have hb : ∀ ex T H, F76_k0 R lim n K (F76_l0 R lim n K m) ex T H → (fun ex T H => match ex with | .norm => loopW (execW R lim n 134 f76_p0) m T H kw | ex => kw ex T H : Kt) ex T H := by
      intro ex T H h
      cases ex with
      | norm => exact F76_l0_ok R lim n K hk m T H h
      | exit i => exact hk _ _ _ h
      | ret => exact hk _ _ _ h
    have h' : F76_s0 R lim n K (F76_l0 R lim n K m) (T 0) (T 1) (T 2) (T 3) (T 8) (T 9) H := h
    rw [F76_s0_eq] at h'
    exact execI_sound f76_p0 T H _ _ (oblig_nl (by kernel_rfl)) hb h'
theorem F76_eq (R : Caller) (lim n : Nat) (K : AVal → Heap → Prop) (a0 a1 a2 a3 : AVal) (H : Heap) : F76 R lim n K a0 a1 a2 a3 H = execI R lim n 134 (F76_Lp R lim n K) f76.body (argT [a0, a1, a2, a3]) H (retW [] K) := by kernel_rfl
theorem F76_ob (R : Caller) (lim n : Nat) (K : AVal → Heap → Prop) : Oblig R lim n 134 (F76_Lp R lim n K) f76.body (retW [] K) := ⟨(oblig_nl (by kernel_rfl)), ⟨(oblig_nl (by kernel_rfl)), (fun T H h => F76_l0_ok R lim n K (kBlk_mono (fun _ _ _ h => h)) _ T H h)⟩⟩
theorem F76_run {ap : FuncId → Option AFn} (hf : ap 76 = some (.code f76)) {n lim : Nat} {K : AVal → Heap → Prop} {a0 a1 a2 a3 : AVal} {H : Heap} (h : F76 (Ahs.runT ap n) lim n K a0 a1 a2 a3 H) : ∃ v H', Ahs.runT ap (n + 1) lim (.fn 76) [a0, a1, a2, a3] H = some (v, H') ∧ K v H' := by
  rw [F76_eq] at h
  exact run_of_W hf (by kernel_rfl) (by kernel_rfl) (execI_sound f76.body _ _ _ _ (F76_ob _ _ _ K) (fun _ _ _ h => h) h)
def F77 (R : Caller) (lim n : Nat) (K : AVal → Heap → Prop) (a0 : AVal) (H : Heap) : Prop :=
bindP (boolOf (.bool false)) fun b1 =>
(b1 = true → (bindP (convO .u32 a0) fun v2 =>
bind2 (R lim (.fn 88) [v2] H) fun v3 H4 =>
K v3 H4)) ∧
(b1 = false → (bind2 (R lim (.fn 89) [a0] H) fun v5 H6 =>
K v5 H6))
def F77_Lp (R : Caller) (lim n : Nat) (K : AVal → Heap → Prop) : Nat → Tm → Heap → Prop
  | _, _, _ => False
theorem F77_eq (R : Caller) (lim n : Nat) (K : AVal → Heap → Prop) (a0 : AVal) (H : Heap) : F77 R lim n K a0 H = execI R lim n 8 (F77_Lp R lim n K) f77.body (argT [a0]) H (retW [(.tmp 2)] K) := by kernel_rfl
theorem F77_ob (R : Caller) (lim n : Nat) (K : AVal → Heap → Prop) : Oblig R lim n 8 (F77_Lp R lim n K) f77.body (retW [(.tmp 2)] K) := (oblig_nl (by kernel_rfl))
theorem F77_run {ap : FuncId → Option AFn} (hf : ap 77 = some (.code f77)) {n lim : Nat} {K : AVal → Heap → Prop} {a0 : AVal} {H : Heap} (h : F77 (Ahs.runT ap n) lim n K a0 H) : ∃ v H', Ahs.runT ap (n + 1) lim (.fn 77) [a0] H = some (v, H') ∧ K v H' := by
  rw [F77_eq] at h
  exact run_of_W hf (by kernel_rfl) (by kernel_rfl) (execI_sound f77.body _ _ _ _ (F77_ob _ _ _ K) (fun _ _ _ h => h) h)
def F79_j0 (R : Caller) (lim n : Nat) (K : AVal → Heap → Prop) (H : Heap) : Prop :=
K (.tup []) H
def F79_j1 (R : Caller) (lim n : Nat) (K : AVal → Heap → Prop) (rec0 : AVal → AVal → AVal → AVal → Heap → Prop) (t0 t1 t2 t6 : AVal) (H : Heap) : Prop :=
bindP (abin .add t6 (.int .i64 1)) fun v84 =>
rec0 t0 t1 t2 v84 H
def F79_s2 (R : Caller) (lim n : Nat) (K : AVal → Heap → Prop) (rec0 : AVal → AVal → AVal → AVal → Heap → Prop) (rec2 : AVal → AVal → AVal → AVal → AVal → Heap → Prop) (t0 t1 t2 t6 t7 : AVal) (H : Heap) : Prop :=
bindP (abin .gtr t7 t1) fun v85 =>
bindP (gd (some (v85, true)) (some t0)) fun v86 =>
bindP (gd (some (v85, true)) (some t7)) fun v87 =>
bindP (gd (some (v85, true)) (aindexAddr none 1 v86 v87)) fun v88 =>
bindP (gd (some (v85, true)) (aload H none v88)) fun v89 =>
bindP (gd (some (v85, true)) (some t0)) fun v90 =>
bindP (gd (some (v85, true)) (some t7)) fun v91 =>
bindP (gd (some (v85, true)) (abin .sub v91 (.int .i64 1))) fun v92 =>
bindP (gd (some (v85, true)) (aindexAddr none 1 v90 v92)) fun v93 =>
bindP (gd (some (v85, true)) (aload H none v93)) fun v94 =>
bind2 (gd2 (some (v85, true)) H (R lim (.fn 85) [v89, v94] H)) fun v95 H96 =>
bindP (pickO v85 v95 (.bool false)) fun v97 =>
bindP (boolOf v97) fun b98 =>
(b98 = true → (bindP (abin .sub t7 (.int .i64 1)) fun v99 =>
bindP (abin .sub t7 (.int .i64 1)) fun v100 =>
bindP (aindexAddr none 1 t0 v100) fun v101 =>
bindP (aload H96 none v101) fun v102 =>
bindP (aindexAddr none 1 t0 t7) fun v103 =>
bindP (aload H96 none v103) fun v104 =>
bindP (aindexAddr none 1 t0 t7) fun v105 =>
bindP (astore lim H96 1 v105 v102) fun H106 =>
bindP (aindexAddr none 1 t0 v99) fun v107 =>
bindP (astore lim H106 1 v107 v104) fun H108 =>
bindP (abin .sub t7 (.int .i64 1)) fun v109 =>
rec2 t0 t1 t2 t6 v109 H108)) ∧
(b98 = false → (F79_j1 R lim n K rec0 t0 t1 t2 t6 H96))
def F79_l2 (R : Caller) (lim n : Nat) (K : AVal → Heap → Prop) (rec0 : AVal → AVal → AVal → AVal → Heap → Prop) : Nat → AVal → AVal → AVal → AVal → AVal → Heap → Prop
  | 0, _, _, _, _, _, _ => False
  | m + 1, t0, t1, t2, t6, t7, H => F79_s2 R lim n K rec0 (F79_l2 R lim n K rec0 m) t0 t1 t2 t6 t7 H
def F79_s0 (R : Caller) (lim n : Nat) (K : AVal → Heap → Prop) (rec0 : AVal → AVal → AVal → AVal → Heap → Prop) (t0 t1 t2 t6 : AVal) (H : Heap) : Prop :=
bindP (abin .lss t6 t2) fun v56 =>
bindP (boolOf v56) fun b57 =>
(b57 = true → (F79_l2 R lim n K rec0 n t0 t1 t2 t6 t6 H)) ∧
(b57 = false → (F79_j0 R lim n K H))
def F79_l0 (R : Caller) (lim n : Nat) (K : AVal → Heap → Prop) : Nat → AVal → AVal → AVal → AVal → Heap → Prop
  | 0, _, _, _, _, _ => False
  | m + 1, t0, t1, t2, t6, H => F79_s0 R lim n K (F79_l0 R lim n K m) t0 t1 t2 t6 H
def F79 (R : Caller) (lim n : Nat) (K : AVal → Heap → Prop) (a0 a1 a2 : AVal) (H : Heap) : Prop :=
bindP (abin .add a1 (.int .i64 1)) fun v1 =>
F79_l0 R lim n K n a0 a1 a2 v1 H
def F79_Lp (R : Caller) (lim n : Nat) (K : AVal → Heap → Prop) : Nat → Tm → Heap → Prop
  | 0, T, H => F79_l0 R lim n K n (T 0) (T 1) (T 2) (T 6) H
  | _, _, _ => False
def F79_Lp0 (R : Caller) (lim n : Nat) (K : AVal → Heap → Prop) (rec0 : AVal → AVal → AVal → AVal → Heap → Prop) : Nat → Tm → Heap → Prop
  | 2, T, H => F79_l2 R lim n K rec0 n (T 0) (T 1) (T 2) (T 6) (T 7) H
  | _, _, _ => False
def F79_Lp2 (R : Caller) (lim n : Nat) (K : AVal → Heap → Prop) (rec0 : AVal → AVal → AVal → AVal → Heap → Prop) (rec2 : AVal → AVal → AVal → AVal → AVal → Heap → Prop) : Nat → Tm → Heap → Prop
  | _, _, _ => False
def F79_k0 (R : Caller) (lim n : Nat) (K : AVal → Heap → Prop) (rec0 : AVal → AVal → AVal → AVal → Heap → Prop) : Kt := fun ex T H => match ex with
  | .norm => rec0 (T 0) (T 1) (T 2) (T 6) H
  | ex => (kBlk 0 (retW [] K)) ex T H
def F79_k2 (R : Caller) (lim n : Nat) (K : AVal → Heap → Prop) (rec0 : AVal → AVal → AVal → AVal → Heap → Prop) (rec2 : AVal → AVal → AVal → AVal → AVal → Heap → Prop) : Kt := fun ex T H => match ex with
  | .norm => rec2 (T 0) (T 1) (T 2) (T 6) (T 7) H
  | ex => (kBlk 2 (kBlk 1 (kSeq (execI R lim n 49 (F79_Lp0 R lim n K rec0) f79_p2) (F79_k0 R lim n K rec0)))) ex T H
theorem F79_s2_eq (R : Caller) (lim n : Nat) (K : AVal → Heap → Prop) (rec0 : AVal → AVal → AVal → AVal → Heap → Prop) (rec2 : AVal → AVal → AVal → AVal → AVal → Heap → Prop) (T : Tm) (H : Heap) : F79_s2 R lim n K rec0 rec2 (T 0) (T 1) (T 2) (T 6) (T 7) H = execI R lim n 49 (F79_Lp2 R lim n K rec0 rec2) f79_p1 T H (F79_k2 R lim n K rec0 rec2) := by kernel_rfl
theorem F79_l2_ok (R : Caller) (lim n : Nat) (K : AVal → Heap → Prop) (rec0 : AVal → AVal → AVal → AVal → Heap → Prop) {kw : Kt} (hk : ∀ ex T H, (kBlk 2 (kBlk 1 (kSeq (execI R lim n 49 (F79_Lp0 R lim n K rec0) f79_p2) (F79_k0 R lim n K rec0)))) ex T H → kw ex T H) : ∀ (m : Nat) (T : Tm) (H : Heap), F79_l2 R lim n K rec0 m (T 0) (T 1) (T 2) (T 6) (T 7) H → loopW (execW R lim n 49 f79_p1) m T H kw
  | 0, _, _, h => False.elim h
  | m + 1, T, H, h => by
    have hb : ∀ ex T H, F79_k2 R lim n K rec0 (F79_l2 R lim n K rec0 m) ex T H → (fun ex T H => match ex with | .norm => loopW (execW R lim n 49 f79_p1) m T H kw | ex => kw ex T H : Kt) ex T H := by
      intro ex T H h
      cases ex with
      | norm => exact F79_l2_ok R lim n K rec0 hk m T H h
      | exit i => exact hk _ _ _ h
      | ret => exact hk _ _ _ h
    have h' : F79_s2 R lim n K rec0 (F79_l2 R lim n K rec0 m) (T 0) (T 1) (T 2) (T 6) (T 7) H := h
    rw [F79_s2_eq] at h'
    exact execI_sound f79_p1 T H _ _ (oblig_nl (by kernel_rfl)) hb h'
theorem F79_s0_eq (R : Caller) (lim n : Nat) (K : AVal → Heap → Prop) (rec0 : AVal → AVal → AVal → AVal → Heap → Prop) (T : Tm) (H : Heap) : F79_s0 R lim n K rec0 (T 0) (T 1) (T 2) (T 6) H = execI R lim n 49 (F79_Lp0 R lim n K rec0) f79_p0 T H (F79_k0 R lim n K rec0) := by kernel_rfl
theorem F79_l0_ok (R : Caller) (lim n : Nat) (K : AVal → Heap → Prop) {kw : Kt} (hk : ∀ ex T H, (kBlk 0 (retW [] K)) ex T H → kw ex T H) : ∀ (m : Nat) (T : Tm) (H : Heap), F79_l0 R lim n K m (T 0) (T 1) (T 2) (T 6) H → loopW (execW R lim n 49 f79_p0) m T H kw
  | 0, _, _, h => False.elim h
  | m + 1, T, H, h => by
    have hb : ∀ ex T H, F79_k0 R lim n K (F79_l0 R lim n K m) ex T H → (fun ex T H => match ex with | .norm => loopW (execW R lim n 49 f79_p0) m T H kw | ex => kw ex T H : Kt) ex T H := by
      intro ex T H h
      cases ex with
      | norm => exact F79_l0_ok R lim n K hk m T H h
      | exit i => exact hk _ _ _ h
      | ret => exact hk _ _ _ h
    have h' : F79_s0 R lim n K (F79_l0 R lim n K m) (T 0) (T 1) (T 2) (T 6) H := h
    rw [F79_s0_eq] at h'
    exact execI_sound f79_p0 T H _ _ ⟨(oblig_nl (by kernel_rfl)), ⟨⟨(oblig_nl (by kernel_rfl)), (fun T H h => F79_l2_ok R lim n K (F79_l0 R lim n K m) (kBlk_mono (kBlk_mono (kSeqI_sound (oblig_nl (by kernel_rfl)) (hb)))) _ T H h)⟩, (oblig_nl (by kernel_rfl))⟩⟩ hb h'
theorem F79_eq (R : Caller) (lim n : Nat) (K : AVal → Heap → Prop) (a0 a1 a2 : AVal) (H : Heap) : F79 R lim n K a0 a1 a2 H = execI R lim n 49 (F79_Lp R lim n K) f79.body (argT [a0, a1, a2]) H (retW [] K) := by kernel_rfl
theorem F79_ob (R : Caller) (lim n : Nat) (K : AVal → Heap → Prop) : Oblig R lim n 49 (F79_Lp R lim n K) f79.body (retW [] K) := ⟨(oblig_nl (by kernel_rfl)), (fun T H h => F79_l0_ok R lim n K (kBlk_mono (fun _ _ _ h => h)) _ T H h)⟩
theorem F79_run {ap : FuncId → Option AFn} (hf : ap 79 = some (.code f79)) {n lim : Nat} {K : AVal → Heap → Prop} {a0 a1 a2 : AVal} {H : Heap} (h : F79 (Ahs.runT ap n) lim n K a0 a1 a2 H) : ∃ v H', Ahs.runT ap (n + 1) lim (.fn 79) [a0, a1, a2] H = some (v, H') ∧ K v H' := by
  rw [F79_eq] at h
  exact run_of_W hf (by kernel_rfl) (by kernel_rfl) (execI_sound f79.body _ _ _ _ (F79_ob _ _ _ K) (fun _ _ _ h => h) h)
def F80_j0 (R : Caller) (lim n : Nat) (K : AVal → Heap → Prop) (H : Heap) : Prop :=
K (.tup []) H
def F80_s2 (R : Caller) (lim n : Nat) (K : AVal → Heap → Prop) (rec2 : AVal → AVal → AVal → AVal → Heap → Prop) (t0 t6 t7 t10 : AVal) (H : Heap) : Prop :=
bindP (abin .geq t10 (.int .i64 0)) fun v56 =>
bindP (boolOf v56) fun b57 =>
(b57 = true → (bindP (abin .add t6 t10) fun v58 =>
bindP (abin .add t6 t10) fun v59 =>
bindP (aindexAddr none 1 t0 v59) fun v60 =>
bindP (aload H none v60) fun v61 =>
bindP (aindexAddr none 1 t0 t6) fun v62 =>
bindP (aload H none v62) fun v63 =>
bindP (aindexAddr none 1 t0 t6) fun v64 =>
bindP (astore lim H 1 v64 v61) fun H65 =>
bindP (aindexAddr none 1 t0 v58) fun v66 =>
bindP (astore lim H65 1 v66 v63) fun H67 =>
bind2 (R lim (.fn 90) [t0, t7, t10, t6] H67) fun v68 H69 =>
bindP (abin .sub t10 (.int .i64 1)) fun v70 =>
rec2 t0 t6 t7 v70 H69)) ∧
(b57 = false → (F80_j0 R lim n K H))
def F80_l2 (R : Caller) (lim n : Nat) (K : AVal → Heap → Prop) : Nat → AVal → AVal → AVal → AVal → Heap → Prop
  | 0, _, _, _, _, _ => False
  | m + 1, t0, t6, t7, t10, H => F80_s2 R lim n K (F80_l2 R lim n K m) t0 t6 t7 t10 H
def F80_j1 (R : Caller) (lim n : Nat) (K : AVal → Heap → Prop) (t0 t6 t7 t8 : AVal) (H : Heap) : Prop :=
bindP (abin .sub t8 (.int .i64 1)) fun v40 =>
F80_l2 R lim n K n t0 t6 t7 v40 H
def F80_s0 (R : Caller) (lim n : Nat) (K : AVal → Heap → Prop) (rec0 : AVal → AVal → AVal → AVal → AVal → Heap → Prop) (t0 t6 t7 t8 t9 : AVal) (H : Heap) : Prop :=
bindP (abin .geq t9 (.int .i64 0)) fun v71 =>
bindP (boolOf v71) fun b72 =>
(b72 = true → (bind2 (R lim (.fn 90) [t0, t9, t8, t6] H) fun v73 H74 =>
bindP (abin .sub t9 (.int .i64 1)) fun v75 =>
rec0 t0 t6 t7 t8 v75 H74)) ∧
(b72 = false → (F80_j1 R lim n K t0 t6 t7 t8 H))
def F80_l0 (R : Caller) (lim n : Nat) (K : AVal → Heap → Prop) : Nat → AVal → AVal → AVal → AVal → AVal → Heap → Prop
  | 0, _, _, _, _, _, _ => False
  | m + 1, t0, t6, t7, t8, t9, H => F80_s0 R lim n K (F80_l0 R lim n K m) t0 t6 t7 t8 t9 H
def F80 (R : Caller) (lim n : Nat) (K : AVal → Heap → Prop) (a0 a1 a2 : AVal) (H : Heap) : Prop :=
bindP (abin .sub a2 a1) fun v1 =>
bindP (abin .sub v1 (.int .i64 1)) fun v2 =>
bindP (abin .quo v2 (.int .i64 2)) fun v3 =>
F80_l0 R lim n K n a0 a1 (.int .i64 0) v1 v3 H
def F80_Lp (R : Caller) (lim n : Nat) (K : AVal → Heap → Prop) : Nat → Tm → Heap → Prop
  | 0, T, H => F80_l0 R lim n K n (T 0) (T 6) (T 7) (T 8) (T 9) H
  | 2, T, H => F80_l2 R lim n K n (T 0) (T 6) (T 7) (T 10) H
  | _, _, _ => False
def F80_Lp0 (R : Caller) (lim n : Nat) (K : AVal → Heap → Prop) (rec0 : AVal → AVal → AVal → AVal → AVal → Heap → Prop) : Nat → Tm → Heap → Prop
  | _, _, _ => False
def F80_Lp2 (R : Caller) (lim n : Nat) (K : AVal → Heap → Prop) (rec2 : AVal → AVal → AVal → AVal → Heap → Prop) : Nat → Tm → Heap → Prop
  | _, _, _ => False
def F80_k2 (R : Caller) (lim n : Nat) (K : AVal → Heap → Prop) (rec2 : AVal → AVal → AVal → AVal → Heap → Prop) : Kt := fun ex T H => match ex with
  | .norm => rec2 (T 0) (T 6) (T 7) (T 10) H
  | ex => (kBlk 2 (retW [] K)) ex T H
theorem F80_s2_eq (R : Caller) (lim n : Nat) (K : AVal → Heap → Prop) (rec2 : AVal → AVal → AVal → AVal → Heap → Prop) (T : Tm) (H : Heap) : F80_s2 R lim n K rec2 (T 0) (T 6) (T 7) (T 10) H = execI R lim n 56 (F80_Lp2 R lim n K rec2) f80_p0 T H (F80_k2 R lim n K rec2) := by kernel_rfl
theorem F80_l2_ok (R : Caller) (lim n : Nat) (K : AVal → Heap → Prop) {kw : Kt} (hk : ∀ ex T H, (kBlk 2 (retW [] K)) ex T H → kw ex T H) : ∀ (m : Nat) (T : Tm) (H : Heap), F80_l2 R lim n K m (T 0) (T 6) (T 7) (T 10) H → loopW (execW R lim n 56 f80_p0) m T H kw
  | 0, _, _, h => False.elim h
  | m + 1, T, H, h => by
    have hb : ∀ ex T H, F80_k2 R lim n K (F80_l2 R lim n K m) ex T H → (fun ex T H => match ex with | .norm => loopW (execW R lim n 56 f80_p0) m T H kw | ex => kw ex T H : Kt) ex T H := by
      intro ex T H h
      cases ex with
      | norm => exact F80_l2_ok R lim n K hk m T H h
      | exit i => exact hk _ _ _ h
      | ret => exact hk _ _ _ h
    have h' : F80_s2 R lim n K (F80_l2 R lim n K m) (T 0) (T 6) (T 7) (T 10) H := h
    rw [F80_s2_eq] at h'
    exact execI_sound f80_p0 T H _ _ (oblig_nl (by kernel_rfl)) hb h'
def F80_k0 (R : Caller) (lim n : Nat) (K : AVal → Heap → Prop) (rec0 : AVal → AVal → AVal → AVal → AVal → Heap → Prop) : Kt := fun ex T H => match ex with
  | .norm => rec0 (T 0) (T 6) (T 7) (T 8) (T 9) H
  | ex => (kBlk 0 (kSeq (execI R lim n 56 (F80_Lp R lim n K) f80_p2) (retW [] K))) ex T H
theorem F80_s0_eq (R : Caller) (lim n : Nat) (K : AVal → Heap → Prop) (rec0 : AVal → AVal → AVal → AVal → AVal → Heap → Prop) (T : Tm) (H : Heap) : F80_s0 R lim n K rec0 (T 0) (T 6) (T 7) (T 8) (T 9) H = execI R lim n 56 (F80_Lp0 R lim n K rec0) f80_p1 T H (F80_k0 R lim n K rec0) := by kernel_rfl
theorem F80_l0_ok (R : Caller) (lim n : Nat) (K : AVal → Heap → Prop) {kw : Kt} (hk : ∀ ex T H, (kBlk 0 (kSeq (execI R lim n 56 (F80_Lp R lim n K) f80_p2) (retW [] K))) ex T H → kw ex T H) : ∀ (m : Nat) (T : Tm) (H : Heap), F80_l0 R lim n K m (T 0) (T 6) (T 7) (T 8) (T 9) H → loopW (execW R lim n 56 f80_p1) m T H kw
  | 0, _, _, h => False.elim h
  | m + 1, T, H, h => by
    have hb : ∀ ex T H, F80_k0 R lim n K (F80_l0 R lim n K m) ex T H → (fun ex T H => match ex with | .norm => loopW (execW R lim n 56 f80_p1) m T H kw | ex => kw ex T H : Kt) ex T H := by
      intro ex T H h
      cases ex with
      | norm => exact F80_l0_ok R lim n K hk m T H h
      | exit i => exact hk _ _ _ h
      | ret => exact hk _ _ _ h
    have h' : F80_s0 R lim n K (F80_l0 R lim n K m) (T 0) (T 6) (T 7) (T 8) (T 9) H := h
    rw [F80_s0_eq] at h'
    exact execI_sound f80_p1 T H _ _ (oblig_nl (by kernel_rfl)) hb h'
theorem F80_eq (R : Caller) (lim n : Nat) (K : AVal → Heap → Prop) (a0 a1 a2 : AVal) (H : Heap) : F80 R lim n K a0 a1 a2 H = execI R lim n 56 (F80_Lp R lim n K) f80.body (argT [a0, a1, a2]) H (retW [] K) := by kernel_rfl
theorem F80_ob (R : Caller) (lim n : Nat) (K : AVal → Heap → Prop) : Oblig R lim n 56 (F80_Lp R lim n K) f80.body (retW [] K) := ⟨(oblig_nl (by kernel_rfl)), ⟨(oblig_nl (by kernel_rfl)), ⟨(oblig_nl (by kernel_rfl)), ⟨⟨(oblig_nl (by kernel_rfl)), (fun T H h => F80_l0_ok R lim n K (kBlk_mono (kSeqI_sound ⟨(oblig_nl (by kernel_rfl)), (fun T H h => F80_l2_ok R lim n K (kBlk_mono (fun _ _ _ h => h)) _ T H h)⟩ (fun _ _ _ h => h))) _ T H h)⟩, ⟨(oblig_nl (by kernel_rfl)), (fun T H h => F80_l2_ok R lim n K (kBlk_mono (fun _ _ _ h => h)) _ T H h)⟩⟩⟩⟩⟩
theorem F80_run {ap : FuncId → Option AFn} (hf : ap 80 = some (.code f80)) {n lim : Nat} {K : AVal → Heap → Prop} {a0 a1 a2 : AVal} {H : Heap} (h : F80 (Ahs.runT ap n) lim n K a0 a1 a2 H) : ∃ v H', Ahs.runT ap (n + 1) lim (.fn 80) [a0, a1, a2] H = some (v, H') ∧ K v H' := by
  rw [F80_eq] at h
  exact run_of_W hf (by kernel_rfl) (by kernel_rfl) (execI_sound f80.body _ _ _ _ (F80_ob _ _ _ K) (fun _ _ _ h => h) h)
def F81_j0 (R : Caller) (lim n : Nat) (K : AVal → Heap → Prop) (H : Heap) : Prop :=
K (.tup []) H
def F81_j1 (R : Caller) (lim n : Nat) (K : AVal → Heap → Prop) (H : Heap) : Prop :=
F81_j0 R lim n K H
def F81_j2 (R : Caller) (lim n : Nat) (K : AVal → Heap → Prop) (rec0 : AVal → AVal → AVal → AVal → AVal → AVal → Heap → Prop) (t0 t1 t6 t7 t8 t9 t10 : AVal) (H : Heap) : Prop :=
bindP (abin .add t1 t10) fun v49 =>
bindP (abin .add t1 t10) fun v50 =>
bindP (aindexAddr none 1 t0 v50) fun v51 =>
bindP (aload H none v51) fun v52 =>
bindP (aindexAddr none 1 t0 t9) fun v53 =>
bindP (aload H none v53) fun v54 =>
bindP (aindexAddr none 1 t0 t9) fun v55 =>
bindP (astore lim H 1 v55 v52) fun H56 =>
bindP (aindexAddr none 1 t0 v49) fun v57 =>
bindP (astore lim H56 1 v57 v54) fun H58 =>
bindP (abin .add t9 (.int .i64 1)) fun v59 =>
rec0 t0 t1 t6 t7 t8 v59 H58
def F81_s0 (R : Caller) (lim n : Nat) (K : AVal → Heap → Prop) (rec0 : AVal → AVal → AVal → AVal → AVal → AVal → Heap → Prop) (t0 t1 t6 t7 t8 t9 : AVal) (H : Heap) : Prop :=
bindP (abin .quo t6 (.int .i64 4)) fun v37 =>
bindP (abin .mul v37 (.int .i64 2)) fun v38 =>
bindP (abin .add t1 v38) fun v39 =>
bindP (abin .add v39 (.int .i64 1)) fun v40 =>
bindP (abin .leq t9 v40) fun v41 =>
bindP (boolOf v41) fun b42 =>
(b42 = true → (bind2 (R lim (.fn 92) [t7] H) fun v43 H44 =>
bindP (abin .sub t8 (.int .u64 1)) fun v45 =>
bindP (abin .and v43 v45) fun v46 =>
bindP (convO .i64 v46) fun v47 =>
bindP (abin .geq v47 t6) fun v48 =>
bindP (boolOf v48) fun b60 =>
(b60 = true → (bindP (abin .sub v47 t6) fun v61 =>
F81_j2 R lim n K rec0 t0 t1 t6 t7 t8 t9 v61 H44)) ∧
(b60 = false → (F81_j2 R lim n K rec0 t0 t1 t6 t7 t8 t9 v47 H44)))) ∧
(b42 = false → (F81_j1 R lim n K H))
def F81_l0 (R : Caller) (lim n : Nat) (K : AVal → Heap → Prop) : Nat → AVal → AVal → AVal → AVal → AVal → AVal → Heap → Prop
  | 0, _, _, _, _, _, _, _ => False
  | m + 1, t0, t1, t6, t7, t8, t9, H => F81_s0 R lim n K (F81_l0 R lim n K m) t0 t1 t6 t7 t8 t9 H
def F81 (R : Caller) (lim n : Nat) (K : AVal → Heap → Prop) (a0 a1 a2 : AVal) (H : Heap) : Prop :=
bindP (abin .sub a2 a1) fun v1 =>
bindP (abin .geq v1 (.int .i64 8)) fun v2 =>
bindP (boolOf v2) fun b3 =>
(b3 = true → (bindP (convO .u64 v1) fun v4 =>
bindP (astore lim (H.push (.cells [(.int .u64 0)])) 1 (.ptr (some (H.next, 0))) v4) fun H5 =>
bind2 (R lim (.fn 91) [v1] H5) fun v6 H7 =>
bindP (abin .quo v1 (.int .i64 4)) fun v8 =>
bindP (abin .mul v8 (.int .i64 2)) fun v9 =>
bindP (abin .add a1 v9) fun v10 =>
bindP (abin .sub v10 (.int .i64 1)) fun v11 =>
F81_l0 R lim n K n a0 a1 v1 (.ptr (some (H.next, 0))) v6 v11 H7)) ∧
(b3 = false → (F81_j0 R lim n K H))
def F81_Lp (R : Caller) (lim n : Nat) (K : AVal → Heap → Prop) : Nat → Tm → Heap → Prop
  | 0, T, H => F81_l0 R lim n K n (T 0) (T 1) (T 6) (T 7) (T 8) (T 9) H
  | _, _, _ => False
def F81_Lp0 (R : Caller) (lim n : Nat) (K : AVal → Heap → Prop) (rec0 : AVal → AVal → AVal → AVal → AVal → AVal → Heap → Prop) : Nat → Tm → Heap → Prop
  | _, _, _ => False
def F81_k0 (R : Caller) (lim n : Nat) (K : AVal → Heap → Prop) (rec0 : AVal → AVal → AVal → AVal → AVal → AVal → Heap → Prop) : Kt := fun ex T H => match ex with
  | .norm => rec0 (T 0) (T 1) (T 6) (T 7) (T 8) (T 9) H
  | ex => (kBlk 0 (retW [] K)) ex T H
theorem F81_s0_eq (R : Caller) (lim n : Nat) (K : AVal → Heap → Prop) (rec0 : AVal → AVal → AVal → AVal → AVal → AVal → Heap → Prop) (T : Tm) (H : Heap) : F81_s0 R lim n K rec0 (T 0) (T 1) (T 6) (T 7) (T 8) (T 9) H = execI R lim n 65 (F81_Lp0 R lim n K rec0) f81_p0 T H (F81_k0 R lim n K rec0) := by kernel_rfl
theorem F81_l0_ok (R : Caller) (lim n : Nat) (K : AVal → Heap → Prop) {kw : Kt} (hk : ∀ ex T H, (kBlk 0 (retW [] K)) ex T H → kw ex T H) : ∀ (m : Nat) (T : Tm) (H : Heap), F81_l0 R lim n K m (T 0) (T 1) (T 6) (T 7) (T 8) (T 9) H → loopW (execW R lim n 65 f81_p0) m T H kw
  | 0, _, _, h => False.elim h
  | m + 1, T, H, h => by
    have hb : ∀ ex T H, F81_k0 R lim n K (F81_l0 R lim n K m) ex T H → (fun ex T H => match ex with | .norm => loopW (execW R lim n 65 f81_p0) m T H kw | ex => kw ex T H : Kt) ex T H := by
      intro ex T H h
      cases ex with
      | norm => exact F81_l0_ok R lim n K hk m T H h
      | exit i => exact hk _ _ _ h
      | ret => exact hk _ _ _ h
    have h' : F81_s0 R lim n K (F81_l0 R lim n K m) (T 0) (T 1) (T 6) (T 7) (T 8) (T 9) H := h
    rw [F81_s0_eq] at h'
    exact execI_sound f81_p0 T H _ _ (oblig_nl (by kernel_rfl)) hb h'
theorem F81_eq (R : Caller) (lim n : Nat) (K : AVal → Heap → Prop) (a0 a1 a2 : AVal) (H : Heap) : F81 R lim n K a0 a1 a2 H = execI R lim n 65 (F81_Lp R lim n K) f81.body (argT [a0, a1, a2]) H (retW [] K) := by kernel_rfl
theorem F81_ob (R : Caller) (lim n : Nat) (K : AVal → Heap → Prop) : Oblig R lim n 65 (F81_Lp R lim n K) f81.body (retW [] K) := ⟨(oblig_nl (by kernel_rfl)), ⟨(oblig_nl (by kernel_rfl)), ⟨⟨(oblig_nl (by kernel_rfl)), ⟨(oblig_nl (by kernel_rfl)), ⟨(oblig_nl (by kernel_rfl)), (fun T H h => F81_l0_ok R lim n K (kBlk_mono (fun _ _ _ h => h)) _ T H h)⟩⟩⟩, (oblig_nl (by kernel_rfl))⟩⟩⟩
theorem F81_run {ap : FuncId → Option AFn} (hf : ap 81 = some (.code f81)) {n lim : Nat} {K : AVal → Heap → Prop} {a0 a1 a2 : AVal} {H : Heap} (h : F81 (Ahs.runT ap n) lim n K a0 a1 a2 H) : ∃ v H', Ahs.runT ap (n + 1) lim (.fn 81) [a0, a1, a2] H = some (v, H') ∧ K v H' := by
  rw [F81_eq] at h
  exact run_of_W hf (by kernel_rfl) (by kernel_rfl) (execI_sound f81.body _ _ _ _ (F81_ob _ _ _ K) (fun _ _ _ h => h) h)
def F82_j0 (R : Caller) (lim n : Nat) (K : AVal → Heap → Prop) (t9 t11 : AVal) (H : Heap) : Prop :=
bindP (aload H none t9) fun v12 =>
bindP (abin .eql v12 (.int .i64 0)) fun v13 =>
bindP (boolOf v13) fun b14 =>
(b14 = true → (K (.tup [t11, (.int .i64 1)]) H)) ∧
(b14 = false → (bindP (abin .eql v12 (.int .i64 12)) fun v15 =>
bindP (boolOf v15) fun b16 =>
(b16 = true → (K (.tup [t11, (.int .i64 2)]) H)) ∧
(b16 = false → (K (.tup [t11, (.int .i64 0)]) H))))
def F82_j1 (R : Caller) (lim n : Nat) (K : AVal → Heap → Prop) (t0 t9 t10 t11 t12 : AVal) (H : Heap) : Prop :=
bind2 (R lim (.fn 94) [t0, t10, t11, t12, t9] H) fun v19 H20 =>
F82_j0 R lim n K t9 v19 H20
def F82 (R : Caller) (lim n : Nat) (K : AVal → Heap → Prop) (a0 a1 a2 : AVal) (H : Heap) : Prop :=
bindP (abin .sub a2 a1) fun v1 =>
bindP (abin .quo v1 (.int .i64 4)) fun v2 =>
bindP (abin .mul v2 (.int .i64 1)) fun v3 =>
bindP (abin .add a1 v3) fun v4 =>
bindP (abin .quo v1 (.int .i64 4)) fun v5 =>
bindP (abin .mul v5 (.int .i64 2)) fun v6 =>
bindP (abin .add a1 v6) fun v7 =>
bindP (abin .quo v1 (.int .i64 4)) fun v8 =>
bindP (abin .mul v8 (.int .i64 3)) fun v9 =>
bindP (abin .add a1 v9) fun v10 =>
bindP (abin .geq v1 (.int .i64 8)) fun v11 =>
bindP (boolOf v11) fun b17 =>
(b17 = true → (bindP (abin .geq v1 (.int .i64 50)) fun v18 =>
bindP (boolOf v18) fun b21 =>
(b21 = true → (bind2 (R lim (.fn 93) [a0, v4, (.ptr (some (H.next, 0)))] (H.push (.cells [(.int .i64 0)]))) fun v22 H23 =>
bind2 (R lim (.fn 93) [a0, v7, (.ptr (some (H.next, 0)))] H23) fun v24 H25 =>
bind2 (R lim (.fn 93) [a0, v10, (.ptr (some (H.next, 0)))] H25) fun v26 H27 =>
F82_j1 R lim n K a0 (.ptr (some (H.next, 0))) v22 v24 v26 H27)) ∧
(b21 = false → (F82_j1 R lim n K a0 (.ptr (some (H.next, 0))) v4 v7 v10 (H.push (.cells [(.int .i64 0)])))))) ∧
(b17 = false → (F82_j0 R lim n K (.ptr (some (H.next, 0))) v7 (H.push (.cells [(.int .i64 0)]))))
def F82_Lp (R : Caller) (lim n : Nat) (K : AVal → Heap → Prop) : Nat → Tm → Heap → Prop
  | _, _, _ => False
theorem F82_eq (R : Caller) (lim n : Nat) (K : AVal → Heap → Prop) (a0 a1 a2 : AVal) (H : Heap) : F82 R lim n K a0 a1 a2 H = execI R lim n 57 (F82_Lp R lim n K) f82.body (argT [a0, a1, a2]) H (retW [(.tmp 6), (.tmp 7)] K) := by kernel_rfl
theorem F82_ob (R : Caller) (lim n : Nat) (K : AVal → Heap → Prop) : Oblig R lim n 57 (F82_Lp R lim n K) f82.body (retW [(.tmp 6), (.tmp 7)] K) := (oblig_nl (by kernel_rfl))
theorem F82_run {ap : FuncId → Option AFn} (hf : ap 82 = some (.code f82)) {n lim : Nat} {K : AVal → Heap → Prop} {a0 a1 a2 : AVal} {H : Heap} (h : F82 (Ahs.runT ap n) lim n K a0 a1 a2 H) : ∃ v H', Ahs.runT ap (n + 1) lim (.fn 82) [a0, a1, a2] H = some (v, H') ∧ K v H' := by
  rw [F82_eq] at h
  exact run_of_W hf (by kernel_rfl) (by kernel_rfl) (execI_sound f82.body _ _ _ _ (F82_ob _ _ _ K) (fun _ _ _ h => h) h)
def F83_j0 (R : Caller) (lim n : Nat) (K : AVal → Heap → Prop) (H : Heap) : Prop :=
K (.tup []) H
def F83_s0 (R : Caller) (lim n : Nat) (K : AVal → Heap → Prop) (rec0 : AVal → AVal → AVal → Heap → Prop) (t0 t6 t7 : AVal) (H : Heap) : Prop :=
bindP (abin .lss t6 t7) fun v14 =>
bindP (boolOf v14) fun b15 =>
(b15 = true → (bindP (aindexAddr none 1 t0 t7) fun v16 =>
bindP (aload H none v16) fun v17 =>
bindP (aindexAddr none 1 t0 t6) fun v18 =>
bindP (aload H none v18) fun v19 =>
bindP (aindexAddr none 1 t0 t6) fun v20 =>
bindP (astore lim H 1 v20 v17) fun H21 =>
bindP (aindexAddr none 1 t0 t7) fun v22 =>
bindP (astore lim H21 1 v22 v19) fun H23 =>
bindP (abin .add t6 (.int .i64 1)) fun v24 =>
bindP (abin .sub t7 (.int .i64 1)) fun v25 =>
rec0 t0 v24 v25 H23)) ∧
(b15 = false → (F83_j0 R lim n K H))
def F83_l0 (R : Caller) (lim n : Nat) (K : AVal → Heap → Prop) : Nat → AVal → AVal → AVal → Heap → Prop
  | 0, _, _, _, _ => False
  | m + 1, t0, t6, t7, H => F83_s0 R lim n K (F83_l0 R lim n K m) t0 t6 t7 H
def F83 (R : Caller) (lim n : Nat) (K : AVal → Heap → Prop) (a0 a1 a2 : AVal) (H : Heap) : Prop :=
bindP (abin .sub a2 (.int .i64 1)) fun v1 =>
F83_l0 R lim n K n a0 a1 v1 H
def F83_Lp (R : Caller) (lim n : Nat) (K : AVal → Heap → Prop) : Nat → Tm → Heap → Prop
  | 0, T, H => F83_l0 R lim n K n (T 0) (T 6) (T 7) H
  | _, _, _ => False
def F83_Lp0 (R : Caller) (lim n : Nat) (K : AVal → Heap → Prop) (rec0 : AVal → AVal → AVal → Heap → Prop) : Nat → Tm → Heap → Prop
  | _, _, _ => False
def F83_k0 (R : Caller) (lim n : Nat) (K : AVal → Heap → Prop) (rec0 : AVal → AVal → AVal → Heap → Prop) : Kt := fun ex T H => match ex with
  | .norm => rec0 (T 0) (T 6) (T 7) H
  | ex => (kBlk 0 (retW [] K)) ex T H
theorem F83_s0_eq (R : Caller) (lim n : Nat) (K : AVal → Heap → Prop) (rec0 : AVal → AVal → AVal → Heap → Prop) (T : Tm) (H : Heap) : F83_s0 R lim n K rec0 (T 0) (T 6) (T 7) H = execI R lim n 32 (F83_Lp0 R lim n K rec0) f83_p0 T H (F83_k0 R lim n K rec0) := by kernel_rfl
theorem F83_l0_ok (R : Caller) (lim n : Nat) (K : AVal → Heap → Prop) {kw : Kt} (hk : ∀ ex T H, (kBlk 0 (retW [] K)) ex T H → kw ex T H) : ∀ (m : Nat) (T : Tm) (H : Heap), F83_l0 R lim n K m (T 0) (T 6) (T 7) H → loopW (execW R lim n 32 f83_p0) m T H kw
  | 0, _, _, h => False.elim h
  | m + 1, T, H, h => by
    have hb : ∀ ex T H, F83_k0 R lim n K (F83_l0 R lim n K m) ex T H → (fun ex T H => match ex with | .norm => loopW (execW R lim n 32 f83_p0) m T H kw | ex => kw ex T H : Kt) ex T H := by
      intro ex T H h
      cases ex with
      | norm => exact F83_l0_ok R lim n K hk m T H h
      | exit i => exact hk _ _ _ h
      | ret => exact hk _ _ _ h
    have h' : F83_s0 R lim n K (F83_l0 R lim n K m) (T 0) (T 6) (T 7) H := h
    rw [F83_s0_eq] at h'
    exact execI_sound f83_p0 T H _ _ (oblig_nl (by kernel_rfl)) hb h'
theorem F83_eq (R : Caller) (lim n : Nat) (K : AVal → Heap → Prop) (a0 a1 a2 : AVal) (H : Heap) : F83 R lim n K a0 a1 a2 H = execI R lim n 32 (F83_Lp R lim n K) f83.body (argT [a0, a1, a2]) H (retW [] K) := by kernel_rfl
theorem F83_ob (R : Caller) (lim n : Nat) (K : AVal → Heap → Prop) : Oblig R lim n 32 (F83_Lp R lim n K) f83.body (retW [] K) := ⟨(oblig_nl (by kernel_rfl)), ⟨(oblig_nl (by kernel_rfl)), (fun T H h => F83_l0_ok R lim n K (kBlk_mono (fun _ _ _ h => h)) _ T H h)⟩⟩
theorem F83_run {ap : FuncId → Option AFn} (hf : ap 83 = some (.code f83)) {n lim : Nat} {K : AVal → Heap → Prop} {a0 a1 a2 : AVal} {H : Heap} (h : F83 (Ahs.runT ap n) lim n K a0 a1 a2 H) : ∃ v H', Ahs.runT ap (n + 1) lim (.fn 83) [a0, a1, a2] H = some (v, H') ∧ K v H' := by
  rw [F83_eq] at h
  exact run_of_W hf (by kernel_rfl) (by kernel_rfl) (execI_sound f83.body _ _ _ _ (F83_ob _ _ _ K) (fun _ _ _ h => h) h)
def F84_j0 (R : Caller) (lim n : Nat) (K : AVal → Heap → Prop) (H : Heap) : Prop :=
K (.bool false) H
def F84_j1 (R : Caller) (lim n : Nat) (K : AVal → Heap → Prop) (rec0 : AVal → AVal → AVal → AVal → AVal → Heap → Prop) (t0 t1 t2 t7 t8 : AVal) (H : Heap) : Prop :=
bindP (abin .add t8 (.int .i64 1)) fun v409 =>
rec0 t0 t1 t2 t7 v409 H
def F84_j2 (R : Caller) (lim n : Nat) (K : AVal → Heap → Prop) (rec0 : AVal → AVal → AVal → AVal → AVal → Heap → Prop) (t0 t1 t2 t7 t8 : AVal) (H : Heap) : Prop :=
F84_j1 R lim n K rec0 t0 t1 t2 t7 t8 H
def F84_s6 (R : Caller) (lim n : Nat) (K : AVal → Heap → Prop) (rec0 : AVal → AVal → AVal → AVal → AVal → Heap → Prop) (rec6 : AVal → AVal → AVal → AVal → AVal → AVal → Heap → Prop) (t0 t1 t2 t7 t8 t10 : AVal) (H : Heap) : Prop :=
bindP (abin .lss t10 t2) fun v434 =>
bindP (boolOf v434) fun b435 =>
(b435 = true → (bindP (aindexAddr none 1 t0 t10) fun v436 =>
bindP (aload H none v436) fun v437 =>
bindP (abin .sub t10 (.int .i64 1)) fun v438 =>
bindP (aindexAddr none 1 t0 v438) fun v439 =>
bindP (aload H none v439) fun v440 =>
bind2 (R lim (.fn 85) [v437, v440] H) fun v441 H442 =>
bindP (aun .not v441) fun v443 =>
bindP (boolOf v443) fun b444 =>
(b444 = true → (F84_j2 R lim n K rec0 t0 t1 t2 t7 t8 H442)) ∧
(b444 = false → (bindP (abin .sub t10 (.int .i64 1)) fun v445 =>
bindP (abin .sub t10 (.int .i64 1)) fun v446 =>
bindP (aindexAddr none 1 t0 v446) fun v447 =>
bindP (aload H442 none v447) fun v448 =>
bindP (aindexAddr none 1 t0 t10) fun v449 =>
bindP (aload H442 none v449) fun v450 =>
bindP (aindexAddr none 1 t0 t10) fun v451 =>
bindP (astore lim H442 1 v451 v448) fun H452 =>
bindP (aindexAddr none 1 t0 v445) fun v453 =>
bindP (astore lim H452 1 v453 v450) fun H454 =>
bindP (abin .add t10 (.int .i64 1)) fun v455 =>
rec6 t0 t1 t2 t7 t8 v455 H454)))) ∧
(b435 = false → (F84_j2 R lim n K rec0 t0 t1 t2 t7 t8 H))
def F84_l6 (R : Caller) (lim n : Nat) (K : AVal → Heap → Prop) (rec0 : AVal → AVal → AVal → AVal → AVal → Heap → Prop) : Nat → AVal → AVal → AVal → AVal → AVal → AVal → Heap → Prop
  | 0, _, _, _, _, _, _, _ => False
  | m + 1, t0, t1, t2, t7, t8, t10, H => F84_s6 R lim n K rec0 (F84_l6 R lim n K rec0 m) t0 t1 t2 t7 t8 t10 H
def F84_j3 (R : Caller) (lim n : Nat) (K : AVal → Heap → Prop) (rec0 : AVal → AVal → AVal → AVal → AVal → Heap → Prop) (t0 t1 t2 t7 t8 : AVal) (H : Heap) : Prop :=
bindP (abin .sub t2 t7) fun v407 =>
bindP (abin .geq v407 (.int .i64 2)) fun v408 =>
bindP (boolOf v408) fun b410 =>
(b410 = true → (bindP (abin .add t7 (.int .i64 1)) fun v411 =>
F84_l6 R lim n K rec0 n t0 t1 t2 t7 t8 v411 H)) ∧
(b410 = false → (F84_j1 R lim n K rec0 t0 t1 t2 t7 t8 H))
def F84_j4 (R : Caller) (lim n : Nat) (K : AVal → Heap → Prop) (rec0 : AVal → AVal → AVal → AVal → AVal → Heap → Prop) (t0 t1 t2 t7 t8 : AVal) (H : Heap) : Prop :=
F84_j3 R lim n K rec0 t0 t1 t2 t7 t8 H
def F84_s4 (R : Caller) (lim n : Nat) (K : AVal → Heap → Prop) (rec0 : AVal → AVal → AVal → AVal → AVal → Heap → Prop) (rec4 : AVal → AVal → AVal → AVal → AVal → AVal → Heap → Prop) (t0 t1 t2 t7 t8 t9 : AVal) (H : Heap) : Prop :=
bindP (abin .geq t9 (.int .i64 1)) fun v480 =>
bindP (boolOf v480) fun b481 =>
(b481 = true → (bindP (aindexAddr none 1 t0 t9) fun v482 =>
bindP (aload H none v482) fun v483 =>
bindP (abin .sub t9 (.int .i64 1)) fun v484 =>
bindP (aindexAddr none 1 t0 v484) fun v485 =>
bindP (aload H none v485) fun v486 =>
bind2 (R lim (.fn 85) [v483, v486] H) fun v487 H488 =>
bindP (aun .not v487) fun v489 =>
bindP (boolOf v489) fun b490 =>
(b490 = true → (F84_j4 R lim n K rec0 t0 t1 t2 t7 t8 H488)) ∧
(b490 = false → (bindP (abin .sub t9 (.int .i64 1)) fun v491 =>
bindP (abin .sub t9 (.int .i64 1)) fun v492 =>
bindP (aindexAddr none 1 t0 v492) fun v493 =>
bindP (aload H488 none v493) fun v494 =>
bindP (aindexAddr none 1 t0 t9) fun v495 =>
bindP (aload H488 none v495) fun v496 =>
bindP (aindexAddr none 1 t0 t9) fun v497 =>
bindP (astore lim H488 1 v497 v494) fun H498 =>
bindP (aindexAddr none 1 t0 v491) fun v499 =>
bindP (astore lim H498 1 v499 v496) fun H500 =>
bindP (abin .sub t9 (.int .i64 1)) fun v501 =>
rec4 t0 t1 t2 t7 t8 v501 H500)))) ∧
(b481 = false → (F84_j4 R lim n K rec0 t0 t1 t2 t7 t8 H))
def F84_l4 (R : Caller) (lim n : Nat) (K : AVal → Heap → Prop) (rec0 : AVal → AVal → AVal → AVal → AVal → Heap → Prop) : Nat → AVal → AVal → AVal → AVal → AVal → AVal → Heap → Prop
  | 0, _, _, _, _, _, _, _ => False
  | m + 1, t0, t1, t2, t7, t8, t9, H => F84_s4 R lim n K rec0 (F84_l4 R lim n K rec0 m) t0 t1 t2 t7 t8 t9 H
def F84_j5 (R : Caller) (lim n : Nat) (K : AVal → Heap → Prop) (rec0 : AVal → AVal → AVal → AVal → AVal → Heap → Prop) (t0 t1 t2 t7 t8 : AVal) (H : Heap) : Prop :=
bindP (abin .eql t7 t2) fun v390 =>
bindP (boolOf v390) fun b391 =>
(b391 = true → (K (.bool true) H)) ∧
(b391 = false → (bindP (abin .sub t2 t1) fun v392 =>
bindP (abin .lss v392 (.int .i64 50)) fun v393 =>
bindP (boolOf v393) fun b394 =>
(b394 = true → (K (.bool false) H)) ∧
(b394 = false → (bindP (abin .sub t7 (.int .i64 1)) fun v395 =>
bindP (abin .sub t7 (.int .i64 1)) fun v396 =>
bindP (aindexAddr none 1 t0 v396) fun v397 =>
bindP (aload H none v397) fun v398 =>
bindP (aindexAddr none 1 t0 t7) fun v399 =>
bindP (aload H none v399) fun v400 =>
bindP (aindexAddr none 1 t0 t7) fun v401 =>
bindP (astore lim H 1 v401 v398) fun H402 =>
bindP (aindexAddr none 1 t0 v395) fun v403 =>
bindP (astore lim H402 1 v403 v400) fun H404 =>
bindP (abin .sub t7 t1) fun v405 =>
bindP (abin .geq v405 (.int .i64 2)) fun v406 =>
bindP (boolOf v406) fun b456 =>
(b456 = true → (bindP (abin .sub t7 (.int .i64 1)) fun v457 =>
F84_l4 R lim n K rec0 n t0 t1 t2 t7 t8 v457 H404)) ∧
(b456 = false → (F84_j3 R lim n K rec0 t0 t1 t2 t7 t8 H404))))))
def F84_s2 (R : Caller) (lim n : Nat) (K : AVal → Heap → Prop) (rec0 : AVal → AVal → AVal → AVal → AVal → Heap → Prop) (rec2 : AVal → AVal → AVal → AVal → AVal → Heap → Prop) (t0 t1 t2 t7 t8 : AVal) (H : Heap) : Prop :=
bindP (abin .lss t7 t2) fun v502 =>
bindP (gd (some (v502, true)) (some t0)) fun v503 =>
bindP (gd (some (v502, true)) (some t7)) fun v504 =>
bindP (gd (some (v502, true)) (aindexAddr none 1 v503 v504)) fun v505 =>
bindP (gd (some (v502, true)) (aload H none v505)) fun v506 =>
bindP (gd (some (v502, true)) (some t0)) fun v507 =>
bindP (gd (some (v502, true)) (some t7)) fun v508 =>
bindP (gd (some (v502, true)) (abin .sub v508 (.int .i64 1))) fun v509 =>
bindP (gd (some (v502, true)) (aindexAddr none 1 v507 v509)) fun v510 =>
bindP (gd (some (v502, true)) (aload H none v510)) fun v511 =>
bind2 (gd2 (some (v502, true)) H (R lim (.fn 85) [v506, v511] H)) fun v512 H513 =>
bindP (gd (some (v502, true)) (aun .not v512)) fun v514 =>
bindP (pickO v502 v514 (.bool false)) fun v515 =>
bindP (boolOf v515) fun b516 =>
(b516 = true → (bindP (abin .add t7 (.int .i64 1)) fun v517 =>
rec2 t0 t1 t2 v517 t8 H513)) ∧
(b516 = false → (F84_j5 R lim n K rec0 t0 t1 t2 t7 t8 H513))
def F84_l2 (R : Caller) (lim n : Nat) (K : AVal → Heap → Prop) (rec0 : AVal → AVal → AVal → AVal → AVal → Heap → Prop) : Nat → AVal → AVal → AVal → AVal → AVal → Heap → Prop
  | 0, _, _, _, _, _, _ => False
  | m + 1, t0, t1, t2, t7, t8, H => F84_s2 R lim n K rec0 (F84_l2 R lim n K rec0 m) t0 t1 t2 t7 t8 H
def F84_s0 (R : Caller) (lim n : Nat) (K : AVal → Heap → Prop) (rec0 : AVal → AVal → AVal → AVal → AVal → Heap → Prop) (t0 t1 t2 t7 t8 : AVal) (H : Heap) : Prop :=
bindP (abin .lss t8 (.int .i64 5)) fun v260 =>
bindP (boolOf v260) fun b261 =>
(b261 = true → (F84_l2 R lim n K rec0 n t0 t1 t2 t7 t8 H)) ∧
(b261 = false → (F84_j0 R lim n K H))
def F84_l0 (R : Caller) (lim n : Nat) (K : AVal → Heap → Prop) : Nat → AVal → AVal → AVal → AVal → AVal → Heap → Prop
  | 0, _, _, _, _, _, _ => False
  | m + 1, t0, t1, t2, t7, t8, H => F84_s0 R lim n K (F84_l0 R lim n K m) t0 t1 t2 t7 t8 H
def F84 (R : Caller) (lim n : Nat) (K : AVal → Heap → Prop) (a0 a1 a2 : AVal) (H : Heap) : Prop :=
bindP (abin .add a1 (.int .i64 1)) fun v1 =>
F84_l0 R lim n K n a0 a1 a2 v1 (.int .i64 0) H
def F84_Lp (R : Caller) (lim n : Nat) (K : AVal → Heap → Prop) : Nat → Tm → Heap → Prop
  | 0, T, H => F84_l0 R lim n K n (T 0) (T 1) (T 2) (T 7) (T 8) H
  | _, _, _ => False
def F84_Lp0 (R : Caller) (lim n : Nat) (K : AVal → Heap → Prop) (rec0 : AVal → AVal → AVal → AVal → AVal → Heap → Prop) : Nat → Tm → Heap → Prop
  | 2, T, H => F84_l2 R lim n K rec0 n (T 0) (T 1) (T 2) (T 7) (T 8) H
  | 4, T, H => F84_l4 R lim n K rec0 n (T 0) (T 1) (T 2) (T 7) (T 8) (T 9) H
  | 6, T, H => F84_l6 R lim n K rec0 n (T 0) (T 1) (T 2) (T 7) (T 8) (T 10) H
  | _, _, _ => False
def F84_Lp2 (R : Caller) (lim n : Nat) (K : AVal → Heap → Prop) (rec0 : AVal → AVal → AVal → AVal → AVal → Heap → Prop) (rec2 : AVal → AVal → AVal → AVal → AVal → Heap → Prop) : Nat → Tm → Heap → Prop
  | _, _, _ => False
def F84_Lp4 (R : Caller) (lim n : Nat) (K : AVal → Heap → Prop) (rec0 : AVal → AVal → AVal → AVal → AVal → Heap → Prop) (rec4 : AVal → AVal → AVal → AVal → AVal → AVal → Heap → Prop) : Nat → Tm → Heap → Prop
  | _, _, _ => False
def F84_Lp6 (R : Caller) (lim n : Nat) (K : AVal → Heap → Prop) (rec0 : AVal → AVal → AVal → AVal → AVal → Heap → Prop) (rec6 : AVal → AVal → AVal → AVal → AVal → AVal → Heap → Prop) : Nat → Tm → Heap → Prop
  | _, _, _ => False
def F84_k0 (R : Caller) (lim n : Nat) (K : AVal → Heap → Prop) (rec0 : AVal → AVal → AVal → AVal → AVal → Heap → Prop) : Kt := fun ex T H => match ex with
  | .norm => rec0 (T 0) (T 1) (T 2) (T 7) (T 8) H
  | ex => (kBlk 0 (kSeq (execI R lim n 133 (F84_Lp R lim n K) f84_p1) (retW [(.tmp 6)] K))) ex T H
def F84_k6 (R : Caller) (lim n : Nat) (K : AVal → Heap → Prop) (rec0 : AVal → AVal → AVal → AVal → AVal → Heap → Prop) (rec6 : AVal → AVal → AVal → AVal → AVal → AVal → Heap → Prop) : Kt := fun ex T H => match ex with
  | .norm => rec6 (T 0) (T 1) (T 2) (T 7) (T 8) (T 10) H
  | ex => (kBlk 6 (kBlk 1 (kSeq (execI R lim n 133 (F84_Lp0 R lim n K rec0) f84_p3) (F84_k0 R lim n K rec0)))) ex T H
theorem F84_s6_eq (R : Caller) (lim n : Nat) (K : AVal → Heap → Prop) (rec0 : AVal → AVal → AVal → AVal → AVal → Heap → Prop) (rec6 : AVal → AVal → AVal → AVal → AVal → AVal → Heap → Prop) (T : Tm) (H : Heap) : F84_s6 R lim n K rec0 rec6 (T 0) (T 1) (T 2) (T 7) (T 8) (T 10) H = execI R lim n 133 (F84_Lp6 R lim n K rec0 rec6) f84_p2 T H (F84_k6 R lim n K rec0 rec6) := by kernel_rfl
theorem F84_l6_ok (R : Caller) (lim n : Nat) (K : AVal → Heap → Prop) (rec0 : AVal → AVal → AVal → AVal → AVal → Heap → Prop) {kw : Kt} (hk : ∀ ex T H, (kBlk 6 (kBlk 1 (kSeq (execI R lim n 133 (F84_Lp0 R lim n K rec0) f84_p3) (F84_k0 R lim n K rec0)))) ex T H → kw ex T H) : ∀ (m : Nat) (T : Tm) (H : Heap), F84_l6 R lim n K rec0 m (T 0) (T 1) (T 2) (T 7) (T 8) (T 10) H → loopW (execW R lim n 133 f84_p2) m T H kw
  | 0, _, _, h => False.elim h
  | m + 1, T, H, h => by
    have hb : ∀ ex T H, F84_k6 R lim n K rec0 (F84_l6 R lim n K rec0 m) ex T H → (fun ex T H => match ex with | .norm => loopW (execW R lim n 133 f84_p2) m T H kw | ex => kw ex T H : Kt) ex T H := by
      intro ex T H h
      cases ex with
      | norm => exact F84_l6_ok R lim n K rec0 hk m T H h
      | exit i => exact hk _ _ _ h
      | ret => exact hk _ _ _ h
    have h' : F84_s6 R lim n K rec0 (F84_l6 R lim n K rec0 m) (T 0) (T 1) (T 2) (T 7) (T 8) (T 10) H := h
    rw [F84_s6_eq] at h'
    exact execI_sound f84_p2 T H _ _ (oblig_nl (by kernel_rfl)) hb h'
def F84_k4 (R : Caller) (lim n : Nat) (K : AVal → Heap → Prop) (rec0 : AVal → AVal → AVal → AVal → AVal → Heap → Prop) (rec4 : AVal → AVal → AVal → AVal → AVal → AVal → Heap → Prop) : Kt := fun ex T H => match ex with
  | .norm => rec4 (T 0) (T 1) (T 2) (T 7) (T 8) (T 9) H
  | ex => (kBlk 4 (kSeq (execI R lim n 133 (F84_Lp0 R lim n K rec0) f84_p5) (kBlk 1 (kSeq (execI R lim n 133 (F84_Lp0 R lim n K rec0) f84_p3) (F84_k0 R lim n K rec0))))) ex T H
theorem F84_s4_eq (R : Caller) (lim n : Nat) (K : AVal → Heap → Prop) (rec0 : AVal → AVal → AVal → AVal → AVal → Heap → Prop) (rec4 : AVal → AVal → AVal → AVal → AVal → AVal → Heap → Prop) (T : Tm) (H : Heap) : F84_s4 R lim n K rec0 rec4 (T 0) (T 1) (T 2) (T 7) (T 8) (T 9) H = execI R lim n 133 (F84_Lp4 R lim n K rec0 rec4) f84_p4 T H (F84_k4 R lim n K rec0 rec4) := by kernel_rfl
theorem F84_l4_ok (R : Caller) (lim n : Nat) (K : AVal → Heap → Prop) (rec0 : AVal → AVal → AVal → AVal → AVal → Heap → Prop) {kw : Kt} (hk : ∀ ex T H, (kBlk 4 (kSeq (execI R lim n 133 (F84_Lp0 R lim n K rec0) f84_p5) (kBlk 1 (kSeq (execI R lim n 133 (F84_Lp0 R lim n K rec0) f84_p3) (F84_k0 R lim n K rec0))))) ex T H → kw ex T H) : ∀ (m : Nat) (T : Tm) (H : Heap), F84_l4 R lim n K rec0 m (T 0) (T 1) (T 2) (T 7) (T 8) (T 9) H → loopW (execW R lim n 133 f84_p4) m T H kw
  | 0, _, _, h => False.elim h
  | m + 1, T, H, h => by
    have hb : ∀ ex T H, F84_k4 R lim n K rec0 (F84_l4 R lim n K rec0 m) ex T H → (fun ex T H => match ex with | .norm => loopW (execW R lim n 133 f84_p4) m T H kw | ex => kw ex T H : Kt) ex T H := by
      intro ex T H h
      cases ex with
      | norm => exact F84_l4_ok R lim n K rec0 hk m T H h
      | exit i => exact hk _ _ _ h
      | ret => exact hk _ _ _ h
    have h' : F84_s4 R lim n K rec0 (F84_l4 R lim n K rec0 m) (T 0) (T 1) (T 2) (T 7) (T 8) (T 9) H := h
    rw [F84_s4_eq] at h'
    exact execI_sound f84_p4 T H _ _ (oblig_nl (by kernel_rfl)) hb h'
def F84_k2 (R : Caller) (lim n : Nat) (K : AVal → Heap → Prop) (rec0 : AVal → AVal → AVal → AVal → AVal → Heap → Prop) (rec2 : AVal → AVal → AVal → AVal → AVal → Heap → Prop) : Kt := fun ex T H => match ex with
  | .norm => rec2 (T 0) (T 1) (T 2) (T 7) (T 8) H
  | ex => (kBlk 2 (kSeq (execI R lim n 133 (F84_Lp0 R lim n K rec0) f84_p7) (kBlk 1 (kSeq (execI R lim n 133 (F84_Lp0 R lim n K rec0) f84_p3) (F84_k0 R lim n K rec0))))) ex T H
theorem F84_s2_eq (R : Caller) (lim n : Nat) (K : AVal → Heap → Prop) (rec0 : AVal → AVal → AVal → AVal → AVal → Heap → Prop) (rec2 : AVal → AVal → AVal → AVal → AVal → Heap → Prop) (T : Tm) (H : Heap) : F84_s2 R lim n K rec0 rec2 (T 0) (T 1) (T 2) (T 7) (T 8) H = execI R lim n 133 (F84_Lp2 R lim n K rec0 rec2) f84_p6 T H (F84_k2 R lim n K rec0 rec2) := by kernel_rfl
theorem F84_l2_ok (R : Caller) (lim n : Nat) (K : AVal → Heap → Prop) (rec0 : AVal → AVal → AVal → AVal → AVal → Heap → Prop) {kw : Kt} (hk : ∀ ex T H, (kBlk 2 (kSeq (execI R lim n 133 (F84_Lp0 R lim n K rec0) f84_p7) (kBlk 1 (kSeq (execI R lim n 133 (F84_Lp0 R lim n K rec0) f84_p3) (F84_k0 R lim n K rec0))))) ex T H → kw ex T H) : ∀ (m : Nat) (T : Tm) (H : Heap), F84_l2 R lim n K rec0 m (T 0) (T 1) (T 2) (T 7) (T 8) H → loopW (execW R lim n 133 f84_p6) m T H kw
  | 0, _, _, h => False.elim h
  | m + 1, T, H, h => by
    have hb : ∀ ex T H, F84_k2 R lim n K rec0 (F84_l2 R lim n K rec0 m) ex T H → (fun ex T H => match ex with | .norm => loopW (execW R lim n 133 f84_p6) m T H kw | ex => kw ex T H : Kt) ex T H := by
      intro ex T H h
      cases ex with
      | norm => exact F84_l2_ok R lim n K rec0 hk m T H h
      | exit i => exact hk _ _ _ h
      | ret => exact hk _ _ _ h
    have h' : F84_s2 R lim n K rec0 (F84_l2 R lim n K rec0 m) (T 0) (T 1) (T 2) (T 7) (T 8) H := h
    rw [F84_s2_eq] at h'
    exact execI_sound f84_p6 T H _ _ (oblig_nl (by kernel_rfl)) hb h'
theorem F84_s0_eq (R : Caller) (lim n : Nat) (K : AVal → Heap → Prop) (rec0 : AVal → AVal → AVal → AVal → AVal → Heap → Prop) (T : Tm) (H : Heap) : F84_s0 R lim n K rec0 (T 0) (T 1) (T 2) (T 7) (T 8) H = execI R lim n 133 (F84_Lp0 R lim n K rec0) f84_p0 T H (F84_k0 R lim n K rec0) := by kernel_rfl
theorem F84_l0_ok (R : Caller) (lim n : Nat) (K : AVal → Heap → Prop) {kw : Kt} (hk : ∀ ex T H, (kBlk 0 (kSeq (execI R lim n 133 (F84_Lp R lim n K) f84_p1) (retW [(.tmp 6)] K))) ex T H → kw ex T H) : ∀ (m : Nat) (T : Tm) (H : Heap), F84_l0 R lim n K m (T 0) (T 1) (T 2) (T 7) (T 8) H → loopW (execW R lim n 133 f84_p0) m T H kw
  | 0, _, _, h => False.elim h
  | m + 1, T, H, h => by
    have hb : ∀ ex T H, F84_k0 R lim n K (F84_l0 R lim n K m) ex T H → (fun ex T H => match ex with | .norm => loopW (execW R lim n 133 f84_p0) m T H kw | ex => kw ex T H : Kt) ex T H := by
      intro ex T H h
      cases ex with
      | norm => exact F84_l0_ok R lim n K hk m T H h
      | exit i => exact hk _ _ _ h
      | ret => exact hk _ _ _ h
    have h' : F84_s0 R lim n K (F84_l0 R lim n K m) (T 0) (T 1) (T 2) (T 7) (T 8) H := h
    rw [F84_s0_eq] at h'
    exact execI_sound f84_p0 T H _ _ ⟨(oblig_nl (by kernel_rfl)), ⟨⟨(fun T H h => F84_l2_ok R lim n K (F84_l0 R lim n K m) (kBlk_mono (kSeqI_sound ⟨(oblig_nl (by kernel_rfl)), ⟨(oblig_nl (by kernel_rfl)), ⟨(oblig_nl (by kernel_rfl)), ⟨⟨(oblig_nl (by kernel_rfl)), ⟨⟨(oblig_nl (by kernel_rfl)), (fun T H h => F84_l4_ok R lim n K (F84_l0 R lim n K m) (kBlk_mono (kSeqI_sound ⟨(oblig_nl (by kernel_rfl)), ⟨⟨(oblig_nl (by kernel_rfl)), (fun T H h => F84_l6_ok R lim n K (F84_l0 R lim n K m) (kBlk_mono (kBlk_mono (kSeqI_sound (oblig_nl (by kernel_rfl)) (hb)))) _ T H h)⟩, (oblig_nl (by kernel_rfl))⟩⟩ (kBlk_mono (kSeqI_sound (oblig_nl (by kernel_rfl)) (hb))))) _ T H h)⟩, (oblig_nl (by kernel_rfl))⟩⟩, ⟨(oblig_nl (by kernel_rfl)), ⟨⟨(oblig_nl (by kernel_rfl)), (fun T H h => F84_l6_ok R lim n K (F84_l0 R lim n K m) (kBlk_mono (kBlk_mono (kSeqI_sound (oblig_nl (by kernel_rfl)) (hb)))) _ T H h)⟩, (oblig_nl (by kernel_rfl))⟩⟩⟩⟩⟩⟩ (kBlk_mono (kSeqI_sound (oblig_nl (by kernel_rfl)) (hb))))) _ T H h), ⟨(oblig_nl (by kernel_rfl)), ⟨(oblig_nl (by kernel_rfl)), ⟨(oblig_nl (by kernel_rfl)), ⟨⟨(oblig_nl (by kernel_rfl)), ⟨⟨(oblig_nl (by kernel_rfl)), (fun T H h => F84_l4_ok R lim n K (F84_l0 R lim n K m) (kBlk_mono (kSeqI_sound ⟨(oblig_nl (by kernel_rfl)), ⟨⟨(oblig_nl (by kernel_rfl)), (fun T H h => F84_l6_ok R lim n K (F84_l0 R lim n K m) (kBlk_mono (kBlk_mono (kSeqI_sound (oblig_nl (by kernel_rfl)) (hb)))) _ T H h)⟩, (oblig_nl (by kernel_rfl))⟩⟩ (kBlk_mono (kSeqI_sound (oblig_nl (by kernel_rfl)) (hb))))) _ T H h)⟩, (oblig_nl (by kernel_rfl))⟩⟩, ⟨(oblig_nl (by kernel_rfl)), ⟨⟨(oblig_nl (by kernel_rfl)), (fun T H h => F84_l6_ok R lim n K (F84_l0 R lim n K m) (kBlk_mono (kBlk_mono (kSeqI_sound (oblig_nl (by kernel_rfl)) (hb)))) _ T H h)⟩, (oblig_nl (by kernel_rfl))⟩⟩⟩⟩⟩⟩⟩, (oblig_nl (by kernel_rfl))⟩⟩ hb h'
theorem F84_eq (R : Caller) (lim n : Nat) (K : AVal → Heap → Prop) (a0 a1 a2 : AVal) (H : Heap) : F84 R lim n K a0 a1 a2 H = execI R lim n 133 (F84_Lp R lim n K) f84.body (argT [a0, a1, a2]) H (retW [(.tmp 6)] K) := by kernel_rfl
theorem F84_ob (R : Caller) (lim n : Nat) (K : AVal → Heap → Prop) : Oblig R lim n 133 (F84_Lp R lim n K) f84.body (retW [(.tmp 6)] K) := ⟨(oblig_nl (by kernel_rfl)), ⟨(oblig_nl (by kernel_rfl)), ⟨⟨(oblig_nl (by kernel_rfl)), (fun T H h => F84_l0_ok R lim n K (kBlk_mono (kSeqI_sound (oblig_nl (by kernel_rfl)) (fun _ _ _ h => h))) _ T H h)⟩, (oblig_nl (by kernel_rfl))⟩⟩⟩
theorem F84_run {ap : FuncId → Option AFn} (hf : ap 84 = some (.code f84)) {n lim : Nat} {K : AVal → Heap → Prop} {a0 a1 a2 : AVal} {H : Heap} (h : F84 (Ahs.runT ap n) lim n K a0 a1 a2 H) : ∃ v H', Ahs.runT ap (n + 1) lim (.fn 84) [a0, a1, a2] H = some (v, H') ∧ K v H' := by
  rw [F84_eq] at h
  exact run_of_W hf (by kernel_rfl) (by kernel_rfl) (execI_sound f84.body _ _ _ _ (F84_ob _ _ _ K) (fun _ _ _ h => h) h)
def F85 (R : Caller) (lim n : Nat) (K : AVal → Heap → Prop) (a0 a1 : AVal) (H : Heap) : Prop :=
bind2 (R lim (.fn 95) [a0] H) fun v1 H2 =>
bindP (gd (some (v1, true)) (some a1)) fun v3 =>
bind2 (gd2 (some (v1, true)) H2 (R lim (.fn 95) [v3] H2)) fun v4 H5 =>
bindP (gd (some (v1, true)) (aun .not v4)) fun v6 =>
bindP (pickO v1 v6 (.bool false)) fun v7 =>
bindP (gd (some (v7, false)) (some a0)) fun v8 =>
bindP (gd (some (v7, false)) (some a1)) fun v9 =>
bindP (gd (some (v7, false)) (abin .lss v8 v9)) fun v10 =>
bindP (pickO v7 (.bool true) v10) fun v11 =>
K v11 H5
def F85_Lp (R : Caller) (lim n : Nat) (K : AVal → Heap → Prop) : Nat → Tm → Heap → Prop
  | _, _, _ => False
theorem F85_eq (R : Caller) (lim n : Nat) (K : AVal → Heap → Prop) (a0 a1 : AVal) (H : Heap) : F85 R lim n K a0 a1 H = execI R lim n 17 (F85_Lp R lim n K) f85.body (argT [a0, a1]) H (retW [(.tmp 4)] K) := by kernel_rfl
theorem F85_ob (R : Caller) (lim n : Nat) (K : AVal → Heap → Prop) : Oblig R lim n 17 (F85_Lp R lim n K) f85.body (retW [(.tmp 4)] K) := (oblig_nl (by kernel_rfl))
theorem F85_run {ap : FuncId → Option AFn} (hf : ap 85 = some (.code f85)) {n lim : Nat} {K : AVal → Heap → Prop} {a0 a1 : AVal} {H : Heap} (h : F85 (Ahs.runT ap n) lim n K a0 a1 H) : ∃ v H', Ahs.runT ap (n + 1) lim (.fn 85) [a0, a1] H = some (v, H') ∧ K v H' := by
  rw [F85_eq] at h
  exact run_of_W hf (by kernel_rfl) (by kernel_rfl) (execI_sound f85.body _ _ _ _ (F85_ob _ _ _ K) (fun _ _ _ h => h) h)
def F86_j0 (R : Caller) (lim n : Nat) (K : AVal → Heap → Prop) (t9 : AVal) (H : Heap) : Prop :=
K t9 H
def F86_j1 (R : Caller) (lim n : Nat) (K : AVal → Heap → Prop) (rec0 : AVal → AVal → AVal → AVal → Heap → Prop) (t0 t1 t9 t10 : AVal) (H : Heap) : Prop :=
bindP (abin .gtr t9 t10) fun v238 =>
bindP (boolOf v238) fun b239 =>
(b239 = true → (F86_j0 R lim n K t9 H)) ∧
(b239 = false → (bindP (aindexAddr none 1 t0 t10) fun v240 =>
bindP (aload H none v240) fun v241 =>
bindP (aindexAddr none 1 t0 t9) fun v242 =>
bindP (aload H none v242) fun v243 =>
bindP (aindexAddr none 1 t0 t9) fun v244 =>
bindP (astore lim H 1 v244 v241) fun H245 =>
bindP (aindexAddr none 1 t0 t10) fun v246 =>
bindP (astore lim H245 1 v246 v243) fun H247 =>
bindP (abin .add t9 (.int .i64 1)) fun v248 =>
bindP (abin .sub t10 (.int .i64 1)) fun v249 =>
rec0 t0 t1 v248 v249 H247))
def F86_s4 (R : Caller) (lim n : Nat) (K : AVal → Heap → Prop) (rec0 : AVal → AVal → AVal → AVal → Heap → Prop) (rec4 : AVal → AVal → AVal → AVal → Heap → Prop) (t0 t1 t9 t10 : AVal) (H : Heap) : Prop :=
bindP (abin .leq t9 t10) fun v250 =>
bindP (gd (some (v250, true)) (some t0)) fun v251 =>
bindP (gd (some (v250, true)) (some t1)) fun v252 =>
bindP (gd (some (v250, true)) (aindexAddr none 1 v251 v252)) fun v253 =>
bindP (gd (some (v250, true)) (aload H none v253)) fun v254 =>
bindP (gd (some (v250, true)) (some t0)) fun v255 =>
bindP (gd (some (v250, true)) (some t10)) fun v256 =>
bindP (gd (some (v250, true)) (aindexAddr none 1 v255 v256)) fun v257 =>
bindP (gd (some (v250, true)) (aload H none v257)) fun v258 =>
bind2 (gd2 (some (v250, true)) H (R lim (.fn 85) [v254, v258] H)) fun v259 H260 =>
bindP (pickO v250 v259 (.bool false)) fun v261 =>
bindP (boolOf v261) fun b262 =>
(b262 = true → (bindP (abin .sub t10 (.int .i64 1)) fun v263 =>
rec4 t0 t1 t9 v263 H260)) ∧
(b262 = false → (F86_j1 R lim n K rec0 t0 t1 t9 t10 H260))
def F86_l4 (R : Caller) (lim n : Nat) (K : AVal → Heap → Prop) (rec0 : AVal → AVal → AVal → AVal → Heap → Prop) : Nat → AVal → AVal → AVal → AVal → Heap → Prop
  | 0, _, _, _, _, _ => False
  | m + 1, t0, t1, t9, t10, H => F86_s4 R lim n K rec0 (F86_l4 R lim n K rec0 m) t0 t1 t9 t10 H
def F86_j2 (R : Caller) (lim n : Nat) (K : AVal → Heap → Prop) (rec0 : AVal → AVal → AVal → AVal → Heap → Prop) (t0 t1 t9 t10 : AVal) (H : Heap) : Prop :=
F86_l4 R lim n K rec0 n t0 t1 t9 t10 H
def F86_s2 (R : Caller) (lim n : Nat) (K : AVal → Heap → Prop) (rec0 : AVal → AVal → AVal → AVal → Heap → Prop) (rec2 : AVal → AVal → AVal → AVal → Heap → Prop) (t0 t1 t9 t10 : AVal) (H : Heap) : Prop :=
bindP (abin .leq t9 t10) fun v264 =>
bindP (gd (some (v264, true)) (some t0)) fun v265 =>
bindP (gd (some (v264, true)) (some t1)) fun v266 =>
bindP (gd (some (v264, true)) (aindexAddr none 1 v265 v266)) fun v267 =>
bindP (gd (some (v264, true)) (aload H none v267)) fun v268 =>
bindP (gd (some (v264, true)) (some t0)) fun v269 =>
bindP (gd (some (v264, true)) (some t9)) fun v270 =>
bindP (gd (some (v264, true)) (aindexAddr none 1 v269 v270)) fun v271 =>
bindP (gd (some (v264, true)) (aload H none v271)) fun v272 =>
bind2 (gd2 (some (v264, true)) H (R lim (.fn 85) [v268, v272] H)) fun v273 H274 =>
bindP (gd (some (v264, true)) (aun .not v273)) fun v275 =>
bindP (pickO v264 v275 (.bool false)) fun v276 =>
bindP (boolOf v276) fun b277 =>
(b277 = true → (bindP (abin .add t9 (.int .i64 1)) fun v278 =>
rec2 t0 t1 v278 t10 H274)) ∧
(b277 = false → (F86_j2 R lim n K rec0 t0 t1 t9 t10 H274))
def F86_l2 (R : Caller) (lim n : Nat) (K : AVal → Heap → Prop) (rec0 : AVal → AVal → AVal → AVal → Heap → Prop) : Nat → AVal → AVal → AVal → AVal → Heap → Prop
  | 0, _, _, _, _, _ => False
  | m + 1, t0, t1, t9, t10, H => F86_s2 R lim n K rec0 (F86_l2 R lim n K rec0 m) t0 t1 t9 t10 H
def F86_s0 (R : Caller) (lim n : Nat) (K : AVal → Heap → Prop) (rec0 : AVal → AVal → AVal → AVal → Heap → Prop) (t0 t1 t9 t10 : AVal) (H : Heap) : Prop :=
F86_l2 R lim n K rec0 n t0 t1 t9 t10 H
def F86_l0 (R : Caller) (lim n : Nat) (K : AVal → Heap → Prop) : Nat → AVal → AVal → AVal → AVal → Heap → Prop
  | 0, _, _, _, _, _ => False
  | m + 1, t0, t1, t9, t10, H => F86_s0 R lim n K (F86_l0 R lim n K m) t0 t1 t9 t10 H
def F86 (R : Caller) (lim n : Nat) (K : AVal → Heap → Prop) (a0 a1 a2 a3 : AVal) (H : Heap) : Prop :=
bindP (aindexAddr none 1 a0 a3) fun v1 =>
bindP (aload H none v1) fun v2 =>
bindP (aindexAddr none 1 a0 a1) fun v3 =>
bindP (aload H none v3) fun v4 =>
bindP (aindexAddr none 1 a0 a1) fun v5 =>
bindP (astore lim H 1 v5 v2) fun H6 =>
bindP (aindexAddr none 1 a0 a3) fun v7 =>
bindP (astore lim H6 1 v7 v4) fun H8 =>
bindP (abin .add a1 (.int .i64 1)) fun v9 =>
bindP (abin .sub a2 (.int .i64 1)) fun v10 =>
F86_l0 R lim n K n a0 a1 v9 v10 H8
def F86_Lp (R : Caller) (lim n : Nat) (K : AVal → Heap → Prop) : Nat → Tm → Heap → Prop
  | 0, T, H => F86_l0 R lim n K n (T 0) (T 1) (T 9) (T 10) H
  | _, _, _ => False
def F86_Lp0 (R : Caller) (lim n : Nat) (K : AVal → Heap → Prop) (rec0 : AVal → AVal → AVal → AVal → Heap → Prop) : Nat → Tm → Heap → Prop
  | 2, T, H => F86_l2 R lim n K rec0 n (T 0) (T 1) (T 9) (T 10) H
  | 4, T, H => F86_l4 R lim n K rec0 n (T 0) (T 1) (T 9) (T 10) H
  | _, _, _ => False
def F86_Lp2 (R : Caller) (lim n : Nat) (K : AVal → Heap → Prop) (rec0 : AVal → AVal → AVal → AVal → Heap → Prop) (rec2 : AVal → AVal → AVal → AVal → Heap → Prop) : Nat → Tm → Heap → Prop
  | _, _, _ => False
def F86_Lp4 (R : Caller) (lim n : Nat) (K : AVal → Heap → Prop) (rec0 : AVal → AVal → AVal → AVal → Heap → Prop) (rec4 : AVal → AVal → AVal → AVal → Heap → Prop) : Nat → Tm → Heap → Prop
  | _, _, _ => False
def F86_k0 (R : Caller) (lim n : Nat) (K : AVal → Heap → Prop) (rec0 : AVal → AVal → AVal → AVal → Heap → Prop) : Kt := fun ex T H => match ex with
  | .norm => rec0 (T 0) (T 1) (T 9) (T 10) H
  | ex => (kBlk 0 (kSeq (execI R lim n 84 (F86_Lp R lim n K) f86_p1) (retW [(.tmp 8)] K))) ex T H
def F86_k4 (R : Caller) (lim n : Nat) (K : AVal → Heap → Prop) (rec0 : AVal → AVal → AVal → AVal → Heap → Prop) (rec4 : AVal → AVal → AVal → AVal → Heap → Prop) : Kt := fun ex T H => match ex with
  | .norm => rec4 (T 0) (T 1) (T 9) (T 10) H
  | ex => (kBlk 4 (kSeq (execI R lim n 84 (F86_Lp0 R lim n K rec0) f86_p3) (kBlk 1 (F86_k0 R lim n K rec0)))) ex T H
theorem F86_s4_eq (R : Caller) (lim n : Nat) (K : AVal → Heap → Prop) (rec0 : AVal → AVal → AVal → AVal → Heap → Prop) (rec4 : AVal → AVal → AVal → AVal → Heap → Prop) (T : Tm) (H : Heap) : F86_s4 R lim n K rec0 rec4 (T 0) (T 1) (T 9) (T 10) H = execI R lim n 84 (F86_Lp4 R lim n K rec0 rec4) f86_p2 T H (F86_k4 R lim n K rec0 rec4) := by kernel_rfl
theorem F86_l4_ok (R : Caller) (lim n : Nat) (K : AVal → Heap → Prop) (rec0 : AVal → AVal → AVal → AVal → Heap → Prop) {kw : Kt} (hk : ∀ ex T H, (kBlk 4 (kSeq (execI R lim n 84 (F86_Lp0 R lim n K rec0) f86_p3) (kBlk 1 (F86_k0 R lim n K rec0)))) ex T H → kw ex T H) : ∀ (m : Nat) (T : Tm) (H : Heap), F86_l4 R lim n K rec0 m (T 0) (T 1) (T 9) (T 10) H → loopW (execW R lim n 84 f86_p2) m T H kw
  | 0, _, _, h => False.elim h
  | m + 1, T, H, h => by
    have hb : ∀ ex T H, F86_k4 R lim n K rec0 (F86_l4 R lim n K rec0 m) ex T H → (fun ex T H => match ex with | .norm => loopW (execW R lim n 84 f86_p2) m T H kw | ex => kw ex T H : Kt) ex T H := by
      intro ex T H h
      cases ex with
      | norm => exact F86_l4_ok R lim n K rec0 hk m T H h
      | exit i => exact hk _ _ _ h
      | ret => exact hk _ _ _ h
    have h' : F86_s4 R lim n K rec0 (F86_l4 R lim n K rec0 m) (T 0) (T 1) (T 9) (T 10) H := h
    rw [F86_s4_eq] at h'
    exact execI_sound f86_p2 T H _ _ (oblig_nl (by kernel_rfl)) hb h'
def F86_k2 (R : Caller) (lim n : Nat) (K : AVal → Heap → Prop) (rec0 : AVal → AVal → AVal → AVal → Heap → Prop) (rec2 : AVal → AVal → AVal → AVal → Heap → Prop) : Kt := fun ex T H => match ex with
  | .norm => rec2 (T 0) (T 1) (T 9) (T 10) H
  | ex => (kBlk 2 (kSeq (execI R lim n 84 (F86_Lp0 R lim n K rec0) f86_p5) (kBlk 1 (F86_k0 R lim n K rec0)))) ex T H
theorem F86_s2_eq (R : Caller) (lim n : Nat) (K : AVal → Heap → Prop) (rec0 : AVal → AVal → AVal → AVal → Heap → Prop) (rec2 : AVal → AVal → AVal → AVal → Heap → Prop) (T : Tm) (H : Heap) : F86_s2 R lim n K rec0 rec2 (T 0) (T 1) (T 9) (T 10) H = execI R lim n 84 (F86_Lp2 R lim n K rec0 rec2) f86_p4 T H (F86_k2 R lim n K rec0 rec2) := by kernel_rfl
theorem F86_l2_ok (R : Caller) (lim n : Nat) (K : AVal → Heap → Prop) (rec0 : AVal → AVal → AVal → AVal → Heap → Prop) {kw : Kt} (hk : ∀ ex T H, (kBlk 2 (kSeq (execI R lim n 84 (F86_Lp0 R lim n K rec0) f86_p5) (kBlk 1 (F86_k0 R lim n K rec0)))) ex T H → kw ex T H) : ∀ (m : Nat) (T : Tm) (H : Heap), F86_l2 R lim n K rec0 m (T 0) (T 1) (T 9) (T 10) H → loopW (execW R lim n 84 f86_p4) m T H kw
  | 0, _, _, h => False.elim h
  | m + 1, T, H, h => by
    have hb : ∀ ex T H, F86_k2 R lim n K rec0 (F86_l2 R lim n K rec0 m) ex T H → (fun ex T H => match ex with | .norm => loopW (execW R lim n 84 f86_p4) m T H kw | ex => kw ex T H : Kt) ex T H := by
      intro ex T H h
      cases ex with
      | norm => exact F86_l2_ok R lim n K rec0 hk m T H h
      | exit i => exact hk _ _ _ h
      | ret => exact hk _ _ _ h
    have h' : F86_s2 R lim n K rec0 (F86_l2 R lim n K rec0 m) (T 0) (T 1) (T 9) (T 10) H := h
    rw [F86_s2_eq] at h'
    exact execI_sound f86_p4 T H _ _ (oblig_nl (by kernel_rfl)) hb h'
theorem F86_s0_eq (R : Caller) (lim n : Nat) (K : AVal → Heap → Prop) (rec0 : AVal → AVal → AVal → AVal → Heap → Prop) (T : Tm) (H : Heap) : F86_s0 R lim n K rec0 (T 0) (T 1) (T 9) (T 10) H = execI R lim n 84 (F86_Lp0 R lim n K rec0) f86_p0 T H (F86_k0 R lim n K rec0) := by kernel_rfl
theorem F86_l0_ok (R : Caller) (lim n : Nat) (K : AVal → Heap → Prop) {kw : Kt} (hk : ∀ ex T H, (kBlk 0 (kSeq (execI R lim n 84 (F86_Lp R lim n K) f86_p1) (retW [(.tmp 8)] K))) ex T H → kw ex T H) : ∀ (m : Nat) (T : Tm) (H : Heap), F86_l0 R lim n K m (T 0) (T 1) (T 9) (T 10) H → loopW (execW R lim n 84 f86_p0) m T H kw
  | 0, _, _, h => False.elim h
  | m + 1, T, H, h => by
    have hb : ∀ ex T H, F86_k0 R lim n K (F86_l0 R lim n K m) ex T H → (fun ex T H => match ex with | .norm => loopW (execW R lim n 84 f86_p0) m T H kw | ex => kw ex T H : Kt) ex T H := by
      intro ex T H h
      cases ex with
      | norm => exact F86_l0_ok R lim n K hk m T H h
      | exit i => exact hk _ _ _ h
      | ret => exact hk _ _ _ h
    have h' : F86_s0 R lim n K (F86_l0 R lim n K m) (T 0) (T 1) (T 9) (T 10) H := h
    rw [F86_s0_eq] at h'
    exact execI_sound f86_p0 T H _ _ ⟨(fun T H h => F86_l2_ok R lim n K (F86_l0 R lim n K m) (kBlk_mono (kSeqI_sound ⟨(fun T H h => F86_l4_ok R lim n K (F86_l0 R lim n K m) (kBlk_mono (kSeqI_sound (oblig_nl (by kernel_rfl)) (kBlk_mono (hb)))) _ T H h), (oblig_nl (by kernel_rfl))⟩ (kBlk_mono (hb)))) _ T H h), ⟨(fun T H h => F86_l4_ok R lim n K (F86_l0 R lim n K m) (kBlk_mono (kSeqI_sound (oblig_nl (by kernel_rfl)) (kBlk_mono (hb)))) _ T H h), (oblig_nl (by kernel_rfl))⟩⟩ hb h'
theorem F86_eq (R : Caller) (lim n : Nat) (K : AVal → Heap → Prop) (a0 a1 a2 a3 : AVal) (H : Heap) : F86 R lim n K a0 a1 a2 a3 H = execI R lim n 84 (F86_Lp R lim n K) f86.body (argT [a0, a1, a2, a3]) H (retW [(.tmp 8)] K) := by kernel_rfl
theorem F86_ob (R : Caller) (lim n : Nat) (K : AVal → Heap → Prop) : Oblig R lim n 84 (F86_Lp R lim n K) f86.body (retW [(.tmp 8)] K) := ⟨(oblig_nl (by kernel_rfl)), ⟨(oblig_nl (by kernel_rfl)), ⟨(oblig_nl (by kernel_rfl)), ⟨(fun T H h => F86_l0_ok R lim n K (kBlk_mono (kSeqI_sound (oblig_nl (by kernel_rfl)) (fun _ _ _ h => h))) _ T H h), (oblig_nl (by kernel_rfl))⟩⟩⟩⟩
theorem F86_run {ap : FuncId → Option AFn} (hf : ap 86 = some (.code f86)) {n lim : Nat} {K : AVal → Heap → Prop} {a0 a1 a2 a3 : AVal} {H : Heap} (h : F86 (Ahs.runT ap n) lim n K a0 a1 a2 a3 H) : ∃ v H', Ahs.runT ap (n + 1) lim (.fn 86) [a0, a1, a2, a3] H = some (v, H') ∧ K v H' := by
  rw [F86_eq] at h
  exact run_of_W hf (by kernel_rfl) (by kernel_rfl) (execI_sound f86.body _ _ _ _ (F86_ob _ _ _ K) (fun _ _ _ h => h) h)
def F87_j0 (R : Caller) (lim n : Nat) (K : AVal → Heap → Prop) (t0 t1 t11 : AVal) (H : Heap) : Prop :=
bindP (aindexAddr none 1 t0 t1) fun v1158 =>
bindP (aload H none v1158) fun v1159 =>
bindP (aindexAddr none 1 t0 t11) fun v1160 =>
bindP (aload H none v1160) fun v1161 =>
bindP (aindexAddr none 1 t0 t11) fun v1162 =>
bindP (astore lim H 1 v1162 v1159) fun H1163 =>
bindP (aindexAddr none 1 t0 t1) fun v1164 =>
bindP (astore lim H1163 1 v1164 v1161) fun H1165 =>
K (.tup [t11, (.bool false)]) H1165
def F87_j1 (R : Caller) (lim n : Nat) (K : AVal → Heap → Prop) (rec4 : AVal → AVal → AVal → AVal → Heap → Prop) (t0 t1 t10 t11 : AVal) (H : Heap) : Prop :=
bindP (abin .gtr t10 t11) fun v1261 =>
bindP (boolOf v1261) fun b1262 =>
(b1262 = true → (F87_j0 R lim n K t0 t1 t11 H)) ∧
(b1262 = false → (bindP (aindexAddr none 1 t0 t11) fun v1263 =>
bindP (aload H none v1263) fun v1264 =>
bindP (aindexAddr none 1 t0 t10) fun v1265 =>
bindP (aload H none v1265) fun v1266 =>
bindP (aindexAddr none 1 t0 t10) fun v1267 =>
bindP (astore lim H 1 v1267 v1264) fun H1268 =>
bindP (aindexAddr none 1 t0 t11) fun v1269 =>
bindP (astore lim H1268 1 v1269 v1266) fun H1270 =>
bindP (abin .add t10 (.int .i64 1)) fun v1271 =>
bindP (abin .sub t11 (.int .i64 1)) fun v1272 =>
rec4 t0 t1 v1271 v1272 H1270))
def F87_s8 (R : Caller) (lim n : Nat) (K : AVal → Heap → Prop) (rec4 : AVal → AVal → AVal → AVal → Heap → Prop) (rec8 : AVal → AVal → AVal → AVal → Heap → Prop) (t0 t1 t10 t11 : AVal) (H : Heap) : Prop :=
bindP (abin .leq t10 t11) fun v1273 =>
bindP (gd (some (v1273, true)) (some t0)) fun v1274 =>
bindP (gd (some (v1273, true)) (some t11)) fun v1275 =>
bindP (gd (some (v1273, true)) (aindexAddr none 1 v1274 v1275)) fun v1276 =>
bindP (gd (some (v1273, true)) (aload H none v1276)) fun v1277 =>
bindP (gd (some (v1273, true)) (some t0)) fun v1278 =>
bindP (gd (some (v1273, true)) (some t1)) fun v1279 =>
bindP (gd (some (v1273, true)) (aindexAddr none 1 v1278 v1279)) fun v1280 =>
bindP (gd (some (v1273, true)) (aload H none v1280)) fun v1281 =>
bind2 (gd2 (some (v1273, true)) H (R lim (.fn 85) [v1277, v1281] H)) fun v1282 H1283 =>
bindP (gd (some (v1273, true)) (aun .not v1282)) fun v1284 =>
bindP (pickO v1273 v1284 (.bool false)) fun v1285 =>
bindP (boolOf v1285) fun b1286 =>
(b1286 = true → (bindP (abin .sub t11 (.int .i64 1)) fun v1287 =>
rec8 t0 t1 t10 v1287 H1283)) ∧
(b1286 = false → (F87_j1 R lim n K rec4 t0 t1 t10 t11 H1283))
def F87_l8 (R : Caller) (lim n : Nat) (K : AVal → Heap → Prop) (rec4 : AVal → AVal → AVal → AVal → Heap → Prop) : Nat → AVal → AVal → AVal → AVal → Heap → Prop
  | 0, _, _, _, _, _ => False
  | m + 1, t0, t1, t10, t11, H => F87_s8 R lim n K rec4 (F87_l8 R lim n K rec4 m) t0 t1 t10 t11 H
def F87_j2 (R : Caller) (lim n : Nat) (K : AVal → Heap → Prop) (rec4 : AVal → AVal → AVal → AVal → Heap → Prop) (t0 t1 t10 t11 : AVal) (H : Heap) : Prop :=
F87_l8 R lim n K rec4 n t0 t1 t10 t11 H
def F87_s6 (R : Caller) (lim n : Nat) (K : AVal → Heap → Prop) (rec4 : AVal → AVal → AVal → AVal → Heap → Prop) (rec6 : AVal → AVal → AVal → AVal → Heap → Prop) (t0 t1 t10 t11 : AVal) (H : Heap) : Prop :=
bindP (abin .leq t10 t11) fun v1288 =>
bindP (gd (some (v1288, true)) (some t0)) fun v1289 =>
bindP (gd (some (v1288, true)) (some t10)) fun v1290 =>
bindP (gd (some (v1288, true)) (aindexAddr none 1 v1289 v1290)) fun v1291 =>
bindP (gd (some (v1288, true)) (aload H none v1291)) fun v1292 =>
bindP (gd (some (v1288, true)) (some t0)) fun v1293 =>
bindP (gd (some (v1288, true)) (some t1)) fun v1294 =>
bindP (gd (some (v1288, true)) (aindexAddr none 1 v1293 v1294)) fun v1295 =>
bindP (gd (some (v1288, true)) (aload H none v1295)) fun v1296 =>
bind2 (gd2 (some (v1288, true)) H (R lim (.fn 85) [v1292, v1296] H)) fun v1297 H1298 =>
bindP (pickO v1288 v1297 (.bool false)) fun v1299 =>
bindP (boolOf v1299) fun b1300 =>
(b1300 = true → (bindP (abin .add t10 (.int .i64 1)) fun v1301 =>
rec6 t0 t1 v1301 t11 H1298)) ∧
(b1300 = false → (F87_j2 R lim n K rec4 t0 t1 t10 t11 H1298))
def F87_l6 (R : Caller) (lim n : Nat) (K : AVal → Heap → Prop) (rec4 : AVal → AVal → AVal → AVal → Heap → Prop) : Nat → AVal → AVal → AVal → AVal → Heap → Prop
  | 0, _, _, _, _, _ => False
  | m + 1, t0, t1, t10, t11, H => F87_s6 R lim n K rec4 (F87_l6 R lim n K rec4 m) t0 t1 t10 t11 H
def F87_s4 (R : Caller) (lim n : Nat) (K : AVal → Heap → Prop) (rec4 : AVal → AVal → AVal → AVal → Heap → Prop) (t0 t1 t10 t11 : AVal) (H : Heap) : Prop :=
F87_l6 R lim n K rec4 n t0 t1 t10 t11 H
def F87_l4 (R : Caller) (lim n : Nat) (K : AVal → Heap → Prop) : Nat → AVal → AVal → AVal → AVal → Heap → Prop
  | 0, _, _, _, _, _ => False
  | m + 1, t0, t1, t10, t11, H => F87_s4 R lim n K (F87_l4 R lim n K m) t0 t1 t10 t11 H
def F87_j3 (R : Caller) (lim n : Nat) (K : AVal → Heap → Prop) (t0 t1 t10 t11 : AVal) (H : Heap) : Prop :=
bindP (abin .gtr t10 t11) fun v994 =>
bindP (boolOf v994) fun b995 =>
(b995 = true → (bindP (aindexAddr none 1 t0 t1) fun v996 =>
bindP (aload H none v996) fun v997 =>
bindP (aindexAddr none 1 t0 t11) fun v998 =>
bindP (aload H none v998) fun v999 =>
bindP (aindexAddr none 1 t0 t11) fun v1000 =>
bindP (astore lim H 1 v1000 v997) fun H1001 =>
bindP (aindexAddr none 1 t0 t1) fun v1002 =>
bindP (astore lim H1001 1 v1002 v999) fun H1003 =>
K (.tup [t11, (.bool true)]) H1003)) ∧
(b995 = false → (bindP (aindexAddr none 1 t0 t11) fun v1004 =>
bindP (aload H none v1004) fun v1005 =>
bindP (aindexAddr none 1 t0 t10) fun v1006 =>
bindP (aload H none v1006) fun v1007 =>
bindP (aindexAddr none 1 t0 t10) fun v1008 =>
bindP (astore lim H 1 v1008 v1005) fun H1009 =>
bindP (aindexAddr none 1 t0 t11) fun v1010 =>
bindP (astore lim H1009 1 v1010 v1007) fun H1011 =>
bindP (abin .add t10 (.int .i64 1)) fun v1012 =>
bindP (abin .sub t11 (.int .i64 1)) fun v1013 =>
F87_l4 R lim n K n t0 t1 v1012 v1013 H1011))
def F87_s2 (R : Caller) (lim n : Nat) (K : AVal → Heap → Prop) (rec2 : AVal → AVal → AVal → AVal → Heap → Prop) (t0 t1 t10 t11 : AVal) (H : Heap) : Prop :=
bindP (abin .leq t10 t11) fun v1302 =>
bindP (gd (some (v1302, true)) (some t0)) fun v1303 =>
bindP (gd (some (v1302, true)) (some t11)) fun v1304 =>
bindP (gd (some (v1302, true)) (aindexAddr none 1 v1303 v1304)) fun v1305 =>
bindP (gd (some (v1302, true)) (aload H none v1305)) fun v1306 =>
bindP (gd (some (v1302, true)) (some t0)) fun v1307 =>
bindP (gd (some (v1302, true)) (some t1)) fun v1308 =>
bindP (gd (some (v1302, true)) (aindexAddr none 1 v1307 v1308)) fun v1309 =>
bindP (gd (some (v1302, true)) (aload H none v1309)) fun v1310 =>
bind2 (gd2 (some (v1302, true)) H (R lim (.fn 85) [v1306, v1310] H)) fun v1311 H1312 =>
bindP (gd (some (v1302, true)) (aun .not v1311)) fun v1313 =>
bindP (pickO v1302 v1313 (.bool false)) fun v1314 =>
bindP (boolOf v1314) fun b1315 =>
(b1315 = true → (bindP (abin .sub t11 (.int .i64 1)) fun v1316 =>
rec2 t0 t1 t10 v1316 H1312)) ∧
(b1315 = false → (F87_j3 R lim n K t0 t1 t10 t11 H1312))
def F87_l2 (R : Caller) (lim n : Nat) (K : AVal → Heap → Prop) : Nat → AVal → AVal → AVal → AVal → Heap → Prop
  | 0, _, _, _, _, _ => False
  | m + 1, t0, t1, t10, t11, H => F87_s2 R lim n K (F87_l2 R lim n K m) t0 t1 t10 t11 H
def F87_j4 (R : Caller) (lim n : Nat) (K : AVal → Heap → Prop) (t0 t1 t10 t11 : AVal) (H : Heap) : Prop :=
F87_l2 R lim n K n t0 t1 t10 t11 H
def F87_s0 (R : Caller) (lim n : Nat) (K : AVal → Heap → Prop) (rec0 : AVal → AVal → AVal → AVal → Heap → Prop) (t0 t1 t10 t11 : AVal) (H : Heap) : Prop :=
bindP (abin .leq t10 t11) fun v1317 =>
bindP (gd (some (v1317, true)) (some t0)) fun v1318 =>
bindP (gd (some (v1317, true)) (some t10)) fun v1319 =>
bindP (gd (some (v1317, true)) (aindexAddr none 1 v1318 v1319)) fun v1320 =>
bindP (gd (some (v1317, true)) (aload H none v1320)) fun v1321 =>
bindP (gd (some (v1317, true)) (some t0)) fun v1322 =>
bindP (gd (some (v1317, true)) (some t1)) fun v1323 =>
bindP (gd (some (v1317, true)) (aindexAddr none 1 v1322 v1323)) fun v1324 =>
bindP (gd (some (v1317, true)) (aload H none v1324)) fun v1325 =>
bind2 (gd2 (some (v1317, true)) H (R lim (.fn 85) [v1321, v1325] H)) fun v1326 H1327 =>
bindP (pickO v1317 v1326 (.bool false)) fun v1328 =>
bindP (boolOf v1328) fun b1329 =>
(b1329 = true → (bindP (abin .add t10 (.int .i64 1)) fun v1330 =>
rec0 t0 t1 v1330 t11 H1327)) ∧
(b1329 = false → (F87_j4 R lim n K t0 t1 t10 t11 H1327))
def F87_l0 (R : Caller) (lim n : Nat) (K : AVal → Heap → Prop) : Nat → AVal → AVal → AVal → AVal → Heap → Prop
  | 0, _, _, _, _, _ => False
  | m + 1, t0, t1, t10, t11, H => F87_s0 R lim n K (F87_l0 R lim n K m) t0 t1 t10 t11 H
def F87 (R : Caller) (lim n : Nat) (K : AVal → Heap → Prop) (a0 a1 a2 a3 : AVal) (H : Heap) : Prop :=
bindP (aindexAddr none 1 a0 a3) fun v1 =>
bindP (aload H none v1) fun v2 =>
bindP (aindexAddr none 1 a0 a1) fun v3 =>
bindP (aload H none v3) fun v4 =>
bindP (aindexAddr none 1 a0 a1) fun v5 =>
bindP (astore lim H 1 v5 v2) fun H6 =>
bindP (aindexAddr none 1 a0 a3) fun v7 =>
bindP (astore lim H6 1 v7 v4) fun H8 =>
bindP (abin .add a1 (.int .i64 1)) fun v9 =>
bindP (abin .sub a2 (.int .i64 1)) fun v10 =>
F87_l0 R lim n K n a0 a1 v9 v10 H8
def F87_Lp (R : Caller) (lim n : Nat) (K : AVal → Heap → Prop) : Nat → Tm → Heap → Prop
  | 0, T, H => F87_l0 R lim n K n (T 0) (T 1) (T 10) (T 11) H
  | 2, T, H => F87_l2 R lim n K n (T 0) (T 1) (T 10) (T 11) H
  | 4, T, H => F87_l4 R lim n K n (T 0) (T 1) (T 10) (T 11) H
  | _, _, _ => False
def F87_Lp0 (R : Caller) (lim n : Nat) (K : AVal → Heap → Prop) (rec0 : AVal → AVal → AVal → AVal → Heap → Prop) : Nat → Tm → Heap → Prop
  | _, _, _ => False
def F87_Lp2 (R : Caller) (lim n : Nat) (K : AVal → Heap → Prop) (rec2 : AVal → AVal → AVal → AVal → Heap → Prop) : Nat → Tm → Heap → Prop
  | _, _, _ => False
def F87_Lp4 (R : Caller) (lim n : Nat) (K : AVal → Heap → Prop) (rec4 : AVal → AVal → AVal → AVal → Heap → Prop) : Nat → Tm → Heap → Prop
  | 6, T, H => F87_l6 R lim n K rec4 n (T 0) (T 1) (T 10) (T 11) H
  | 8, T, H => F87_l8 R lim n K rec4 n (T 0) (T 1) (T 10) (T 11) H
  | _, _, _ => False
def F87_Lp6 (R : Caller) (lim n : Nat) (K : AVal → Heap → Prop) (rec4 : AVal → AVal → AVal → AVal → Heap → Prop) (rec6 : AVal → AVal → AVal → AVal → Heap → Prop) : Nat → Tm → Heap → Prop
  | _, _, _ => False
def F87_Lp8 (R : Caller) (lim n : Nat) (K : AVal → Heap → Prop) (rec4 : AVal → AVal → AVal → AVal → Heap → Prop) (rec8 : AVal → AVal → AVal → AVal → Heap → Prop) : Nat → Tm → Heap → Prop
  | _, _, _ => False
def F87_k4 (R : Caller) (lim n : Nat) (K : AVal → Heap → Prop) (rec4 : AVal → AVal → AVal → AVal → Heap → Prop) : Kt := fun ex T H => match ex with
  | .norm => rec4 (T 0) (T 1) (T 10) (T 11) H
  | ex => (kBlk 4 (kSeq (execI R lim n 168 (F87_Lp R lim n K) f87_p1) (retW [(.tmp 8), (.tmp 9)] K))) ex T H
def F87_k8 (R : Caller) (lim n : Nat) (K : AVal → Heap → Prop) (rec4 : AVal → AVal → AVal → AVal → Heap → Prop) (rec8 : AVal → AVal → AVal → AVal → Heap → Prop) : Kt := fun ex T H => match ex with
  | .norm => rec8 (T 0) (T 1) (T 10) (T 11) H
  | ex => (kBlk 8 (kSeq (execI R lim n 168 (F87_Lp4 R lim n K rec4) f87_p3) (kBlk 5 (F87_k4 R lim n K rec4)))) ex T H
theorem F87_s8_eq (R : Caller) (lim n : Nat) (K : AVal → Heap → Prop) (rec4 : AVal → AVal → AVal → AVal → Heap → Prop) (rec8 : AVal → AVal → AVal → AVal → Heap → Prop) (T : Tm) (H : Heap) : F87_s8 R lim n K rec4 rec8 (T 0) (T 1) (T 10) (T 11) H = execI R lim n 168 (F87_Lp8 R lim n K rec4 rec8) f87_p2 T H (F87_k8 R lim n K rec4 rec8) := by kernel_rfl
theorem F87_l8_ok (R : Caller) (lim n : Nat) (K : AVal → Heap → Prop) (rec4 : AVal → AVal → AVal → AVal → Heap → Prop) {kw : Kt} (hk : ∀ ex T H, (kBlk 8 (kSeq (execI R lim n 168 (F87_Lp4 R lim n K rec4) f87_p3) (kBlk 5 (F87_k4 R lim n K rec4)))) ex T H → kw ex T H) : ∀ (m : Nat) (T : Tm) (H : Heap), F87_l8 R lim n K rec4 m (T 0) (T 1) (T 10) (T 11) H → loopW (execW R lim n 168 f87_p2) m T H kw
  | 0, _, _, h => False.elim h
  | m + 1, T, H, h => by
    have hb : ∀ ex T H, F87_k8 R lim n K rec4 (F87_l8 R lim n K rec4 m) ex T H → (fun ex T H => match ex with | .norm => loopW (execW R lim n 168 f87_p2) m T H kw | ex => kw ex T H : Kt) ex T H := by
      intro ex T H h
      cases ex with
      | norm => exact F87_l8_ok R lim n K rec4 hk m T H h
      | exit i => exact hk _ _ _ h
      | ret => exact hk _ _ _ h
    have h' : F87_s8 R lim n K rec4 (F87_l8 R lim n K rec4 m) (T 0) (T 1) (T 10) (T 11) H := h
    rw [F87_s8_eq] at h'
    exact execI_sound f87_p2 T H _ _ (oblig_nl (by kernel_rfl)) hb h'
def F87_k6 (R : Caller) (lim n : Nat) (K : AVal → Heap → Prop) (rec4 : AVal → AVal → AVal → AVal → Heap → Prop) (rec6 : AVal → AVal → AVal → AVal → Heap → Prop) : Kt := fun ex T H => match ex with
  | .norm => rec6 (T 0) (T 1) (T 10) (T 11) H
  | ex => (kBlk 6 (kSeq (execI R lim n 168 (F87_Lp4 R lim n K rec4) f87_p5) (kBlk 5 (F87_k4 R lim n K rec4)))) ex T H
theorem F87_s6_eq (R : Caller) (lim n : Nat) (K : AVal → Heap → Prop) (rec4 : AVal → AVal → AVal → AVal → Heap → Prop) (rec6 : AVal → AVal → AVal → AVal → Heap → Prop) (T : Tm) (H : Heap) : F87_s6 R lim n K rec4 rec6 (T 0) (T 1) (T 10) (T 11) H = execI R lim n 168 (F87_Lp6 R lim n K rec4 rec6) f87_p4 T H (F87_k6 R lim n K rec4 rec6) := by kernel_rfl
theorem F87_l6_ok (R : Caller) (lim n : Nat) (K : AVal → Heap → Prop) (rec4 : AVal → AVal → AVal → AVal → Heap → Prop) {kw : Kt} (hk : ∀ ex T H, (kBlk 6 (kSeq (execI R lim n 168 (F87_Lp4 R lim n K rec4) f87_p5) (kBlk 5 (F87_k4 R lim n K rec4)))) ex T H → kw ex T H) : ∀ (m : Nat) (T : Tm) (H : Heap), F87_l6 R lim n K rec4 m (T 0) (T 1) (T 10) (T 11) H → loopW (execW R lim n 168 f87_p4) m T H kw
  | 0, _, _, h => False.elim h
  | m + 1, T, H, h => by
    have hb : ∀ ex T H, F87_k6 R lim n K rec4 (F87_l6 R lim n K rec4 m) ex T H → (fun ex T H => match ex with | .norm => loopW (execW R lim n 168 f87_p4) m T H kw | ex => kw ex T H : Kt) ex T H := by
      intro ex T H h
      cases ex with
      | norm => exact F87_l6_ok R lim n K rec4 hk m T H h
      | exit i => exact hk _ _ _ h
      | ret => exact hk _ _ _ h
    have h' : F87_s6 R lim n K rec4 (F87_l6 R lim n K rec4 m) (T 0) (T 1) (T 10) (T 11) H := h
    rw [F87_s6_eq] at h'
    exact execI_sound f87_p4 T H _ _ (oblig_nl (by kernel_rfl)) hb h'
theorem F87_s4_eq (R : Caller) (lim n : Nat) (K : AVal → Heap → Prop) (rec4 : AVal → AVal → AVal → AVal → Heap → Prop) (T : Tm) (H : Heap) : F87_s4 R lim n K rec4 (T 0) (T 1) (T 10) (T 11) H = execI R lim n 168 (F87_Lp4 R lim n K rec4) f87_p0 T H (F87_k4 R lim n K rec4) := by kernel_rfl
theorem F87_l4_ok (R : Caller) (lim n : Nat) (K : AVal → Heap → Prop) {kw : Kt} (hk : ∀ ex T H, (kBlk 4 (kSeq (execI R lim n 168 (F87_Lp R lim n K) f87_p1) (retW [(.tmp 8), (.tmp 9)] K))) ex T H → kw ex T H) : ∀ (m : Nat) (T : Tm) (H : Heap), F87_l4 R lim n K m (T 0) (T 1) (T 10) (T 11) H → loopW (execW R lim n 168 f87_p0) m T H kw
  | 0, _, _, h => False.elim h
  | m + 1, T, H, h => by
    have hb : ∀ ex T H, F87_k4 R lim n K (F87_l4 R lim n K m) ex T H → (fun ex T H => match ex with | .norm => loopW (execW R lim n 168 f87_p0) m T H kw | ex => kw ex T H : Kt) ex T H := by
      intro ex T H h
      cases ex with
      | norm => exact F87_l4_ok R lim n K hk m T H h
      | exit i => exact hk _ _ _ h
      | ret => exact hk _ _ _ h
    have h' : F87_s4 R lim n K (F87_l4 R lim n K m) (T 0) (T 1) (T 10) (T 11) H := h
    rw [F87_s4_eq] at h'
    exact execI_sound f87_p0 T H _ _ ⟨(fun T H h => F87_l6_ok R lim n K (F87_l4 R lim n K m) (kBlk_mono (kSeqI_sound ⟨(fun T H h => F87_l8_ok R lim n K (F87_l4 R lim n K m) (kBlk_mono (kSeqI_sound (oblig_nl (by kernel_rfl)) (kBlk_mono (hb)))) _ T H h), (oblig_nl (by kernel_rfl))⟩ (kBlk_mono (hb)))) _ T H h), ⟨(fun T H h => F87_l8_ok R lim n K (F87_l4 R lim n K m) (kBlk_mono (kSeqI_sound (oblig_nl (by kernel_rfl)) (kBlk_mono (hb)))) _ T H h), (oblig_nl (by kernel_rfl))⟩⟩ hb h'
def F87_k2 (R : Caller) (lim n : Nat) (K : AVal → Heap → Prop) (rec2 : AVal → AVal → AVal → AVal → Heap → Prop) : Kt := fun ex T H => match ex with
  | .norm => rec2 (T 0) (T 1) (T 10) (T 11) H
  | ex => (kBlk 2 (kSeq (execI R lim n 168 (F87_Lp R lim n K) f87_p7) (retW [(.tmp 8), (.tmp 9)] K))) ex T H
theorem F87_s2_eq (R : Caller) (lim n : Nat) (K : AVal → Heap → Prop) (rec2 : AVal → AVal → AVal → AVal → Heap → Prop) (T : Tm) (H : Heap) : F87_s2 R lim n K rec2 (T 0) (T 1) (T 10) (T 11) H = execI R lim n 168 (F87_Lp2 R lim n K rec2) f87_p6 T H (F87_k2 R lim n K rec2) := by kernel_rfl
theorem F87_l2_ok (R : Caller) (lim n : Nat) (K : AVal → Heap → Prop) {kw : Kt} (hk : ∀ ex T H, (kBlk 2 (kSeq (execI R lim n 168 (F87_Lp R lim n K) f87_p7) (retW [(.tmp 8), (.tmp 9)] K))) ex T H → kw ex T H) : ∀ (m : Nat) (T : Tm) (H : Heap), F87_l2 R lim n K m (T 0) (T 1) (T 10) (T 11) H → loopW (execW R lim n 168 f87_p6) m T H kw
  | 0, _, _, h => False.elim h
  | m + 1, T, H, h => by
    have hb : ∀ ex T H, F87_k2 R lim n K (F87_l2 R lim n K m) ex T H → (fun ex T H => match ex with | .norm => loopW (execW R lim n 168 f87_p6) m T H kw | ex => kw ex T H : Kt) ex T H := by
      intro ex T H h
      cases ex with
      | norm => exact F87_l2_ok R lim n K hk m T H h
      | exit i => exact hk _ _ _ h
      | ret => exact hk _ _ _ h
    have h' : F87_s2 R lim n K (F87_l2 R lim n K m) (T 0) (T 1) (T 10) (T 11) H := h
    rw [F87_s2_eq] at h'
    exact execI_sound f87_p6 T H _ _ (oblig_nl (by kernel_rfl)) hb h'
def F87_k0 (R : Caller) (lim n : Nat) (K : AVal → Heap → Prop) (rec0 : AVal → AVal → AVal → AVal → Heap → Prop) : Kt := fun ex T H => match ex with
  | .norm => rec0 (T 0) (T 1) (T 10) (T 11) H
  | ex => (kBlk 0 (kSeq (execI R lim n 168 (F87_Lp R lim n K) f87_p9) (retW [(.tmp 8), (.tmp 9)] K))) ex T H
theorem F87_s0_eq (R : Caller) (lim n : Nat) (K : AVal → Heap → Prop) (rec0 : AVal → AVal → AVal → AVal → Heap → Prop) (T : Tm) (H : Heap) : F87_s0 R lim n K rec0 (T 0) (T 1) (T 10) (T 11) H = execI R lim n 168 (F87_Lp0 R lim n K rec0) f87_p8 T H (F87_k0 R lim n K rec0) := by kernel_rfl
theorem F87_l0_ok (R : Caller) (lim n : Nat) (K : AVal → Heap → Prop) {kw : Kt} (hk : ∀ ex T H, (kBlk 0 (kSeq (execI R lim n 168 (F87_Lp R lim n K) f87_p9) (retW [(.tmp 8), (.tmp 9)] K))) ex T H → kw ex T H) : ∀ (m : Nat) (T : Tm) (H : Heap), F87_l0 R lim n K m (T 0) (T 1) (T 10) (T 11) H → loopW (execW R lim n 168 f87_p8) m T H kw
  | 0, _, _, h => False.elim h
  | m + 1, T, H, h => by
    have hb : ∀ ex T H, F87_k0 R lim n K (F87_l0 R lim n K m) ex T H → (fun ex T H => match ex with | .norm => loopW (execW R lim n 168 f87_p8) m T H kw | ex => kw ex T H : Kt) ex T H := by
      intro ex T H h
      cases ex with
      | norm => exact F87_l0_ok R lim n K hk m T H h
      | exit i => exact hk _ _ _ h
      | ret => exact hk _ _ _ h
    have h' : F87_s0 R lim n K (F87_l0 R lim n K m) (T 0) (T 1) (T 10) (T 11) H := h
    rw [F87_s0_eq] at h'
    exact execI_sound f87_p8 T H _ _ (oblig_nl (by kernel_rfl)) hb h'
theorem F87_eq (R : Caller) (lim n : Nat) (K : AVal → Heap → Prop) (a0 a1 a2 a3 : AVal) (H : Heap) : F87 R lim n K a0 a1 a2 a3 H = execI R lim n 168 (F87_Lp R lim n K) f87.body (argT [a0, a1, a2, a3]) H (retW [(.tmp 8), (.tmp 9)] K) := by kernel_rfl
theorem F87_ob (R : Caller) (lim n : Nat) (K : AVal → Heap → Prop) : Oblig R lim n 168 (F87_Lp R lim n K) f87.body (retW [(.tmp 8), (.tmp 9)] K) := ⟨(oblig_nl (by kernel_rfl)), ⟨(oblig_nl (by kernel_rfl)), ⟨(oblig_nl (by kernel_rfl)), ⟨(fun T H h => F87_l0_ok R lim n K (kBlk_mono (kSeqI_sound ⟨(fun T H h => F87_l2_ok R lim n K (kBlk_mono (kSeqI_sound ⟨(oblig_nl (by kernel_rfl)), ⟨(oblig_nl (by kernel_rfl)), ⟨(oblig_nl (by kernel_rfl)), ⟨(oblig_nl (by kernel_rfl)), ⟨(fun T H h => F87_l4_ok R lim n K (kBlk_mono (kSeqI_sound (oblig_nl (by kernel_rfl)) (fun _ _ _ h => h))) _ T H h), (oblig_nl (by kernel_rfl))⟩⟩⟩⟩⟩ (fun _ _ _ h => h))) _ T H h), ⟨(oblig_nl (by kernel_rfl)), ⟨(oblig_nl (by kernel_rfl)), ⟨(oblig_nl (by kernel_rfl)), ⟨(oblig_nl (by kernel_rfl)), ⟨(fun T H h => F87_l4_ok R lim n K (kBlk_mono (kSeqI_sound (oblig_nl (by kernel_rfl)) (fun _ _ _ h => h))) _ T H h), (oblig_nl (by kernel_rfl))⟩⟩⟩⟩⟩⟩ (fun _ _ _ h => h))) _ T H h), ⟨(fun T H h => F87_l2_ok R lim n K (kBlk_mono (kSeqI_sound ⟨(oblig_nl (by kernel_rfl)), ⟨(oblig_nl (by kernel_rfl)), ⟨(oblig_nl (by kernel_rfl)), ⟨(oblig_nl (by kernel_rfl)), ⟨(fun T H h => F87_l4_ok R lim n K (kBlk_mono (kSeqI_sound (oblig_nl (by kernel_rfl)) (fun _ _ _ h => h))) _ T H h), (oblig_nl (by kernel_rfl))⟩⟩⟩⟩⟩ (fun _ _ _ h => h))) _ T H h), ⟨(oblig_nl (by kernel_rfl)), ⟨(oblig_nl (by kernel_rfl)), ⟨(oblig_nl (by kernel_rfl)), ⟨(oblig_nl (by kernel_rfl)), ⟨(fun T H h => F87_l4_ok R lim n K (kBlk_mono (kSeqI_sound (oblig_nl (by kernel_rfl)) (fun _ _ _ h => h))) _ T H h), (oblig_nl (by kernel_rfl))⟩⟩⟩⟩⟩⟩⟩⟩⟩⟩
theorem F87_run {ap : FuncId → Option AFn} (hf : ap 87 = some (.code f87)) {n lim : Nat} {K : AVal → Heap → Prop} {a0 a1 a2 a3 : AVal} {H : Heap} (h : F87 (Ahs.runT ap n) lim n K a0 a1 a2 a3 H) : ∃ v H', Ahs.runT ap (n + 1) lim (.fn 87) [a0, a1, a2, a3] H = some (v, H') ∧ K v H' := by
  rw [F87_eq] at h
  exact run_of_W hf (by kernel_rfl) (by kernel_rfl) (execI_sound f87.body _ _ _ _ (F87_ob _ _ _ K) (fun _ _ _ h => h) h)
end Go.Proofs.Ytpefhojmfcenfaa.conf
