/- What each function comes to, as one formula; printed by genw.py. -/
import Derived.Test.YtpefhojmfcenfaaCgW0
import Derived.Test.YtpefhojmfcenfaaBhsW1
set_option maxRecDepth 100000
set_option linter.unusedVariables false
namespace Go.Proofs.Ytpefhojmfcenfaa.conf
open Go.Ahs
def F88_j0 (R : Caller) (lim n : Nat) (K : AVal → Heap → Prop) (t0 t2 : AVal) (H : Heap) : Prop :=
bindP (convO .u8 t0) fun v3 =>
bindP (aindexStr (.str [0, 1, 2, 2, 3, 3, 3, 3, 4, 4, 4, 4, 4, 4, 4, 4, 5, 5, 5, 5, 5, 5, 5, 5, 5, 5, 5, 5, 5, 5, 5, 5, 6, 6, 6, 6, 6, 6, 6, 6, 6, 6, 6, 6, 6, 6, 6, 6, 6, 6, 6, 6, 6, 6, 6, 6, 6, 6, 6, 6, 6, 6, 6, 6, 7, 7, 7, 7, 7, 7, 7, 7, 7, 7, 7, 7, 7, 7, 7, 7, 7, 7, 7, 7, 7, 7, 7, 7, 7, 7, 7, 7, 7, 7, 7, 7, 7, 7, 7, 7, 7, 7, 7, 7, 7, 7, 7, 7, 7, 7, 7, 7, 7, 7, 7, 7, 7, 7, 7, 7, 7, 7, 7, 7, 7, 7, 7, 7, 8, 8, 8, 8, 8, 8, 8, 8, 8, 8, 8, 8, 8, 8, 8, 8, 8, 8, 8, 8, 8, 8, 8, 8, 8, 8, 8, 8, 8, 8, 8, 8, 8, 8, 8, 8, 8, 8, 8, 8, 8, 8, 8, 8, 8, 8, 8, 8, 8, 8, 8, 8, 8, 8, 8, 8, 8, 8, 8, 8, 8, 8, 8, 8, 8, 8, 8, 8, 8, 8, 8, 8, 8, 8, 8, 8, 8, 8, 8, 8, 8, 8, 8, 8, 8, 8, 8, 8, 8, 8, 8, 8, 8, 8, 8, 8, 8, 8, 8, 8, 8, 8, 8, 8, 8, 8, 8, 8, 8, 8, 8, 8, 8, 8, 8, 8, 8, 8, 8, 8, 8, 8, 8, 8, 8, 8, 8, 8]) v3) fun v4 =>
bindP (convO .i64 v4) fun v5 =>
bindP (abin .add t2 v5) fun v6 =>
K v6 H
def F88_j1 (R : Caller) (lim n : Nat) (K : AVal → Heap → Prop) (t0 t2 : AVal) (H : Heap) : Prop :=
bindP (abin .geq t0 (.int .u32 256)) fun v2 =>
bindP (boolOf v2) fun b7 =>
(b7 = true → (bindP (abin .shr t0 (.int .u64 8)) fun v8 =>
bindP (abin .add t2 (.int .i64 8)) fun v9 =>
F88_j0 R lim n K v8 v9 H)) ∧
(b7 = false → (F88_j0 R lim n K t0 t2 H))
def F88 (R : Caller) (lim n : Nat) (K : AVal → Heap → Prop) (a0 : AVal) (H : Heap) : Prop :=
bindP (abin .geq a0 (.int .u32 65536)) fun v1 =>
bindP (boolOf v1) fun b10 =>
(b10 = true → (bindP (abin .shr a0 (.int .u64 16)) fun v11 =>
F88_j1 R lim n K v11 (.int .i64 16) H)) ∧
(b10 = false → (F88_j1 R lim n K a0 (.int .i64 0) H))
def F88_Lp (R : Caller) (lim n : Nat) (K : AVal → Heap → Prop) : Nat → Tm → Heap → Prop
  | _, _, _ => False
theorem F88_eq (R : Caller) (lim n : Nat) (K : AVal → Heap → Prop) (a0 : AVal) (H : Heap) : F88 R lim n K a0 H = execI R lim n 19 (F88_Lp R lim n K) f88.body (argT [a0]) H (retW [(.tmp 2)] K) := by kernel_rfl
theorem F88_ob (R : Caller) (lim n : Nat) (K : AVal → Heap → Prop) : Oblig R lim n 19 (F88_Lp R lim n K) f88.body (retW [(.tmp 2)] K) := (oblig_nl (by kernel_rfl))
theorem F88_run {ap : FuncId → Option AFn} (hf : ap 88 = some (.code f88)) {n lim : Nat} {K : AVal → Heap → Prop} {a0 : AVal} {H : Heap} (h : F88 (Ahs.runT ap n) lim n K a0 H) : ∃ v H', Ahs.runT ap (n + 1) lim (.fn 88) [a0] H = some (v, H') ∧ K v H' := by
  rw [F88_eq] at h
  exact run_of_W hf (by kernel_rfl) (by kernel_rfl) (execI_sound f88.body _ _ _ _ (F88_ob _ _ _ K) (fun _ _ _ h => h) h)
def F89_j0 (R : Caller) (lim n : Nat) (K : AVal → Heap → Prop) (t0 t2 : AVal) (H : Heap) : Prop :=
bindP (convO .u8 t0) fun v4 =>
bindP (aindexStr (.str [0, 1, 2, 2, 3, 3, 3, 3, 4, 4, 4, 4, 4, 4, 4, 4, 5, 5, 5, 5, 5, 5, 5, 5, 5, 5, 5, 5, 5, 5, 5, 5, 6, 6, 6, 6, 6, 6, 6, 6, 6, 6, 6, 6, 6, 6, 6, 6, 6, 6, 6, 6, 6, 6, 6, 6, 6, 6, 6, 6, 6, 6, 6, 6, 7, 7, 7, 7, 7, 7, 7, 7, 7, 7, 7, 7, 7, 7, 7, 7, 7, 7, 7, 7, 7, 7, 7, 7, 7, 7, 7, 7, 7, 7, 7, 7, 7, 7, 7, 7, 7, 7, 7, 7, 7, 7, 7, 7, 7, 7, 7, 7, 7, 7, 7, 7, 7, 7, 7, 7, 7, 7, 7, 7, 7, 7, 7, 7, 8, 8, 8, 8, 8, 8, 8, 8, 8, 8, 8, 8, 8, 8, 8, 8, 8, 8, 8, 8, 8, 8, 8, 8, 8, 8, 8, 8, 8, 8, 8, 8, 8, 8, 8, 8, 8, 8, 8, 8, 8, 8, 8, 8, 8, 8, 8, 8, 8, 8, 8, 8, 8, 8, 8, 8, 8, 8, 8, 8, 8, 8, 8, 8, 8, 8, 8, 8, 8, 8, 8, 8, 8, 8, 8, 8, 8, 8, 8, 8, 8, 8, 8, 8, 8, 8, 8, 8, 8, 8, 8, 8, 8, 8, 8, 8, 8, 8, 8, 8, 8, 8, 8, 8, 8, 8, 8, 8, 8, 8, 8, 8, 8, 8, 8, 8, 8, 8, 8, 8, 8, 8, 8, 8, 8, 8, 8, 8]) v4) fun v5 =>
bindP (convO .i64 v5) fun v6 =>
bindP (abin .add t2 v6) fun v7 =>
K v7 H
def F89_j1 (R : Caller) (lim n : Nat) (K : AVal → Heap → Prop) (t0 t2 : AVal) (H : Heap) : Prop :=
bindP (abin .geq t0 (.int .u64 256)) fun v3 =>
bindP (boolOf v3) fun b8 =>
(b8 = true → (bindP (abin .shr t0 (.int .u64 8)) fun v9 =>
bindP (abin .add t2 (.int .i64 8)) fun v10 =>
F89_j0 R lim n K v9 v10 H)) ∧
(b8 = false → (F89_j0 R lim n K t0 t2 H))
def F89_j2 (R : Caller) (lim n : Nat) (K : AVal → Heap → Prop) (t0 t2 : AVal) (H : Heap) : Prop :=
bindP (abin .geq t0 (.int .u64 65536)) fun v2 =>
bindP (boolOf v2) fun b11 =>
(b11 = true → (bindP (abin .shr t0 (.int .u64 16)) fun v12 =>
bindP (abin .add t2 (.int .i64 16)) fun v13 =>
F89_j1 R lim n K v12 v13 H)) ∧
(b11 = false → (F89_j1 R lim n K t0 t2 H))
def F89 (R : Caller) (lim n : Nat) (K : AVal → Heap → Prop) (a0 : AVal) (H : Heap) : Prop :=
bindP (abin .geq a0 (.int .u64 4294967296)) fun v1 =>
bindP (boolOf v1) fun b14 =>
(b14 = true → (bindP (abin .shr a0 (.int .u64 32)) fun v15 =>
F89_j2 R lim n K v15 (.int .i64 32) H)) ∧
(b14 = false → (F89_j2 R lim n K a0 (.int .i64 0) H))
def F89_Lp (R : Caller) (lim n : Nat) (K : AVal → Heap → Prop) : Nat → Tm → Heap → Prop
  | _, _, _ => False
theorem F89_eq (R : Caller) (lim n : Nat) (K : AVal → Heap → Prop) (a0 : AVal) (H : Heap) : F89 R lim n K a0 H = execI R lim n 25 (F89_Lp R lim n K) f89.body (argT [a0]) H (retW [(.tmp 2)] K) := by kernel_rfl
theorem F89_ob (R : Caller) (lim n : Nat) (K : AVal → Heap → Prop) : Oblig R lim n 25 (F89_Lp R lim n K) f89.body (retW [(.tmp 2)] K) := (oblig_nl (by kernel_rfl))
theorem F89_run {ap : FuncId → Option AFn} (hf : ap 89 = some (.code f89)) {n lim : Nat} {K : AVal → Heap → Prop} {a0 : AVal} {H : Heap} (h : F89 (Ahs.runT ap n) lim n K a0 H) : ∃ v H', Ahs.runT ap (n + 1) lim (.fn 89) [a0] H = some (v, H') ∧ K v H' := by
  rw [F89_eq] at h
  exact run_of_W hf (by kernel_rfl) (by kernel_rfl) (execI_sound f89.body _ _ _ _ (F89_ob _ _ _ K) (fun _ _ _ h => h) h)
def F90_j0 (R : Caller) (lim n : Nat) (K : AVal → Heap → Prop) (H : Heap) : Prop :=
K (.tup []) H
def F90_j1 (R : Caller) (lim n : Nat) (K : AVal → Heap → Prop) (rec0 : AVal → AVal → AVal → AVal → Heap → Prop) (t0 t2 t3 t8 t9 : AVal) (H : Heap) : Prop :=
bindP (abin .add t3 t8) fun v69 =>
bindP (aindexAddr none 1 t0 v69) fun v70 =>
bindP (aload H none v70) fun v71 =>
bindP (abin .add t3 t9) fun v72 =>
bindP (aindexAddr none 1 t0 v72) fun v73 =>
bindP (aload H none v73) fun v74 =>
bind2 (R lim (.fn 85) [v71, v74] H) fun v75 H76 =>
bindP (aun .not v75) fun v77 =>
bindP (boolOf v77) fun b78 =>
(b78 = true → (K (.tup []) H76)) ∧
(b78 = false → (bindP (abin .add t3 t8) fun v79 =>
bindP (abin .add t3 t9) fun v80 =>
bindP (abin .add t3 t9) fun v81 =>
bindP (aindexAddr none 1 t0 v81) fun v82 =>
bindP (aload H76 none v82) fun v83 =>
bindP (abin .add t3 t8) fun v84 =>
bindP (aindexAddr none 1 t0 v84) fun v85 =>
bindP (aload H76 none v85) fun v86 =>
bindP (aindexAddr none 1 t0 v79) fun v87 =>
bindP (astore lim H76 1 v87 v83) fun H88 =>
bindP (aindexAddr none 1 t0 v80) fun v89 =>
bindP (astore lim H88 1 v89 v86) fun H90 =>
rec0 t0 t2 t3 t9 H90))
def F90_s0 (R : Caller) (lim n : Nat) (K : AVal → Heap → Prop) (rec0 : AVal → AVal → AVal → AVal → Heap → Prop) (t0 t2 t3 t8 : AVal) (H : Heap) : Prop :=
bindP (abin .mul (.int .i64 2) t8) fun v47 =>
bindP (abin .add v47 (.int .i64 1)) fun v48 =>
bindP (abin .geq v48 t2) fun v49 =>
bindP (boolOf v49) fun b50 =>
(b50 = true → (F90_j0 R lim n K H)) ∧
(b50 = false → (bindP (abin .add v48 (.int .i64 1)) fun v51 =>
bindP (abin .lss v51 t2) fun v52 =>
bindP (gd (some (v52, true)) (some t0)) fun v53 =>
bindP (gd (some (v52, true)) (some t3)) fun v54 =>
bindP (gd (some (v52, true)) (some v48)) fun v55 =>
bindP (gd (some (v52, true)) (abin .add v54 v55)) fun v56 =>
bindP (gd (some (v52, true)) (aindexAddr none 1 v53 v56)) fun v57 =>
bindP (gd (some (v52, true)) (aload H none v57)) fun v58 =>
bindP (gd (some (v52, true)) (some t0)) fun v59 =>
bindP (gd (some (v52, true)) (some t3)) fun v60 =>
bindP (gd (some (v52, true)) (some v48)) fun v61 =>
bindP (gd (some (v52, true)) (abin .add v60 v61)) fun v62 =>
bindP (gd (some (v52, true)) (abin .add v62 (.int .i64 1))) fun v63 =>
bindP (gd (some (v52, true)) (aindexAddr none 1 v59 v63)) fun v64 =>
bindP (gd (some (v52, true)) (aload H none v64)) fun v65 =>
bind2 (gd2 (some (v52, true)) H (R lim (.fn 85) [v58, v65] H)) fun v66 H67 =>
bindP (pickO v52 v66 (.bool false)) fun v68 =>
bindP (boolOf v68) fun b91 =>
(b91 = true → (bindP (abin .add v48 (.int .i64 1)) fun v92 =>
F90_j1 R lim n K rec0 t0 t2 t3 t8 v92 H67)) ∧
(b91 = false → (F90_j1 R lim n K rec0 t0 t2 t3 t8 v48 H67))))
def F90_l0 (R : Caller) (lim n : Nat) (K : AVal → Heap → Prop) : Nat → AVal → AVal → AVal → AVal → Heap → Prop
  | 0, _, _, _, _, _ => False
  | m + 1, t0, t2, t3, t8, H => F90_s0 R lim n K (F90_l0 R lim n K m) t0 t2 t3 t8 H
def F90 (R : Caller) (lim n : Nat) (K : AVal → Heap → Prop) (a0 a1 a2 a3 : AVal) (H : Heap) : Prop :=
F90_l0 R lim n K n a0 a2 a3 a1 H
def F90_Lp (R : Caller) (lim n : Nat) (K : AVal → Heap → Prop) : Nat → Tm → Heap → Prop
  | 0, T, H => F90_l0 R lim n K n (T 0) (T 2) (T 3) (T 8) H
  | _, _, _ => False
def F90_Lp0 (R : Caller) (lim n : Nat) (K : AVal → Heap → Prop) (rec0 : AVal → AVal → AVal → AVal → Heap → Prop) : Nat → Tm → Heap → Prop
  | _, _, _ => False
def F90_k0 (R : Caller) (lim n : Nat) (K : AVal → Heap → Prop) (rec0 : AVal → AVal → AVal → AVal → Heap → Prop) : Kt := fun ex T H => match ex with
  | .norm => rec0 (T 0) (T 2) (T 3) (T 8) H
  | ex => (kBlk 0 (retW [] K)) ex T H
theorem F90_s0_eq (R : Caller) (lim n : Nat) (K : AVal → Heap → Prop) (rec0 : AVal → AVal → AVal → AVal → Heap → Prop) (T : Tm) (H : Heap) : F90_s0 R lim n K rec0 (T 0) (T 2) (T 3) (T 8) H = execI R lim n 76 (F90_Lp0 R lim n K rec0) f90_p0 T H (F90_k0 R lim n K rec0) := by kernel_rfl
theorem F90_l0_ok (R : Caller) (lim n : Nat) (K : AVal → Heap → Prop) {kw : Kt} (hk : ∀ ex T H, (kBlk 0 (retW [] K)) ex T H → kw ex T H) : ∀ (m : Nat) (T : Tm) (H : Heap), F90_l0 R lim n K m (T 0) (T 2) (T 3) (T 8) H → loopW (execW R lim n 76 f90_p0) m T H kw
  | 0, _, _, h => False.elim h
  | m + 1, T, H, h => by
    have hb : ∀ ex T H, F90_k0 R lim n K (F90_l0 R lim n K m) ex T H → (fun ex T H => match ex with | .norm => loopW (execW R lim n 76 f90_p0) m T H kw | ex => kw ex T H : Kt) ex T H := by
      intro ex T H h
      cases ex with
      | norm => exact F90_l0_ok R lim n K hk m T H h
      | exit i => exact hk _ _ _ h
      | ret => exact hk _ _ _ h
    have h' : F90_s0 R lim n K (F90_l0 R lim n K m) (T 0) (T 2) (T 3) (T 8) H := h
    rw [F90_s0_eq] at h'
    exact execI_sound f90_p0 T H _ _ (oblig_nl (by kernel_rfl)) hb h'
theorem F90_eq (R : Caller) (lim n : Nat) (K : AVal → Heap → Prop) (a0 a1 a2 a3 : AVal) (H : Heap) : F90 R lim n K a0 a1 a2 a3 H = execI R lim n 76 (F90_Lp R lim n K) f90.body (argT [a0, a1, a2, a3]) H (retW [] K) := by kernel_rfl
theorem F90_ob (R : Caller) (lim n : Nat) (K : AVal → Heap → Prop) : Oblig R lim n 76 (F90_Lp R lim n K) f90.body (retW [] K) := ⟨(oblig_nl (by kernel_rfl)), (fun T H h => F90_l0_ok R lim n K (kBlk_mono (fun _ _ _ h => h)) _ T H h)⟩
theorem F90_run {ap : FuncId → Option AFn} (hf : ap 90 = some (.code f90)) {n lim : Nat} {K : AVal → Heap → Prop} {a0 a1 a2 a3 : AVal} {H : Heap} (h : F90 (Ahs.runT ap n) lim n K a0 a1 a2 a3 H) : ∃ v H', Ahs.runT ap (n + 1) lim (.fn 90) [a0, a1, a2, a3] H = some (v, H') ∧ K v H' := by
  rw [F90_eq] at h
  exact run_of_W hf (by kernel_rfl) (by kernel_rfl) (execI_sound f90.body _ _ _ _ (F90_ob _ _ _ K) (fun _ _ _ h => h) h)
def F91 (R : Caller) (lim n : Nat) (K : AVal → Heap → Prop) (a0 : AVal) (H : Heap) : Prop :=
bindP (convO .u64 a0) fun v1 =>
bind2 (R lim (.fn 77) [v1] H) fun v2 H3 =>
bindP (abin .shl (.int .u64 1) v2) fun v4 =>
K v4 H3
def F91_Lp (R : Caller) (lim n : Nat) (K : AVal → Heap → Prop) : Nat → Tm → Heap → Prop
  | _, _, _ => False
theorem F91_eq (R : Caller) (lim n : Nat) (K : AVal → Heap → Prop) (a0 : AVal) (H : Heap) : F91 R lim n K a0 H = execI R lim n 7 (F91_Lp R lim n K) f91.body (argT [a0]) H (retW [(.tmp 2)] K) := by kernel_rfl
theorem F91_ob (R : Caller) (lim n : Nat) (K : AVal → Heap → Prop) : Oblig R lim n 7 (F91_Lp R lim n K) f91.body (retW [(.tmp 2)] K) := (oblig_nl (by kernel_rfl))
theorem F91_run {ap : FuncId → Option AFn} (hf : ap 91 = some (.code f91)) {n lim : Nat} {K : AVal → Heap → Prop} {a0 : AVal} {H : Heap} (h : F91 (Ahs.runT ap n) lim n K a0 H) : ∃ v H', Ahs.runT ap (n + 1) lim (.fn 91) [a0] H = some (v, H') ∧ K v H' := by
  rw [F91_eq] at h
  exact run_of_W hf (by kernel_rfl) (by kernel_rfl) (execI_sound f91.body _ _ _ _ (F91_ob _ _ _ K) (fun _ _ _ h => h) h)
def F92 (R : Caller) (lim n : Nat) (K : AVal → Heap → Prop) (a0 : AVal) (H : Heap) : Prop :=
bindP (nilO a0) fun v1 =>
bindP (aload H none v1) fun v2 =>
bindP (nilO a0) fun v3 =>
bindP (aload H none v3) fun v4 =>
bindP (abin .shl v4 (.int .u64 13)) fun v5 =>
bindP (abin .xor v2 v5) fun v6 =>
bindP (nilO a0) fun v7 =>
bindP (astore lim H 1 v7 v6) fun H8 =>
bindP (nilO a0) fun v9 =>
bindP (aload H8 none v9) fun v10 =>
bindP (nilO a0) fun v11 =>
bindP (aload H8 none v11) fun v12 =>
bindP (abin .shr v12 (.int .u64 7)) fun v13 =>
bindP (abin .xor v10 v13) fun v14 =>
bindP (nilO a0) fun v15 =>
bindP (astore lim H8 1 v15 v14) fun H16 =>
bindP (nilO a0) fun v17 =>
bindP (aload H16 none v17) fun v18 =>
bindP (nilO a0) fun v19 =>
bindP (aload H16 none v19) fun v20 =>
bindP (abin .shl v20 (.int .u64 17)) fun v21 =>
bindP (abin .xor v18 v21) fun v22 =>
bindP (nilO a0) fun v23 =>
bindP (astore lim H16 1 v23 v22) fun H24 =>
bindP (nilO a0) fun v25 =>
bindP (aload H24 none v25) fun v26 =>
K v26 H24
def F92_Lp (R : Caller) (lim n : Nat) (K : AVal → Heap → Prop) : Nat → Tm → Heap → Prop
  | _, _, _ => False
theorem F92_eq (R : Caller) (lim n : Nat) (K : AVal → Heap → Prop) (a0 : AVal) (H : Heap) : F92 R lim n K a0 H = execI R lim n 33 (F92_Lp R lim n K) f92.body (argT [a0]) H (retW [(.tmp 2)] K) := by kernel_rfl
theorem F92_ob (R : Caller) (lim n : Nat) (K : AVal → Heap → Prop) : Oblig R lim n 33 (F92_Lp R lim n K) f92.body (retW [(.tmp 2)] K) := (oblig_nl (by kernel_rfl))
theorem F92_run {ap : FuncId → Option AFn} (hf : ap 92 = some (.code f92)) {n lim : Nat} {K : AVal → Heap → Prop} {a0 : AVal} {H : Heap} (h : F92 (Ahs.runT ap n) lim n K a0 H) : ∃ v H', Ahs.runT ap (n + 1) lim (.fn 92) [a0] H = some (v, H') ∧ K v H' := by
  rw [F92_eq] at h
  exact run_of_W hf (by kernel_rfl) (by kernel_rfl) (execI_sound f92.body _ _ _ _ (F92_ob _ _ _ K) (fun _ _ _ h => h) h)
def F93 (R : Caller) (lim n : Nat) (K : AVal → Heap → Prop) (a0 a1 a2 : AVal) (H : Heap) : Prop :=
bindP (abin .sub a1 (.int .i64 1)) fun v1 =>
bindP (abin .add a1 (.int .i64 1)) fun v2 =>
bind2 (R lim (.fn 94) [a0, v1, a1, v2, a2] H) fun v3 H4 =>
K v3 H4
def F93_Lp (R : Caller) (lim n : Nat) (K : AVal → Heap → Prop) : Nat → Tm → Heap → Prop
  | _, _, _ => False
theorem F93_eq (R : Caller) (lim n : Nat) (K : AVal → Heap → Prop) (a0 a1 a2 : AVal) (H : Heap) : F93 R lim n K a0 a1 a2 H = execI R lim n 15 (F93_Lp R lim n K) f93.body (argT [a0, a1, a2]) H (retW [(.tmp 6)] K) := by kernel_rfl
theorem F93_ob (R : Caller) (lim n : Nat) (K : AVal → Heap → Prop) : Oblig R lim n 15 (F93_Lp R lim n K) f93.body (retW [(.tmp 6)] K) := (oblig_nl (by kernel_rfl))
theorem F93_run {ap : FuncId → Option AFn} (hf : ap 93 = some (.code f93)) {n lim : Nat} {K : AVal → Heap → Prop} {a0 a1 a2 : AVal} {H : Heap} (h : F93 (Ahs.runT ap n) lim n K a0 a1 a2 H) : ∃ v H', Ahs.runT ap (n + 1) lim (.fn 93) [a0, a1, a2] H = some (v, H') ∧ K v H' := by
  rw [F93_eq] at h
  exact run_of_W hf (by kernel_rfl) (by kernel_rfl) (execI_sound f93.body _ _ _ _ (F93_ob _ _ _ K) (fun _ _ _ h => h) h)
def F94 (R : Caller) (lim n : Nat) (K : AVal → Heap → Prop) (a0 a1 a2 a3 a4 : AVal) (H : Heap) : Prop :=
bind2 (R lim (.fn 96) [a0, a1, a2, a4] H) fun v1 H2 =>
bindP (extO 0 v1) fun v3 =>
bindP (extO 1 v1) fun v4 =>
bind2 (R lim (.fn 96) [a0, v4, a3, a4] H2) fun v5 H6 =>
bindP (extO 0 v5) fun v7 =>
bindP (extO 1 v5) fun v8 =>
bind2 (R lim (.fn 96) [a0, v3, v7, a4] H6) fun v9 H10 =>
bindP (extO 0 v9) fun v11 =>
bindP (extO 1 v9) fun v12 =>
K v12 H10
def F94_Lp (R : Caller) (lim n : Nat) (K : AVal → Heap → Prop) : Nat → Tm → Heap → Prop
  | _, _, _ => False
theorem F94_eq (R : Caller) (lim n : Nat) (K : AVal → Heap → Prop) (a0 a1 a2 a3 a4 : AVal) (H : Heap) : F94 R lim n K a0 a1 a2 a3 a4 H = execI R lim n 36 (F94_Lp R lim n K) f94.body (argT [a0, a1, a2, a3, a4]) H (retW [(.tmp 10)] K) := by kernel_rfl
theorem F94_ob (R : Caller) (lim n : Nat) (K : AVal → Heap → Prop) : Oblig R lim n 36 (F94_Lp R lim n K) f94.body (retW [(.tmp 10)] K) := (oblig_nl (by kernel_rfl))
theorem F94_run {ap : FuncId → Option AFn} (hf : ap 94 = some (.code f94)) {n lim : Nat} {K : AVal → Heap → Prop} {a0 a1 a2 a3 a4 : AVal} {H : Heap} (h : F94 (Ahs.runT ap n) lim n K a0 a1 a2 a3 a4 H) : ∃ v H', Ahs.runT ap (n + 1) lim (.fn 94) [a0, a1, a2, a3, a4] H = some (v, H') ∧ K v H' := by
  rw [F94_eq] at h
  exact run_of_W hf (by kernel_rfl) (by kernel_rfl) (execI_sound f94.body _ _ _ _ (F94_ob _ _ _ K) (fun _ _ _ h => h) h)
def F95 (R : Caller) (lim n : Nat) (K : AVal → Heap → Prop) (a0 : AVal) (H : Heap) : Prop :=
bindP (abin .neq a0 a0) fun v1 =>
K v1 H
def F95_Lp (R : Caller) (lim n : Nat) (K : AVal → Heap → Prop) : Nat → Tm → Heap → Prop
  | _, _, _ => False
theorem F95_eq (R : Caller) (lim n : Nat) (K : AVal → Heap → Prop) (a0 : AVal) (H : Heap) : F95 R lim n K a0 H = execI R lim n 6 (F95_Lp R lim n K) f95.body (argT [a0]) H (retW [(.tmp 2)] K) := by kernel_rfl
theorem F95_ob (R : Caller) (lim n : Nat) (K : AVal → Heap → Prop) : Oblig R lim n 6 (F95_Lp R lim n K) f95.body (retW [(.tmp 2)] K) := (oblig_nl (by kernel_rfl))
theorem F95_run {ap : FuncId → Option AFn} (hf : ap 95 = some (.code f95)) {n lim : Nat} {K : AVal → Heap → Prop} {a0 : AVal} {H : Heap} (h : F95 (Ahs.runT ap n) lim n K a0 H) : ∃ v H', Ahs.runT ap (n + 1) lim (.fn 95) [a0] H = some (v, H') ∧ K v H' := by
  rw [F95_eq] at h
  exact run_of_W hf (by kernel_rfl) (by kernel_rfl) (execI_sound f95.body _ _ _ _ (F95_ob _ _ _ K) (fun _ _ _ h => h) h)
def F96 (R : Caller) (lim n : Nat) (K : AVal → Heap → Prop) (a0 a1 a2 a3 : AVal) (H : Heap) : Prop :=
bindP (aindexAddr none 1 a0 a2) fun v1 =>
bindP (aload H none v1) fun v2 =>
bindP (aindexAddr none 1 a0 a1) fun v3 =>
bindP (aload H none v3) fun v4 =>
bind2 (R lim (.fn 85) [v2, v4] H) fun v5 H6 =>
bindP (boolOf v5) fun b7 =>
(b7 = true → (bindP (nilO a3) fun v8 =>
bindP (aload H6 none v8) fun v9 =>
bindP (abin .add v9 (.int .i64 1)) fun v10 =>
bindP (nilO a3) fun v11 =>
bindP (astore lim H6 1 v11 v10) fun H12 =>
K (.tup [a2, a1]) H12)) ∧
(b7 = false → (K (.tup [a1, a2]) H6))
def F96_Lp (R : Caller) (lim n : Nat) (K : AVal → Heap → Prop) : Nat → Tm → Heap → Prop
  | _, _, _ => False
theorem F96_eq (R : Caller) (lim n : Nat) (K : AVal → Heap → Prop) (a0 a1 a2 a3 : AVal) (H : Heap) : F96 R lim n K a0 a1 a2 a3 H = execI R lim n 28 (F96_Lp R lim n K) f96.body (argT [a0, a1, a2, a3]) H (retW [(.tmp 8), (.tmp 9)] K) := by kernel_rfl
theorem F96_ob (R : Caller) (lim n : Nat) (K : AVal → Heap → Prop) : Oblig R lim n 28 (F96_Lp R lim n K) f96.body (retW [(.tmp 8), (.tmp 9)] K) := (oblig_nl (by kernel_rfl))
theorem F96_run {ap : FuncId → Option AFn} (hf : ap 96 = some (.code f96)) {n lim : Nat} {K : AVal → Heap → Prop} {a0 a1 a2 a3 : AVal} {H : Heap} (h : F96 (Ahs.runT ap n) lim n K a0 a1 a2 a3 H) : ∃ v H', Ahs.runT ap (n + 1) lim (.fn 96) [a0, a1, a2, a3] H = some (v, H') ∧ K v H' := by
  rw [F96_eq] at h
  exact run_of_W hf (by kernel_rfl) (by kernel_rfl) (execI_sound f96.body _ _ _ _ (F96_ob _ _ _ K) (fun _ _ _ h => h) h)
end Go.Proofs.Ytpefhojmfcenfaa.conf
