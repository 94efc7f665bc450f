/- What each function comes to, as one formula; printed by genw.py. -/
import Derived.Test.YtjflpnahjooffaaCxAp
import Derived.Test.YtjflpnahjooffaaChsW1
set_option maxRecDepth 100000
set_option linter.unusedVariables false
namespace Go.Proofs.Ytjflpnahjooffaa.cat
open Go.Ahs
def zf3f7a3 : List AVal := [(.sl none 0 (.ex 0)), (.sl none 0 (.ex 0))]
def zdff0c5 : List AVal := [(.int .u8 0), (.int .u8 0), (.int .u8 0), (.int .u8 0), (.int .u8 0), (.int .u8 0), (.int .u8 0), (.int .u8 0)]
def z547173 : List AVal := [(.int .i64 0), (.int .i64 0), (.int .i64 0), (.int .i64 0)]
def z70c9c7 : List AVal := [(.int .u64 0), (.int .u64 0), (.int .u64 0), (.int .u64 0)]
def z39dd08 : List AVal := [(.int .i64 0), (.int .i64 0), (.int .i64 0), (.int .i64 0), (.int .i64 0), (.int .i64 0), (.int .i64 0), (.int .i64 0), (.int .i64 0), (.int .i64 0), (.int .i64 0), (.int .i64 0), (.int .i64 0), (.int .i64 0), (.int .i64 0), (.int .i64 0), (.map none)]
def zc0a9bf : List AVal := [(.ptr none), (.ptr none), (.ptr none), (.ptr none)]
def ze67900 : List AVal := [(.int .u8 0), (.int .i64 0), (.int .i64 0), (.int .i64 0), (.int .i64 0)]
def zafa8ae : List AVal := [(.str []), (.int .u8 0), (.int .u8 0)]
def z8c4342 : List AVal := [(.int .u8 0), (.int .u8 0), (.int .u8 0), (.int .u8 0), (.int .u8 0), (.int .u8 0), (.int .u8 0), (.int .u8 0), (.int .u8 0), (.int .u8 0)]
def F3_j0 (R : Caller) (lim n : Nat) (K : AVal → Heap → Prop) (t0 : AVal) (H : Heap) : Prop :=
bind2 (R lim (.fn 15) [t0] H) fun v3 H4 =>
bindP (extO 0 v3) fun v5 =>
bindP (extO 1 v3) fun v6 =>
bind2 (R lim (.fn 16) [t0] H4) fun v7 H8 =>
bindP (extO 0 v7) fun v9 =>
bindP (extO 1 v7) fun v10 =>
bindP (astore lim (H8.push (.cells zf3f7a3)) 2 (.ptr (some (H8.next, 0))) v9) fun H11 =>
bindP (eqvO true .bool v6 v10) fun v12 =>
bindP (gd (some (v12, false)) (some v6)) fun v13 =>
bindP (gd (some (v12, false)) (some v5)) fun v14 =>
bindP (gd (some (v12, false)) (eqvO true .ptr v14 (.ptr none))) fun v15 =>
bindP (gd (some (v12, false)) (eqvO true .bool v13 v15)) fun v16 =>
bindP (pickO v12 (.bool true) v16) fun v17 =>
bindP (boolOf v17) fun b18 =>
(b18 = true → (K (.bool false) H11)) ∧
(b18 = false → (bindP (aun .not v6) fun v19 =>
bindP (gd (some (v19, false)) (some v5)) fun v20 =>
bind2 (gd2 (some (v19, false)) H11 (R lim (.fn 17) [v20] H11)) fun v21 H22 =>
bindP (gd (some (v19, false)) (some t0)) fun v23 =>
bindP (gd (some (v19, false)) (abin .eql v21 v23)) fun v24 =>
bindP (gd (some (v19, false)) (some v24)) fun v25 =>
bindP (gd (some (v25, true)) (aload H22 (some 2) (.ptr (some (H8.next, 0))))) fun v26 =>
bind2 (gd2 (some (v25, true)) H22 (R lim (.fn 18) [v26] H22)) fun v27 H28 =>
bindP (gd (some (v25, true)) (some t0)) fun v29 =>
bindP (gd (some (v25, true)) (abin .eql v27 v29)) fun v30 =>
bindP (gd (some (v19, false)) (pickO v25 v30 (.bool false))) fun v31 =>
bindP (pickO v19 (.bool true) v31) fun v32 =>
bind2 (gd2 (some (v32, true)) H28 (R lim (.fn 19) [] H28)) fun v33 H34 =>
bindP (pickO v32 v33 (.bool false)) fun v35 =>
K v35 H34))
def F3 (R : Caller) (lim n : Nat) (K : AVal → Heap → Prop) (a0 : AVal) (H : Heap) : Prop :=
bindP (alen true a0) fun v1 =>
bindP (abin .gtr v1 (.int .i64 1000)) fun v2 =>
bindP (boolOf v2) fun b36 =>
(b36 = true → (bindP (asliceStr a0 none (some (.int .i64 1000))) fun v37 =>
F3_j0 R lim n K v37 H)) ∧
(b36 = false → (F3_j0 R lim n K a0 H))
def F3_Lp (R : Caller) (lim n : Nat) (K : AVal → Heap → Prop) : Nat → Tm → Heap → Prop
  | _, _, _ => False
theorem F3_eq (R : Caller) (lim n : Nat) (K : AVal → Heap → Prop) (a0 : AVal) (H : Heap) : F3 R lim n K a0 H = execI R lim n 48 (F3_Lp R lim n K) f3.body (argT [a0]) H (retW [(.tmp 2)] K) := by kernel_rfl
theorem F3_ob (R : Caller) (lim n : Nat) (K : AVal → Heap → Prop) : Oblig R lim n 48 (F3_Lp R lim n K) f3.body (retW [(.tmp 2)] K) := (oblig_nl (by kernel_rfl))
theorem F3_run {ap : FuncId → Option AFn} (hf : ap 3 = some (.code f3)) {n lim : Nat} {K : AVal → Heap → Prop} {a0 : AVal} {H : Heap} (h : F3 (Ahs.runT ap n) lim n K a0 H) : ∃ v H', Ahs.runT ap (n + 1) lim (.fn 3) [a0] H = some (v, H') ∧ K v H' := by
  rw [F3_eq] at h
  exact run_of_W hf (by kernel_rfl) (by kernel_rfl) (execI_sound f3.body _ _ _ _ (F3_ob _ _ _ K) (fun _ _ _ h => h) h)
def F15_j0 (R : Caller) (lim n : Nat) (K : AVal → Heap → Prop) (t0 t4 : AVal) (H : Heap) : Prop :=
bind2 (R lim (.fn 17) [t4] H) fun v98 H99 =>
bindP (abin .neq v98 t0) fun v100 =>
bindP (boolOf v100) fun b101 =>
(b101 = true → (K (.tup [(.ptr none), (.bool false)]) H99)) ∧
(b101 = false → (K (.tup [t4, (.bool true)]) H99))
def F15_s2 (R : Caller) (lim n : Nat) (K : AVal → Heap → Prop) (rec2 : AVal → AVal → AVal → AVal → Heap → Prop) (t0 t4 t5 t9 : AVal) (H : Heap) : Prop :=
bindP (abin .gtr t9 (.int .u64 0)) fun v102 =>
bindP (gd (some (v102, true)) (some t5)) fun v103 =>
bindP (gd (some (v102, true)) (alen true v103)) fun v104 =>
bindP (gd (some (v102, true)) (abin .geq v104 (.int .i64 10))) fun v105 =>
bindP (pickO v102 v105 (.bool false)) fun v106 =>
bindP (boolOf v106) fun b107 =>
(b107 = true → (bindP (asliceArr 8 1 (.ptr (some (H.next, 0))) none none none) fun v108 =>
bind2 (acopy lim (H.push (.cells zdff0c5)) 1 v108 t5) fun v109 H110 =>
bindP (aindexStr t5 v109) fun v111 =>
bindP (aload H110 (some 8) (.ptr (some (H.next, 0)))) fun v112 =>
bindP (abin .add v109 (.int .i64 1)) fun v113 =>
bindP (aindexStr t5 v113) fun v114 =>
bind2 (R lim (.fn 23) [t4, v111, v112, v114] H110) fun v115 H116 =>
bindP (asliceStr t5 (some (.int .i64 10)) none) fun v117 =>
bindP (abin .sub t9 (.int .u64 1)) fun v118 =>
rec2 t0 t4 v117 v118 H116)) ∧
(b107 = false → (F15_j0 R lim n K t0 t4 H))
def F15_l2 (R : Caller) (lim n : Nat) (K : AVal → Heap → Prop) : Nat → AVal → AVal → AVal → AVal → Heap → Prop
  | 0, _, _, _, _, _ => False
  | m + 1, t0, t4, t5, t9, H => F15_s2 R lim n K (F15_l2 R lim n K m) t0 t4 t5 t9 H
def F15_j1 (R : Caller) (lim n : Nat) (K : AVal → Heap → Prop) (t0 t4 t5 : AVal) (H : Heap) : Prop :=
bind2 (R lim (.fn 59) [t5] H) fun v71 H72 =>
bindP (extO 0 v71) fun v73 =>
bindP (extO 1 v71) fun v74 =>
bindP (extO 2 v71) fun v75 =>
bindP (asliceStr t5 (some v74) none) fun v76 =>
F15_l2 R lim n K n t0 t4 v76 v73 H72
def F15_j2 (R : Caller) (lim n : Nat) (K : AVal → Heap → Prop) (rec0 : AVal → AVal → AVal → AVal → Heap → Prop) (t0 t4 t5 t16 : AVal) (H : Heap) : Prop :=
bindP (abin .add t16 (.int .u8 1)) fun v121 =>
rec0 t0 t4 t5 v121 H
def F15_s0 (R : Caller) (lim n : Nat) (K : AVal → Heap → Prop) (rec0 : AVal → AVal → AVal → AVal → Heap → Prop) (t0 t4 t5 t16 : AVal) (H : Heap) : Prop :=
bindP (abin .lss t16 (.int .u8 4)) fun v119 =>
bindP (boolOf v119) fun b120 =>
(b120 = true → (bindP (abin .eql t5 (.str [])) fun v122 =>
bindP (boolOf v122) fun b123 =>
(b123 = true → (K (.tup [(.ptr none), (.bool false)]) H)) ∧
(b123 = false → (bindP (aindexStr t5 (.int .i64 0)) fun v124 =>
bindP (abin .eql v124 (.int .u8 1)) fun v125 =>
bindP (asliceStr t5 (some (.int .i64 1)) none) fun v126 =>
bindP (aun .not v125) fun v127 =>
bindP (boolOf v127) fun b128 =>
(b128 = true → (F15_j2 R lim n K rec0 t0 t4 v126 t16 H)) ∧
(b128 = false → (bind2 (R lim (.fn 58) [v126] (H.push (.cells z547173))) fun v129 H130 =>
bindP (extO 0 v129) fun v131 =>
bindP (extO 1 v129) fun v132 =>
bindP (astore lim H130 4 (.ptr (some (H.next, 0))) v131) fun H133 =>
bindP (aload H133 (some 4) (.ptr (some (H.next, 0)))) fun v134 =>
bind2 (R lim (.fn 22) [t4, t16, v134] H133) fun v135 H136 =>
bindP (abin .neq v135 (.int .u8 0)) fun v137 =>
bindP (boolOf v137) fun b138 =>
(b138 = true → (K (.tup [(.ptr none), (.bool false)]) H136)) ∧
(b138 = false → (F15_j2 R lim n K rec0 t0 t4 v132 t16 H136)))))))) ∧
(b120 = false → (F15_j1 R lim n K t0 t4 t5 H))
def F15_l0 (R : Caller) (lim n : Nat) (K : AVal → Heap → Prop) : Nat → AVal → AVal → AVal → AVal → Heap → Prop
  | 0, _, _, _, _, _ => False
  | m + 1, t0, t4, t5, t16, H => F15_s0 R lim n K (F15_l0 R lim n K m) t0 t4 t5 t16 H
def F15 (R : Caller) (lim n : Nat) (K : AVal → Heap → Prop) (a0 : AVal) (H : Heap) : Prop :=
bind2 (R lim (.fn 20) [] H) fun v1 H2 =>
F15_l0 R lim n K n a0 v1 a0 (.int .u8 0) H2
def F15_Lp (R : Caller) (lim n : Nat) (K : AVal → Heap → Prop) : Nat → Tm → Heap → Prop
  | 0, T, H => F15_l0 R lim n K n (T 0) (T 4) (T 5) (T 16) H
  | 2, T, H => F15_l2 R lim n K n (T 0) (T 4) (T 5) (T 9) H
  | _, _, _ => False
def F15_Lp0 (R : Caller) (lim n : Nat) (K : AVal → Heap → Prop) (rec0 : AVal → AVal → AVal → AVal → Heap → Prop) : Nat → Tm → Heap → Prop
  | _, _, _ => False
def F15_Lp2 (R : Caller) (lim n : Nat) (K : AVal → Heap → Prop) (rec2 : AVal → AVal → AVal → AVal → Heap → Prop) : Nat → Tm → Heap → Prop
  | _, _, _ => False
def F15_k2 (R : Caller) (lim n : Nat) (K : AVal → Heap → Prop) (rec2 : AVal → AVal → AVal → AVal → Heap → Prop) : Kt := fun ex T H => match ex with
  | .norm => rec2 (T 0) (T 4) (T 5) (T 9) H
  | ex => (kBlk 2 (kSeq (execI R lim n 77 (F15_Lp R lim n K) f15_p1) (retW [(.tmp 2), (.tmp 3)] K))) ex T H
theorem F15_s2_eq (R : Caller) (lim n : Nat) (K : AVal → Heap → Prop) (rec2 : AVal → AVal → AVal → AVal → Heap → Prop) (T : Tm) (H : Heap) : F15_s2 R lim n K rec2 (T 0) (T 4) (T 5) (T 9) H = execI R lim n 77 (F15_Lp2 R lim n K rec2) f15_p0 T H (F15_k2 R lim n K rec2) := by kernel_rfl
theorem F15_l2_ok (R : Caller) (lim n : Nat) (K : AVal → Heap → Prop) {kw : Kt} (hk : ∀ ex T H, (kBlk 2 (kSeq (execI R lim n 77 (F15_Lp R lim n K) f15_p1) (retW [(.tmp 2), (.tmp 3)] K))) ex T H → kw ex T H) : ∀ (m : Nat) (T : Tm) (H : Heap), F15_l2 R lim n K m (T 0) (T 4) (T 5) (T 9) H → loopW (execW R lim n 77 f15_p0) m T H kw
  | 0, _, _, h => False.elim h
  | m + 1, T, H, h => by
    have hb : ∀ ex T H, F15_k2 R lim n K (F15_l2 R lim n K m) ex T H → (fun ex T H => match ex with | .norm => loopW (execW R lim n 77 f15_p0) m T H kw | ex => kw ex T H : Kt) ex T H := by
      intro ex T H h
      cases ex with
      | norm => exact F15_l2_ok R lim n K hk m T H h
      | exit i => exact hk _ _ _ h
      | ret => exact hk _ _ _ h
    have h' : F15_s2 R lim n K (F15_l2 R lim n K m) (T 0) (T 4) (T 5) (T 9) H := h
    rw [F15_s2_eq] at h'
    exact execI_sound f15_p0 T H _ _ (oblig_nl (by kernel_rfl)) hb h'
def F15_k0 (R : Caller) (lim n : Nat) (K : AVal → Heap → Prop) (rec0 : AVal → AVal → AVal → AVal → Heap → Prop) : Kt := fun ex T H => match ex with
  | .norm => rec0 (T 0) (T 4) (T 5) (T 16) H
  | ex => (kBlk 0 (kSeq (execI R lim n 77 (F15_Lp R lim n K) f15_p3) (retW [(.tmp 2), (.tmp 3)] K))) ex T H
theorem F15_s0_eq (R : Caller) (lim n : Nat) (K : AVal → Heap → Prop) (rec0 : AVal → AVal → AVal → AVal → Heap → Prop) (T : Tm) (H : Heap) : F15_s0 R lim n K rec0 (T 0) (T 4) (T 5) (T 16) H = execI R lim n 77 (F15_Lp0 R lim n K rec0) f15_p2 T H (F15_k0 R lim n K rec0) := by kernel_rfl
theorem F15_l0_ok (R : Caller) (lim n : Nat) (K : AVal → Heap → Prop) {kw : Kt} (hk : ∀ ex T H, (kBlk 0 (kSeq (execI R lim n 77 (F15_Lp R lim n K) f15_p3) (retW [(.tmp 2), (.tmp 3)] K))) ex T H → kw ex T H) : ∀ (m : Nat) (T : Tm) (H : Heap), F15_l0 R lim n K m (T 0) (T 4) (T 5) (T 16) H → loopW (execW R lim n 77 f15_p2) m T H kw
  | 0, _, _, h => False.elim h
  | m + 1, T, H, h => by
    have hb : ∀ ex T H, F15_k0 R lim n K (F15_l0 R lim n K m) ex T H → (fun ex T H => match ex with | .norm => loopW (execW R lim n 77 f15_p2) m T H kw | ex => kw ex T H : Kt) ex T H := by
      intro ex T H h
      cases ex with
      | norm => exact F15_l0_ok R lim n K hk m T H h
      | exit i => exact hk _ _ _ h
      | ret => exact hk _ _ _ h
    have h' : F15_s0 R lim n K (F15_l0 R lim n K m) (T 0) (T 4) (T 5) (T 16) H := h
    rw [F15_s0_eq] at h'
    exact execI_sound f15_p2 T H _ _ (oblig_nl (by kernel_rfl)) hb h'
theorem F15_eq (R : Caller) (lim n : Nat) (K : AVal → Heap → Prop) (a0 : AVal) (H : Heap) : F15 R lim n K a0 H = execI R lim n 77 (F15_Lp R lim n K) f15.body (argT [a0]) H (retW [(.tmp 2), (.tmp 3)] K) := by kernel_rfl
theorem F15_ob (R : Caller) (lim n : Nat) (K : AVal → Heap → Prop) : Oblig R lim n 77 (F15_Lp R lim n K) f15.body (retW [(.tmp 2), (.tmp 3)] K) := ⟨(oblig_nl (by kernel_rfl)), ⟨(oblig_nl (by kernel_rfl)), ⟨(oblig_nl (by kernel_rfl)), ⟨⟨(oblig_nl (by kernel_rfl)), (fun T H h => F15_l0_ok R lim n K (kBlk_mono (kSeqI_sound ⟨(oblig_nl (by kernel_rfl)), ⟨(oblig_nl (by kernel_rfl)), ⟨(fun T H h => F15_l2_ok R lim n K (kBlk_mono (kSeqI_sound (oblig_nl (by kernel_rfl)) (fun _ _ _ h => h))) _ T H h), (oblig_nl (by kernel_rfl))⟩⟩⟩ (fun _ _ _ h => h))) _ T H h)⟩, ⟨(oblig_nl (by kernel_rfl)), ⟨(oblig_nl (by kernel_rfl)), ⟨(fun T H h => F15_l2_ok R lim n K (kBlk_mono (kSeqI_sound (oblig_nl (by kernel_rfl)) (fun _ _ _ h => h))) _ T H h), (oblig_nl (by kernel_rfl))⟩⟩⟩⟩⟩⟩⟩
theorem F15_run {ap : FuncId → Option AFn} (hf : ap 15 = some (.code f15)) {n lim : Nat} {K : AVal → Heap → Prop} {a0 : AVal} {H : Heap} (h : F15 (Ahs.runT ap n) lim n K a0 H) : ∃ v H', Ahs.runT ap (n + 1) lim (.fn 15) [a0] H = some (v, H') ∧ K v H' := by
  rw [F15_eq] at h
  exact run_of_W hf (by kernel_rfl) (by kernel_rfl) (execI_sound f15.body _ _ _ _ (F15_ob _ _ _ K) (fun _ _ _ h => h) h)
def F16_j0 (R : Caller) (lim n : Nat) (K : AVal → Heap → Prop) (t2 t4 : AVal) (H : Heap) : Prop :=
bindP (aload H (some 2) t4) fun v447 =>
bindP (astore lim H 2 t2 v447) fun H448 =>
bindP (aload H448 (some 2) t2) fun v449 =>
K (.tup [v449, (.bool true)]) H448
def F16_j1 (R : Caller) (lim n : Nat) (K : AVal → Heap → Prop) (rec4 : AVal → AVal → AVal → AVal → AVal → AVal → Heap → Prop) (t0 t2 t4 t5 t15 t18 t19 : AVal) (H : Heap) : Prop :=
bindP (abin .gtr t18 (.int .i64 0)) fun v497 =>
bindP (gd (some (v497, true)) (faddrO 1 t4)) fun v498 =>
bindP (gd (some (v497, true)) (aload H none v498)) fun v499 =>
bindP (gd (some (v497, true)) (some t18)) fun v500 =>
bindP (gd (some (v497, true)) (abin .sub v500 (.int .i64 1))) fun v501 =>
bindP (gd (some (v497, true)) (aindexAddr none 3 v499 v501)) fun v502 =>
bindP (gd (some (v497, true)) (faddrO 0 v502)) fun v503 =>
bindP (gd (some (v497, true)) (aload H none v503)) fun v504 =>
bindP (gd (some (v497, true)) (aload H (some 8) t19)) fun v505 =>
bind2 (gd2 (some (v497, true)) H (R lim (.fn 62) [v505] H)) fun v506 H507 =>
keptG (some (v497, true)) H H507 [v498, v503] ∧
bindP (gd (some (v497, true)) (abin .geq v504 v506)) fun v508 =>
bindP (pickO v497 v508 (.bool false)) fun v509 =>
bindP (boolOf v509) fun b510 =>
(b510 = true → (bindP (buildO zf3f7a3 []) fun v511 =>
bindP (astore lim H507 2 t2 v511) fun H512 =>
bindP (aload H512 (some 2) t2) fun v513 =>
K (.tup [v513, (.bool false)]) H512)) ∧
(b510 = false → (bindP (aload H507 (some 2) t4) fun v514 =>
bindP (abin .add t5 (.int .i64 8)) fun v515 =>
bindP (aindexStr t0 v515) fun v516 =>
bindP (aload H507 (some 8) t19) fun v517 =>
bindP (abin .add t5 (.int .i64 9)) fun v518 =>
bindP (aindexStr t0 v518) fun v519 =>
bind2 (R lim (.fn 63) [v514, v516, v517, v519] H507) fun v520 H521 =>
bindP (extO 0 v520) fun v522 =>
bindP (extO 1 v520) fun v523 =>
bindP (astore lim (H521.push (.cells zf3f7a3)) 2 (.ptr (some (H521.next, 0))) v522) fun H524 =>
bindP (abin .neq v523 (.int .u8 0)) fun v525 =>
bindP (boolOf v525) fun b526 =>
(b526 = true → (bindP (buildO zf3f7a3 []) fun v527 =>
bindP (astore lim H524 2 t2 v527) fun H528 =>
bindP (aload H528 (some 2) t2) fun v529 =>
K (.tup [v529, (.bool false)]) H528)) ∧
(b526 = false → (bindP (aload H524 (some 2) (.ptr (some (H521.next, 0)))) fun v530 =>
bindP (astore lim H524 2 t4 v530) fun H531 =>
bindP (abin .add t5 (.int .i64 10)) fun v532 =>
bindP (abin .add t18 (.int .i64 1)) fun v533 =>
rec4 t0 t2 t4 v532 t15 v533 H531))))
def F16_s6 (R : Caller) (lim n : Nat) (K : AVal → Heap → Prop) (rec4 : AVal → AVal → AVal → AVal → AVal → AVal → Heap → Prop) (rec6 : AVal → AVal → AVal → AVal → AVal → AVal → AVal → AVal → Heap → Prop) (t0 t2 t4 t5 t15 t18 t19 t20 : AVal) (H : Heap) : Prop :=
bindP (abin .lss t20 (.int .i64 8)) fun v534 =>
bindP (boolOf v534) fun b535 =>
(b535 = true → (bindP (abin .add t5 t20) fun v536 =>
bindP (aindexStr t0 v536) fun v537 =>
bindP (aindexAddr (some 8) 1 t19 t20) fun v538 =>
bindP (astore lim H 1 v538 v537) fun H539 =>
bindP (abin .add t20 (.int .i64 1)) fun v540 =>
rec6 t0 t2 t4 t5 t15 t18 t19 v540 H539)) ∧
(b535 = false → (F16_j1 R lim n K rec4 t0 t2 t4 t5 t15 t18 t19 H))
def F16_l6 (R : Caller) (lim n : Nat) (K : AVal → Heap → Prop) (rec4 : AVal → AVal → AVal → AVal → AVal → AVal → Heap → Prop) : Nat → AVal → AVal → AVal → AVal → AVal → AVal → AVal → AVal → Heap → Prop
  | 0, _, _, _, _, _, _, _, _, _ => False
  | m + 1, t0, t2, t4, t5, t15, t18, t19, t20, H => F16_s6 R lim n K rec4 (F16_l6 R lim n K rec4 m) t0 t2 t4 t5 t15 t18 t19 t20 H
def F16_s4 (R : Caller) (lim n : Nat) (K : AVal → Heap → Prop) (rec4 : AVal → AVal → AVal → AVal → AVal → AVal → Heap → Prop) (t0 t2 t4 t5 t15 t18 : AVal) (H : Heap) : Prop :=
bindP (convO .i64 t15) fun v450 =>
bindP (abin .lss t18 v450) fun v451 =>
bindP (boolOf v451) fun b452 =>
(b452 = true → (F16_l6 R lim n K rec4 n t0 t2 t4 t5 t15 t18 (.ptr (some (H.next, 0))) (.int .i64 0) (H.push (.cells zdff0c5)))) ∧
(b452 = false → (F16_j0 R lim n K t2 t4 H))
def F16_l4 (R : Caller) (lim n : Nat) (K : AVal → Heap → Prop) : Nat → AVal → AVal → AVal → AVal → AVal → AVal → Heap → Prop
  | 0, _, _, _, _, _, _, _ => False
  | m + 1, t0, t2, t4, t5, t15, t18, H => F16_s4 R lim n K (F16_l4 R lim n K m) t0 t2 t4 t5 t15 t18 H
def F16_j2 (R : Caller) (lim n : Nat) (K : AVal → Heap → Prop) (t0 t2 t4 t5 : AVal) (H : Heap) : Prop :=
bindP (asliceStr t0 (some t5) none) fun v329 =>
bind2 (R lim (.fn 60) [v329] H) fun v330 H331 =>
bindP (extO 0 v330) fun v332 =>
bindP (extO 1 v330) fun v333 =>
bindP (extO 2 v330) fun v334 =>
bindP (abin .add t5 v333) fun v335 =>
bindP (aun .not v334) fun v336 =>
bindP (gd (some (v336, false)) (some v332)) fun v337 =>
bindP (gd (some (v336, false)) (abin .gtr v337 (.int .u64 16))) fun v338 =>
bindP (pickO v336 (.bool true) v338) fun v339 =>
bindP (gd (some (v339, false)) (some t0)) fun v340 =>
bindP (gd (some (v339, false)) (alen true v340)) fun v341 =>
bindP (gd (some (v339, false)) (some v335)) fun v342 =>
bindP (gd (some (v339, false)) (abin .sub v341 v342)) fun v343 =>
bindP (gd (some (v339, false)) (some v332)) fun v344 =>
bindP (gd (some (v339, false)) (convO .i64 v344)) fun v345 =>
bindP (gd (some (v339, false)) (abin .mul (.int .i64 10) v345)) fun v346 =>
bindP (gd (some (v339, false)) (abin .neq v343 v346)) fun v347 =>
bindP (pickO v339 (.bool true) v347) fun v348 =>
bindP (boolOf v348) fun b349 =>
(b349 = true → (bindP (buildO zf3f7a3 []) fun v350 =>
bindP (astore lim H331 2 t2 v350) fun H351 =>
bindP (aload H351 (some 2) t2) fun v352 =>
K (.tup [v352, (.bool false)]) H351)) ∧
(b349 = false → (F16_l4 R lim n K n t0 t2 t4 v335 v332 (.int .i64 0) H331))
def F16_j3 (R : Caller) (lim n : Nat) (K : AVal → Heap → Prop) (rec0 : AVal → AVal → AVal → AVal → AVal → Heap → Prop) (t0 t2 t4 t5 t6 : AVal) (H : Heap) : Prop :=
bindP (abin .add t6 (.int .u8 1)) fun v606 =>
rec0 t0 t2 t4 t5 v606 H
def F16_j4 (R : Caller) (lim n : Nat) (K : AVal → Heap → Prop) (rec0 : AVal → AVal → AVal → AVal → AVal → Heap → Prop) (t0 t2 t4 t5 t6 t7 t8 : AVal) (H : Heap) : Prop :=
bindP (boolOf t7) fun b607 =>
(b607 = true → (bindP (aload H (some 2) t4) fun v608 =>
bindP (aindexAddr none 1 t8 (.int .i64 0)) fun v609 =>
bindP (aload H none v609) fun v610 =>
bindP (aindexAddr none 1 t8 (.int .i64 1)) fun v611 =>
bindP (aload H none v611) fun v612 =>
bindP (aindexAddr none 1 t8 (.int .i64 2)) fun v613 =>
bindP (aload H none v613) fun v614 =>
bindP (aindexAddr none 1 t8 (.int .i64 3)) fun v615 =>
bindP (aload H none v615) fun v616 =>
bindP (buildO z547173 [(0, 1, v610), (1, 1, v612), (2, 1, v614), (3, 1, v616)]) fun v617 =>
bind2 (R lim (.fn 61) [v608, t6, v617] H) fun v618 H619 =>
bindP (extO 0 v618) fun v620 =>
bindP (extO 1 v618) fun v621 =>
bindP (astore lim (H619.push (.cells zf3f7a3)) 2 (.ptr (some (H619.next, 0))) v620) fun H622 =>
bindP (abin .neq v621 (.int .u8 0)) fun v623 =>
bindP (boolOf v623) fun b624 =>
(b624 = true → (bindP (buildO zf3f7a3 []) fun v625 =>
bindP (astore lim H622 2 t2 v625) fun H626 =>
bindP (aload H626 (some 2) t2) fun v627 =>
K (.tup [v627, (.bool false)]) H626)) ∧
(b624 = false → (bindP (aload H622 (some 2) (.ptr (some (H619.next, 0)))) fun v628 =>
bindP (astore lim H622 2 t4 v628) fun H629 =>
F16_j3 R lim n K rec0 t0 t2 t4 t5 t6 H629)))) ∧
(b607 = false → (F16_j3 R lim n K rec0 t0 t2 t4 t5 t6 H))
def F16_s2 (R : Caller) (lim n : Nat) (K : AVal → Heap → Prop) (rec0 : AVal → AVal → AVal → AVal → AVal → Heap → Prop) (rec2 : AVal → AVal → AVal → AVal → AVal → AVal → AVal → AVal → Heap → Prop) (t0 t2 t4 t5 t6 t7 t8 t9 : AVal) (H : Heap) : Prop :=
bindP (abin .lss t9 (.int .i64 4)) fun v630 =>
bindP (gd (some (v630, true)) (some t7)) fun v631 =>
bindP (pickO v630 v631 (.bool false)) fun v632 =>
bindP (boolOf v632) fun b633 =>
(b633 = true → (bindP (asliceStr t0 (some t5) none) fun v634 =>
bind2 (R lim (.fn 60) [v634] H) fun v635 H636 =>
bindP (extO 0 v635) fun v637 =>
bindP (extO 1 v635) fun v638 =>
bindP (extO 2 v635) fun v639 =>
bindP (aun .not v639) fun v640 =>
bindP (gd (some (v640, false)) (some v637)) fun v641 =>
bindP (gd (some (v640, false)) (abin .gtr v641 (.int .u64 1000))) fun v642 =>
bindP (pickO v640 (.bool true) v642) fun v643 =>
bindP (boolOf v643) fun b644 =>
(b644 = true → (bindP (buildO zf3f7a3 []) fun v645 =>
bindP (astore lim H636 2 t2 v645) fun H646 =>
bindP (aload H646 (some 2) t2) fun v647 =>
K (.tup [v647, (.bool false)]) H646)) ∧
(b644 = false → (bindP (convO .i64 v637) fun v648 =>
bind2 ((fillV [(.int .i64 0)] [(0, 1, v648)]).map fun cs => (.sl (some (H636.next, 0)) 1 (.ex 1), H636.push (.cells cs))) fun v649 H650 =>
bind2 (aappend lim H650 [(.int .i64 0)] 8 false t8 v649) fun v651 H652 =>
bindP (abin .add t5 v638) fun v653 =>
bindP (abin .add t9 (.int .i64 1)) fun v654 =>
rec2 t0 t2 t4 v653 t6 t7 v651 v654 H652)))) ∧
(b633 = false → (F16_j4 R lim n K rec0 t0 t2 t4 t5 t6 t7 t8 H))
def F16_l2 (R : Caller) (lim n : Nat) (K : AVal → Heap → Prop) (rec0 : AVal → AVal → AVal → AVal → AVal → Heap → Prop) : Nat → AVal → AVal → AVal → AVal → AVal → AVal → AVal → AVal → Heap → Prop
  | 0, _, _, _, _, _, _, _, _, _ => False
  | m + 1, t0, t2, t4, t5, t6, t7, t8, t9, H => F16_s2 R lim n K rec0 (F16_l2 R lim n K rec0 m) t0 t2 t4 t5 t6 t7 t8 t9 H
def F16_s0 (R : Caller) (lim n : Nat) (K : AVal → Heap → Prop) (rec0 : AVal → AVal → AVal → AVal → AVal → Heap → Prop) (t0 t2 t4 t5 t6 : AVal) (H : Heap) : Prop :=
bindP (abin .lss t6 (.int .u8 4)) fun v541 =>
bindP (boolOf v541) fun b542 =>
(b542 = true → (bindP (alen true t0) fun v543 =>
bindP (abin .geq t5 v543) fun v544 =>
bindP (gd (some (v544, false)) (some t0)) fun v545 =>
bindP (gd (some (v544, false)) (some t5)) fun v546 =>
bindP (gd (some (v544, false)) (aindexStr v545 v546)) fun v547 =>
bindP (gd (some (v544, false)) (abin .gtr v547 (.int .u8 1))) fun v548 =>
bindP (pickO v544 (.bool true) v548) fun v549 =>
bindP (boolOf v549) fun b550 =>
(b550 = true → (bindP (buildO zf3f7a3 []) fun v551 =>
bindP (astore lim H 2 t2 v551) fun H552 =>
bindP (aload H552 (some 2) t2) fun v553 =>
K (.tup [v553, (.bool false)]) H552)) ∧
(b550 = false → (bindP (aindexStr t0 t5) fun v554 =>
bindP (abin .eql v554 (.int .u8 1)) fun v555 =>
bindP (abin .add t5 (.int .i64 1)) fun v556 =>
F16_l2 R lim n K rec0 n t0 t2 t4 v556 t6 v555 (.sl none 0 (.ex 0)) (.int .i64 0) H)))) ∧
(b542 = false → (F16_j2 R lim n K t0 t2 t4 t5 H))
def F16_l0 (R : Caller) (lim n : Nat) (K : AVal → Heap → Prop) : Nat → AVal → AVal → AVal → AVal → AVal → Heap → Prop
  | 0, _, _, _, _, _, _ => False
  | m + 1, t0, t2, t4, t5, t6, H => F16_s0 R lim n K (F16_l0 R lim n K m) t0 t2 t4 t5 t6 H
def F16 (R : Caller) (lim n : Nat) (K : AVal → Heap → Prop) (a0 : AVal) (H : Heap) : Prop :=
bindP (buildO zf3f7a3 []) fun v1 =>
bindP (astore lim ((H.push (.cells zf3f7a3)).push (.cells zf3f7a3)) 2 (.ptr (some ((H.push (.cells zf3f7a3)).next, 0))) v1) fun H2 =>
F16_l0 R lim n K n a0 (.ptr (some (H.next, 0))) (.ptr (some ((H.push (.cells zf3f7a3)).next, 0))) (.int .i64 0) (.int .u8 0) H2
def F16_Lp (R : Caller) (lim n : Nat) (K : AVal → Heap → Prop) : Nat → Tm → Heap → Prop
  | 0, T, H => F16_l0 R lim n K n (T 0) (T 2) (T 4) (T 5) (T 6) H
  | 4, T, H => F16_l4 R lim n K n (T 0) (T 2) (T 4) (T 5) (T 15) (T 18) H
  | _, _, _ => False
def F16_Lp0 (R : Caller) (lim n : Nat) (K : AVal → Heap → Prop) (rec0 : AVal → AVal → AVal → AVal → AVal → Heap → Prop) : Nat → Tm → Heap → Prop
  | 2, T, H => F16_l2 R lim n K rec0 n (T 0) (T 2) (T 4) (T 5) (T 6) (T 7) (T 8) (T 9) H
  | _, _, _ => False
def F16_Lp2 (R : Caller) (lim n : Nat) (K : AVal → Heap → Prop) (rec0 : AVal → AVal → AVal → AVal → AVal → Heap → Prop) (rec2 : AVal → AVal → AVal → AVal → AVal → AVal → AVal → AVal → Heap → Prop) : Nat → Tm → Heap → Prop
  | _, _, _ => False
def F16_Lp4 (R : Caller) (lim n : Nat) (K : AVal → Heap → Prop) (rec4 : AVal → AVal → AVal → AVal → AVal → AVal → Heap → Prop) : Nat → Tm → Heap → Prop
  | 6, T, H => F16_l6 R lim n K rec4 n (T 0) (T 2) (T 4) (T 5) (T 15) (T 18) (T 19) (T 20) H
  | _, _, _ => False
def F16_Lp6 (R : Caller) (lim n : Nat) (K : AVal → Heap → Prop) (rec4 : AVal → AVal → AVal → AVal → AVal → AVal → Heap → Prop) (rec6 : AVal → AVal → AVal → AVal → AVal → AVal → AVal → AVal → Heap → Prop) : Nat → Tm → Heap → Prop
  | _, _, _ => False
def F16_k4 (R : Caller) (lim n : Nat) (K : AVal → Heap → Prop) (rec4 : AVal → AVal → AVal → AVal → AVal → AVal → Heap → Prop) : Kt := fun ex T H => match ex with
  | .norm => rec4 (T 0) (T 2) (T 4) (T 5) (T 15) (T 18) H
  | ex => (kBlk 4 (kSeq (execI R lim n 180 (F16_Lp R lim n K) f16_p1) (retW [(.cell 2 (some 2)), (.tmp 3)] K))) ex T H
def F16_k6 (R : Caller) (lim n : Nat) (K : AVal → Heap → Prop) (rec4 : AVal → AVal → AVal → AVal → AVal → AVal → Heap → Prop) (rec6 : AVal → AVal → AVal → AVal → AVal → AVal → AVal → AVal → Heap → Prop) : Kt := fun ex T H => match ex with
  | .norm => rec6 (T 0) (T 2) (T 4) (T 5) (T 15) (T 18) (T 19) (T 20) H
  | ex => (kBlk 6 (kSeq (execI R lim n 180 (F16_Lp4 R lim n K rec4) f16_p3) (kBlk 5 (kSeq (execI R lim n 180 (F16_Lp4 R lim n K rec4) f16_p4) (F16_k4 R lim n K rec4))))) ex T H
theorem F16_s6_eq (R : Caller) (lim n : Nat) (K : AVal → Heap → Prop) (rec4 : AVal → AVal → AVal → AVal → AVal → AVal → Heap → Prop) (rec6 : AVal → AVal → AVal → AVal → AVal → AVal → AVal → AVal → Heap → Prop) (T : Tm) (H : Heap) : F16_s6 R lim n K rec4 rec6 (T 0) (T 2) (T 4) (T 5) (T 15) (T 18) (T 19) (T 20) H = execI R lim n 180 (F16_Lp6 R lim n K rec4 rec6) f16_p2 T H (F16_k6 R lim n K rec4 rec6) := by kernel_rfl
theorem F16_l6_ok (R : Caller) (lim n : Nat) (K : AVal → Heap → Prop) (rec4 : AVal → AVal → AVal → AVal → AVal → AVal → Heap → Prop) {kw : Kt} (hk : ∀ ex T H, (kBlk 6 (kSeq (execI R lim n 180 (F16_Lp4 R lim n K rec4) f16_p3) (kBlk 5 (kSeq (execI R lim n 180 (F16_Lp4 R lim n K rec4) f16_p4) (F16_k4 R lim n K rec4))))) ex T H → kw ex T H) : ∀ (m : Nat) (T : Tm) (H : Heap), F16_l6 R lim n K rec4 m (T 0) (T 2) (T 4) (T 5) (T 15) (T 18) (T 19) (T 20) H → loopW (execW R lim n 180 f16_p2) m T H kw
  | 0, _, _, h => False.elim h
  | m + 1, T, H, h => by
    have hb : ∀ ex T H, F16_k6 R lim n K rec4 (F16_l6 R lim n K rec4 m) ex T H → (fun ex T H => match ex with | .norm => loopW (execW R lim n 180 f16_p2) m T H kw | ex => kw ex T H : Kt) ex T H := by
      intro ex T H h
      cases ex with
      | norm => exact F16_l6_ok R lim n K rec4 hk m T H h
      | exit i => exact hk _ _ _ h
      | ret => exact hk _ _ _ h
    have h' : F16_s6 R lim n K rec4 (F16_l6 R lim n K rec4 m) (T 0) (T 2) (T 4) (T 5) (T 15) (T 18) (T 19) (T 20) H := h
    rw [F16_s6_eq] at h'
    exact execI_sound f16_p2 T H _ _ (oblig_nl (by kernel_rfl)) hb h'
theorem F16_s4_eq (R : Caller) (lim n : Nat) (K : AVal → Heap → Prop) (rec4 : AVal → AVal → AVal → AVal → AVal → AVal → Heap → Prop) (T : Tm) (H : Heap) : F16_s4 R lim n K rec4 (T 0) (T 2) (T 4) (T 5) (T 15) (T 18) H = execI R lim n 180 (F16_Lp4 R lim n K rec4) f16_p0 T H (F16_k4 R lim n K rec4) := by kernel_rfl
theorem F16_l4_ok (R : Caller) (lim n : Nat) (K : AVal → Heap → Prop) {kw : Kt} (hk : ∀ ex T H, (kBlk 4 (kSeq (execI R lim n 180 (F16_Lp R lim n K) f16_p1) (retW [(.cell 2 (some 2)), (.tmp 3)] K))) ex T H → kw ex T H) : ∀ (m : Nat) (T : Tm) (H : Heap), F16_l4 R lim n K m (T 0) (T 2) (T 4) (T 5) (T 15) (T 18) H → loopW (execW R lim n 180 f16_p0) m T H kw
  | 0, _, _, h => False.elim h
  | m + 1, T, H, h => by
    have hb : ∀ ex T H, F16_k4 R lim n K (F16_l4 R lim n K m) ex T H → (fun ex T H => match ex with | .norm => loopW (execW R lim n 180 f16_p0) m T H kw | ex => kw ex T H : Kt) ex T H := by
      intro ex T H h
      cases ex with
      | norm => exact F16_l4_ok R lim n K hk m T H h
      | exit i => exact hk _ _ _ h
      | ret => exact hk _ _ _ h
    have h' : F16_s4 R lim n K (F16_l4 R lim n K m) (T 0) (T 2) (T 4) (T 5) (T 15) (T 18) H := h
    rw [F16_s4_eq] at h'
    exact execI_sound f16_p0 T H _ _ ⟨(oblig_nl (by kernel_rfl)), ⟨⟨(oblig_nl (by kernel_rfl)), ⟨⟨(oblig_nl (by kernel_rfl)), (fun T H h => F16_l6_ok R lim n K (F16_l4 R lim n K m) (kBlk_mono (kSeqI_sound (oblig_nl (by kernel_rfl)) (kBlk_mono (kSeqI_sound (oblig_nl (by kernel_rfl)) (hb))))) _ T H h)⟩, (oblig_nl (by kernel_rfl))⟩⟩, (oblig_nl (by kernel_rfl))⟩⟩ hb h'
def F16_k0 (R : Caller) (lim n : Nat) (K : AVal → Heap → Prop) (rec0 : AVal → AVal → AVal → AVal → AVal → Heap → Prop) : Kt := fun ex T H => match ex with
  | .norm => rec0 (T 0) (T 2) (T 4) (T 5) (T 6) H
  | ex => (kBlk 0 (kSeq (execI R lim n 180 (F16_Lp R lim n K) f16_p6) (retW [(.cell 2 (some 2)), (.tmp 3)] K))) ex T H
def F16_k2 (R : Caller) (lim n : Nat) (K : AVal → Heap → Prop) (rec0 : AVal → AVal → AVal → AVal → AVal → Heap → Prop) (rec2 : AVal → AVal → AVal → AVal → AVal → AVal → AVal → AVal → Heap → Prop) : Kt := fun ex T H => match ex with
  | .norm => rec2 (T 0) (T 2) (T 4) (T 5) (T 6) (T 7) (T 8) (T 9) H
  | ex => (kBlk 2 (kSeq (execI R lim n 180 (F16_Lp0 R lim n K rec0) f16_p8) (kBlk 1 (kSeq (execI R lim n 180 (F16_Lp0 R lim n K rec0) f16_p9) (F16_k0 R lim n K rec0))))) ex T H
theorem F16_s2_eq (R : Caller) (lim n : Nat) (K : AVal → Heap → Prop) (rec0 : AVal → AVal → AVal → AVal → AVal → Heap → Prop) (rec2 : AVal → AVal → AVal → AVal → AVal → AVal → AVal → AVal → Heap → Prop) (T : Tm) (H : Heap) : F16_s2 R lim n K rec0 rec2 (T 0) (T 2) (T 4) (T 5) (T 6) (T 7) (T 8) (T 9) H = execI R lim n 180 (F16_Lp2 R lim n K rec0 rec2) f16_p7 T H (F16_k2 R lim n K rec0 rec2) := by kernel_rfl
theorem F16_l2_ok (R : Caller) (lim n : Nat) (K : AVal → Heap → Prop) (rec0 : AVal → AVal → AVal → AVal → AVal → Heap → Prop) {kw : Kt} (hk : ∀ ex T H, (kBlk 2 (kSeq (execI R lim n 180 (F16_Lp0 R lim n K rec0) f16_p8) (kBlk 1 (kSeq (execI R lim n 180 (F16_Lp0 R lim n K rec0) f16_p9) (F16_k0 R lim n K rec0))))) ex T H → kw ex T H) : ∀ (m : Nat) (T : Tm) (H : Heap), F16_l2 R lim n K rec0 m (T 0) (T 2) (T 4) (T 5) (T 6) (T 7) (T 8) (T 9) H → loopW (execW R lim n 180 f16_p7) m T H kw
  | 0, _, _, h => False.elim h
  | m + 1, T, H, h => by
    have hb : ∀ ex T H, F16_k2 R lim n K rec0 (F16_l2 R lim n K rec0 m) ex T H → (fun ex T H => match ex with | .norm => loopW (execW R lim n 180 f16_p7) m T H kw | ex => kw ex T H : Kt) ex T H := by
      intro ex T H h
      cases ex with
      | norm => exact F16_l2_ok R lim n K rec0 hk m T H h
      | exit i => exact hk _ _ _ h
      | ret => exact hk _ _ _ h
    have h' : F16_s2 R lim n K rec0 (F16_l2 R lim n K rec0 m) (T 0) (T 2) (T 4) (T 5) (T 6) (T 7) (T 8) (T 9) H := h
    rw [F16_s2_eq] at h'
    exact execI_sound f16_p7 T H _ _ (oblig_nl (by kernel_rfl)) hb h'
theorem F16_s0_eq (R : Caller) (lim n : Nat) (K : AVal → Heap → Prop) (rec0 : AVal → AVal → AVal → AVal → AVal → Heap → Prop) (T : Tm) (H : Heap) : F16_s0 R lim n K rec0 (T 0) (T 2) (T 4) (T 5) (T 6) H = execI R lim n 180 (F16_Lp0 R lim n K rec0) f16_p5 T H (F16_k0 R lim n K rec0) := by kernel_rfl
theorem F16_l0_ok (R : Caller) (lim n : Nat) (K : AVal → Heap → Prop) {kw : Kt} (hk : ∀ ex T H, (kBlk 0 (kSeq (execI R lim n 180 (F16_Lp R lim n K) f16_p6) (retW [(.cell 2 (some 2)), (.tmp 3)] K))) ex T H → kw ex T H) : ∀ (m : Nat) (T : Tm) (H : Heap), F16_l0 R lim n K m (T 0) (T 2) (T 4) (T 5) (T 6) H → loopW (execW R lim n 180 f16_p5) m T H kw
  | 0, _, _, h => False.elim h
  | m + 1, T, H, h => by
    have hb : ∀ ex T H, F16_k0 R lim n K (F16_l0 R lim n K m) ex T H → (fun ex T H => match ex with | .norm => loopW (execW R lim n 180 f16_p5) m T H kw | ex => kw ex T H : Kt) ex T H := by
      intro ex T H h
      cases ex with
      | norm => exact F16_l0_ok R lim n K hk m T H h
      | exit i => exact hk _ _ _ h
      | ret => exact hk _ _ _ h
    have h' : F16_s0 R lim n K (F16_l0 R lim n K m) (T 0) (T 2) (T 4) (T 5) (T 6) H := h
    rw [F16_s0_eq] at h'
    exact execI_sound f16_p5 T H _ _ ⟨(oblig_nl (by kernel_rfl)), ⟨⟨(oblig_nl (by kernel_rfl)), ⟨(oblig_nl (by kernel_rfl)), ⟨(oblig_nl (by kernel_rfl)), ⟨(oblig_nl (by kernel_rfl)), ⟨⟨(oblig_nl (by kernel_rfl)), (fun T H h => F16_l2_ok R lim n K (F16_l0 R lim n K m) (kBlk_mono (kSeqI_sound (oblig_nl (by kernel_rfl)) (kBlk_mono (kSeqI_sound (oblig_nl (by kernel_rfl)) (hb))))) _ T H h)⟩, (oblig_nl (by kernel_rfl))⟩⟩⟩⟩⟩, (oblig_nl (by kernel_rfl))⟩⟩ hb h'
theorem F16_eq (R : Caller) (lim n : Nat) (K : AVal → Heap → Prop) (a0 : AVal) (H : Heap) : F16 R lim n K a0 H = execI R lim n 180 (F16_Lp R lim n K) f16.body (argT [a0]) H (retW [(.cell 2 (some 2)), (.tmp 3)] K) := by kernel_rfl
theorem F16_ob (R : Caller) (lim n : Nat) (K : AVal → Heap → Prop) : Oblig R lim n 180 (F16_Lp R lim n K) f16.body (retW [(.cell 2 (some 2)), (.tmp 3)] K) := ⟨(oblig_nl (by kernel_rfl)), ⟨(oblig_nl (by kernel_rfl)), ⟨(oblig_nl (by kernel_rfl)), ⟨⟨(oblig_nl (by kernel_rfl)), (fun T H h => F16_l0_ok R lim n K (kBlk_mono (kSeqI_sound ⟨(oblig_nl (by kernel_rfl)), ⟨(oblig_nl (by kernel_rfl)), ⟨(oblig_nl (by kernel_rfl)), ⟨⟨(oblig_nl (by kernel_rfl)), (fun T H h => F16_l4_ok R lim n K (kBlk_mono (kSeqI_sound (oblig_nl (by kernel_rfl)) (fun _ _ _ h => h))) _ T H h)⟩, (oblig_nl (by kernel_rfl))⟩⟩⟩⟩ (fun _ _ _ h => h))) _ T H h)⟩, ⟨(oblig_nl (by kernel_rfl)), ⟨(oblig_nl (by kernel_rfl)), ⟨(oblig_nl (by kernel_rfl)), ⟨⟨(oblig_nl (by kernel_rfl)), (fun T H h => F16_l4_ok R lim n K (kBlk_mono (kSeqI_sound (oblig_nl (by kernel_rfl)) (fun _ _ _ h => h))) _ T H h)⟩, (oblig_nl (by kernel_rfl))⟩⟩⟩⟩⟩⟩⟩⟩
theorem F16_run {ap : FuncId → Option AFn} (hf : ap 16 = some (.code f16)) {n lim : Nat} {K : AVal → Heap → Prop} {a0 : AVal} {H : Heap} (h : F16 (Ahs.runT ap n) lim n K a0 H) : ∃ v H', Ahs.runT ap (n + 1) lim (.fn 16) [a0] H = some (v, H') ∧ K v H' := by
  rw [F16_eq] at h
  exact run_of_W hf (by kernel_rfl) (by kernel_rfl) (execI_sound f16.body _ _ _ _ (F16_ob _ _ _ K) (fun _ _ _ h => h) h)
def F17_j0 (R : Caller) (lim n : Nat) (K : AVal → Heap → Prop) (t3 : AVal) (H : Heap) : Prop :=
K t3 H
def F17_s2 (R : Caller) (lim n : Nat) (K : AVal → Heap → Prop) (rec2 : AVal → AVal → AVal → AVal → AVal → Heap → Prop) (t0 t3 t60 t61 t62 : AVal) (H : Heap) : Prop :=
bindP (abin .lss t62 t61) fun v147 =>
bindP (boolOf v147) fun b148 =>
(b148 = true → (bindP (aindexAddr none 8 t60 t62) fun v149 =>
bindP (aload H (some 8) v149) fun v150 =>
bindP (astore lim (H.push (.cells zdff0c5)) 8 (.ptr (some (H.next, 0))) v150) fun H151 =>
bindP (asliceArr 8 1 (.ptr (some (H.next, 0))) none none none) fun v152 =>
bindP (abytesToStr H151 v152) fun v153 =>
bindP (nilO t0) fun v154 =>
bindP (faddrO 16 v154) fun v155 =>
bindP (aload H151 none v155) fun v156 =>
bindP (aload H151 (some 8) (.ptr (some (H.next, 0)))) fun v157 =>
bindP (alookup H151 true [(.int .u8), (.int .u8), (.int .u8), (.int .u8), (.int .u8), (.int .u8), (.int .u8), (.int .u8)] (.agg [(.int .u8 0), (.int .u8 0)]) false v156 v157) fun v158 =>
bindP (fieldO 0 none v158) fun v159 =>
bindP (nilO t0) fun v160 =>
bindP (faddrO 16 v160) fun v161 =>
bindP (aload H151 none v161) fun v162 =>
bindP (aload H151 (some 8) (.ptr (some (H.next, 0)))) fun v163 =>
bindP (alookup H151 true [(.int .u8), (.int .u8), (.int .u8), (.int .u8), (.int .u8), (.int .u8), (.int .u8), (.int .u8)] (.agg [(.int .u8 0), (.int .u8 0)]) false v162 v163) fun v164 =>
bindP (fieldO 1 none v164) fun v165 =>
bind2 ((fillV [(.int .u8 0), (.int .u8 0)] [(0, 1, v159), (1, 1, v165)]).map fun cs => (.sl (some (H151.next, 0)) 2 (.ex 2), H151.push (.cells cs))) fun v166 H167 =>
bindP (abytesToStr H167 v166) fun v168 =>
bindP (abin .add v153 v168) fun v169 =>
bindP (abin .add t3 v169) fun v170 =>
bindP (abin .add t62 (.int .i64 1)) fun v171 =>
rec2 t0 v170 t60 t61 v171 H167)) ∧
(b148 = false → (F17_j0 R lim n K t3 H))
def F17_l2 (R : Caller) (lim n : Nat) (K : AVal → Heap → Prop) : Nat → AVal → AVal → AVal → AVal → AVal → Heap → Prop
  | 0, _, _, _, _, _, _ => False
  | m + 1, t0, t3, t60, t61, t62, H => F17_s2 R lim n K (F17_l2 R lim n K m) t0 t3 t60 t61 t62 H
def F17_j1 (R : Caller) (lim n : Nat) (K : AVal → Heap → Prop) (t0 t3 : AVal) (H : Heap) : Prop :=
bindP (nilO t0) fun v104 =>
bindP (faddrO 16 v104) fun v105 =>
bindP (aload H none v105) fun v106 =>
bindP (amapLen H v106) fun v107 =>
bindP (convO .u64 v107) fun v108 =>
bind2 ((fillV [(.int .u64 0)] [(0, 1, v108)]).map fun cs => (.sl (some (H.next, 0)) 1 (.ex 1), H.push (.cells cs))) fun v109 H110 =>
bind2 (R lim (.fn 66) [v109] H110) fun v111 H112 =>
bindP (abin .add t3 v111) fun v113 =>
bindP (nilO t0) fun v114 =>
bindP (faddrO 16 v114) fun v115 =>
bindP (aload H112 none v115) fun v116 =>
bind2 (R lim (.fn 68) [v116] H112) fun v117 H118 =>
bind2 (R lim (.fn 67) [v117, (.fn 69 [] [])] H118) fun v119 H120 =>
bindP (alen false v119) fun v121 =>
F17_l2 R lim n K n t0 v113 v119 v121 (.int .i64 0) H120
def F17_j2 (R : Caller) (lim n : Nat) (K : AVal → Heap → Prop) (rec0 : AVal → AVal → AVal → AVal → Heap → Prop) (t0 t3 t14 t15 : AVal) (H : Heap) : Prop :=
bindP (abin .add t15 (.int .i64 1)) fun v174 =>
rec0 t0 t3 t14 v174 H
def F17_s0 (R : Caller) (lim n : Nat) (K : AVal → Heap → Prop) (rec0 : AVal → AVal → AVal → AVal → Heap → Prop) (t0 t3 t14 t15 : AVal) (H : Heap) : Prop :=
bindP (abin .lss t15 (.int .i64 4)) fun v172 =>
bindP (boolOf v172) fun b173 =>
(b173 = true → (bindP (aindex 4 4 true t14 t15) fun v175 =>
bindP (astore lim (H.push (.cells z547173)) 4 (.ptr (some (H.next, 0))) v175) fun H176 =>
bindP (convO .u8 t15) fun v177 =>
bind2 (R lim (.fn 65) [t0, v177] H176) fun v178 H179 =>
bindP (aun .not v178) fun v180 =>
bindP (boolOf v180) fun b181 =>
(b181 = true → (bindP (abin .add t3 (.str [0])) fun v182 =>
F17_j2 R lim n K rec0 t0 v182 t14 t15 H179)) ∧
(b181 = false → (bindP (faddrO 0 (.ptr (some (H.next, 0)))) fun v183 =>
bindP (aload H179 none v183) fun v184 =>
bindP (convO .u64 v184) fun v185 =>
bindP (faddrO 1 (.ptr (some (H.next, 0)))) fun v186 =>
bindP (aload H179 none v186) fun v187 =>
bindP (convO .u64 v187) fun v188 =>
bindP (faddrO 2 (.ptr (some (H.next, 0)))) fun v189 =>
bindP (aload H179 none v189) fun v190 =>
bindP (convO .u64 v190) fun v191 =>
bindP (faddrO 3 (.ptr (some (H.next, 0)))) fun v192 =>
bindP (aload H179 none v192) fun v193 =>
bindP (convO .u64 v193) fun v194 =>
bind2 ((fillV z70c9c7 [(0, 1, v185), (1, 1, v188), (2, 1, v191), (3, 1, v194)]).map fun cs => (.sl (some (H179.next, 0)) 4 (.ex 4), H179.push (.cells cs))) fun v195 H196 =>
bind2 (R lim (.fn 66) [v195] H196) fun v197 H198 =>
bindP (abin .add (.str [1]) v197) fun v199 =>
bindP (abin .add t3 v199) fun v200 =>
F17_j2 R lim n K rec0 t0 v200 t14 t15 H198)))) ∧
(b173 = false → (F17_j1 R lim n K t0 t3 H))
def F17_l0 (R : Caller) (lim n : Nat) (K : AVal → Heap → Prop) : Nat → AVal → AVal → AVal → AVal → Heap → Prop
  | 0, _, _, _, _, _ => False
  | m + 1, t0, t3, t14, t15, H => F17_s0 R lim n K (F17_l0 R lim n K m) t0 t3 t14 t15 H
def F17 (R : Caller) (lim n : Nat) (K : AVal → Heap → Prop) (a0 : AVal) (H : Heap) : Prop :=
bind2 (R lim (.fn 64) [a0] H) fun v1 H2 =>
bindP (boolOf v1) fun b3 =>
(b3 = true → (K (.str []) H2)) ∧
(b3 = false → (bindP (nilO a0) fun v4 =>
bindP (faddrO 0 v4) fun v5 =>
bindP (aload H2 (some 16) v5) fun v6 =>
F17_l0 R lim n K n a0 (.str []) v6 (.int .i64 0) H2))
def F17_Lp (R : Caller) (lim n : Nat) (K : AVal → Heap → Prop) : Nat → Tm → Heap → Prop
  | 0, T, H => F17_l0 R lim n K n (T 0) (T 3) (T 14) (T 15) H
  | 2, T, H => F17_l2 R lim n K n (T 0) (T 3) (T 60) (T 61) (T 62) H
  | _, _, _ => False
def F17_Lp0 (R : Caller) (lim n : Nat) (K : AVal → Heap → Prop) (rec0 : AVal → AVal → AVal → AVal → Heap → Prop) : Nat → Tm → Heap → Prop
  | _, _, _ => False
def F17_Lp2 (R : Caller) (lim n : Nat) (K : AVal → Heap → Prop) (rec2 : AVal → AVal → AVal → AVal → AVal → Heap → Prop) : Nat → Tm → Heap → Prop
  | _, _, _ => False
def F17_k2 (R : Caller) (lim n : Nat) (K : AVal → Heap → Prop) (rec2 : AVal → AVal → AVal → AVal → AVal → Heap → Prop) : Kt := fun ex T H => match ex with
  | .norm => rec2 (T 0) (T 3) (T 60) (T 61) (T 62) H
  | ex => (kBlk 2 (kSeq (execI R lim n 89 (F17_Lp R lim n K) f17_p1) (retW [(.tmp 2)] K))) ex T H
theorem F17_s2_eq (R : Caller) (lim n : Nat) (K : AVal → Heap → Prop) (rec2 : AVal → AVal → AVal → AVal → AVal → Heap → Prop) (T : Tm) (H : Heap) : F17_s2 R lim n K rec2 (T 0) (T 3) (T 60) (T 61) (T 62) H = execI R lim n 89 (F17_Lp2 R lim n K rec2) f17_p0 T H (F17_k2 R lim n K rec2) := by kernel_rfl
theorem F17_l2_ok (R : Caller) (lim n : Nat) (K : AVal → Heap → Prop) {kw : Kt} (hk : ∀ ex T H, (kBlk 2 (kSeq (execI R lim n 89 (F17_Lp R lim n K) f17_p1) (retW [(.tmp 2)] K))) ex T H → kw ex T H) : ∀ (m : Nat) (T : Tm) (H : Heap), F17_l2 R lim n K m (T 0) (T 3) (T 60) (T 61) (T 62) H → loopW (execW R lim n 89 f17_p0) m T H kw
  | 0, _, _, h => False.elim h
  | m + 1, T, H, h => by
    have hb : ∀ ex T H, F17_k2 R lim n K (F17_l2 R lim n K m) ex T H → (fun ex T H => match ex with | .norm => loopW (execW R lim n 89 f17_p0) m T H kw | ex => kw ex T H : Kt) ex T H := by
      intro ex T H h
      cases ex with
      | norm => exact F17_l2_ok R lim n K hk m T H h
      | exit i => exact hk _ _ _ h
      | ret => exact hk _ _ _ h
    have h' : F17_s2 R lim n K (F17_l2 R lim n K m) (T 0) (T 3) (T 60) (T 61) (T 62) H := h
    rw [F17_s2_eq] at h'
    exact execI_sound f17_p0 T H _ _ (oblig_nl (by kernel_rfl)) hb h'
def F17_k0 (R : Caller) (lim n : Nat) (K : AVal → Heap → Prop) (rec0 : AVal → AVal → AVal → AVal → Heap → Prop) : Kt := fun ex T H => match ex with
  | .norm => rec0 (T 0) (T 3) (T 14) (T 15) H
  | ex => (kBlk 0 (kSeq (execI R lim n 89 (F17_Lp R lim n K) f17_p3) (retW [(.tmp 2)] K))) ex T H
theorem F17_s0_eq (R : Caller) (lim n : Nat) (K : AVal → Heap → Prop) (rec0 : AVal → AVal → AVal → AVal → Heap → Prop) (T : Tm) (H : Heap) : F17_s0 R lim n K rec0 (T 0) (T 3) (T 14) (T 15) H = execI R lim n 89 (F17_Lp0 R lim n K rec0) f17_p2 T H (F17_k0 R lim n K rec0) := by kernel_rfl
theorem F17_l0_ok (R : Caller) (lim n : Nat) (K : AVal → Heap → Prop) {kw : Kt} (hk : ∀ ex T H, (kBlk 0 (kSeq (execI R lim n 89 (F17_Lp R lim n K) f17_p3) (retW [(.tmp 2)] K))) ex T H → kw ex T H) : ∀ (m : Nat) (T : Tm) (H : Heap), F17_l0 R lim n K m (T 0) (T 3) (T 14) (T 15) H → loopW (execW R lim n 89 f17_p2) m T H kw
  | 0, _, _, h => False.elim h
  | m + 1, T, H, h => by
    have hb : ∀ ex T H, F17_k0 R lim n K (F17_l0 R lim n K m) ex T H → (fun ex T H => match ex with | .norm => loopW (execW R lim n 89 f17_p2) m T H kw | ex => kw ex T H : Kt) ex T H := by
      intro ex T H h
      cases ex with
      | norm => exact F17_l0_ok R lim n K hk m T H h
      | exit i => exact hk _ _ _ h
      | ret => exact hk _ _ _ h
    have h' : F17_s0 R lim n K (F17_l0 R lim n K m) (T 0) (T 3) (T 14) (T 15) H := h
    rw [F17_s0_eq] at h'
    exact execI_sound f17_p2 T H _ _ (oblig_nl (by kernel_rfl)) hb h'
theorem F17_eq (R : Caller) (lim n : Nat) (K : AVal → Heap → Prop) (a0 : AVal) (H : Heap) : F17 R lim n K a0 H = execI R lim n 89 (F17_Lp R lim n K) f17.body (argT [a0]) H (retW [(.tmp 2)] K) := by kernel_rfl
theorem F17_ob (R : Caller) (lim n : Nat) (K : AVal → Heap → Prop) : Oblig R lim n 89 (F17_Lp R lim n K) f17.body (retW [(.tmp 2)] K) := ⟨(oblig_nl (by kernel_rfl)), ⟨(oblig_nl (by kernel_rfl)), ⟨(oblig_nl (by kernel_rfl)), ⟨⟨(oblig_nl (by kernel_rfl)), (fun T H h => F17_l0_ok R lim n K (kBlk_mono (kSeqI_sound ⟨(oblig_nl (by kernel_rfl)), ⟨(oblig_nl (by kernel_rfl)), ⟨⟨(oblig_nl (by kernel_rfl)), (fun T H h => F17_l2_ok R lim n K (kBlk_mono (kSeqI_sound (oblig_nl (by kernel_rfl)) (fun _ _ _ h => h))) _ T H h)⟩, (oblig_nl (by kernel_rfl))⟩⟩⟩ (fun _ _ _ h => h))) _ T H h)⟩, ⟨(oblig_nl (by kernel_rfl)), ⟨(oblig_nl (by kernel_rfl)), ⟨⟨(oblig_nl (by kernel_rfl)), (fun T H h => F17_l2_ok R lim n K (kBlk_mono (kSeqI_sound (oblig_nl (by kernel_rfl)) (fun _ _ _ h => h))) _ T H h)⟩, (oblig_nl (by kernel_rfl))⟩⟩⟩⟩⟩⟩⟩
theorem F17_run {ap : FuncId → Option AFn} (hf : ap 17 = some (.code f17)) {n lim : Nat} {K : AVal → Heap → Prop} {a0 : AVal} {H : Heap} (h : F17 (Ahs.runT ap n) lim n K a0 H) : ∃ v H', Ahs.runT ap (n + 1) lim (.fn 17) [a0] H = some (v, H') ∧ K v H' := by
  rw [F17_eq] at h
  exact run_of_W hf (by kernel_rfl) (by kernel_rfl) (execI_sound f17.body _ _ _ _ (F17_ob _ _ _ K) (fun _ _ _ h => h) h)
def F18_j0 (R : Caller) (lim n : Nat) (K : AVal → Heap → Prop) (t3 : AVal) (H : Heap) : Prop :=
K t3 H
def F18_s2 (R : Caller) (lim n : Nat) (K : AVal → Heap → Prop) (rec2 : AVal → AVal → AVal → Heap → Prop) (t1 t3 t7 : AVal) (H : Heap) : Prop :=
bindP (faddrO 1 t1) fun v124 =>
bindP (aload H none v124) fun v125 =>
bindP (alen false v125) fun v126 =>
bindP (abin .lss t7 v126) fun v127 =>
bindP (boolOf v127) fun b128 =>
(b128 = true → (bindP (faddrO 1 t1) fun v129 =>
bindP (aload H none v129) fun v130 =>
bindP (aindexAddr none 3 v130 t7) fun v131 =>
bindP (faddrO 0 v131) fun v132 =>
bindP (aload H none v132) fun v133 =>
bindP (abin .add t3 v133) fun v134 =>
bindP (faddrO 1 t1) fun v135 =>
bindP (aload H none v135) fun v136 =>
bindP (aindexAddr none 3 v136 t7) fun v137 =>
bindP (faddrO 1 v137) fun v138 =>
bindP (aload H none v138) fun v139 =>
bindP (faddrO 1 t1) fun v140 =>
bindP (aload H none v140) fun v141 =>
bindP (aindexAddr none 3 v141 t7) fun v142 =>
bindP (faddrO 2 v142) fun v143 =>
bindP (aload H none v143) fun v144 =>
bind2 ((fillV [(.int .u8 0), (.int .u8 0)] [(0, 1, v139), (1, 1, v144)]).map fun cs => (.sl (some (H.next, 0)) 2 (.ex 2), H.push (.cells cs))) fun v145 H146 =>
bindP (abytesToStr H146 v145) fun v147 =>
bindP (abin .add v134 v147) fun v148 =>
bindP (abin .add t7 (.int .i64 1)) fun v149 =>
rec2 t1 v148 v149 H146)) ∧
(b128 = false → (F18_j0 R lim n K t3 H))
def F18_l2 (R : Caller) (lim n : Nat) (K : AVal → Heap → Prop) : Nat → AVal → AVal → AVal → Heap → Prop
  | 0, _, _, _, _ => False
  | m + 1, t1, t3, t7, H => F18_s2 R lim n K (F18_l2 R lim n K m) t1 t3 t7 H
def F18_j1 (R : Caller) (lim n : Nat) (K : AVal → Heap → Prop) (t1 t3 : AVal) (H : Heap) : Prop :=
bindP (faddrO 1 t1) fun v91 =>
bindP (aload H none v91) fun v92 =>
bindP (alen false v92) fun v93 =>
bindP (convO .u64 v93) fun v94 =>
bind2 (R lim (.fn 72) [v94] H) fun v95 H96 =>
bindP (abin .add t3 v95) fun v97 =>
F18_l2 R lim n K n t1 v97 (.int .i64 0) H96
def F18_j2 (R : Caller) (lim n : Nat) (K : AVal → Heap → Prop) (rec0 : AVal → AVal → AVal → Heap → Prop) (t1 t3 t4 : AVal) (H : Heap) : Prop :=
bindP (abin .add t4 (.int .u8 1)) fun v158 =>
rec0 t1 t3 v158 H
def F18_s0 (R : Caller) (lim n : Nat) (K : AVal → Heap → Prop) (rec0 : AVal → AVal → AVal → Heap → Prop) (t1 t3 t4 : AVal) (H : Heap) : Prop :=
bindP (abin .lss t4 (.int .u8 4)) fun v150 =>
bindP (boolOf v150) fun b151 =>
(b151 = true → (bindP (aload H (some 2) t1) fun v152 =>
bind2 (R lim (.fn 32) [v152, t4] H) fun v153 H154 =>
bindP (extO 0 v153) fun v155 =>
bindP (extO 1 v153) fun v156 =>
bindP (astore lim (H154.push (.cells z547173)) 4 (.ptr (some (H154.next, 0))) v155) fun H157 =>
bindP (boolOf v156) fun b159 =>
(b159 = true → (bindP (abin .add t3 (.str [1])) fun v160 =>
bindP (faddrO 0 (.ptr (some (H154.next, 0)))) fun v161 =>
bindP (aload H157 none v161) fun v162 =>
bindP (convO .u64 v162) fun v163 =>
bindP (faddrO 1 (.ptr (some (H154.next, 0)))) fun v164 =>
bindP (aload H157 none v164) fun v165 =>
bindP (convO .u64 v165) fun v166 =>
bindP (faddrO 2 (.ptr (some (H154.next, 0)))) fun v167 =>
bindP (aload H157 none v167) fun v168 =>
bindP (convO .u64 v168) fun v169 =>
bindP (faddrO 3 (.ptr (some (H154.next, 0)))) fun v170 =>
bindP (aload H157 none v170) fun v171 =>
bindP (convO .u64 v171) fun v172 =>
bind2 ((fillV z70c9c7 [(0, 1, v163), (1, 1, v166), (2, 1, v169), (3, 1, v172)]).map fun cs => (.sl (some (H157.next, 0)) 4 (.ex 4), H157.push (.cells cs))) fun v173 H174 =>
bind2 (R lim (.fn 71) [v173] H174) fun v175 H176 =>
bindP (abin .add v160 v175) fun v177 =>
F18_j2 R lim n K rec0 t1 v177 t4 H176)) ∧
(b159 = false → (bindP (abin .add t3 (.str [0])) fun v178 =>
F18_j2 R lim n K rec0 t1 v178 t4 H157)))) ∧
(b151 = false → (F18_j1 R lim n K t1 t3 H))
def F18_l0 (R : Caller) (lim n : Nat) (K : AVal → Heap → Prop) : Nat → AVal → AVal → AVal → Heap → Prop
  | 0, _, _, _, _ => False
  | m + 1, t1, t3, t4, H => F18_s0 R lim n K (F18_l0 R lim n K m) t1 t3 t4 H
def F18 (R : Caller) (lim n : Nat) (K : AVal → Heap → Prop) (a0 : AVal) (H : Heap) : Prop :=
bind2 (if (a0).cells.all (·.one) then some (.ptr (some (H.next, 0)), H.push (.cells (a0).cells)) else none) fun v1 H2 =>
F18_l0 R lim n K n v1 (.str []) (.int .u8 0) H2
def F18_Lp (R : Caller) (lim n : Nat) (K : AVal → Heap → Prop) : Nat → Tm → Heap → Prop
  | 0, T, H => F18_l0 R lim n K n (T 1) (T 3) (T 4) H
  | 2, T, H => F18_l2 R lim n K n (T 1) (T 3) (T 7) H
  | _, _, _ => False
def F18_Lp0 (R : Caller) (lim n : Nat) (K : AVal → Heap → Prop) (rec0 : AVal → AVal → AVal → Heap → Prop) : Nat → Tm → Heap → Prop
  | _, _, _ => False
def F18_Lp2 (R : Caller) (lim n : Nat) (K : AVal → Heap → Prop) (rec2 : AVal → AVal → AVal → Heap → Prop) : Nat → Tm → Heap → Prop
  | _, _, _ => False
def F18_k2 (R : Caller) (lim n : Nat) (K : AVal → Heap → Prop) (rec2 : AVal → AVal → AVal → Heap → Prop) : Kt := fun ex T H => match ex with
  | .norm => rec2 (T 1) (T 3) (T 7) H
  | ex => (kBlk 2 (kSeq (execI R lim n 76 (F18_Lp R lim n K) f18_p1) (retW [(.tmp 2)] K))) ex T H
theorem F18_s2_eq (R : Caller) (lim n : Nat) (K : AVal → Heap → Prop) (rec2 : AVal → AVal → AVal → Heap → Prop) (T : Tm) (H : Heap) : F18_s2 R lim n K rec2 (T 1) (T 3) (T 7) H = execI R lim n 76 (F18_Lp2 R lim n K rec2) f18_p0 T H (F18_k2 R lim n K rec2) := by kernel_rfl
theorem F18_l2_ok (R : Caller) (lim n : Nat) (K : AVal → Heap → Prop) {kw : Kt} (hk : ∀ ex T H, (kBlk 2 (kSeq (execI R lim n 76 (F18_Lp R lim n K) f18_p1) (retW [(.tmp 2)] K))) ex T H → kw ex T H) : ∀ (m : Nat) (T : Tm) (H : Heap), F18_l2 R lim n K m (T 1) (T 3) (T 7) H → loopW (execW R lim n 76 f18_p0) m T H kw
  | 0, _, _, h => False.elim h
  | m + 1, T, H, h => by
    have hb : ∀ ex T H, F18_k2 R lim n K (F18_l2 R lim n K m) ex T H → (fun ex T H => match ex with | .norm => loopW (execW R lim n 76 f18_p0) m T H kw | ex => kw ex T H : Kt) ex T H := by
      intro ex T H h
      cases ex with
      | norm => exact F18_l2_ok R lim n K hk m T H h
      | exit i => exact hk _ _ _ h
      | ret => exact hk _ _ _ h
    have h' : F18_s2 R lim n K (F18_l2 R lim n K m) (T 1) (T 3) (T 7) H := h
    rw [F18_s2_eq] at h'
    exact execI_sound f18_p0 T H _ _ (oblig_nl (by kernel_rfl)) hb h'
def F18_k0 (R : Caller) (lim n : Nat) (K : AVal → Heap → Prop) (rec0 : AVal → AVal → AVal → Heap → Prop) : Kt := fun ex T H => match ex with
  | .norm => rec0 (T 1) (T 3) (T 4) H
  | ex => (kBlk 0 (kSeq (execI R lim n 76 (F18_Lp R lim n K) f18_p3) (retW [(.tmp 2)] K))) ex T H
theorem F18_s0_eq (R : Caller) (lim n : Nat) (K : AVal → Heap → Prop) (rec0 : AVal → AVal → AVal → Heap → Prop) (T : Tm) (H : Heap) : F18_s0 R lim n K rec0 (T 1) (T 3) (T 4) H = execI R lim n 76 (F18_Lp0 R lim n K rec0) f18_p2 T H (F18_k0 R lim n K rec0) := by kernel_rfl
theorem F18_l0_ok (R : Caller) (lim n : Nat) (K : AVal → Heap → Prop) {kw : Kt} (hk : ∀ ex T H, (kBlk 0 (kSeq (execI R lim n 76 (F18_Lp R lim n K) f18_p3) (retW [(.tmp 2)] K))) ex T H → kw ex T H) : ∀ (m : Nat) (T : Tm) (H : Heap), F18_l0 R lim n K m (T 1) (T 3) (T 4) H → loopW (execW R lim n 76 f18_p2) m T H kw
  | 0, _, _, h => False.elim h
  | m + 1, T, H, h => by
    have hb : ∀ ex T H, F18_k0 R lim n K (F18_l0 R lim n K m) ex T H → (fun ex T H => match ex with | .norm => loopW (execW R lim n 76 f18_p2) m T H kw | ex => kw ex T H : Kt) ex T H := by
      intro ex T H h
      cases ex with
      | norm => exact F18_l0_ok R lim n K hk m T H h
      | exit i => exact hk _ _ _ h
      | ret => exact hk _ _ _ h
    have h' : F18_s0 R lim n K (F18_l0 R lim n K m) (T 1) (T 3) (T 4) H := h
    rw [F18_s0_eq] at h'
    exact execI_sound f18_p2 T H _ _ (oblig_nl (by kernel_rfl)) hb h'
theorem F18_eq (R : Caller) (lim n : Nat) (K : AVal → Heap → Prop) (a0 : AVal) (H : Heap) : F18 R lim n K a0 H = execI R lim n 76 (F18_Lp R lim n K) f18.body (argT [a0]) H (retW [(.tmp 2)] K) := by kernel_rfl
theorem F18_ob (R : Caller) (lim n : Nat) (K : AVal → Heap → Prop) : Oblig R lim n 76 (F18_Lp R lim n K) f18.body (retW [(.tmp 2)] K) := ⟨(oblig_nl (by kernel_rfl)), ⟨(oblig_nl (by kernel_rfl)), ⟨⟨(oblig_nl (by kernel_rfl)), (fun T H h => F18_l0_ok R lim n K (kBlk_mono (kSeqI_sound ⟨(oblig_nl (by kernel_rfl)), ⟨⟨(oblig_nl (by kernel_rfl)), (fun T H h => F18_l2_ok R lim n K (kBlk_mono (kSeqI_sound (oblig_nl (by kernel_rfl)) (fun _ _ _ h => h))) _ T H h)⟩, (oblig_nl (by kernel_rfl))⟩⟩ (fun _ _ _ h => h))) _ T H h)⟩, ⟨(oblig_nl (by kernel_rfl)), ⟨⟨(oblig_nl (by kernel_rfl)), (fun T H h => F18_l2_ok R lim n K (kBlk_mono (kSeqI_sound (oblig_nl (by kernel_rfl)) (fun _ _ _ h => h))) _ T H h)⟩, (oblig_nl (by kernel_rfl))⟩⟩⟩⟩⟩
theorem F18_run {ap : FuncId → Option AFn} (hf : ap 18 = some (.code f18)) {n lim : Nat} {K : AVal → Heap → Prop} {a0 : AVal} {H : Heap} (h : F18 (Ahs.runT ap n) lim n K a0 H) : ∃ v H', Ahs.runT ap (n + 1) lim (.fn 18) [a0] H = some (v, H') ∧ K v H' := by
  rw [F18_eq] at h
  exact run_of_W hf (by kernel_rfl) (by kernel_rfl) (execI_sound f18.body _ _ _ _ (F18_ob _ _ _ K) (fun _ _ _ h => h) h)
def F20 (R : Caller) (lim n : Nat) (K : AVal → Heap → Prop) (H : Heap) : Prop :=
bind2 (if hintOK none then some (.map (some H.next), H.push (.map [] ⟨0, []⟩)) else none) fun v1 H2 =>
bindP (buildO z39dd08 [(16, 1, v1)]) fun v3 =>
bind2 (if (v3).cells.all (·.one) then some (.ptr (some (H2.next, 0)), H2.push (.cells (v3).cells)) else none) fun v4 H5 =>
K v4 H5
def F20_Lp (R : Caller) (lim n : Nat) (K : AVal → Heap → Prop) : Nat → Tm → Heap → Prop
  | _, _, _ => False
theorem F20_eq (R : Caller) (lim n : Nat) (K : AVal → Heap → Prop) (H : Heap) : F20 R lim n K  H = execI R lim n 4 (F20_Lp R lim n K) f20.body (argT []) H (retW [(.tmp 0)] K) := by kernel_rfl
theorem F20_ob (R : Caller) (lim n : Nat) (K : AVal → Heap → Prop) : Oblig R lim n 4 (F20_Lp R lim n K) f20.body (retW [(.tmp 0)] K) := (oblig_nl (by kernel_rfl))
theorem F20_run {ap : FuncId → Option AFn} (hf : ap 20 = some (.code f20)) {n lim : Nat} {K : AVal → Heap → Prop} {H : Heap} (h : F20 (Ahs.runT ap n) lim n K  H) : ∃ v H', Ahs.runT ap (n + 1) lim (.fn 20) [] H = some (v, H') ∧ K v H' := by
  rw [F20_eq] at h
  exact run_of_W hf (by kernel_rfl) (by kernel_rfl) (execI_sound f20.body _ _ _ _ (F20_ob _ _ _ K) (fun _ _ _ h => h) h)
def F22_j0 (R : Caller) (lim n : Nat) (K : AVal → Heap → Prop) (t0 t1 t5 t7 : AVal) (H : Heap) : Prop :=
bindP (faddrO 0 t7) fun v64 =>
bindP (aload H none v64) fun v65 =>
bindP (abin .gtr v65 (.int .i64 48)) fun v66 =>
bindP (gd (some (v66, false)) (faddrO 1 t7)) fun v67 =>
bindP (gd (some (v66, false)) (aload H none v67)) fun v68 =>
bindP (gd (some (v66, false)) (abin .gtr v68 (.int .i64 1536))) fun v69 =>
bindP (pickO v66 (.bool true) v69) fun v70 =>
bindP (gd (some (v70, false)) (faddrO 2 t7)) fun v71 =>
bindP (gd (some (v70, false)) (aload H none v71)) fun v72 =>
bindP (gd (some (v70, false)) (abin .gtr v72 (.int .i64 200))) fun v73 =>
bindP (pickO v70 (.bool true) v73) fun v74 =>
bindP (boolOf v74) fun b75 =>
(b75 = true → (K (.int .u8 9) H)) ∧
(b75 = false → (bindP (aload H (some 4) t5) fun v76 =>
bindP (nilO t0) fun v77 =>
bindP (faddrO 0 v77) fun v78 =>
bindP (aindexAddr (some 4) 4 v78 t1) fun v79 =>
bindP (astore lim H 4 v79 v76) fun H80 =>
K (.int .u8 0) H80))
def F22_s1 (R : Caller) (lim n : Nat) (K : AVal → Heap → Prop) (rec1 : AVal → AVal → AVal → AVal → AVal → AVal → Heap → Prop) (t0 t1 t5 t7 t29 t30 : AVal) (H : Heap) : Prop :=
bindP (abin .lss t30 (.int .i64 4)) fun v81 =>
bindP (boolOf v81) fun b82 =>
(b82 = true → (bindP (aindex 4 4 true t29 t30) fun v83 =>
bindP (astore lim (H.push (.cells z547173)) 4 (.ptr (some (H.next, 0))) v83) fun H84 =>
bindP (faddrO 0 t7) fun v85 =>
bindP (aload H84 none v85) fun v86 =>
bindP (faddrO 0 (.ptr (some (H.next, 0)))) fun v87 =>
bindP (aload H84 none v87) fun v88 =>
bindP (abin .add v86 v88) fun v89 =>
bindP (faddrO 1 t7) fun v90 =>
bindP (aload H84 none v90) fun v91 =>
bindP (faddrO 1 (.ptr (some (H.next, 0)))) fun v92 =>
(apartB v92 t7 && true) = true ∧
bindP (aload H84 none v92) fun v93 =>
bindP (abin .add v91 v93) fun v94 =>
bindP (faddrO 2 t7) fun v95 =>
bindP (aload H84 none v95) fun v96 =>
bindP (faddrO 2 (.ptr (some (H.next, 0)))) fun v97 =>
(apartB v97 t7 && (apartB v97 t7 && true)) = true ∧
bindP (aload H84 none v97) fun v98 =>
bindP (abin .add v96 v98) fun v99 =>
bindP (faddrO 0 t7) fun v100 =>
bindP (astore lim H84 1 v100 v89) fun H101 =>
bindP (faddrO 1 t7) fun v102 =>
bindP (astore lim H101 1 v102 v94) fun H103 =>
bindP (faddrO 2 t7) fun v104 =>
bindP (astore lim H103 1 v104 v99) fun H105 =>
bindP (abin .add t30 (.int .i64 1)) fun v106 =>
rec1 t0 t1 t5 t7 t29 v106 H105)) ∧
(b82 = false → (F22_j0 R lim n K t0 t1 t5 t7 H))
def F22_l1 (R : Caller) (lim n : Nat) (K : AVal → Heap → Prop) : Nat → AVal → AVal → AVal → AVal → AVal → AVal → Heap → Prop
  | 0, _, _, _, _, _, _, _ => False
  | m + 1, t0, t1, t5, t7, t29, t30, H => F22_s1 R lim n K (F22_l1 R lim n K m) t0 t1 t5 t7 t29 t30 H
def F22 (R : Caller) (lim n : Nat) (K : AVal → Heap → Prop) (a0 a1 a2 : AVal) (H : Heap) : Prop :=
bind2 (if (a2).cells.all (·.one) then some (.ptr (some (H.next, 0)), H.push (.cells (a2).cells)) else none) fun v1 H2 =>
bind2 (R lim (.fn 64) [a0] H2) fun v3 H4 =>
bindP (boolOf v3) fun b5 =>
(b5 = true → (K (.int .u8 9) H4)) ∧
(b5 = false → (bindP (abin .geq a1 (.int .u8 4)) fun v6 =>
bindP (gd (some (v6, false)) (aload H4 (some 4) v1)) fun v7 =>
bind2 (gd2 (some (v6, false)) H4 (R lim (.fn 34) [v7] H4)) fun v8 H9 =>
bindP (gd (some (v6, false)) (aun .not v8)) fun v10 =>
bindP (pickO v6 (.bool true) v10) fun v11 =>
bindP (boolOf v11) fun b12 =>
(b12 = true → (K (.int .u8 11) H9)) ∧
(b12 = false → (bind2 (R lim (.fn 65) [a0, a1] H9) fun v13 H14 =>
bindP (boolOf v13) fun b15 =>
(b15 = true → (K (.int .u8 10) H14)) ∧
(b15 = false → (bindP (aload H14 (some 4) v1) fun v16 =>
bindP (astore lim (H14.push (.cells z547173)) 4 (.ptr (some (H14.next, 0))) v16) fun H17 =>
bindP (nilO a0) fun v18 =>
bindP (faddrO 0 v18) fun v19 =>
bindP (aload H17 (some 16) v19) fun v20 =>
F22_l1 R lim n K n a0 a1 v1 (.ptr (some (H14.next, 0))) v20 (.int .i64 0) H17))))))
def F22_Lp (R : Caller) (lim n : Nat) (K : AVal → Heap → Prop) : Nat → Tm → Heap → Prop
  | 1, T, H => F22_l1 R lim n K n (T 0) (T 1) (T 5) (T 7) (T 29) (T 30) H
  | _, _, _ => False
def F22_Lp1 (R : Caller) (lim n : Nat) (K : AVal → Heap → Prop) (rec1 : AVal → AVal → AVal → AVal → AVal → AVal → Heap → Prop) : Nat → Tm → Heap → Prop
  | _, _, _ => False
def F22_k1 (R : Caller) (lim n : Nat) (K : AVal → Heap → Prop) (rec1 : AVal → AVal → AVal → AVal → AVal → AVal → Heap → Prop) : Kt := fun ex T H => match ex with
  | .norm => rec1 (T 0) (T 1) (T 5) (T 7) (T 29) (T 30) H
  | ex => (kBlk 1 (kSeq (execI R lim n 71 (F22_Lp R lim n K) f22_p1) (retW [(.tmp 6)] K))) ex T H
theorem F22_s1_eq (R : Caller) (lim n : Nat) (K : AVal → Heap → Prop) (rec1 : AVal → AVal → AVal → AVal → AVal → AVal → Heap → Prop) (T : Tm) (H : Heap) : F22_s1 R lim n K rec1 (T 0) (T 1) (T 5) (T 7) (T 29) (T 30) H = execI R lim n 71 (F22_Lp1 R lim n K rec1) f22_p0 T H (F22_k1 R lim n K rec1) := by kernel_rfl
theorem F22_l1_ok (R : Caller) (lim n : Nat) (K : AVal → Heap → Prop) {kw : Kt} (hk : ∀ ex T H, (kBlk 1 (kSeq (execI R lim n 71 (F22_Lp R lim n K) f22_p1) (retW [(.tmp 6)] K))) ex T H → kw ex T H) : ∀ (m : Nat) (T : Tm) (H : Heap), F22_l1 R lim n K m (T 0) (T 1) (T 5) (T 7) (T 29) (T 30) H → loopW (execW R lim n 71 f22_p0) m T H kw
  | 0, _, _, h => False.elim h
  | m + 1, T, H, h => by
    have hb : ∀ ex T H, F22_k1 R lim n K (F22_l1 R lim n K m) ex T H → (fun ex T H => match ex with | .norm => loopW (execW R lim n 71 f22_p0) m T H kw | ex => kw ex T H : Kt) ex T H := by
      intro ex T H h
      cases ex with
      | norm => exact F22_l1_ok R lim n K hk m T H h
      | exit i => exact hk _ _ _ h
      | ret => exact hk _ _ _ h
    have h' : F22_s1 R lim n K (F22_l1 R lim n K m) (T 0) (T 1) (T 5) (T 7) (T 29) (T 30) H := h
    rw [F22_s1_eq] at h'
    exact execI_sound f22_p0 T H _ _ (oblig_nl (by kernel_rfl)) hb h'
theorem F22_eq (R : Caller) (lim n : Nat) (K : AVal → Heap → Prop) (a0 a1 a2 : AVal) (H : Heap) : F22 R lim n K a0 a1 a2 H = execI R lim n 71 (F22_Lp R lim n K) f22.body (argT [a0, a1, a2]) H (retW [(.tmp 6)] K) := by kernel_rfl
theorem F22_ob (R : Caller) (lim n : Nat) (K : AVal → Heap → Prop) : Oblig R lim n 71 (F22_Lp R lim n K) f22.body (retW [(.tmp 6)] K) := ⟨(oblig_nl (by kernel_rfl)), ⟨(oblig_nl (by kernel_rfl)), ⟨(oblig_nl (by kernel_rfl)), ⟨⟨(oblig_nl (by kernel_rfl)), (fun T H h => F22_l1_ok R lim n K (kBlk_mono (kSeqI_sound (oblig_nl (by kernel_rfl)) (fun _ _ _ h => h))) _ T H h)⟩, (oblig_nl (by kernel_rfl))⟩⟩⟩⟩
theorem F22_run {ap : FuncId → Option AFn} (hf : ap 22 = some (.code f22)) {n lim : Nat} {K : AVal → Heap → Prop} {a0 a1 a2 : AVal} {H : Heap} (h : F22 (Ahs.runT ap n) lim n K a0 a1 a2 H) : ∃ v H', Ahs.runT ap (n + 1) lim (.fn 22) [a0, a1, a2] H = some (v, H') ∧ K v H' := by
  rw [F22_eq] at h
  exact run_of_W hf (by kernel_rfl) (by kernel_rfl) (execI_sound f22.body _ _ _ _ (F22_ob _ _ _ K) (fun _ _ _ h => h) h)
def F23 (R : Caller) (lim n : Nat) (K : AVal → Heap → Prop) (a0 a1 a2 a3 : AVal) (H : Heap) : Prop :=
bind2 (if (a2).cells.all (·.one) then some (.ptr (some (H.next, 0)), H.push (.cells (a2).cells)) else none) fun v1 H2 =>
bind2 (R lim (.fn 64) [a0] H2) fun v3 H4 =>
bindP (boolOf v3) fun b5 =>
(b5 = true → (K (.int .u8 9) H4)) ∧
(b5 = false → (bindP (abin .geq a1 (.int .u8 4)) fun v6 =>
bindP (gd (some (v6, false)) (some a3)) fun v7 =>
bindP (gd (some (v6, false)) (abin .lss v7 (.int .u8 1))) fun v8 =>
bindP (pickO v6 (.bool true) v8) fun v9 =>
bindP (gd (some (v9, false)) (some a3)) fun v10 =>
bindP (gd (some (v9, false)) (abin .gtr v10 (.int .u8 3))) fun v11 =>
bindP (pickO v9 (.bool true) v11) fun v12 =>
bindP (gd (some (v12, false)) (aload H4 (some 8) v1)) fun v13 =>
bind2 (gd2 (some (v12, false)) H4 (R lim (.fn 25) [] H4)) fun v14 H15 =>
keptG (some (v12, false)) H4 H15 [v1] ∧
bindP (gd (some (v12, false)) (eqvO false (.cells [(.int .u8), (.int .u8), (.int .u8), (.int .u8), (.int .u8), (.int .u8), (.int .u8), (.int .u8)]) v13 v14)) fun v16 =>
bindP (pickO v12 (.bool true) v16) fun v17 =>
bindP (boolOf v17) fun b18 =>
(b18 = true → (K (.int .u8 11) H15)) ∧
(b18 = false → (bind2 (R lim (.fn 65) [a0, a1] H15) fun v19 H20 =>
bindP (aun .not v19) fun v21 =>
bindP (boolOf v21) fun b22 =>
(b22 = true → (K (.int .u8 1) H20)) ∧
(b22 = false → (bindP (nilO a0) fun v23 =>
bindP (faddrO 16 v23) fun v24 =>
bindP (aload H20 none v24) fun v25 =>
bindP (aload H20 (some 8) v1) fun v26 =>
bindP (alookup H20 true [(.int .u8), (.int .u8), (.int .u8), (.int .u8), (.int .u8), (.int .u8), (.int .u8), (.int .u8)] (.agg [(.int .u8 0), (.int .u8 0)]) true v25 v26) fun v27 =>
bindP (extO 0 v27) fun v28 =>
bindP (extO 1 v27) fun v29 =>
bindP (astore lim (H20.push (.cells [(.int .u8 0), (.int .u8 0)])) 2 (.ptr (some (H20.next, 0))) v28) fun H30 =>
bindP (boolOf v29) fun b31 =>
(b31 = true → (K (.int .u8 10) H30)) ∧
(b31 = false → (bind2 (R lim (.fn 73) [a0, a1] H30) fun v32 H33 =>
bindP (abin .geq v32 (.int .i64 4)) fun v34 =>
bindP (boolOf v34) fun b35 =>
(b35 = true → (K (.int .u8 9) H33)) ∧
(b35 = false → (bindP (nilO a0) fun v36 =>
bindP (faddrO 16 v36) fun v37 =>
bindP (aload H33 none v37) fun v38 =>
bindP (aload H33 (some 8) v1) fun v39 =>
bindP (buildO [(.int .u8 0), (.int .u8 0)] [(0, 1, a1), (1, 1, a3)]) fun v40 =>
bind2 ((amapUpdate lim H33 true [(.int .u8), (.int .u8), (.int .u8), (.int .u8), (.int .u8), (.int .u8), (.int .u8), (.int .u8)] v38 v39 v40).map fun H => (und, H)) fun _ H41 =>
K (.int .u8 0) H41))))))))))
def F23_Lp (R : Caller) (lim n : Nat) (K : AVal → Heap → Prop) : Nat → Tm → Heap → Prop
  | _, _, _ => False
theorem F23_eq (R : Caller) (lim n : Nat) (K : AVal → Heap → Prop) (a0 a1 a2 a3 : AVal) (H : Heap) : F23 R lim n K a0 a1 a2 a3 H = execI R lim n 57 (F23_Lp R lim n K) f23.body (argT [a0, a1, a2, a3]) H (retW [(.tmp 8)] K) := by kernel_rfl
theorem F23_ob (R : Caller) (lim n : Nat) (K : AVal → Heap → Prop) : Oblig R lim n 57 (F23_Lp R lim n K) f23.body (retW [(.tmp 8)] K) := (oblig_nl (by kernel_rfl))
theorem F23_run {ap : FuncId → Option AFn} (hf : ap 23 = some (.code f23)) {n lim : Nat} {K : AVal → Heap → Prop} {a0 a1 a2 a3 : AVal} {H : Heap} (h : F23 (Ahs.runT ap n) lim n K a0 a1 a2 a3 H) : ∃ v H', Ahs.runT ap (n + 1) lim (.fn 23) [a0, a1, a2, a3] H = some (v, H') ∧ K v H' := by
  rw [F23_eq] at h
  exact run_of_W hf (by kernel_rfl) (by kernel_rfl) (execI_sound f23.body _ _ _ _ (F23_ob _ _ _ K) (fun _ _ _ h => h) h)
def F25 (R : Caller) (lim n : Nat) (K : AVal → Heap → Prop) (H : Heap) : Prop :=
bindP (asliceArr 8 1 (.ptr (some ((H.push (.cells zdff0c5)).next, 0))) none none none) fun v1 =>
bind2 (acopy lim ((H.push (.cells zdff0c5)).push (.cells zdff0c5)) 1 v1 (.str [111, 112, 101, 114, 97, 116, 111, 114])) fun v2 H3 =>
bindP (aload H3 (some 8) (.ptr (some ((H.push (.cells zdff0c5)).next, 0)))) fun v4 =>
bindP (astore lim H3 8 (.ptr (some (H.next, 0))) v4) fun H5 =>
bindP (aload H5 (some 8) (.ptr (some (H.next, 0)))) fun v6 =>
K v6 H5
def F25_Lp (R : Caller) (lim n : Nat) (K : AVal → Heap → Prop) : Nat → Tm → Heap → Prop
  | _, _, _ => False
theorem F25_eq (R : Caller) (lim n : Nat) (K : AVal → Heap → Prop) (H : Heap) : F25 R lim n K  H = execI R lim n 5 (F25_Lp R lim n K) f25.body (argT []) H (retW [(.cell 0 (some 8))] K) := by kernel_rfl
theorem F25_ob (R : Caller) (lim n : Nat) (K : AVal → Heap → Prop) : Oblig R lim n 5 (F25_Lp R lim n K) f25.body (retW [(.cell 0 (some 8))] K) := (oblig_nl (by kernel_rfl))
theorem F25_run {ap : FuncId → Option AFn} (hf : ap 25 = some (.code f25)) {n lim : Nat} {K : AVal → Heap → Prop} {H : Heap} (h : F25 (Ahs.runT ap n) lim n K  H) : ∃ v H', Ahs.runT ap (n + 1) lim (.fn 25) [] H = some (v, H') ∧ K v H' := by
  rw [F25_eq] at h
  exact run_of_W hf (by kernel_rfl) (by kernel_rfl) (execI_sound f25.body _ _ _ _ (F25_ob _ _ _ K) (fun _ _ _ h => h) h)
def F28 (R : Caller) (lim n : Nat) (K : AVal → Heap → Prop) (a0 a1 : AVal) (H : Heap) : Prop :=
bind2 (if (a1).cells.all (·.one) then some (.ptr (some (H.next, 0)), H.push (.cells (a1).cells)) else none) fun v1 H2 =>
bind2 (R lim (.fn 64) [a0] H2) fun v3 H4 =>
bindP (boolOf v3) fun b5 =>
(b5 = true → (K (.tup [(.int .u8 0), (.int .u8 0), (.bool false)]) H4)) ∧
(b5 = false → (bindP (nilO a0) fun v6 =>
bindP (faddrO 16 v6) fun v7 =>
bindP (aload H4 none v7) fun v8 =>
bindP (aload H4 (some 8) v1) fun v9 =>
bindP (alookup H4 true [(.int .u8), (.int .u8), (.int .u8), (.int .u8), (.int .u8), (.int .u8), (.int .u8), (.int .u8)] (.agg [(.int .u8 0), (.int .u8 0)]) true v8 v9) fun v10 =>
bindP (extO 0 v10) fun v11 =>
bindP (extO 1 v10) fun v12 =>
bindP (astore lim (H4.push (.cells [(.int .u8 0), (.int .u8 0)])) 2 (.ptr (some (H4.next, 0))) v11) fun H13 =>
bindP (faddrO 0 (.ptr (some (H4.next, 0)))) fun v14 =>
bindP (aload H13 none v14) fun v15 =>
bindP (faddrO 1 (.ptr (some (H4.next, 0)))) fun v16 =>
bindP (aload H13 none v16) fun v17 =>
K (.tup [v15, v17, v12]) H13))
def F28_Lp (R : Caller) (lim n : Nat) (K : AVal → Heap → Prop) : Nat → Tm → Heap → Prop
  | _, _, _ => False
theorem F28_eq (R : Caller) (lim n : Nat) (K : AVal → Heap → Prop) (a0 a1 : AVal) (H : Heap) : F28 R lim n K a0 a1 H = execI R lim n 24 (F28_Lp R lim n K) f28.body (argT [a0, a1]) H (retW [(.tmp 4), (.tmp 5), (.tmp 6)] K) := by kernel_rfl
theorem F28_ob (R : Caller) (lim n : Nat) (K : AVal → Heap → Prop) : Oblig R lim n 24 (F28_Lp R lim n K) f28.body (retW [(.tmp 4), (.tmp 5), (.tmp 6)] K) := (oblig_nl (by kernel_rfl))
theorem F28_run {ap : FuncId → Option AFn} (hf : ap 28 = some (.code f28)) {n lim : Nat} {K : AVal → Heap → Prop} {a0 a1 : AVal} {H : Heap} (h : F28 (Ahs.runT ap n) lim n K a0 a1 H) : ∃ v H', Ahs.runT ap (n + 1) lim (.fn 28) [a0, a1] H = some (v, H') ∧ K v H' := by
  rw [F28_eq] at h
  exact run_of_W hf (by kernel_rfl) (by kernel_rfl) (execI_sound f28.body _ _ _ _ (F28_ob _ _ _ K) (fun _ _ _ h => h) h)
def F31_j0 (R : Caller) (lim n : Nat) (K : AVal → Heap → Prop) (H : Heap) : Prop :=
K (.tup [(.int .u8 0), (.int .u8 0), (.bool false)]) H
def F31_s0 (R : Caller) (lim n : Nat) (K : AVal → Heap → Prop) (rec0 : AVal → AVal → AVal → Heap → Prop) (t2 t3 t7 : AVal) (H : Heap) : Prop :=
bindP (faddrO 1 t2) fun v31 =>
bindP (aload H none v31) fun v32 =>
bindP (alen false v32) fun v33 =>
bindP (abin .lss t7 v33) fun v34 =>
bindP (boolOf v34) fun b35 =>
(b35 = true → (bindP (faddrO 1 t2) fun v36 =>
bindP (aload H none v36) fun v37 =>
bindP (aindexAddr none 3 v37 t7) fun v38 =>
bindP (faddrO 0 v38) fun v39 =>
bindP (aload H none v39) fun v40 =>
bindP (aload H (some 8) t3) fun v41 =>
bind2 (R lim (.fn 62) [v41] H) fun v42 H43 =>
keptG none H H43 [v36, v39] ∧
bindP (abin .eql v40 v42) fun v44 =>
bindP (boolOf v44) fun b45 =>
(b45 = true → (bindP (faddrO 1 t2) fun v46 =>
bindP (aload H43 none v46) fun v47 =>
bindP (aindexAddr none 3 v47 t7) fun v48 =>
bindP (faddrO 1 v48) fun v49 =>
bindP (aload H43 none v49) fun v50 =>
bindP (faddrO 1 t2) fun v51 =>
bindP (aload H43 none v51) fun v52 =>
bindP (aindexAddr none 3 v52 t7) fun v53 =>
bindP (faddrO 2 v53) fun v54 =>
bindP (aload H43 none v54) fun v55 =>
K (.tup [v50, v55, (.bool true)]) H43)) ∧
(b45 = false → (bindP (abin .add t7 (.int .i64 1)) fun v56 =>
rec0 t2 t3 v56 H43)))) ∧
(b35 = false → (F31_j0 R lim n K H))
def F31_l0 (R : Caller) (lim n : Nat) (K : AVal → Heap → Prop) : Nat → AVal → AVal → AVal → Heap → Prop
  | 0, _, _, _, _ => False
  | m + 1, t2, t3, t7, H => F31_s0 R lim n K (F31_l0 R lim n K m) t2 t3 t7 H
def F31 (R : Caller) (lim n : Nat) (K : AVal → Heap → Prop) (a0 a1 : AVal) (H : Heap) : Prop :=
bind2 (if (a0).cells.all (·.one) then some (.ptr (some (H.next, 0)), H.push (.cells (a0).cells)) else none) fun v1 H2 =>
bind2 (if (a1).cells.all (·.one) then some (.ptr (some (H2.next, 0)), H2.push (.cells (a1).cells)) else none) fun v3 H4 =>
F31_l0 R lim n K n v1 v3 (.int .i64 0) H4
def F31_Lp (R : Caller) (lim n : Nat) (K : AVal → Heap → Prop) : Nat → Tm → Heap → Prop
  | 0, T, H => F31_l0 R lim n K n (T 2) (T 3) (T 7) H
  | _, _, _ => False
def F31_Lp0 (R : Caller) (lim n : Nat) (K : AVal → Heap → Prop) (rec0 : AVal → AVal → AVal → Heap → Prop) : Nat → Tm → Heap → Prop
  | _, _, _ => False
def F31_k0 (R : Caller) (lim n : Nat) (K : AVal → Heap → Prop) (rec0 : AVal → AVal → AVal → Heap → Prop) : Kt := fun ex T H => match ex with
  | .norm => rec0 (T 2) (T 3) (T 7) H
  | ex => (kBlk 0 (kSeq (execI R lim n 36 (F31_Lp R lim n K) f31_p1) (retW [(.tmp 4), (.tmp 5), (.tmp 6)] K))) ex T H
theorem F31_s0_eq (R : Caller) (lim n : Nat) (K : AVal → Heap → Prop) (rec0 : AVal → AVal → AVal → Heap → Prop) (T : Tm) (H : Heap) : F31_s0 R lim n K rec0 (T 2) (T 3) (T 7) H = execI R lim n 36 (F31_Lp0 R lim n K rec0) f31_p0 T H (F31_k0 R lim n K rec0) := by kernel_rfl
theorem F31_l0_ok (R : Caller) (lim n : Nat) (K : AVal → Heap → Prop) {kw : Kt} (hk : ∀ ex T H, (kBlk 0 (kSeq (execI R lim n 36 (F31_Lp R lim n K) f31_p1) (retW [(.tmp 4), (.tmp 5), (.tmp 6)] K))) ex T H → kw ex T H) : ∀ (m : Nat) (T : Tm) (H : Heap), F31_l0 R lim n K m (T 2) (T 3) (T 7) H → loopW (execW R lim n 36 f31_p0) m T H kw
  | 0, _, _, h => False.elim h
  | m + 1, T, H, h => by
    have hb : ∀ ex T H, F31_k0 R lim n K (F31_l0 R lim n K m) ex T H → (fun ex T H => match ex with | .norm => loopW (execW R lim n 36 f31_p0) m T H kw | ex => kw ex T H : Kt) ex T H := by
      intro ex T H h
      cases ex with
      | norm => exact F31_l0_ok R lim n K hk m T H h
      | exit i => exact hk _ _ _ h
      | ret => exact hk _ _ _ h
    have h' : F31_s0 R lim n K (F31_l0 R lim n K m) (T 2) (T 3) (T 7) H := h
    rw [F31_s0_eq] at h'
    exact execI_sound f31_p0 T H _ _ (oblig_nl (by kernel_rfl)) hb h'
theorem F31_eq (R : Caller) (lim n : Nat) (K : AVal → Heap → Prop) (a0 a1 : AVal) (H : Heap) : F31 R lim n K a0 a1 H = execI R lim n 36 (F31_Lp R lim n K) f31.body (argT [a0, a1]) H (retW [(.tmp 4), (.tmp 5), (.tmp 6)] K) := by kernel_rfl
theorem F31_ob (R : Caller) (lim n : Nat) (K : AVal → Heap → Prop) : Oblig R lim n 36 (F31_Lp R lim n K) f31.body (retW [(.tmp 4), (.tmp 5), (.tmp 6)] K) := ⟨(oblig_nl (by kernel_rfl)), ⟨⟨(oblig_nl (by kernel_rfl)), (fun T H h => F31_l0_ok R lim n K (kBlk_mono (kSeqI_sound (oblig_nl (by kernel_rfl)) (fun _ _ _ h => h))) _ T H h)⟩, (oblig_nl (by kernel_rfl))⟩⟩
theorem F31_run {ap : FuncId → Option AFn} (hf : ap 31 = some (.code f31)) {n lim : Nat} {K : AVal → Heap → Prop} {a0 a1 : AVal} {H : Heap} (h : F31 (Ahs.runT ap n) lim n K a0 a1 H) : ∃ v H', Ahs.runT ap (n + 1) lim (.fn 31) [a0, a1] H = some (v, H') ∧ K v H' := by
  rw [F31_eq] at h
  exact run_of_W hf (by kernel_rfl) (by kernel_rfl) (execI_sound f31.body _ _ _ _ (F31_ob _ _ _ K) (fun _ _ _ h => h) h)
def F32_j0 (R : Caller) (lim n : Nat) (K : AVal → Heap → Prop) (t4 : AVal) (H : Heap) : Prop :=
bindP (buildO z547173 []) fun v26 =>
bindP (astore lim H 4 t4 v26) fun H27 =>
bindP (aload H27 (some 4) t4) fun v28 =>
K (.tup [v28, (.bool false)]) H27
def F32_s0 (R : Caller) (lim n : Nat) (K : AVal → Heap → Prop) (rec0 : AVal → AVal → AVal → AVal → Heap → Prop) (t1 t2 t4 t6 : AVal) (H : Heap) : Prop :=
bindP (faddrO 0 t2) fun v29 =>
bindP (aload H none v29) fun v30 =>
bindP (alen false v30) fun v31 =>
bindP (abin .lss t6 v31) fun v32 =>
bindP (boolOf v32) fun b33 =>
(b33 = true → (bindP (faddrO 0 t2) fun v34 =>
bindP (aload H none v34) fun v35 =>
bindP (aindexAddr none 5 v35 t6) fun v36 =>
bindP (faddrO 0 v36) fun v37 =>
bindP (aload H none v37) fun v38 =>
bindP (abin .eql v38 t1) fun v39 =>
bindP (boolOf v39) fun b40 =>
(b40 = true → (bindP (faddrO 0 t2) fun v41 =>
bindP (aload H none v41) fun v42 =>
bindP (aindexAddr none 5 v42 t6) fun v43 =>
bindP (faddrO 1 v43) fun v44 =>
bindP (aload H (some 4) v44) fun v45 =>
bindP (astore lim H 4 t4 v45) fun H46 =>
bindP (aload H46 (some 4) t4) fun v47 =>
K (.tup [v47, (.bool true)]) H46)) ∧
(b40 = false → (bindP (abin .add t6 (.int .i64 1)) fun v48 =>
rec0 t1 t2 t4 v48 H)))) ∧
(b33 = false → (F32_j0 R lim n K t4 H))
def F32_l0 (R : Caller) (lim n : Nat) (K : AVal → Heap → Prop) : Nat → AVal → AVal → AVal → AVal → Heap → Prop
  | 0, _, _, _, _, _ => False
  | m + 1, t1, t2, t4, t6, H => F32_s0 R lim n K (F32_l0 R lim n K m) t1 t2 t4 t6 H
def F32 (R : Caller) (lim n : Nat) (K : AVal → Heap → Prop) (a0 a1 : AVal) (H : Heap) : Prop :=
bind2 (if (a0).cells.all (·.one) then some (.ptr (some (H.next, 0)), H.push (.cells (a0).cells)) else none) fun v1 H2 =>
F32_l0 R lim n K n a1 v1 (.ptr (some (H2.next, 0))) (.int .i64 0) (H2.push (.cells z547173))
def F32_Lp (R : Caller) (lim n : Nat) (K : AVal → Heap → Prop) : Nat → Tm → Heap → Prop
  | 0, T, H => F32_l0 R lim n K n (T 1) (T 2) (T 4) (T 6) H
  | _, _, _ => False
def F32_Lp0 (R : Caller) (lim n : Nat) (K : AVal → Heap → Prop) (rec0 : AVal → AVal → AVal → AVal → Heap → Prop) : Nat → Tm → Heap → Prop
  | _, _, _ => False
def F32_k0 (R : Caller) (lim n : Nat) (K : AVal → Heap → Prop) (rec0 : AVal → AVal → AVal → AVal → Heap → Prop) : Kt := fun ex T H => match ex with
  | .norm => rec0 (T 1) (T 2) (T 4) (T 6) H
  | ex => (kBlk 0 (kSeq (execI R lim n 29 (F32_Lp R lim n K) f32_p1) (retW [(.cell 4 (some 4)), (.tmp 5)] K))) ex T H
theorem F32_s0_eq (R : Caller) (lim n : Nat) (K : AVal → Heap → Prop) (rec0 : AVal → AVal → AVal → AVal → Heap → Prop) (T : Tm) (H : Heap) : F32_s0 R lim n K rec0 (T 1) (T 2) (T 4) (T 6) H = execI R lim n 29 (F32_Lp0 R lim n K rec0) f32_p0 T H (F32_k0 R lim n K rec0) := by kernel_rfl
theorem F32_l0_ok (R : Caller) (lim n : Nat) (K : AVal → Heap → Prop) {kw : Kt} (hk : ∀ ex T H, (kBlk 0 (kSeq (execI R lim n 29 (F32_Lp R lim n K) f32_p1) (retW [(.cell 4 (some 4)), (.tmp 5)] K))) ex T H → kw ex T H) : ∀ (m : Nat) (T : Tm) (H : Heap), F32_l0 R lim n K m (T 1) (T 2) (T 4) (T 6) H → loopW (execW R lim n 29 f32_p0) m T H kw
  | 0, _, _, h => False.elim h
  | m + 1, T, H, h => by
    have hb : ∀ ex T H, F32_k0 R lim n K (F32_l0 R lim n K m) ex T H → (fun ex T H => match ex with | .norm => loopW (execW R lim n 29 f32_p0) m T H kw | ex => kw ex T H : Kt) ex T H := by
      intro ex T H h
      cases ex with
      | norm => exact F32_l0_ok R lim n K hk m T H h
      | exit i => exact hk _ _ _ h
      | ret => exact hk _ _ _ h
    have h' : F32_s0 R lim n K (F32_l0 R lim n K m) (T 1) (T 2) (T 4) (T 6) H := h
    rw [F32_s0_eq] at h'
    exact execI_sound f32_p0 T H _ _ (oblig_nl (by kernel_rfl)) hb h'
theorem F32_eq (R : Caller) (lim n : Nat) (K : AVal → Heap → Prop) (a0 a1 : AVal) (H : Heap) : F32 R lim n K a0 a1 H = execI R lim n 29 (F32_Lp R lim n K) f32.body (argT [a0, a1]) H (retW [(.cell 4 (some 4)), (.tmp 5)] K) := by kernel_rfl
theorem F32_ob (R : Caller) (lim n : Nat) (K : AVal → Heap → Prop) : Oblig R lim n 29 (F32_Lp R lim n K) f32.body (retW [(.cell 4 (some 4)), (.tmp 5)] K) := ⟨(oblig_nl (by kernel_rfl)), ⟨⟨(oblig_nl (by kernel_rfl)), (fun T H h => F32_l0_ok R lim n K (kBlk_mono (kSeqI_sound (oblig_nl (by kernel_rfl)) (fun _ _ _ h => h))) _ T H h)⟩, (oblig_nl (by kernel_rfl))⟩⟩
theorem F32_run {ap : FuncId → Option AFn} (hf : ap 32 = some (.code f32)) {n lim : Nat} {K : AVal → Heap → Prop} {a0 a1 : AVal} {H : Heap} (h : F32 (Ahs.runT ap n) lim n K a0 a1 H) : ∃ v H', Ahs.runT ap (n + 1) lim (.fn 32) [a0, a1] H = some (v, H') ∧ K v H' := by
  rw [F32_eq] at h
  exact run_of_W hf (by kernel_rfl) (by kernel_rfl) (execI_sound f32.body _ _ _ _ (F32_ob _ _ _ K) (fun _ _ _ h => h) h)
def F34 (R : Caller) (lim n : Nat) (K : AVal → Heap → Prop) (a0 : AVal) (H : Heap) : Prop :=
bind2 (if (a0).cells.all (·.one) then some (.ptr (some (H.next, 0)), H.push (.cells (a0).cells)) else none) fun v1 H2 =>
bindP (faddrO 0 v1) fun v3 =>
bindP (aload H2 none v3) fun v4 =>
bind2 (callvO R lim (.fn 78 [] []) [v4, (.int .i64 1), (.int .i64 16)] H2) fun v5 H6 =>
bindP (gd (some (v5, true)) (some (.fn 78 [] []))) fun v7 =>
bindP (gd (some (v5, true)) (faddrO 1 v1)) fun v8 =>
bindP (gd (some (v5, true)) (aload H6 none v8)) fun v9 =>
bind2 (gd2 (some (v5, true)) H6 (callvO R lim v7 [v9, (.int .i64 1), (.int .i64 512)] H6)) fun v10 H11 =>
bindP (pickO v5 v10 (.bool false)) fun v12 =>
bindP (gd (some (v12, true)) (some (.fn 78 [] []))) fun v13 =>
bindP (gd (some (v12, true)) (faddrO 2 v1)) fun v14 =>
bindP (gd (some (v12, true)) (aload H11 none v14)) fun v15 =>
bind2 (gd2 (some (v12, true)) H11 (callvO R lim v13 [v15, (.int .i64 0), (.int .i64 100)] H11)) fun v16 H17 =>
bindP (pickO v12 v16 (.bool false)) fun v18 =>
bindP (gd (some (v18, true)) (some (.fn 78 [] []))) fun v19 =>
bindP (gd (some (v18, true)) (faddrO 3 v1)) fun v20 =>
bindP (gd (some (v18, true)) (aload H17 none v20)) fun v21 =>
bind2 (gd2 (some (v18, true)) H17 (callvO R lim v19 [v21, (.int .i64 1), (.int .i64 100)] H17)) fun v22 H23 =>
bindP (pickO v18 v22 (.bool false)) fun v24 =>
K v24 H23
def F34_Lp (R : Caller) (lim n : Nat) (K : AVal → Heap → Prop) : Nat → Tm → Heap → Prop
  | _, _, _ => False
theorem F34_eq (R : Caller) (lim n : Nat) (K : AVal → Heap → Prop) (a0 : AVal) (H : Heap) : F34 R lim n K a0 H = execI R lim n 26 (F34_Lp R lim n K) f34.body (argT [a0]) H (retW [(.tmp 2)] K) := by kernel_rfl
theorem F34_ob (R : Caller) (lim n : Nat) (K : AVal → Heap → Prop) : Oblig R lim n 26 (F34_Lp R lim n K) f34.body (retW [(.tmp 2)] K) := (oblig_nl (by kernel_rfl))
theorem F34_run {ap : FuncId → Option AFn} (hf : ap 34 = some (.code f34)) {n lim : Nat} {K : AVal → Heap → Prop} {a0 : AVal} {H : Heap} (h : F34 (Ahs.runT ap n) lim n K a0 H) : ∃ v H', Ahs.runT ap (n + 1) lim (.fn 34) [a0] H = some (v, H') ∧ K v H' := by
  rw [F34_eq] at h
  exact run_of_W hf (by kernel_rfl) (by kernel_rfl) (execI_sound f34.body _ _ _ _ (F34_ob _ _ _ K) (fun _ _ _ h => h) h)
def F35 (R : Caller) (lim n : Nat) (K : AVal → Heap → Prop) (a0 : AVal) (H : Heap) : Prop :=
bind2 (if (a0).cells.all (·.one) then some (.ptr (some (H.next, 0)), H.push (.cells (a0).cells)) else none) fun v1 H2 =>
bindP (faddrO 0 v1) fun v3 =>
bindP (aload H2 none v3) fun v4 =>
bindP (abin .geq v4 (.int .i64 1)) fun v5 =>
bindP (gd (some (v5, true)) (faddrO 0 v1)) fun v6 =>
bindP (gd (some (v5, true)) (aload H2 none v6)) fun v7 =>
bindP (gd (some (v5, true)) (abin .leq v7 (.int .i64 16))) fun v8 =>
bindP (pickO v5 v8 (.bool false)) fun v9 =>
bindP (gd (some (v9, true)) (faddrO 1 v1)) fun v10 =>
bindP (gd (some (v9, true)) (aload H2 none v10)) fun v11 =>
bindP (gd (some (v9, true)) (abin .geq v11 (.int .i64 1))) fun v12 =>
bindP (pickO v9 v12 (.bool false)) fun v13 =>
bindP (gd (some (v13, true)) (faddrO 1 v1)) fun v14 =>
bindP (gd (some (v13, true)) (aload H2 none v14)) fun v15 =>
bindP (gd (some (v13, true)) (abin .leq v15 (.int .i64 512))) fun v16 =>
bindP (pickO v13 v16 (.bool false)) fun v17 =>
bindP (gd (some (v17, true)) (faddrO 2 v1)) fun v18 =>
bindP (gd (some (v17, true)) (aload H2 none v18)) fun v19 =>
bindP (gd (some (v17, true)) (abin .geq v19 (.int .i64 0))) fun v20 =>
bindP (pickO v17 v20 (.bool false)) fun v21 =>
bindP (gd (some (v21, true)) (faddrO 2 v1)) fun v22 =>
bindP (gd (some (v21, true)) (aload H2 none v22)) fun v23 =>
bindP (gd (some (v21, true)) (abin .leq v23 (.int .i64 100))) fun v24 =>
bindP (pickO v21 v24 (.bool false)) fun v25 =>
bindP (gd (some (v25, true)) (faddrO 3 v1)) fun v26 =>
bindP (gd (some (v25, true)) (aload H2 none v26)) fun v27 =>
bindP (gd (some (v25, true)) (abin .geq v27 (.int .i64 1))) fun v28 =>
bindP (pickO v25 v28 (.bool false)) fun v29 =>
bindP (gd (some (v29, true)) (faddrO 3 v1)) fun v30 =>
bindP (gd (some (v29, true)) (aload H2 none v30)) fun v31 =>
bindP (gd (some (v29, true)) (abin .leq v31 (.int .i64 100))) fun v32 =>
bindP (pickO v29 v32 (.bool false)) fun v33 =>
K v33 H2
def F35_Lp (R : Caller) (lim n : Nat) (K : AVal → Heap → Prop) : Nat → Tm → Heap → Prop
  | _, _, _ => False
theorem F35_eq (R : Caller) (lim n : Nat) (K : AVal → Heap → Prop) (a0 : AVal) (H : Heap) : F35 R lim n K a0 H = execI R lim n 41 (F35_Lp R lim n K) f35.body (argT [a0]) H (retW [(.tmp 2)] K) := by kernel_rfl
theorem F35_ob (R : Caller) (lim n : Nat) (K : AVal → Heap → Prop) : Oblig R lim n 41 (F35_Lp R lim n K) f35.body (retW [(.tmp 2)] K) := (oblig_nl (by kernel_rfl))
theorem F35_run {ap : FuncId → Option AFn} (hf : ap 35 = some (.code f35)) {n lim : Nat} {K : AVal → Heap → Prop} {a0 : AVal} {H : Heap} (h : F35 (Ahs.runT ap n) lim n K a0 H) : ∃ v H', Ahs.runT ap (n + 1) lim (.fn 35) [a0] H = some (v, H') ∧ K v H' := by
  rw [F35_eq] at h
  exact run_of_W hf (by kernel_rfl) (by kernel_rfl) (execI_sound f35.body _ _ _ _ (F35_ob _ _ _ K) (fun _ _ _ h => h) h)
def F58_j0 (R : Caller) (lim n : Nat) (K : AVal → Heap → Prop) (t0 t2 : AVal) (H : Heap) : Prop :=
bindP (aload H (some 4) t2) fun v26 =>
bindP (astore lim H 4 t2 v26) fun H27 =>
bindP (aload H27 (some 4) t2) fun v28 =>
K (.tup [v28, t0]) H27
def F58_s0 (R : Caller) (lim n : Nat) (K : AVal → Heap → Prop) (rec0 : AVal → AVal → AVal → AVal → AVal → Heap → Prop) (t0 t2 t13 t14 t15 : AVal) (H : Heap) : Prop :=
bindP (abin .lss t15 t14) fun v29 =>
bindP (boolOf v29) fun b30 =>
(b30 = true → (bindP (aindexAddr none 1 t13 t15) fun v31 =>
bindP (aload H none v31) fun v32 =>
bind2 (R lim (.fn 59) [t0] H) fun v33 H34 =>
bindP (extO 0 v33) fun v35 =>
bindP (extO 1 v33) fun v36 =>
bindP (extO 2 v33) fun v37 =>
bindP (aminmax false [v35, (.int .u64 4294967296)]) fun v38 =>
bindP (convO .i64 v38) fun v39 =>
bindP (nilO v32) fun v40 =>
bindP (astore lim H34 1 v40 v39) fun H41 =>
bindP (asliceStr t0 (some v36) none) fun v42 =>
bindP (abin .add t15 (.int .i64 1)) fun v43 =>
rec0 v42 t2 t13 t14 v43 H41)) ∧
(b30 = false → (F58_j0 R lim n K t0 t2 H))
def F58_l0 (R : Caller) (lim n : Nat) (K : AVal → Heap → Prop) : Nat → AVal → AVal → AVal → AVal → AVal → Heap → Prop
  | 0, _, _, _, _, _, _ => False
  | m + 1, t0, t2, t13, t14, t15, H => F58_s0 R lim n K (F58_l0 R lim n K m) t0 t2 t13 t14 t15 H
def F58 (R : Caller) (lim n : Nat) (K : AVal → Heap → Prop) (a0 : AVal) (H : Heap) : Prop :=
bindP (faddrO 0 (.ptr (some (H.next, 0)))) fun v1 =>
bindP (faddrO 1 (.ptr (some (H.next, 0)))) fun v2 =>
bindP (faddrO 2 (.ptr (some (H.next, 0)))) fun v3 =>
bindP (faddrO 3 (.ptr (some (H.next, 0)))) fun v4 =>
bind2 ((fillV zc0a9bf [(0, 1, v1), (1, 1, v2), (2, 1, v3), (3, 1, v4)]).map fun cs => (.sl (some ((H.push (.cells z547173)).next, 0)) 4 (.ex 4), (H.push (.cells z547173)).push (.cells cs))) fun v5 H6 =>
bindP (alen false v5) fun v7 =>
F58_l0 R lim n K n a0 (.ptr (some (H.next, 0))) v5 v7 (.int .i64 0) H6
def F58_Lp (R : Caller) (lim n : Nat) (K : AVal → Heap → Prop) : Nat → Tm → Heap → Prop
  | 0, T, H => F58_l0 R lim n K n (T 0) (T 2) (T 13) (T 14) (T 15) H
  | _, _, _ => False
def F58_Lp0 (R : Caller) (lim n : Nat) (K : AVal → Heap → Prop) (rec0 : AVal → AVal → AVal → AVal → AVal → Heap → Prop) : Nat → Tm → Heap → Prop
  | _, _, _ => False
def F58_k0 (R : Caller) (lim n : Nat) (K : AVal → Heap → Prop) (rec0 : AVal → AVal → AVal → AVal → AVal → Heap → Prop) : Kt := fun ex T H => match ex with
  | .norm => rec0 (T 0) (T 2) (T 13) (T 14) (T 15) H
  | ex => (kBlk 0 (kSeq (execI R lim n 36 (F58_Lp R lim n K) f58_p1) (retW [(.cell 2 (some 4)), (.tmp 3)] K))) ex T H
theorem F58_s0_eq (R : Caller) (lim n : Nat) (K : AVal → Heap → Prop) (rec0 : AVal → AVal → AVal → AVal → AVal → Heap → Prop) (T : Tm) (H : Heap) : F58_s0 R lim n K rec0 (T 0) (T 2) (T 13) (T 14) (T 15) H = execI R lim n 36 (F58_Lp0 R lim n K rec0) f58_p0 T H (F58_k0 R lim n K rec0) := by kernel_rfl
theorem F58_l0_ok (R : Caller) (lim n : Nat) (K : AVal → Heap → Prop) {kw : Kt} (hk : ∀ ex T H, (kBlk 0 (kSeq (execI R lim n 36 (F58_Lp R lim n K) f58_p1) (retW [(.cell 2 (some 4)), (.tmp 3)] K))) ex T H → kw ex T H) : ∀ (m : Nat) (T : Tm) (H : Heap), F58_l0 R lim n K m (T 0) (T 2) (T 13) (T 14) (T 15) H → loopW (execW R lim n 36 f58_p0) m T H kw
  | 0, _, _, h => False.elim h
  | m + 1, T, H, h => by
    have hb : ∀ ex T H, F58_k0 R lim n K (F58_l0 R lim n K m) ex T H → (fun ex T H => match ex with | .norm => loopW (execW R lim n 36 f58_p0) m T H kw | ex => kw ex T H : Kt) ex T H := by
      intro ex T H h
      cases ex with
      | norm => exact F58_l0_ok R lim n K hk m T H h
      | exit i => exact hk _ _ _ h
      | ret => exact hk _ _ _ h
    have h' : F58_s0 R lim n K (F58_l0 R lim n K m) (T 0) (T 2) (T 13) (T 14) (T 15) H := h
    rw [F58_s0_eq] at h'
    exact execI_sound f58_p0 T H _ _ (oblig_nl (by kernel_rfl)) hb h'
theorem F58_eq (R : Caller) (lim n : Nat) (K : AVal → Heap → Prop) (a0 : AVal) (H : Heap) : F58 R lim n K a0 H = execI R lim n 36 (F58_Lp R lim n K) f58.body (argT [a0]) H (retW [(.cell 2 (some 4)), (.tmp 3)] K) := by kernel_rfl
theorem F58_ob (R : Caller) (lim n : Nat) (K : AVal → Heap → Prop) : Oblig R lim n 36 (F58_Lp R lim n K) f58.body (retW [(.cell 2 (some 4)), (.tmp 3)] K) := ⟨(oblig_nl (by kernel_rfl)), ⟨⟨(oblig_nl (by kernel_rfl)), (fun T H h => F58_l0_ok R lim n K (kBlk_mono (kSeqI_sound (oblig_nl (by kernel_rfl)) (fun _ _ _ h => h))) _ T H h)⟩, (oblig_nl (by kernel_rfl))⟩⟩
theorem F58_run {ap : FuncId → Option AFn} (hf : ap 58 = some (.code f58)) {n lim : Nat} {K : AVal → Heap → Prop} {a0 : AVal} {H : Heap} (h : F58 (Ahs.runT ap n) lim n K a0 H) : ∃ v H', Ahs.runT ap (n + 1) lim (.fn 58) [a0] H = some (v, H') ∧ K v H' := by
  rw [F58_eq] at h
  exact run_of_W hf (by kernel_rfl) (by kernel_rfl) (execI_sound f58.body _ _ _ _ (F58_ob _ _ _ K) (fun _ _ _ h => h) h)
def F59_j0 (R : Caller) (lim n : Nat) (K : AVal → Heap → Prop) (H : Heap) : Prop :=
K (.tup [(.int .u64 0), (.int .i64 0), (.bool false)]) H
def F59_s0 (R : Caller) (lim n : Nat) (K : AVal → Heap → Prop) (rec0 : AVal → AVal → AVal → Heap → Prop) (t0 t2 t3 : AVal) (H : Heap) : Prop :=
bindP (alen true t0) fun v25 =>
bindP (abin .lss t3 v25) fun v26 =>
bindP (gd (some (v26, true)) (some t3)) fun v27 =>
bindP (gd (some (v26, true)) (abin .lss v27 (.int .i64 10))) fun v28 =>
bindP (pickO v26 v28 (.bool false)) fun v29 =>
bindP (boolOf v29) fun b30 =>
(b30 = true → (bindP (aindexStr t0 t3) fun v31 =>
bindP (abin .eql t3 (.int .i64 0)) fun v32 =>
bindP (gd (some (v32, true)) (some v31)) fun v33 =>
bindP (gd (some (v32, true)) (abin .eql v33 (.int .u8 128))) fun v34 =>
bindP (pickO v32 v34 (.bool false)) fun v35 =>
bindP (gd (some (v35, false)) (some t2)) fun v36 =>
bindP (gd (some (v35, false)) (abin .shr v36 (.int .u64 57))) fun v37 =>
bindP (gd (some (v35, false)) (abin .gtr v37 (.int .u64 0))) fun v38 =>
bindP (pickO v35 (.bool true) v38) fun v39 =>
bindP (boolOf v39) fun b40 =>
(b40 = true → (F59_j0 R lim n K H)) ∧
(b40 = false → (bindP (abin .shl t2 (.int .u64 7)) fun v41 =>
bindP (abin .and v31 (.int .u8 127)) fun v42 =>
bindP (convO .u64 v42) fun v43 =>
bindP (abin .or v41 v43) fun v44 =>
bindP (abin .add t3 (.int .i64 1)) fun v45 =>
bindP (abin .and v31 (.int .u8 128)) fun v46 =>
bindP (abin .eql v46 (.int .u8 0)) fun v47 =>
bindP (boolOf v47) fun b48 =>
(b48 = true → (K (.tup [v44, v45, (.bool true)]) H)) ∧
(b48 = false → (rec0 t0 v44 v45 H)))))) ∧
(b30 = false → (F59_j0 R lim n K H))
def F59_l0 (R : Caller) (lim n : Nat) (K : AVal → Heap → Prop) : Nat → AVal → AVal → AVal → Heap → Prop
  | 0, _, _, _, _ => False
  | m + 1, t0, t2, t3, H => F59_s0 R lim n K (F59_l0 R lim n K m) t0 t2 t3 H
def F59 (R : Caller) (lim n : Nat) (K : AVal → Heap → Prop) (a0 : AVal) (H : Heap) : Prop :=
F59_l0 R lim n K n a0 (.int .u64 0) (.int .i64 0) H
def F59_Lp (R : Caller) (lim n : Nat) (K : AVal → Heap → Prop) : Nat → Tm → Heap → Prop
  | 0, T, H => F59_l0 R lim n K n (T 0) (T 2) (T 3) H
  | _, _, _ => False
def F59_Lp0 (R : Caller) (lim n : Nat) (K : AVal → Heap → Prop) (rec0 : AVal → AVal → AVal → Heap → Prop) : Nat → Tm → Heap → Prop
  | _, _, _ => False
def F59_k0 (R : Caller) (lim n : Nat) (K : AVal → Heap → Prop) (rec0 : AVal → AVal → AVal → Heap → Prop) : Kt := fun ex T H => match ex with
  | .norm => rec0 (T 0) (T 2) (T 3) H
  | ex => (kBlk 0 (kSeq (execI R lim n 41 (F59_Lp R lim n K) f59_p1) (retW [(.tmp 2), (.tmp 3), (.tmp 4)] K))) ex T H
theorem F59_s0_eq (R : Caller) (lim n : Nat) (K : AVal → Heap → Prop) (rec0 : AVal → AVal → AVal → Heap → Prop) (T : Tm) (H : Heap) : F59_s0 R lim n K rec0 (T 0) (T 2) (T 3) H = execI R lim n 41 (F59_Lp0 R lim n K rec0) f59_p0 T H (F59_k0 R lim n K rec0) := by kernel_rfl
theorem F59_l0_ok (R : Caller) (lim n : Nat) (K : AVal → Heap → Prop) {kw : Kt} (hk : ∀ ex T H, (kBlk 0 (kSeq (execI R lim n 41 (F59_Lp R lim n K) f59_p1) (retW [(.tmp 2), (.tmp 3), (.tmp 4)] K))) ex T H → kw ex T H) : ∀ (m : Nat) (T : Tm) (H : Heap), F59_l0 R lim n K m (T 0) (T 2) (T 3) H → loopW (execW R lim n 41 f59_p0) m T H kw
  | 0, _, _, h => False.elim h
  | m + 1, T, H, h => by
    have hb : ∀ ex T H, F59_k0 R lim n K (F59_l0 R lim n K m) ex T H → (fun ex T H => match ex with | .norm => loopW (execW R lim n 41 f59_p0) m T H kw | ex => kw ex T H : Kt) ex T H := by
      intro ex T H h
      cases ex with
      | norm => exact F59_l0_ok R lim n K hk m T H h
      | exit i => exact hk _ _ _ h
      | ret => exact hk _ _ _ h
    have h' : F59_s0 R lim n K (F59_l0 R lim n K m) (T 0) (T 2) (T 3) H := h
    rw [F59_s0_eq] at h'
    exact execI_sound f59_p0 T H _ _ (oblig_nl (by kernel_rfl)) hb h'
theorem F59_eq (R : Caller) (lim n : Nat) (K : AVal → Heap → Prop) (a0 : AVal) (H : Heap) : F59 R lim n K a0 H = execI R lim n 41 (F59_Lp R lim n K) f59.body (argT [a0]) H (retW [(.tmp 2), (.tmp 3), (.tmp 4)] K) := by kernel_rfl
theorem F59_ob (R : Caller) (lim n : Nat) (K : AVal → Heap → Prop) : Oblig R lim n 41 (F59_Lp R lim n K) f59.body (retW [(.tmp 2), (.tmp 3), (.tmp 4)] K) := ⟨(oblig_nl (by kernel_rfl)), ⟨(fun T H h => F59_l0_ok R lim n K (kBlk_mono (kSeqI_sound (oblig_nl (by kernel_rfl)) (fun _ _ _ h => h))) _ T H h), (oblig_nl (by kernel_rfl))⟩⟩
theorem F59_run {ap : FuncId → Option AFn} (hf : ap 59 = some (.code f59)) {n lim : Nat} {K : AVal → Heap → Prop} {a0 : AVal} {H : Heap} (h : F59 (Ahs.runT ap n) lim n K a0 H) : ∃ v H', Ahs.runT ap (n + 1) lim (.fn 59) [a0] H = some (v, H') ∧ K v H' := by
  rw [F59_eq] at h
  exact run_of_W hf (by kernel_rfl) (by kernel_rfl) (execI_sound f59.body _ _ _ _ (F59_ob _ _ _ K) (fun _ _ _ h => h) h)
def F60_j0 (R : Caller) (lim n : Nat) (K : AVal → Heap → Prop) (H : Heap) : Prop :=
K (.tup [(.int .u64 0), (.int .i64 0), (.bool false)]) H
def F60_s0 (R : Caller) (lim n : Nat) (K : AVal → Heap → Prop) (rec0 : AVal → AVal → AVal → Heap → Prop) (t0 t5 t6 : AVal) (H : Heap) : Prop :=
bindP (alen true t0) fun v23 =>
bindP (abin .lss t6 v23) fun v24 =>
bindP (gd (some (v24, true)) (some t6)) fun v25 =>
bindP (gd (some (v24, true)) (abin .lss v25 (.int .i64 10))) fun v26 =>
bindP (pickO v24 v26 (.bool false)) fun v27 =>
bindP (boolOf v27) fun b28 =>
(b28 = true → (bindP (abin .mul (.int .u64 128) t5) fun v29 =>
bindP (aindexStr t0 t6) fun v30 =>
bindP (abin .rem v30 (.int .u8 128)) fun v31 =>
bindP (convO .u64 v31) fun v32 =>
bindP (abin .add v29 v32) fun v33 =>
bindP (aindexStr t0 t6) fun v34 =>
bindP (abin .lss v34 (.int .u8 128)) fun v35 =>
bindP (boolOf v35) fun b36 =>
(b36 = true → (bind2 (R lim (.fn 72) [v33] H) fun v37 H38 =>
bindP (abin .add t6 (.int .i64 1)) fun v39 =>
bindP (asliceStr t0 none (some v39)) fun v40 =>
bindP (abin .neq v37 v40) fun v41 =>
bindP (boolOf v41) fun b42 =>
(b42 = true → (K (.tup [(.int .u64 0), (.int .i64 0), (.bool false)]) H38)) ∧
(b42 = false → (bindP (abin .add t6 (.int .i64 1)) fun v43 =>
K (.tup [v33, v43, (.bool true)]) H38)))) ∧
(b36 = false → (bindP (abin .add t6 (.int .i64 1)) fun v44 =>
rec0 t0 v33 v44 H)))) ∧
(b28 = false → (F60_j0 R lim n K H))
def F60_l0 (R : Caller) (lim n : Nat) (K : AVal → Heap → Prop) : Nat → AVal → AVal → AVal → Heap → Prop
  | 0, _, _, _, _ => False
  | m + 1, t0, t5, t6, H => F60_s0 R lim n K (F60_l0 R lim n K m) t0 t5 t6 H
def F60 (R : Caller) (lim n : Nat) (K : AVal → Heap → Prop) (a0 : AVal) (H : Heap) : Prop :=
F60_l0 R lim n K n a0 (.int .u64 0) (.int .i64 0) H
def F60_Lp (R : Caller) (lim n : Nat) (K : AVal → Heap → Prop) : Nat → Tm → Heap → Prop
  | 0, T, H => F60_l0 R lim n K n (T 0) (T 5) (T 6) H
  | _, _, _ => False
def F60_Lp0 (R : Caller) (lim n : Nat) (K : AVal → Heap → Prop) (rec0 : AVal → AVal → AVal → Heap → Prop) : Nat → Tm → Heap → Prop
  | _, _, _ => False
def F60_k0 (R : Caller) (lim n : Nat) (K : AVal → Heap → Prop) (rec0 : AVal → AVal → AVal → Heap → Prop) : Kt := fun ex T H => match ex with
  | .norm => rec0 (T 0) (T 5) (T 6) H
  | ex => (kBlk 0 (kSeq (execI R lim n 39 (F60_Lp R lim n K) f60_p1) (retW [(.tmp 2), (.tmp 3), (.tmp 4)] K))) ex T H
theorem F60_s0_eq (R : Caller) (lim n : Nat) (K : AVal → Heap → Prop) (rec0 : AVal → AVal → AVal → Heap → Prop) (T : Tm) (H : Heap) : F60_s0 R lim n K rec0 (T 0) (T 5) (T 6) H = execI R lim n 39 (F60_Lp0 R lim n K rec0) f60_p0 T H (F60_k0 R lim n K rec0) := by kernel_rfl
theorem F60_l0_ok (R : Caller) (lim n : Nat) (K : AVal → Heap → Prop) {kw : Kt} (hk : ∀ ex T H, (kBlk 0 (kSeq (execI R lim n 39 (F60_Lp R lim n K) f60_p1) (retW [(.tmp 2), (.tmp 3), (.tmp 4)] K))) ex T H → kw ex T H) : ∀ (m : Nat) (T : Tm) (H : Heap), F60_l0 R lim n K m (T 0) (T 5) (T 6) H → loopW (execW R lim n 39 f60_p0) m T H kw
  | 0, _, _, h => False.elim h
  | m + 1, T, H, h => by
    have hb : ∀ ex T H, F60_k0 R lim n K (F60_l0 R lim n K m) ex T H → (fun ex T H => match ex with | .norm => loopW (execW R lim n 39 f60_p0) m T H kw | ex => kw ex T H : Kt) ex T H := by
      intro ex T H h
      cases ex with
      | norm => exact F60_l0_ok R lim n K hk m T H h
      | exit i => exact hk _ _ _ h
      | ret => exact hk _ _ _ h
    have h' : F60_s0 R lim n K (F60_l0 R lim n K m) (T 0) (T 5) (T 6) H := h
    rw [F60_s0_eq] at h'
    exact execI_sound f60_p0 T H _ _ (oblig_nl (by kernel_rfl)) hb h'
theorem F60_eq (R : Caller) (lim n : Nat) (K : AVal → Heap → Prop) (a0 : AVal) (H : Heap) : F60 R lim n K a0 H = execI R lim n 39 (F60_Lp R lim n K) f60.body (argT [a0]) H (retW [(.tmp 2), (.tmp 3), (.tmp 4)] K) := by kernel_rfl
theorem F60_ob (R : Caller) (lim n : Nat) (K : AVal → Heap → Prop) : Oblig R lim n 39 (F60_Lp R lim n K) f60.body (retW [(.tmp 2), (.tmp 3), (.tmp 4)] K) := ⟨(oblig_nl (by kernel_rfl)), ⟨(oblig_nl (by kernel_rfl)), ⟨⟨(oblig_nl (by kernel_rfl)), (fun T H h => F60_l0_ok R lim n K (kBlk_mono (kSeqI_sound (oblig_nl (by kernel_rfl)) (fun _ _ _ h => h))) _ T H h)⟩, (oblig_nl (by kernel_rfl))⟩⟩⟩
theorem F60_run {ap : FuncId → Option AFn} (hf : ap 60 = some (.code f60)) {n lim : Nat} {K : AVal → Heap → Prop} {a0 : AVal} {H : Heap} (h : F60 (Ahs.runT ap n) lim n K a0 H) : ∃ v H', Ahs.runT ap (n + 1) lim (.fn 60) [a0] H = some (v, H') ∧ K v H' := by
  rw [F60_eq] at h
  exact run_of_W hf (by kernel_rfl) (by kernel_rfl) (execI_sound f60.body _ _ _ _ (F60_ob _ _ _ K) (fun _ _ _ h => h) h)
def F61_j0 (R : Caller) (lim n : Nat) (K : AVal → Heap → Prop) (t3 t6 t10 t11 t12 t13 : AVal) (H : Heap) : Prop :=
bindP (abin .gtr t10 (.int .i64 48)) fun v108 =>
bindP (gd (some (v108, false)) (some t11)) fun v109 =>
bindP (gd (some (v108, false)) (abin .gtr v109 (.int .i64 1536))) fun v110 =>
bindP (pickO v108 (.bool true) v110) fun v111 =>
bindP (gd (some (v111, false)) (some t12)) fun v112 =>
bindP (gd (some (v111, false)) (abin .gtr v112 (.int .i64 200))) fun v113 =>
bindP (pickO v111 (.bool true) v113) fun v114 =>
bindP (boolOf v114) fun b115 =>
(b115 = true → (bindP (aload H (some 2) t3) fun v116 =>
bindP (astore lim H 2 t6 v116) fun H117 =>
bindP (aload H117 (some 2) t6) fun v118 =>
K (.tup [v118, (.int .u8 9)]) H117)) ∧
(b115 = false → (bindP (faddrO 0 t3) fun v119 =>
bindP (astore lim H 1 v119 t13) fun H120 =>
bindP (aload H120 (some 2) t3) fun v121 =>
bindP (astore lim H120 2 t6 v121) fun H122 =>
bindP (aload H122 (some 2) t6) fun v123 =>
K (.tup [v123, (.int .u8 0)]) H122))
def F61_j1 (R : Caller) (lim n : Nat) (K : AVal → Heap → Prop) (t1 t3 t5 t6 t10 t11 t12 t13 t14 : AVal) (H : Heap) : Prop :=
bindP (aun .not t14) fun v107 =>
bindP (boolOf v107) fun b124 =>
(b124 = true → (bindP (aload H (some 4) t5) fun v125 =>
bindP (buildO ze67900 [(0, 1, t1), (1, 4, v125)]) fun v126 =>
bind2 ((fillV ze67900 [(0, 5, v126)]).map fun cs => (.sl (some (H.next, 0)) 1 (.ex 1), H.push (.cells cs))) fun v127 H128 =>
bind2 (aappend lim H128 ze67900 40 false t13 v127) fun v129 H130 =>
F61_j0 R lim n K t3 t6 t10 t11 t12 v129 H130)) ∧
(b124 = false → (F61_j0 R lim n K t3 t6 t10 t11 t12 t13 H))
def F61_j2 (R : Caller) (lim n : Nat) (K : AVal → Heap → Prop) (rec0 : AVal → AVal → AVal → AVal → AVal → AVal → AVal → AVal → AVal → AVal → Heap → Prop) (t1 t3 t5 t6 t10 t11 t12 t13 t14 t15 : AVal) (H : Heap) : Prop :=
bindP (faddrO 0 t3) fun v167 =>
bindP (aload H none v167) fun v168 =>
bindP (aindexAddr none 5 v168 t15) fun v169 =>
bindP (aload H (some 5) v169) fun v170 =>
bind2 ((fillV ze67900 [(0, 5, v170)]).map fun cs => (.sl (some (H.next, 0)) 1 (.ex 1), H.push (.cells cs))) fun v171 H172 =>
bind2 (aappend lim H172 ze67900 40 false t13 v171) fun v173 H174 =>
bindP (abin .add t15 (.int .i64 1)) fun v175 =>
rec0 t1 t3 t5 t6 t10 t11 t12 v173 t14 v175 H174
def F61_s0 (R : Caller) (lim n : Nat) (K : AVal → Heap → Prop) (rec0 : AVal → AVal → AVal → AVal → AVal → AVal → AVal → AVal → AVal → AVal → Heap → Prop) (t1 t3 t5 t6 t10 t11 t12 t13 t14 t15 : AVal) (H : Heap) : Prop :=
bindP (faddrO 0 t3) fun v131 =>
bindP (aload H none v131) fun v132 =>
bindP (alen false v132) fun v133 =>
bindP (abin .lss t15 v133) fun v134 =>
bindP (boolOf v134) fun b135 =>
(b135 = true → (bindP (faddrO 0 t3) fun v136 =>
bindP (aload H none v136) fun v137 =>
bindP (aindexAddr none 5 v137 t15) fun v138 =>
bindP (faddrO 1 v138) fun v139 =>
bindP (faddrO 0 v139) fun v140 =>
bindP (aload H none v140) fun v141 =>
bindP (abin .add t10 v141) fun v142 =>
bindP (faddrO 0 t3) fun v143 =>
bindP (aload H none v143) fun v144 =>
bindP (aindexAddr none 5 v144 t15) fun v145 =>
bindP (faddrO 1 v145) fun v146 =>
bindP (faddrO 1 v146) fun v147 =>
bindP (aload H none v147) fun v148 =>
bindP (abin .add t11 v148) fun v149 =>
bindP (faddrO 0 t3) fun v150 =>
bindP (aload H none v150) fun v151 =>
bindP (aindexAddr none 5 v151 t15) fun v152 =>
bindP (faddrO 1 v152) fun v153 =>
bindP (faddrO 2 v153) fun v154 =>
bindP (aload H none v154) fun v155 =>
bindP (abin .add t12 v155) fun v156 =>
bindP (aun .not t14) fun v157 =>
bindP (gd (some (v157, true)) (faddrO 0 t3)) fun v158 =>
bindP (gd (some (v157, true)) (aload H none v158)) fun v159 =>
bindP (gd (some (v157, true)) (some t15)) fun v160 =>
bindP (gd (some (v157, true)) (aindexAddr none 5 v159 v160)) fun v161 =>
bindP (gd (some (v157, true)) (faddrO 0 v161)) fun v162 =>
bindP (gd (some (v157, true)) (aload H none v162)) fun v163 =>
bindP (gd (some (v157, true)) (some t1)) fun v164 =>
bindP (gd (some (v157, true)) (abin .gtr v163 v164)) fun v165 =>
bindP (pickO v157 v165 (.bool false)) fun v166 =>
bindP (boolOf v166) fun b176 =>
(b176 = true → (bindP (aload H (some 4) t5) fun v177 =>
bindP (buildO ze67900 [(0, 1, t1), (1, 4, v177)]) fun v178 =>
bind2 ((fillV ze67900 [(0, 5, v178)]).map fun cs => (.sl (some (H.next, 0)) 1 (.ex 1), H.push (.cells cs))) fun v179 H180 =>
bind2 (aappend lim H180 ze67900 40 false t13 v179) fun v181 H182 =>
F61_j2 R lim n K rec0 t1 t3 t5 t6 v142 v149 v156 v181 (.bool true) t15 H182)) ∧
(b176 = false → (F61_j2 R lim n K rec0 t1 t3 t5 t6 v142 v149 v156 t13 t14 t15 H)))) ∧
(b135 = false → (F61_j1 R lim n K t1 t3 t5 t6 t10 t11 t12 t13 t14 H))
def F61_l0 (R : Caller) (lim n : Nat) (K : AVal → Heap → Prop) : Nat → AVal → AVal → AVal → AVal → AVal → AVal → AVal → AVal → AVal → AVal → Heap → Prop
  | 0, _, _, _, _, _, _, _, _, _, _, _ => False
  | m + 1, t1, t3, t5, t6, t10, t11, t12, t13, t14, t15, H => F61_s0 R lim n K (F61_l0 R lim n K m) t1 t3 t5 t6 t10 t11 t12 t13 t14 t15 H
def F61 (R : Caller) (lim n : Nat) (K : AVal → Heap → Prop) (a0 a1 a2 : AVal) (H : Heap) : Prop :=
bind2 (if (a0).cells.all (·.one) then some (.ptr (some (H.next, 0)), H.push (.cells (a0).cells)) else none) fun v1 H2 =>
bind2 (if (a2).cells.all (·.one) then some (.ptr (some (H2.next, 0)), H2.push (.cells (a2).cells)) else none) fun v3 H4 =>
bindP (abin .gtr a1 (.int .u8 3)) fun v5 =>
bindP (gd (some (v5, false)) (aload (H4.push (.cells zf3f7a3)) (some 4) v3)) fun v6 =>
bind2 (gd2 (some (v5, false)) (H4.push (.cells zf3f7a3)) (R lim (.fn 35) [v6] (H4.push (.cells zf3f7a3)))) fun v7 H8 =>
bindP (gd (some (v5, false)) (aun .not v7)) fun v9 =>
bindP (pickO v5 (.bool true) v9) fun v10 =>
bindP (boolOf v10) fun b11 =>
(b11 = true → (bindP (aload H8 (some 2) v1) fun v12 =>
bindP (astore lim H8 2 (.ptr (some (H4.next, 0))) v12) fun H13 =>
bindP (aload H13 (some 2) (.ptr (some (H4.next, 0)))) fun v14 =>
K (.tup [v14, (.int .u8 11)]) H13)) ∧
(b11 = false → (bindP (aload H8 (some 2) v1) fun v15 =>
bind2 (R lim (.fn 32) [v15, a1] H8) fun v16 H17 =>
bindP (extO 0 v16) fun v18 =>
bindP (extO 1 v16) fun v19 =>
bindP (astore lim (H17.push (.cells z547173)) 4 (.ptr (some (H17.next, 0))) v18) fun H20 =>
bindP (boolOf v19) fun b21 =>
(b21 = true → (bindP (aload H20 (some 2) v1) fun v22 =>
bindP (astore lim H20 2 (.ptr (some (H4.next, 0))) v22) fun H23 =>
bindP (aload H23 (some 2) (.ptr (some (H4.next, 0)))) fun v24 =>
K (.tup [v24, (.int .u8 10)]) H23)) ∧
(b21 = false → (bindP (faddrO 0 v3) fun v25 =>
bindP (aload H20 none v25) fun v26 =>
bindP (faddrO 1 v3) fun v27 =>
bindP (aload H20 none v27) fun v28 =>
bindP (faddrO 2 v3) fun v29 =>
bindP (aload H20 none v29) fun v30 =>
F61_l0 R lim n K n a1 v1 v3 (.ptr (some (H4.next, 0))) v26 v28 v30 (.sl none 0 (.ex 0)) (.bool false) (.int .i64 0) H20))))
def F61_Lp (R : Caller) (lim n : Nat) (K : AVal → Heap → Prop) : Nat → Tm → Heap → Prop
  | 0, T, H => F61_l0 R lim n K n (T 1) (T 3) (T 5) (T 6) (T 10) (T 11) (T 12) (T 13) (T 14) (T 15) H
  | _, _, _ => False
def F61_Lp0 (R : Caller) (lim n : Nat) (K : AVal → Heap → Prop) (rec0 : AVal → AVal → AVal → AVal → AVal → AVal → AVal → AVal → AVal → AVal → Heap → Prop) : Nat → Tm → Heap → Prop
  | _, _, _ => False
def F61_k0 (R : Caller) (lim n : Nat) (K : AVal → Heap → Prop) (rec0 : AVal → AVal → AVal → AVal → AVal → AVal → AVal → AVal → AVal → AVal → Heap → Prop) : Kt := fun ex T H => match ex with
  | .norm => rec0 (T 1) (T 3) (T 5) (T 6) (T 10) (T 11) (T 12) (T 13) (T 14) (T 15) H
  | ex => (kBlk 0 (kSeq (execI R lim n 120 (F61_Lp R lim n K) f61_p1) (retW [(.cell 6 (some 2)), (.tmp 7)] K))) ex T H
theorem F61_s0_eq (R : Caller) (lim n : Nat) (K : AVal → Heap → Prop) (rec0 : AVal → AVal → AVal → AVal → AVal → AVal → AVal → AVal → AVal → AVal → Heap → Prop) (T : Tm) (H : Heap) : F61_s0 R lim n K rec0 (T 1) (T 3) (T 5) (T 6) (T 10) (T 11) (T 12) (T 13) (T 14) (T 15) H = execI R lim n 120 (F61_Lp0 R lim n K rec0) f61_p0 T H (F61_k0 R lim n K rec0) := by kernel_rfl
theorem F61_l0_ok (R : Caller) (lim n : Nat) (K : AVal → Heap → Prop) {kw : Kt} (hk : ∀ ex T H, (kBlk 0 (kSeq (execI R lim n 120 (F61_Lp R lim n K) f61_p1) (retW [(.cell 6 (some 2)), (.tmp 7)] K))) ex T H → kw ex T H) : ∀ (m : Nat) (T : Tm) (H : Heap), F61_l0 R lim n K m (T 1) (T 3) (T 5) (T 6) (T 10) (T 11) (T 12) (T 13) (T 14) (T 15) H → loopW (execW R lim n 120 f61_p0) m T H kw
  | 0, _, _, h => False.elim h
  | m + 1, T, H, h => by
    have hb : ∀ ex T H, F61_k0 R lim n K (F61_l0 R lim n K m) ex T H → (fun ex T H => match ex with | .norm => loopW (execW R lim n 120 f61_p0) m T H kw | ex => kw ex T H : Kt) ex T H := by
      intro ex T H h
      cases ex with
      | norm => exact F61_l0_ok R lim n K hk m T H h
      | exit i => exact hk _ _ _ h
      | ret => exact hk _ _ _ h
    have h' : F61_s0 R lim n K (F61_l0 R lim n K m) (T 1) (T 3) (T 5) (T 6) (T 10) (T 11) (T 12) (T 13) (T 14) (T 15) H := h
    rw [F61_s0_eq] at h'
    exact execI_sound f61_p0 T H _ _ (oblig_nl (by kernel_rfl)) hb h'
theorem F61_eq (R : Caller) (lim n : Nat) (K : AVal → Heap → Prop) (a0 a1 a2 : AVal) (H : Heap) : F61 R lim n K a0 a1 a2 H = execI R lim n 120 (F61_Lp R lim n K) f61.body (argT [a0, a1, a2]) H (retW [(.cell 6 (some 2)), (.tmp 7)] K) := by kernel_rfl
theorem F61_ob (R : Caller) (lim n : Nat) (K : AVal → Heap → Prop) : Oblig R lim n 120 (F61_Lp R lim n K) f61.body (retW [(.cell 6 (some 2)), (.tmp 7)] K) := ⟨(oblig_nl (by kernel_rfl)), ⟨(oblig_nl (by kernel_rfl)), ⟨(oblig_nl (by kernel_rfl)), ⟨(oblig_nl (by kernel_rfl)), ⟨(oblig_nl (by kernel_rfl)), ⟨(oblig_nl (by kernel_rfl)), ⟨(oblig_nl (by kernel_rfl)), ⟨⟨(oblig_nl (by kernel_rfl)), (fun T H h => F61_l0_ok R lim n K (kBlk_mono (kSeqI_sound (oblig_nl (by kernel_rfl)) (fun _ _ _ h => h))) _ T H h)⟩, (oblig_nl (by kernel_rfl))⟩⟩⟩⟩⟩⟩⟩⟩
theorem F61_run {ap : FuncId → Option AFn} (hf : ap 61 = some (.code f61)) {n lim : Nat} {K : AVal → Heap → Prop} {a0 a1 a2 : AVal} {H : Heap} (h : F61 (Ahs.runT ap n) lim n K a0 a1 a2 H) : ∃ v H', Ahs.runT ap (n + 1) lim (.fn 61) [a0, a1, a2] H = some (v, H') ∧ K v H' := by
  rw [F61_eq] at h
  exact run_of_W hf (by kernel_rfl) (by kernel_rfl) (execI_sound f61.body _ _ _ _ (F61_ob _ _ _ K) (fun _ _ _ h => h) h)
def F62_j0 (R : Caller) (lim n : Nat) (K : AVal → Heap → Prop) (t3 : AVal) (H : Heap) : Prop :=
K t3 H
def F62_s0 (R : Caller) (lim n : Nat) (K : AVal → Heap → Prop) (rec0 : AVal → AVal → AVal → Heap → Prop) (t1 t3 t4 : AVal) (H : Heap) : Prop :=
bindP (abin .lss t4 (.int .i64 8)) fun v12 =>
bindP (boolOf v12) fun b13 =>
(b13 = true → (bindP (aindexAddr (some 8) 1 t1 t4) fun v14 =>
bindP (aload H none v14) fun v15 =>
bind2 ((fillV [(.int .u8 0)] [(0, 1, v15)]).map fun cs => (.sl (some (H.next, 0)) 1 (.ex 1), H.push (.cells cs))) fun v16 H17 =>
bindP (abytesToStr H17 v16) fun v18 =>
bindP (abin .add t3 v18) fun v19 =>
bindP (abin .add t4 (.int .i64 1)) fun v20 =>
rec0 t1 v19 v20 H17)) ∧
(b13 = false → (F62_j0 R lim n K t3 H))
def F62_l0 (R : Caller) (lim n : Nat) (K : AVal → Heap → Prop) : Nat → AVal → AVal → AVal → Heap → Prop
  | 0, _, _, _, _ => False
  | m + 1, t1, t3, t4, H => F62_s0 R lim n K (F62_l0 R lim n K m) t1 t3 t4 H
def F62 (R : Caller) (lim n : Nat) (K : AVal → Heap → Prop) (a0 : AVal) (H : Heap) : Prop :=
bind2 (if (a0).cells.all (·.one) then some (.ptr (some (H.next, 0)), H.push (.cells (a0).cells)) else none) fun v1 H2 =>
F62_l0 R lim n K n v1 (.str []) (.int .i64 0) H2
def F62_Lp (R : Caller) (lim n : Nat) (K : AVal → Heap → Prop) : Nat → Tm → Heap → Prop
  | 0, T, H => F62_l0 R lim n K n (T 1) (T 3) (T 4) H
  | _, _, _ => False
def F62_Lp0 (R : Caller) (lim n : Nat) (K : AVal → Heap → Prop) (rec0 : AVal → AVal → AVal → Heap → Prop) : Nat → Tm → Heap → Prop
  | _, _, _ => False
def F62_k0 (R : Caller) (lim n : Nat) (K : AVal → Heap → Prop) (rec0 : AVal → AVal → AVal → Heap → Prop) : Kt := fun ex T H => match ex with
  | .norm => rec0 (T 1) (T 3) (T 4) H
  | ex => (kBlk 0 (kSeq (execI R lim n 17 (F62_Lp R lim n K) f62_p1) (retW [(.tmp 2)] K))) ex T H
theorem F62_s0_eq (R : Caller) (lim n : Nat) (K : AVal → Heap → Prop) (rec0 : AVal → AVal → AVal → Heap → Prop) (T : Tm) (H : Heap) : F62_s0 R lim n K rec0 (T 1) (T 3) (T 4) H = execI R lim n 17 (F62_Lp0 R lim n K rec0) f62_p0 T H (F62_k0 R lim n K rec0) := by kernel_rfl
theorem F62_l0_ok (R : Caller) (lim n : Nat) (K : AVal → Heap → Prop) {kw : Kt} (hk : ∀ ex T H, (kBlk 0 (kSeq (execI R lim n 17 (F62_Lp R lim n K) f62_p1) (retW [(.tmp 2)] K))) ex T H → kw ex T H) : ∀ (m : Nat) (T : Tm) (H : Heap), F62_l0 R lim n K m (T 1) (T 3) (T 4) H → loopW (execW R lim n 17 f62_p0) m T H kw
  | 0, _, _, h => False.elim h
  | m + 1, T, H, h => by
    have hb : ∀ ex T H, F62_k0 R lim n K (F62_l0 R lim n K m) ex T H → (fun ex T H => match ex with | .norm => loopW (execW R lim n 17 f62_p0) m T H kw | ex => kw ex T H : Kt) ex T H := by
      intro ex T H h
      cases ex with
      | norm => exact F62_l0_ok R lim n K hk m T H h
      | exit i => exact hk _ _ _ h
      | ret => exact hk _ _ _ h
    have h' : F62_s0 R lim n K (F62_l0 R lim n K m) (T 1) (T 3) (T 4) H := h
    rw [F62_s0_eq] at h'
    exact execI_sound f62_p0 T H _ _ (oblig_nl (by kernel_rfl)) hb h'
theorem F62_eq (R : Caller) (lim n : Nat) (K : AVal → Heap → Prop) (a0 : AVal) (H : Heap) : F62 R lim n K a0 H = execI R lim n 17 (F62_Lp R lim n K) f62.body (argT [a0]) H (retW [(.tmp 2)] K) := by kernel_rfl
theorem F62_ob (R : Caller) (lim n : Nat) (K : AVal → Heap → Prop) : Oblig R lim n 17 (F62_Lp R lim n K) f62.body (retW [(.tmp 2)] K) := ⟨(oblig_nl (by kernel_rfl)), ⟨(oblig_nl (by kernel_rfl)), ⟨⟨(oblig_nl (by kernel_rfl)), (fun T H h => F62_l0_ok R lim n K (kBlk_mono (kSeqI_sound (oblig_nl (by kernel_rfl)) (fun _ _ _ h => h))) _ T H h)⟩, (oblig_nl (by kernel_rfl))⟩⟩⟩
theorem F62_run {ap : FuncId → Option AFn} (hf : ap 62 = some (.code f62)) {n lim : Nat} {K : AVal → Heap → Prop} {a0 : AVal} {H : Heap} (h : F62 (Ahs.runT ap n) lim n K a0 H) : ∃ v H', Ahs.runT ap (n + 1) lim (.fn 62) [a0] H = some (v, H') ∧ K v H' := by
  rw [F62_eq] at h
  exact run_of_W hf (by kernel_rfl) (by kernel_rfl) (execI_sound f62.body _ _ _ _ (F62_ob _ _ _ K) (fun _ _ _ h => h) h)
def F63_j0 (R : Caller) (lim n : Nat) (K : AVal → Heap → Prop) (t4 t8 t15 t17 : AVal) (H : Heap) : Prop :=
bindP (abin .geq t15 (.int .i64 4)) fun v105 =>
bindP (boolOf v105) fun b106 =>
(b106 = true → (bindP (aload H (some 2) t4) fun v107 =>
bindP (astore lim H 2 t8 v107) fun H108 =>
bindP (aload H108 (some 2) t8) fun v109 =>
K (.tup [v109, (.int .u8 9)]) H108)) ∧
(b106 = false → (bindP (faddrO 1 t4) fun v110 =>
bindP (astore lim H 1 v110 t17) fun H111 =>
bindP (aload H111 (some 2) t4) fun v112 =>
bindP (astore lim H111 2 t8 v112) fun H113 =>
bindP (aload H113 (some 2) t8) fun v114 =>
K (.tup [v114, (.int .u8 0)]) H113))
def F63_j1 (R : Caller) (lim n : Nat) (K : AVal → Heap → Prop) (t4 t8 t15 t16 t17 t18 : AVal) (H : Heap) : Prop :=
bindP (aun .not t18) fun v104 =>
bindP (boolOf v104) fun b115 =>
(b115 = true → (bindP (aload H (some 3) t16) fun v116 =>
bind2 ((fillV zafa8ae [(0, 3, v116)]).map fun cs => (.sl (some (H.next, 0)) 1 (.ex 1), H.push (.cells cs))) fun v117 H118 =>
bind2 (aappend lim H118 zafa8ae 24 false t17 v117) fun v119 H120 =>
F63_j0 R lim n K t4 t8 t15 v119 H120)) ∧
(b115 = false → (F63_j0 R lim n K t4 t8 t15 t17 H))
def F63_j2 (R : Caller) (lim n : Nat) (K : AVal → Heap → Prop) (rec0 : AVal → AVal → AVal → AVal → AVal → AVal → AVal → AVal → Heap → Prop) (t1 t4 t8 t15 t16 t17 t18 t19 : AVal) (H : Heap) : Prop :=
bindP (faddrO 1 t4) fun v143 =>
bindP (aload H none v143) fun v144 =>
bindP (aindexAddr none 3 v144 t19) fun v145 =>
bindP (aload H (some 3) v145) fun v146 =>
bind2 ((fillV zafa8ae [(0, 3, v146)]).map fun cs => (.sl (some (H.next, 0)) 1 (.ex 1), H.push (.cells cs))) fun v147 H148 =>
bind2 (aappend lim H148 zafa8ae 24 false t17 v147) fun v149 H150 =>
bindP (abin .add t19 (.int .i64 1)) fun v151 =>
rec0 t1 t4 t8 t15 t16 v149 t18 v151 H150
def F63_j3 (R : Caller) (lim n : Nat) (K : AVal → Heap → Prop) (rec0 : AVal → AVal → AVal → AVal → AVal → AVal → AVal → AVal → Heap → Prop) (t1 t4 t8 t15 t16 t17 t18 t19 : AVal) (H : Heap) : Prop :=
bindP (aun .not t18) fun v132 =>
bindP (gd (some (v132, true)) (faddrO 1 t4)) fun v133 =>
bindP (gd (some (v132, true)) (aload H none v133)) fun v134 =>
bindP (gd (some (v132, true)) (some t19)) fun v135 =>
bindP (gd (some (v132, true)) (aindexAddr none 3 v134 v135)) fun v136 =>
bindP (gd (some (v132, true)) (faddrO 0 v136)) fun v137 =>
bindP (gd (some (v132, true)) (aload H none v137)) fun v138 =>
bindP (gd (some (v132, true)) (faddrO 0 t16)) fun v139 =>
bindP (gd (some (v132, true)) (aload H none v139)) fun v140 =>
bindP (gd (some (v132, true)) (abin .gtr v138 v140)) fun v141 =>
bindP (pickO v132 v141 (.bool false)) fun v142 =>
bindP (boolOf v142) fun b152 =>
(b152 = true → (bindP (aload H (some 3) t16) fun v153 =>
bind2 ((fillV zafa8ae [(0, 3, v153)]).map fun cs => (.sl (some (H.next, 0)) 1 (.ex 1), H.push (.cells cs))) fun v154 H155 =>
bind2 (aappend lim H155 zafa8ae 24 false t17 v154) fun v156 H157 =>
F63_j2 R lim n K rec0 t1 t4 t8 t15 t16 v156 (.bool true) t19 H157)) ∧
(b152 = false → (F63_j2 R lim n K rec0 t1 t4 t8 t15 t16 t17 t18 t19 H))
def F63_s0 (R : Caller) (lim n : Nat) (K : AVal → Heap → Prop) (rec0 : AVal → AVal → AVal → AVal → AVal → AVal → AVal → AVal → Heap → Prop) (t1 t4 t8 t15 t16 t17 t18 t19 : AVal) (H : Heap) : Prop :=
bindP (faddrO 1 t4) fun v121 =>
bindP (aload H none v121) fun v122 =>
bindP (alen false v122) fun v123 =>
bindP (abin .lss t19 v123) fun v124 =>
bindP (boolOf v124) fun b125 =>
(b125 = true → (bindP (faddrO 1 t4) fun v126 =>
bindP (aload H none v126) fun v127 =>
bindP (aindexAddr none 3 v127 t19) fun v128 =>
bindP (faddrO 1 v128) fun v129 =>
bindP (aload H none v129) fun v130 =>
bindP (abin .eql v130 t1) fun v131 =>
bindP (boolOf v131) fun b158 =>
(b158 = true → (bindP (abin .add t15 (.int .i64 1)) fun v159 =>
F63_j3 R lim n K rec0 t1 t4 t8 v159 t16 t17 t18 t19 H)) ∧
(b158 = false → (F63_j3 R lim n K rec0 t1 t4 t8 t15 t16 t17 t18 t19 H)))) ∧
(b125 = false → (F63_j1 R lim n K t4 t8 t15 t16 t17 t18 H))
def F63_l0 (R : Caller) (lim n : Nat) (K : AVal → Heap → Prop) : Nat → AVal → AVal → AVal → AVal → AVal → AVal → AVal → AVal → Heap → Prop
  | 0, _, _, _, _, _, _, _, _, _ => False
  | m + 1, t1, t4, t8, t15, t16, t17, t18, t19, H => F63_s0 R lim n K (F63_l0 R lim n K m) t1 t4 t8 t15 t16 t17 t18 t19 H
def F63 (R : Caller) (lim n : Nat) (K : AVal → Heap → Prop) (a0 a1 a2 a3 : AVal) (H : Heap) : Prop :=
bind2 (if (a0).cells.all (·.one) then some (.ptr (some (H.next, 0)), H.push (.cells (a0).cells)) else none) fun v1 H2 =>
bind2 (if (a2).cells.all (·.one) then some (.ptr (some (H2.next, 0)), H2.push (.cells (a2).cells)) else none) fun v3 H4 =>
bindP (abin .gtr a1 (.int .u8 3)) fun v5 =>
bindP (gd (some (v5, false)) (some a3)) fun v6 =>
bindP (gd (some (v5, false)) (abin .lss v6 (.int .u8 1))) fun v7 =>
bindP (pickO v5 (.bool true) v7) fun v8 =>
bindP (gd (some (v8, false)) (some a3)) fun v9 =>
bindP (gd (some (v8, false)) (abin .gtr v9 (.int .u8 3))) fun v10 =>
bindP (pickO v8 (.bool true) v10) fun v11 =>
bindP (gd (some (v11, false)) (aload (H4.push (.cells zf3f7a3)) (some 8) v3)) fun v12 =>
bind2 (gd2 (some (v11, false)) (H4.push (.cells zf3f7a3)) (R lim (.fn 62) [v12] (H4.push (.cells zf3f7a3)))) fun v13 H14 =>
bindP (gd (some (v11, false)) (abin .eql v13 (.str [111, 112, 101, 114, 97, 116, 111, 114]))) fun v15 =>
bindP (pickO v11 (.bool true) v15) fun v16 =>
bindP (boolOf v16) fun b17 =>
(b17 = true → (bindP (aload H14 (some 2) v1) fun v18 =>
bindP (astore lim H14 2 (.ptr (some (H4.next, 0))) v18) fun H19 =>
bindP (aload H19 (some 2) (.ptr (some (H4.next, 0)))) fun v20 =>
K (.tup [v20, (.int .u8 11)]) H19)) ∧
(b17 = false → (bindP (aload H14 (some 2) v1) fun v21 =>
bind2 (R lim (.fn 32) [v21, a1] H14) fun v22 H23 =>
bindP (extO 0 v22) fun v24 =>
bindP (extO 1 v22) fun v25 =>
bindP (astore lim (H23.push (.cells z547173)) 4 (.ptr (some (H23.next, 0))) v24) fun H26 =>
bindP (aun .not v25) fun v27 =>
bindP (boolOf v27) fun b28 =>
(b28 = true → (bindP (aload H26 (some 2) v1) fun v29 =>
bindP (astore lim H26 2 (.ptr (some (H4.next, 0))) v29) fun H30 =>
bindP (aload H30 (some 2) (.ptr (some (H4.next, 0)))) fun v31 =>
K (.tup [v31, (.int .u8 1)]) H30)) ∧
(b28 = false → (bindP (aload H26 (some 2) v1) fun v32 =>
bindP (aload H26 (some 8) v3) fun v33 =>
bind2 (R lim (.fn 31) [v32, v33] H26) fun v34 H35 =>
bindP (extO 0 v34) fun v36 =>
bindP (extO 1 v34) fun v37 =>
bindP (extO 2 v34) fun v38 =>
bindP (boolOf v38) fun b39 =>
(b39 = true → (bindP (aload H35 (some 2) v1) fun v40 =>
bindP (astore lim H35 2 (.ptr (some (H4.next, 0))) v40) fun H41 =>
bindP (aload H41 (some 2) (.ptr (some (H4.next, 0)))) fun v42 =>
K (.tup [v42, (.int .u8 10)]) H41)) ∧
(b39 = false → (bindP (aload H35 (some 8) v3) fun v43 =>
bind2 (R lim (.fn 62) [v43] H35) fun v44 H45 =>
bindP (buildO zafa8ae [(0, 1, v44), (1, 1, a1), (2, 1, a3)]) fun v46 =>
bindP (astore lim (H45.push (.cells zafa8ae)) 3 (.ptr (some (H45.next, 0))) v46) fun H47 =>
F63_l0 R lim n K n a1 v1 (.ptr (some (H4.next, 0))) (.int .i64 0) (.ptr (some (H45.next, 0))) (.sl none 0 (.ex 0)) (.bool false) (.int .i64 0) H47))))))
def F63_Lp (R : Caller) (lim n : Nat) (K : AVal → Heap → Prop) : Nat → Tm → Heap → Prop
  | 0, T, H => F63_l0 R lim n K n (T 1) (T 4) (T 8) (T 15) (T 16) (T 17) (T 18) (T 19) H
  | _, _, _ => False
def F63_Lp0 (R : Caller) (lim n : Nat) (K : AVal → Heap → Prop) (rec0 : AVal → AVal → AVal → AVal → AVal → AVal → AVal → AVal → Heap → Prop) : Nat → Tm → Heap → Prop
  | _, _, _ => False
def F63_k0 (R : Caller) (lim n : Nat) (K : AVal → Heap → Prop) (rec0 : AVal → AVal → AVal → AVal → AVal → AVal → AVal → AVal → Heap → Prop) : Kt := fun ex T H => match ex with
  | .norm => rec0 (T 1) (T 4) (T 8) (T 15) (T 16) (T 17) (T 18) (T 19) H
  | ex => (kBlk 0 (kSeq (execI R lim n 113 (F63_Lp R lim n K) f63_p1) (retW [(.cell 8 (some 2)), (.tmp 9)] K))) ex T H
theorem F63_s0_eq (R : Caller) (lim n : Nat) (K : AVal → Heap → Prop) (rec0 : AVal → AVal → AVal → AVal → AVal → AVal → AVal → AVal → Heap → Prop) (T : Tm) (H : Heap) : F63_s0 R lim n K rec0 (T 1) (T 4) (T 8) (T 15) (T 16) (T 17) (T 18) (T 19) H = execI R lim n 113 (F63_Lp0 R lim n K rec0) f63_p0 T H (F63_k0 R lim n K rec0) := by kernel_rfl
theorem F63_l0_ok (R : Caller) (lim n : Nat) (K : AVal → Heap → Prop) {kw : Kt} (hk : ∀ ex T H, (kBlk 0 (kSeq (execI R lim n 113 (F63_Lp R lim n K) f63_p1) (retW [(.cell 8 (some 2)), (.tmp 9)] K))) ex T H → kw ex T H) : ∀ (m : Nat) (T : Tm) (H : Heap), F63_l0 R lim n K m (T 1) (T 4) (T 8) (T 15) (T 16) (T 17) (T 18) (T 19) H → loopW (execW R lim n 113 f63_p0) m T H kw
  | 0, _, _, h => False.elim h
  | m + 1, T, H, h => by
    have hb : ∀ ex T H, F63_k0 R lim n K (F63_l0 R lim n K m) ex T H → (fun ex T H => match ex with | .norm => loopW (execW R lim n 113 f63_p0) m T H kw | ex => kw ex T H : Kt) ex T H := by
      intro ex T H h
      cases ex with
      | norm => exact F63_l0_ok R lim n K hk m T H h
      | exit i => exact hk _ _ _ h
      | ret => exact hk _ _ _ h
    have h' : F63_s0 R lim n K (F63_l0 R lim n K m) (T 1) (T 4) (T 8) (T 15) (T 16) (T 17) (T 18) (T 19) H := h
    rw [F63_s0_eq] at h'
    exact execI_sound f63_p0 T H _ _ (oblig_nl (by kernel_rfl)) hb h'
theorem F63_eq (R : Caller) (lim n : Nat) (K : AVal → Heap → Prop) (a0 a1 a2 a3 : AVal) (H : Heap) : F63 R lim n K a0 a1 a2 a3 H = execI R lim n 113 (F63_Lp R lim n K) f63.body (argT [a0, a1, a2, a3]) H (retW [(.cell 8 (some 2)), (.tmp 9)] K) := by kernel_rfl
theorem F63_ob (R : Caller) (lim n : Nat) (K : AVal → Heap → Prop) : Oblig R lim n 113 (F63_Lp R lim n K) f63.body (retW [(.cell 8 (some 2)), (.tmp 9)] K) := ⟨(oblig_nl (by kernel_rfl)), ⟨(oblig_nl (by kernel_rfl)), ⟨(oblig_nl (by kernel_rfl)), ⟨(oblig_nl (by kernel_rfl)), ⟨(oblig_nl (by kernel_rfl)), ⟨(oblig_nl (by kernel_rfl)), ⟨(oblig_nl (by kernel_rfl)), ⟨(oblig_nl (by kernel_rfl)), ⟨(oblig_nl (by kernel_rfl)), ⟨(oblig_nl (by kernel_rfl)), ⟨⟨(oblig_nl (by kernel_rfl)), (fun T H h => F63_l0_ok R lim n K (kBlk_mono (kSeqI_sound (oblig_nl (by kernel_rfl)) (fun _ _ _ h => h))) _ T H h)⟩, (oblig_nl (by kernel_rfl))⟩⟩⟩⟩⟩⟩⟩⟩⟩⟩⟩
theorem F63_run {ap : FuncId → Option AFn} (hf : ap 63 = some (.code f63)) {n lim : Nat} {K : AVal → Heap → Prop} {a0 a1 a2 a3 : AVal} {H : Heap} (h : F63 (Ahs.runT ap n) lim n K a0 a1 a2 a3 H) : ∃ v H', Ahs.runT ap (n + 1) lim (.fn 63) [a0, a1, a2, a3] H = some (v, H') ∧ K v H' := by
  rw [F63_eq] at h
  exact run_of_W hf (by kernel_rfl) (by kernel_rfl) (execI_sound f63.body _ _ _ _ (F63_ob _ _ _ K) (fun _ _ _ h => h) h)
def F64 (R : Caller) (lim n : Nat) (K : AVal → Heap → Prop) (a0 : AVal) (H : Heap) : Prop :=
bindP (eqvO false .ptr a0 (.ptr none)) fun v1 =>
bindP (gd (some (v1, false)) (some a0)) fun v2 =>
bindP (gd (some (v1, false)) (nilO v2)) fun v3 =>
bindP (gd (some (v1, false)) (faddrO 16 v3)) fun v4 =>
bindP (gd (some (v1, false)) (aload H none v4)) fun v5 =>
bindP (gd (some (v1, false)) (eqvO false .map v5 (.map none))) fun v6 =>
bindP (pickO v1 (.bool true) v6) fun v7 =>
K v7 H
def F64_Lp (R : Caller) (lim n : Nat) (K : AVal → Heap → Prop) : Nat → Tm → Heap → Prop
  | _, _, _ => False
theorem F64_eq (R : Caller) (lim n : Nat) (K : AVal → Heap → Prop) (a0 : AVal) (H : Heap) : F64 R lim n K a0 H = execI R lim n 12 (F64_Lp R lim n K) f64.body (argT [a0]) H (retW [(.tmp 2)] K) := by kernel_rfl
theorem F64_ob (R : Caller) (lim n : Nat) (K : AVal → Heap → Prop) : Oblig R lim n 12 (F64_Lp R lim n K) f64.body (retW [(.tmp 2)] K) := (oblig_nl (by kernel_rfl))
theorem F64_run {ap : FuncId → Option AFn} (hf : ap 64 = some (.code f64)) {n lim : Nat} {K : AVal → Heap → Prop} {a0 : AVal} {H : Heap} (h : F64 (Ahs.runT ap n) lim n K a0 H) : ∃ v H', Ahs.runT ap (n + 1) lim (.fn 64) [a0] H = some (v, H') ∧ K v H' := by
  rw [F64_eq] at h
  exact run_of_W hf (by kernel_rfl) (by kernel_rfl) (execI_sound f64.body _ _ _ _ (F64_ob _ _ _ K) (fun _ _ _ h => h) h)
def F65 (R : Caller) (lim n : Nat) (K : AVal → Heap → Prop) (a0 a1 : AVal) (H : Heap) : Prop :=
bindP (nilO a0) fun v1 =>
bindP (faddrO 0 v1) fun v2 =>
bindP (aindexAddr (some 4) 4 v2 a1) fun v3 =>
bindP (faddrO 0 v3) fun v4 =>
bindP (aload H none v4) fun v5 =>
bindP (abin .gtr v5 (.int .i64 0)) fun v6 =>
K v6 H
def F65_Lp (R : Caller) (lim n : Nat) (K : AVal → Heap → Prop) : Nat → Tm → Heap → Prop
  | _, _, _ => False
theorem F65_eq (R : Caller) (lim n : Nat) (K : AVal → Heap → Prop) (a0 a1 : AVal) (H : Heap) : F65 R lim n K a0 a1 H = execI R lim n 13 (F65_Lp R lim n K) f65.body (argT [a0, a1]) H (retW [(.tmp 4)] K) := by kernel_rfl
theorem F65_ob (R : Caller) (lim n : Nat) (K : AVal → Heap → Prop) : Oblig R lim n 13 (F65_Lp R lim n K) f65.body (retW [(.tmp 4)] K) := (oblig_nl (by kernel_rfl))
theorem F65_run {ap : FuncId → Option AFn} (hf : ap 65 = some (.code f65)) {n lim : Nat} {K : AVal → Heap → Prop} {a0 a1 : AVal} {H : Heap} (h : F65 (Ahs.runT ap n) lim n K a0 a1 H) : ∃ v H', Ahs.runT ap (n + 1) lim (.fn 65) [a0, a1] H = some (v, H') ∧ K v H' := by
  rw [F65_eq] at h
  exact run_of_W hf (by kernel_rfl) (by kernel_rfl) (execI_sound f65.body _ _ _ _ (F65_ob _ _ _ K) (fun _ _ _ h => h) h)
def F66_j0 (R : Caller) (lim n : Nat) (K : AVal → Heap → Prop) (t3 : AVal) (H : Heap) : Prop :=
bindP (abytesToStr H t3) fun v38 =>
K v38 H
def F66_j1 (R : Caller) (lim n : Nat) (K : AVal → Heap → Prop) (rec0 : AVal → AVal → AVal → AVal → Heap → Prop) (t3 t6 t7 t8 t9 t10 : AVal) (H : Heap) : Prop :=
bindP (asliceArr 10 1 t6 (some t7) none none) fun v61 =>
bind2 (aappend lim H [(.int .u8 0)] 1 false t3 v61) fun v62 H63 =>
bindP (abin .add t10 (.int .i64 1)) fun v64 =>
rec0 v62 t8 t9 v64 H63
def F66_s2 (R : Caller) (lim n : Nat) (K : AVal → Heap → Prop) (rec0 : AVal → AVal → AVal → AVal → Heap → Prop) (rec2 : AVal → AVal → AVal → AVal → AVal → AVal → AVal → Heap → Prop) (t3 t5 t6 t7 t8 t9 t10 : AVal) (H : Heap) : Prop :=
bindP (abin .gtr t5 (.int .u64 0)) fun v65 =>
bindP (boolOf v65) fun b66 =>
(b66 = true → (bindP (abin .sub t7 (.int .i64 1)) fun v67 =>
bindP (abin .and t5 (.int .u64 127)) fun v68 =>
bindP (convO .u8 v68) fun v69 =>
bindP (abin .or v69 (.int .u8 128)) fun v70 =>
bindP (aindexAddr (some 10) 1 t6 v67) fun v71 =>
bindP (astore lim H 1 v71 v70) fun H72 =>
bindP (abin .shr t5 (.int .u64 7)) fun v73 =>
rec2 t3 v73 t6 v67 t8 t9 t10 H72)) ∧
(b66 = false → (F66_j1 R lim n K rec0 t3 t6 t7 t8 t9 t10 H))
def F66_l2 (R : Caller) (lim n : Nat) (K : AVal → Heap → Prop) (rec0 : AVal → AVal → AVal → AVal → Heap → Prop) : Nat → AVal → AVal → AVal → AVal → AVal → AVal → AVal → Heap → Prop
  | 0, _, _, _, _, _, _, _, _ => False
  | m + 1, t3, t5, t6, t7, t8, t9, t10, H => F66_s2 R lim n K rec0 (F66_l2 R lim n K rec0 m) t3 t5 t6 t7 t8 t9 t10 H
def F66_s0 (R : Caller) (lim n : Nat) (K : AVal → Heap → Prop) (rec0 : AVal → AVal → AVal → AVal → Heap → Prop) (t3 t8 t9 t10 : AVal) (H : Heap) : Prop :=
bindP (abin .lss t10 t9) fun v39 =>
bindP (boolOf v39) fun b40 =>
(b40 = true → (bindP (aindexAddr none 1 t8 t10) fun v41 =>
bindP (aload H none v41) fun v42 =>
bindP (abin .and v42 (.int .u64 127)) fun v43 =>
bindP (convO .u8 v43) fun v44 =>
bindP (aindexAddr (some 10) 1 (.ptr (some (H.next, 0))) (.int .i64 9)) fun v45 =>
bindP (astore lim (H.push (.cells z8c4342)) 1 v45 v44) fun H46 =>
bindP (abin .shr v42 (.int .u64 7)) fun v47 =>
F66_l2 R lim n K rec0 n t3 v47 (.ptr (some (H.next, 0))) (.int .i64 9) t8 t9 t10 H46)) ∧
(b40 = false → (F66_j0 R lim n K t3 H))
def F66_l0 (R : Caller) (lim n : Nat) (K : AVal → Heap → Prop) : Nat → AVal → AVal → AVal → AVal → Heap → Prop
  | 0, _, _, _, _, _ => False
  | m + 1, t3, t8, t9, t10, H => F66_s0 R lim n K (F66_l0 R lim n K m) t3 t8 t9 t10 H
def F66 (R : Caller) (lim n : Nat) (K : AVal → Heap → Prop) (a0 : AVal) (H : Heap) : Prop :=
bindP (alen false a0) fun v1 =>
F66_l0 R lim n K n (.sl none 0 (.ex 0)) a0 v1 (.int .i64 0) H
def F66_Lp (R : Caller) (lim n : Nat) (K : AVal → Heap → Prop) : Nat → Tm → Heap → Prop
  | 0, T, H => F66_l0 R lim n K n (T 3) (T 8) (T 9) (T 10) H
  | _, _, _ => False
def F66_Lp0 (R : Caller) (lim n : Nat) (K : AVal → Heap → Prop) (rec0 : AVal → AVal → AVal → AVal → Heap → Prop) : Nat → Tm → Heap → Prop
  | 2, T, H => F66_l2 R lim n K rec0 n (T 3) (T 5) (T 6) (T 7) (T 8) (T 9) (T 10) H
  | _, _, _ => False
def F66_Lp2 (R : Caller) (lim n : Nat) (K : AVal → Heap → Prop) (rec0 : AVal → AVal → AVal → AVal → Heap → Prop) (rec2 : AVal → AVal → AVal → AVal → AVal → AVal → AVal → Heap → Prop) : Nat → Tm → Heap → Prop
  | _, _, _ => False
def F66_k0 (R : Caller) (lim n : Nat) (K : AVal → Heap → Prop) (rec0 : AVal → AVal → AVal → AVal → Heap → Prop) : Kt := fun ex T H => match ex with
  | .norm => rec0 (T 3) (T 8) (T 9) (T 10) H
  | ex => (kBlk 0 (kSeq (execI R lim n 40 (F66_Lp R lim n K) f66_p1) (retW [(.tmp 2)] K))) ex T H
def F66_k2 (R : Caller) (lim n : Nat) (K : AVal → Heap → Prop) (rec0 : AVal → AVal → AVal → AVal → Heap → Prop) (rec2 : AVal → AVal → AVal → AVal → AVal → AVal → AVal → Heap → Prop) : Kt := fun ex T H => match ex with
  | .norm => rec2 (T 3) (T 5) (T 6) (T 7) (T 8) (T 9) (T 10) H
  | ex => (kBlk 2 (kSeq (execI R lim n 40 (F66_Lp0 R lim n K rec0) f66_p3) (kBlk 1 (kSeq (execI R lim n 40 (F66_Lp0 R lim n K rec0) f66_p4) (F66_k0 R lim n K rec0))))) ex T H
theorem F66_s2_eq (R : Caller) (lim n : Nat) (K : AVal → Heap → Prop) (rec0 : AVal → AVal → AVal → AVal → Heap → Prop) (rec2 : AVal → AVal → AVal → AVal → AVal → AVal → AVal → Heap → Prop) (T : Tm) (H : Heap) : F66_s2 R lim n K rec0 rec2 (T 3) (T 5) (T 6) (T 7) (T 8) (T 9) (T 10) H = execI R lim n 40 (F66_Lp2 R lim n K rec0 rec2) f66_p2 T H (F66_k2 R lim n K rec0 rec2) := by kernel_rfl
theorem F66_l2_ok (R : Caller) (lim n : Nat) (K : AVal → Heap → Prop) (rec0 : AVal → AVal → AVal → AVal → Heap → Prop) {kw : Kt} (hk : ∀ ex T H, (kBlk 2 (kSeq (execI R lim n 40 (F66_Lp0 R lim n K rec0) f66_p3) (kBlk 1 (kSeq (execI R lim n 40 (F66_Lp0 R lim n K rec0) f66_p4) (F66_k0 R lim n K rec0))))) ex T H → kw ex T H) : ∀ (m : Nat) (T : Tm) (H : Heap), F66_l2 R lim n K rec0 m (T 3) (T 5) (T 6) (T 7) (T 8) (T 9) (T 10) H → loopW (execW R lim n 40 f66_p2) m T H kw
  | 0, _, _, h => False.elim h
  | m + 1, T, H, h => by
    have hb : ∀ ex T H, F66_k2 R lim n K rec0 (F66_l2 R lim n K rec0 m) ex T H → (fun ex T H => match ex with | .norm => loopW (execW R lim n 40 f66_p2) m T H kw | ex => kw ex T H : Kt) ex T H := by
      intro ex T H h
      cases ex with
      | norm => exact F66_l2_ok R lim n K rec0 hk m T H h
      | exit i => exact hk _ _ _ h
      | ret => exact hk _ _ _ h
    have h' : F66_s2 R lim n K rec0 (F66_l2 R lim n K rec0 m) (T 3) (T 5) (T 6) (T 7) (T 8) (T 9) (T 10) H := h
    rw [F66_s2_eq] at h'
    exact execI_sound f66_p2 T H _ _ (oblig_nl (by kernel_rfl)) hb h'
theorem F66_s0_eq (R : Caller) (lim n : Nat) (K : AVal → Heap → Prop) (rec0 : AVal → AVal → AVal → AVal → Heap → Prop) (T : Tm) (H : Heap) : F66_s0 R lim n K rec0 (T 3) (T 8) (T 9) (T 10) H = execI R lim n 40 (F66_Lp0 R lim n K rec0) f66_p0 T H (F66_k0 R lim n K rec0) := by kernel_rfl
theorem F66_l0_ok (R : Caller) (lim n : Nat) (K : AVal → Heap → Prop) {kw : Kt} (hk : ∀ ex T H, (kBlk 0 (kSeq (execI R lim n 40 (F66_Lp R lim n K) f66_p1) (retW [(.tmp 2)] K))) ex T H → kw ex T H) : ∀ (m : Nat) (T : Tm) (H : Heap), F66_l0 R lim n K m (T 3) (T 8) (T 9) (T 10) H → loopW (execW R lim n 40 f66_p0) m T H kw
  | 0, _, _, h => False.elim h
  | m + 1, T, H, h => by
    have hb : ∀ ex T H, F66_k0 R lim n K (F66_l0 R lim n K m) ex T H → (fun ex T H => match ex with | .norm => loopW (execW R lim n 40 f66_p0) m T H kw | ex => kw ex T H : Kt) ex T H := by
      intro ex T H h
      cases ex with
      | norm => exact F66_l0_ok R lim n K hk m T H h
      | exit i => exact hk _ _ _ h
      | ret => exact hk _ _ _ h
    have h' : F66_s0 R lim n K (F66_l0 R lim n K m) (T 3) (T 8) (T 9) (T 10) H := h
    rw [F66_s0_eq] at h'
    exact execI_sound f66_p0 T H _ _ ⟨(oblig_nl (by kernel_rfl)), ⟨(oblig_nl (by kernel_rfl)), ⟨⟨(oblig_nl (by kernel_rfl)), ⟨(oblig_nl (by kernel_rfl)), ⟨(oblig_nl (by kernel_rfl)), ⟨(oblig_nl (by kernel_rfl)), ⟨⟨(oblig_nl (by kernel_rfl)), (fun T H h => F66_l2_ok R lim n K (F66_l0 R lim n K m) (kBlk_mono (kSeqI_sound (oblig_nl (by kernel_rfl)) (kBlk_mono (kSeqI_sound (oblig_nl (by kernel_rfl)) (hb))))) _ T H h)⟩, (oblig_nl (by kernel_rfl))⟩⟩⟩⟩⟩, (oblig_nl (by kernel_rfl))⟩⟩⟩ hb h'
theorem F66_eq (R : Caller) (lim n : Nat) (K : AVal → Heap → Prop) (a0 : AVal) (H : Heap) : F66 R lim n K a0 H = execI R lim n 40 (F66_Lp R lim n K) f66.body (argT [a0]) H (retW [(.tmp 2)] K) := by kernel_rfl
theorem F66_ob (R : Caller) (lim n : Nat) (K : AVal → Heap → Prop) : Oblig R lim n 40 (F66_Lp R lim n K) f66.body (retW [(.tmp 2)] K) := ⟨(oblig_nl (by kernel_rfl)), ⟨(oblig_nl (by kernel_rfl)), ⟨⟨(oblig_nl (by kernel_rfl)), (fun T H h => F66_l0_ok R lim n K (kBlk_mono (kSeqI_sound (oblig_nl (by kernel_rfl)) (fun _ _ _ h => h))) _ T H h)⟩, (oblig_nl (by kernel_rfl))⟩⟩⟩
theorem F66_run {ap : FuncId → Option AFn} (hf : ap 66 = some (.code f66)) {n lim : Nat} {K : AVal → Heap → Prop} {a0 : AVal} {H : Heap} (h : F66 (Ahs.runT ap n) lim n K a0 H) : ∃ v H', Ahs.runT ap (n + 1) lim (.fn 66) [a0] H = some (v, H') ∧ K v H' := by
  rw [F66_eq] at h
  exact run_of_W hf (by kernel_rfl) (by kernel_rfl) (execI_sound f66.body _ _ _ _ (F66_ob _ _ _ K) (fun _ _ _ h => h) h)
def F68 (R : Caller) (lim n : Nat) (K : AVal → Heap → Prop) (a0 : AVal) (H : Heap) : Prop :=
bind2 (if (a0).cells.all (·.one) then some (.ptr (some (H.next, 0)), H.push (.cells (a0).cells)) else none) fun v1 H2 =>
bindP (some (AVal.fn 103 [] [v1])) fun v3 =>
K v3 H2
def F68_Lp (R : Caller) (lim n : Nat) (K : AVal → Heap → Prop) : Nat → Tm → Heap → Prop
  | _, _, _ => False
theorem F68_eq (R : Caller) (lim n : Nat) (K : AVal → Heap → Prop) (a0 : AVal) (H : Heap) : F68 R lim n K a0 H = execI R lim n 4 (F68_Lp R lim n K) f68.body (argT [a0]) H (retW [(.tmp 2)] K) := by kernel_rfl
theorem F68_ob (R : Caller) (lim n : Nat) (K : AVal → Heap → Prop) : Oblig R lim n 4 (F68_Lp R lim n K) f68.body (retW [(.tmp 2)] K) := (oblig_nl (by kernel_rfl))
theorem F68_run {ap : FuncId → Option AFn} (hf : ap 68 = some (.code f68)) {n lim : Nat} {K : AVal → Heap → Prop} {a0 : AVal} {H : Heap} (h : F68 (Ahs.runT ap n) lim n K a0 H) : ∃ v H', Ahs.runT ap (n + 1) lim (.fn 68) [a0] H = some (v, H') ∧ K v H' := by
  rw [F68_eq] at h
  exact run_of_W hf (by kernel_rfl) (by kernel_rfl) (execI_sound f68.body _ _ _ _ (F68_ob _ _ _ K) (fun _ _ _ h => h) h)
def F71_j0 (R : Caller) (lim n : Nat) (K : AVal → Heap → Prop) (t3 : AVal) (H : Heap) : Prop :=
K t3 H
def F71_s0 (R : Caller) (lim n : Nat) (K : AVal → Heap → Prop) (rec0 : AVal → AVal → AVal → Heap → Prop) (t0 t3 t4 : AVal) (H : Heap) : Prop :=
bindP (alen false t0) fun v10 =>
bindP (abin .lss t4 v10) fun v11 =>
bindP (boolOf v11) fun b12 =>
(b12 = true → (bindP (aindexAddr none 1 t0 t4) fun v13 =>
bindP (aload H none v13) fun v14 =>
bind2 (R lim (.fn 72) [v14] H) fun v15 H16 =>
bindP (abin .add t3 v15) fun v17 =>
bindP (abin .add t4 (.int .i64 1)) fun v18 =>
rec0 t0 v17 v18 H16)) ∧
(b12 = false → (F71_j0 R lim n K t3 H))
def F71_l0 (R : Caller) (lim n : Nat) (K : AVal → Heap → Prop) : Nat → AVal → AVal → AVal → Heap → Prop
  | 0, _, _, _, _ => False
  | m + 1, t0, t3, t4, H => F71_s0 R lim n K (F71_l0 R lim n K m) t0 t3 t4 H
def F71 (R : Caller) (lim n : Nat) (K : AVal → Heap → Prop) (a0 : AVal) (H : Heap) : Prop :=
F71_l0 R lim n K n a0 (.str []) (.int .i64 0) H
def F71_Lp (R : Caller) (lim n : Nat) (K : AVal → Heap → Prop) : Nat → Tm → Heap → Prop
  | 0, T, H => F71_l0 R lim n K n (T 0) (T 3) (T 4) H
  | _, _, _ => False
def F71_Lp0 (R : Caller) (lim n : Nat) (K : AVal → Heap → Prop) (rec0 : AVal → AVal → AVal → Heap → Prop) : Nat → Tm → Heap → Prop
  | _, _, _ => False
def F71_k0 (R : Caller) (lim n : Nat) (K : AVal → Heap → Prop) (rec0 : AVal → AVal → AVal → Heap → Prop) : Kt := fun ex T H => match ex with
  | .norm => rec0 (T 0) (T 3) (T 4) H
  | ex => (kBlk 0 (kSeq (execI R lim n 19 (F71_Lp R lim n K) f71_p1) (retW [(.tmp 2)] K))) ex T H
theorem F71_s0_eq (R : Caller) (lim n : Nat) (K : AVal → Heap → Prop) (rec0 : AVal → AVal → AVal → Heap → Prop) (T : Tm) (H : Heap) : F71_s0 R lim n K rec0 (T 0) (T 3) (T 4) H = execI R lim n 19 (F71_Lp0 R lim n K rec0) f71_p0 T H (F71_k0 R lim n K rec0) := by kernel_rfl
theorem F71_l0_ok (R : Caller) (lim n : Nat) (K : AVal → Heap → Prop) {kw : Kt} (hk : ∀ ex T H, (kBlk 0 (kSeq (execI R lim n 19 (F71_Lp R lim n K) f71_p1) (retW [(.tmp 2)] K))) ex T H → kw ex T H) : ∀ (m : Nat) (T : Tm) (H : Heap), F71_l0 R lim n K m (T 0) (T 3) (T 4) H → loopW (execW R lim n 19 f71_p0) m T H kw
  | 0, _, _, h => False.elim h
  | m + 1, T, H, h => by
    have hb : ∀ ex T H, F71_k0 R lim n K (F71_l0 R lim n K m) ex T H → (fun ex T H => match ex with | .norm => loopW (execW R lim n 19 f71_p0) m T H kw | ex => kw ex T H : Kt) ex T H := by
      intro ex T H h
      cases ex with
      | norm => exact F71_l0_ok R lim n K hk m T H h
      | exit i => exact hk _ _ _ h
      | ret => exact hk _ _ _ h
    have h' : F71_s0 R lim n K (F71_l0 R lim n K m) (T 0) (T 3) (T 4) H := h
    rw [F71_s0_eq] at h'
    exact execI_sound f71_p0 T H _ _ (oblig_nl (by kernel_rfl)) hb h'
theorem F71_eq (R : Caller) (lim n : Nat) (K : AVal → Heap → Prop) (a0 : AVal) (H : Heap) : F71 R lim n K a0 H = execI R lim n 19 (F71_Lp R lim n K) f71.body (argT [a0]) H (retW [(.tmp 2)] K) := by kernel_rfl
theorem F71_ob (R : Caller) (lim n : Nat) (K : AVal → Heap → Prop) : Oblig R lim n 19 (F71_Lp R lim n K) f71.body (retW [(.tmp 2)] K) := ⟨(oblig_nl (by kernel_rfl)), ⟨(oblig_nl (by kernel_rfl)), ⟨⟨(oblig_nl (by kernel_rfl)), (fun T H h => F71_l0_ok R lim n K (kBlk_mono (kSeqI_sound (oblig_nl (by kernel_rfl)) (fun _ _ _ h => h))) _ T H h)⟩, (oblig_nl (by kernel_rfl))⟩⟩⟩
theorem F71_run {ap : FuncId → Option AFn} (hf : ap 71 = some (.code f71)) {n lim : Nat} {K : AVal → Heap → Prop} {a0 : AVal} {H : Heap} (h : F71 (Ahs.runT ap n) lim n K a0 H) : ∃ v H', Ahs.runT ap (n + 1) lim (.fn 71) [a0] H = some (v, H') ∧ K v H' := by
  rw [F71_eq] at h
  exact run_of_W hf (by kernel_rfl) (by kernel_rfl) (execI_sound f71.body _ _ _ _ (F71_ob _ _ _ K) (fun _ _ _ h => h) h)
def F72_j0 (R : Caller) (lim n : Nat) (K : AVal → Heap → Prop) (t3 : AVal) (H : Heap) : Prop :=
K t3 H
def F72_s0 (R : Caller) (lim n : Nat) (K : AVal → Heap → Prop) (rec0 : AVal → AVal → Heap → Prop) (t0 t3 : AVal) (H : Heap) : Prop :=
bindP (abin .gtr t0 (.int .u64 127)) fun v16 =>
bindP (boolOf v16) fun b17 =>
(b17 = true → (bindP (abin .quo t0 (.int .u64 128)) fun v18 =>
bindP (abin .rem v18 (.int .u64 128)) fun v19 =>
bindP (abin .add (.int .u64 128) v19) fun v20 =>
bindP (convO .u8 v20) fun v21 =>
bind2 ((fillV [(.int .u8 0)] [(0, 1, v21)]).map fun cs => (.sl (some (H.next, 0)) 1 (.ex 1), H.push (.cells cs))) fun v22 H23 =>
bindP (abytesToStr H23 v22) fun v24 =>
bindP (abin .add v24 t3) fun v25 =>
rec0 v18 v25 H23)) ∧
(b17 = false → (F72_j0 R lim n K t3 H))
def F72_l0 (R : Caller) (lim n : Nat) (K : AVal → Heap → Prop) : Nat → AVal → AVal → Heap → Prop
  | 0, _, _, _ => False
  | m + 1, t0, t3, H => F72_s0 R lim n K (F72_l0 R lim n K m) t0 t3 H
def F72 (R : Caller) (lim n : Nat) (K : AVal → Heap → Prop) (a0 : AVal) (H : Heap) : Prop :=
bindP (abin .rem a0 (.int .u64 128)) fun v1 =>
bindP (convO .u8 v1) fun v2 =>
bind2 ((fillV [(.int .u8 0)] [(0, 1, v2)]).map fun cs => (.sl (some (H.next, 0)) 1 (.ex 1), H.push (.cells cs))) fun v3 H4 =>
bindP (abytesToStr H4 v3) fun v5 =>
F72_l0 R lim n K n a0 v5 H4
def F72_Lp (R : Caller) (lim n : Nat) (K : AVal → Heap → Prop) : Nat → Tm → Heap → Prop
  | 0, T, H => F72_l0 R lim n K n (T 0) (T 3) H
  | _, _, _ => False
def F72_Lp0 (R : Caller) (lim n : Nat) (K : AVal → Heap → Prop) (rec0 : AVal → AVal → Heap → Prop) : Nat → Tm → Heap → Prop
  | _, _, _ => False
def F72_k0 (R : Caller) (lim n : Nat) (K : AVal → Heap → Prop) (rec0 : AVal → AVal → Heap → Prop) : Kt := fun ex T H => match ex with
  | .norm => rec0 (T 0) (T 3) H
  | ex => (kBlk 0 (kSeq (execI R lim n 22 (F72_Lp R lim n K) f72_p1) (retW [(.tmp 2)] K))) ex T H
theorem F72_s0_eq (R : Caller) (lim n : Nat) (K : AVal → Heap → Prop) (rec0 : AVal → AVal → Heap → Prop) (T : Tm) (H : Heap) : F72_s0 R lim n K rec0 (T 0) (T 3) H = execI R lim n 22 (F72_Lp0 R lim n K rec0) f72_p0 T H (F72_k0 R lim n K rec0) := by kernel_rfl
theorem F72_l0_ok (R : Caller) (lim n : Nat) (K : AVal → Heap → Prop) {kw : Kt} (hk : ∀ ex T H, (kBlk 0 (kSeq (execI R lim n 22 (F72_Lp R lim n K) f72_p1) (retW [(.tmp 2)] K))) ex T H → kw ex T H) : ∀ (m : Nat) (T : Tm) (H : Heap), F72_l0 R lim n K m (T 0) (T 3) H → loopW (execW R lim n 22 f72_p0) m T H kw
  | 0, _, _, h => False.elim h
  | m + 1, T, H, h => by
    have hb : ∀ ex T H, F72_k0 R lim n K (F72_l0 R lim n K m) ex T H → (fun ex T H => match ex with | .norm => loopW (execW R lim n 22 f72_p0) m T H kw | ex => kw ex T H : Kt) ex T H := by
      intro ex T H h
      cases ex with
      | norm => exact F72_l0_ok R lim n K hk m T H h
      | exit i => exact hk _ _ _ h
      | ret => exact hk _ _ _ h
    have h' : F72_s0 R lim n K (F72_l0 R lim n K m) (T 0) (T 3) H := h
    rw [F72_s0_eq] at h'
    exact execI_sound f72_p0 T H _ _ (oblig_nl (by kernel_rfl)) hb h'
theorem F72_eq (R : Caller) (lim n : Nat) (K : AVal → Heap → Prop) (a0 : AVal) (H : Heap) : F72 R lim n K a0 H = execI R lim n 22 (F72_Lp R lim n K) f72.body (argT [a0]) H (retW [(.tmp 2)] K) := by kernel_rfl
theorem F72_ob (R : Caller) (lim n : Nat) (K : AVal → Heap → Prop) : Oblig R lim n 22 (F72_Lp R lim n K) f72.body (retW [(.tmp 2)] K) := ⟨(oblig_nl (by kernel_rfl)), ⟨(oblig_nl (by kernel_rfl)), ⟨(fun T H h => F72_l0_ok R lim n K (kBlk_mono (kSeqI_sound (oblig_nl (by kernel_rfl)) (fun _ _ _ h => h))) _ T H h), (oblig_nl (by kernel_rfl))⟩⟩⟩
theorem F72_run {ap : FuncId → Option AFn} (hf : ap 72 = some (.code f72)) {n lim : Nat} {K : AVal → Heap → Prop} {a0 : AVal} {H : Heap} (h : F72 (Ahs.runT ap n) lim n K a0 H) : ∃ v H', Ahs.runT ap (n + 1) lim (.fn 72) [a0] H = some (v, H') ∧ K v H' := by
  rw [F72_eq] at h
  exact run_of_W hf (by kernel_rfl) (by kernel_rfl) (execI_sound f72.body _ _ _ _ (F72_ob _ _ _ K) (fun _ _ _ h => h) h)
def F78 (R : Caller) (lim n : Nat) (K : AVal → Heap → Prop) (a0 a1 a2 : AVal) (H : Heap) : Prop :=
bindP (abin .geq a0 a1) fun v1 =>
bindP (gd (some (v1, true)) (some a0)) fun v2 =>
bindP (gd (some (v1, true)) (some a2)) fun v3 =>
bindP (gd (some (v1, true)) (abin .leq v2 v3)) fun v4 =>
bindP (pickO v1 v4 (.bool false)) fun v5 =>
K v5 H
def F78_Lp (R : Caller) (lim n : Nat) (K : AVal → Heap → Prop) : Nat → Tm → Heap → Prop
  | _, _, _ => False
theorem F78_eq (R : Caller) (lim n : Nat) (K : AVal → Heap → Prop) (a0 a1 a2 : AVal) (H : Heap) : F78 R lim n K a0 a1 a2 H = execI R lim n 15 (F78_Lp R lim n K) f78.body (argT [a0, a1, a2]) H (retW [(.tmp 6)] K) := by kernel_rfl
theorem F78_ob (R : Caller) (lim n : Nat) (K : AVal → Heap → Prop) : Oblig R lim n 15 (F78_Lp R lim n K) f78.body (retW [(.tmp 6)] K) := (oblig_nl (by kernel_rfl))
theorem F78_run {ap : FuncId → Option AFn} (hf : ap 78 = some (.code f78)) {n lim : Nat} {K : AVal → Heap → Prop} {a0 a1 a2 : AVal} {H : Heap} (h : F78 (Ahs.runT ap n) lim n K a0 a1 a2 H) : ∃ v H', Ahs.runT ap (n + 1) lim (.fn 78) [a0, a1, a2] H = some (v, H') ∧ K v H' := by
  rw [F78_eq] at h
  exact run_of_W hf (by kernel_rfl) (by kernel_rfl) (execI_sound f78.body _ _ _ _ (F78_ob _ _ _ K) (fun _ _ _ h => h) h)
end Go.Proofs.Ytjflpnahjooffaa.cat
