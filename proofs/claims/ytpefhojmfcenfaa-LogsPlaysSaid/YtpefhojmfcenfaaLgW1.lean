/- What each function comes to, as one formula; printed by genw.py. -/
import Derived.Test.YtpefhojmfcenfaaLgW0
import Derived.Test.YtpefhojmfcenfaaBhsW1
set_option maxRecDepth 100000
set_option linter.unusedVariables false
namespace Go.Proofs.Ytpefhojmfcenfaa.logs
open Go.Ahs
def F62_j0 (R : Caller) (lim n : Nat) (K : AVal → Heap → Prop) (t4 t8 t16 t17 : AVal) (H : Heap) : Prop :=
bindP (aload H (some 4) t4) fun v126 =>
bindP (astore lim H 4 t8 v126) fun H127 =>
bindP (aload H127 (some 4) t8) fun v128 =>
K (.tup [v128, (.bool true), t16, t17]) H127
def F62_j1 (R : Caller) (lim n : Nat) (K : AVal → Heap → Prop) (rec2 : AVal → AVal → AVal → AVal → AVal → AVal → Heap → Prop) (t3 t4 t8 t16 t17 t18 : AVal) (H : Heap) : Prop :=
bindP (abin .add t18 (.int .i64 1)) fun v132 =>
rec2 t3 t4 t8 t16 t17 v132 H
def F62_j2 (R : Caller) (lim n : Nat) (K : AVal → Heap → Prop) (rec2 : AVal → AVal → AVal → AVal → AVal → AVal → Heap → Prop) (t3 t4 t8 t16 t17 t18 t21 : AVal) (H : Heap) : Prop :=
bindP (aindexAddr none 13 t3 t18) fun v195 =>
bindP (aload H (some 13) v195) fun v196 =>
bind2 ((fillV z0 [(0, 13, v196)]).map fun cs => (.sl (some (H.next, 0)) 1 (.ex 1), H.push (.cells cs))) fun v197 H198 =>
bind2 (aappend lim H198 z0 48 false t21 v197) fun v199 H200 =>
bindP (faddrO 3 t4) fun v201 =>
bindP (astore lim H200 1 v201 v199) fun H202 =>
bindP (aindexAddr none 13 t3 t18) fun v203 =>
bindP (aload H202 (some 13) v203) fun v204 =>
bind2 ((fillV z0 [(0, 13, v204)]).map fun cs => (.sl (some (H202.next, 0)) 1 (.ex 1), H202.push (.cells cs))) fun v205 H206 =>
bind2 (aappend lim H206 z0 48 false t17 v205) fun v207 H208 =>
F62_j1 R lim n K rec2 t3 t4 t8 t16 v207 t18 H208
def F62_j3 (R : Caller) (lim n : Nat) (K : AVal → Heap → Prop) (rec2 : AVal → AVal → AVal → AVal → AVal → AVal → Heap → Prop) (rec4 : AVal → AVal → AVal → AVal → AVal → AVal → AVal → AVal → Heap → Prop) (t3 t4 t8 t16 t17 t18 t21 t22 : AVal) (H : Heap) : Prop :=
bindP (abin .add t22 (.int .i64 1)) fun v223 =>
rec4 t3 t4 t8 t16 t17 t18 t21 v223 H
def F62_s4 (R : Caller) (lim n : Nat) (K : AVal → Heap → Prop) (rec2 : AVal → AVal → AVal → AVal → AVal → AVal → Heap → Prop) (rec4 : AVal → AVal → AVal → AVal → AVal → AVal → AVal → AVal → Heap → Prop) (t3 t4 t8 t16 t17 t18 t21 t22 : AVal) (H : Heap) : Prop :=
bindP (faddrO 3 t4) fun v209 =>
bindP (aload H none v209) fun v210 =>
bindP (alen false v210) fun v211 =>
bindP (abin .lss t22 v211) fun v212 =>
bindP (boolOf v212) fun b213 =>
(b213 = true → (bindP (faddrO 3 t4) fun v214 =>
bindP (aload H none v214) fun v215 =>
bindP (aindexAddr none 13 v215 t22) fun v216 =>
bindP (faddrO 0 v216) fun v217 =>
bindP (aload H none v217) fun v218 =>
bindP (aindexAddr none 13 t3 t18) fun v219 =>
bindP (faddrO 0 v219) fun v220 =>
bindP (aload H none v220) fun v221 =>
bindP (abin .lss v218 v221) fun v222 =>
bindP (boolOf v222) fun b224 =>
(b224 = true → (bindP (faddrO 3 t4) fun v225 =>
bindP (aload H none v225) fun v226 =>
bindP (aindexAddr none 13 v226 t22) fun v227 =>
bindP (aload H (some 13) v227) fun v228 =>
bind2 ((fillV z0 [(0, 13, v228)]).map fun cs => (.sl (some (H.next, 0)) 1 (.ex 1), H.push (.cells cs))) fun v229 H230 =>
bind2 (aappend lim H230 z0 48 false t21 v229) fun v231 H232 =>
F62_j3 R lim n K rec2 rec4 t3 t4 t8 t16 t17 t18 v231 t22 H232)) ∧
(b224 = false → (F62_j3 R lim n K rec2 rec4 t3 t4 t8 t16 t17 t18 t21 t22 H)))) ∧
(b213 = false → (F62_j2 R lim n K rec2 t3 t4 t8 t16 t17 t18 t21 H))
def F62_l4 (R : Caller) (lim n : Nat) (K : AVal → Heap → Prop) (rec2 : AVal → AVal → AVal → AVal → AVal → AVal → Heap → Prop) : Nat → AVal → AVal → AVal → AVal → AVal → AVal → AVal → AVal → Heap → Prop
  | 0, _, _, _, _, _, _, _, _, _ => False
  | m + 1, t3, t4, t8, t16, t17, t18, t21, t22, H => F62_s4 R lim n K rec2 (F62_l4 R lim n K rec2 m) t3 t4 t8 t16 t17 t18 t21 t22 H
def F62_s2 (R : Caller) (lim n : Nat) (K : AVal → Heap → Prop) (rec2 : AVal → AVal → AVal → AVal → AVal → AVal → Heap → Prop) (t3 t4 t8 t16 t17 t18 : AVal) (H : Heap) : Prop :=
bindP (alen false t3) fun v129 =>
bindP (abin .lss t18 v129) fun v130 =>
bindP (boolOf v130) fun b131 =>
(b131 = true → (bindP (aindexAddr none 13 t3 t18) fun v133 =>
bindP (faddrO 0 v133) fun v134 =>
bindP (aload H none v134) fun v135 =>
bindP (faddrO 0 t4) fun v136 =>
bindP (aload H none v136) fun v137 =>
bindP (abin .leq v135 v137) fun v138 =>
bindP (boolOf v138) fun b139 =>
(b139 = true → (F62_j1 R lim n K rec2 t3 t4 t8 t16 t17 t18 H)) ∧
(b139 = false → (bindP (aload H (some 4) t4) fun v140 =>
bindP (aindexAddr none 13 t3 t18) fun v141 =>
bindP (faddrO 0 v141) fun v142 =>
bindP (aload H none v142) fun v143 =>
bind2 (R lim (.fn 67) [v140, v143] H) fun v144 H145 =>
bindP (extO 0 v144) fun v146 =>
bindP (extO 1 v144) fun v147 =>
bindP (gd (some (v147, true)) (some v146)) fun v148 =>
bindP (gd (some (v147, true)) (some t3)) fun v149 =>
bindP (gd (some (v147, true)) (some t18)) fun v150 =>
bindP (gd (some (v147, true)) (aindexAddr none 13 v149 v150)) fun v151 =>
bindP (gd (some (v147, true)) (faddrO 1 v151)) fun v152 =>
bindP (gd (some (v147, true)) (aload H145 none v152)) fun v153 =>
bindP (gd (some (v147, true)) (abin .eql v148 v153)) fun v154 =>
bindP (pickO v147 v154 (.bool false)) fun v155 =>
bindP (boolOf v155) fun b156 =>
(b156 = true → (F62_j1 R lim n K rec2 t3 t4 t8 t16 t17 t18 H145)) ∧
(b156 = false → (F62_l4 R lim n K rec2 n t3 t4 t8 t16 t17 t18 (.sl none 0 (.ex 0)) (.int .i64 0) H145)))))) ∧
(b131 = false → (F62_j0 R lim n K t4 t8 t16 t17 H))
def F62_l2 (R : Caller) (lim n : Nat) (K : AVal → Heap → Prop) : Nat → AVal → AVal → AVal → AVal → AVal → AVal → Heap → Prop
  | 0, _, _, _, _, _, _, _ => False
  | m + 1, t3, t4, t8, t16, t17, t18, H => F62_s2 R lim n K (F62_l2 R lim n K m) t3 t4 t8 t16 t17 t18 H
def F62_j4 (R : Caller) (lim n : Nat) (K : AVal → Heap → Prop) (t3 t4 t8 t16 : AVal) (H : Heap) : Prop :=
F62_l2 R lim n K n t3 t4 t8 t16 (.sl none 0 (.ex 0)) (.int .i64 0) H
def F62_j5 (R : Caller) (lim n : Nat) (K : AVal → Heap → Prop) (t1 t3 t4 t8 : AVal) (H : Heap) : Prop :=
bindP (faddrO 0 t4) fun v13 =>
bindP (aload H none v13) fun v14 =>
bindP (alen false t3) fun v15 =>
bindP (convO .u64 v15) fun v16 =>
bindP (abin .add t1 v16) fun v17 =>
bindP (abin .gtr v17 v14) fun v18 =>
bindP (boolOf v18) fun b233 =>
(b233 = true → (bindP (alen false t3) fun v234 =>
bindP (convO .u64 v234) fun v235 =>
bindP (abin .add t1 v235) fun v236 =>
F62_j4 R lim n K t3 t4 t8 v236 H)) ∧
(b233 = false → (F62_j4 R lim n K t3 t4 t8 v14 H))
def F62_j6 (R : Caller) (lim n : Nat) (K : AVal → Heap → Prop) (t1 t3 t4 t8 t14 : AVal) (H : Heap) : Prop :=
bindP (aun .not t14) fun v280 =>
bindP (boolOf v280) fun b281 =>
(b281 = true → (bindP (aload H (some 4) t4) fun v282 =>
bindP (astore lim H 4 t8 v282) fun H283 =>
bindP (aload H283 (some 4) t8) fun v284 =>
K (.tup [v284, (.bool false), (.int .u64 0), (.sl none 0 (.ex 0))]) H283)) ∧
(b281 = false → (F62_j5 R lim n K t1 t3 t4 t8 H))
def F62_s0 (R : Caller) (lim n : Nat) (K : AVal → Heap → Prop) (rec0 : AVal → AVal → AVal → AVal → AVal → AVal → Heap → Prop) (t1 t3 t4 t8 t14 t15 : AVal) (H : Heap) : Prop :=
bindP (alen false t3) fun v285 =>
bindP (abin .lss t15 v285) fun v286 =>
bindP (boolOf v286) fun b287 =>
(b287 = true → (bindP (gd (some (t14, false)) (some t3)) fun v288 =>
bindP (gd (some (t14, false)) (some t15)) fun v289 =>
bindP (gd (some (t14, false)) (aindexAddr none 13 v288 v289)) fun v290 =>
bindP (gd (some (t14, false)) (faddrO 0 v290)) fun v291 =>
bindP (gd (some (t14, false)) (aload H none v291)) fun v292 =>
bindP (gd (some (t14, false)) (faddrO 0 t4)) fun v293 =>
bindP (gd (some (t14, false)) (aload H none v293)) fun v294 =>
bindP (gd (some (t14, false)) (abin .eql v292 v294)) fun v295 =>
bindP (gd (some (t14, false)) (some v295)) fun v296 =>
bindP (gd (some (v296, true)) (some t3)) fun v297 =>
bindP (gd (some (v296, true)) (some t15)) fun v298 =>
bindP (gd (some (v296, true)) (aindexAddr none 13 v297 v298)) fun v299 =>
bindP (gd (some (v296, true)) (faddrO 1 v299)) fun v300 =>
bindP (gd (some (v296, true)) (aload H none v300)) fun v301 =>
bindP (gd (some (v296, true)) (faddrO 1 t4)) fun v302 =>
bindP (gd (some (v296, true)) (aload H none v302)) fun v303 =>
bindP (gd (some (v296, true)) (abin .eql v301 v303)) fun v304 =>
bindP (gd (some (t14, false)) (pickO v296 v304 (.bool false))) fun v305 =>
bindP (pickO t14 (.bool true) v305) fun v306 =>
bindP (abin .add t15 (.int .i64 1)) fun v307 =>
rec0 t1 t3 t4 t8 v306 v307 H)) ∧
(b287 = false → (F62_j6 R lim n K t1 t3 t4 t8 t14 H))
def F62_l0 (R : Caller) (lim n : Nat) (K : AVal → Heap → Prop) : Nat → AVal → AVal → AVal → AVal → AVal → AVal → Heap → Prop
  | 0, _, _, _, _, _, _, _ => False
  | m + 1, t1, t3, t4, t8, t14, t15, H => F62_s0 R lim n K (F62_l0 R lim n K m) t1 t3 t4 t8 t14 t15 H
def F62 (R : Caller) (lim n : Nat) (K : AVal → Heap → Prop) (a0 a1 a2 a3 : AVal) (H : Heap) : Prop :=
bind2 (if (a0).cells.all (·.one) then some (.ptr (some (H.next, 0)), H.push (.cells (a0).cells)) else none) fun v1 H2 =>
bind2 (R lim (.fn 29) [a1, a2, a3] (H2.push (.cells z1))) fun v3 H4 =>
bindP (aun .not v3) fun v5 =>
bindP (boolOf v5) fun b6 =>
(b6 = true → (bindP (aload H4 (some 4) v1) fun v7 =>
bindP (astore lim H4 4 (.ptr (some (H2.next, 0))) v7) fun H8 =>
bindP (aload H8 (some 4) (.ptr (some (H2.next, 0)))) fun v9 =>
K (.tup [v9, (.bool false), (.int .u64 0), (.sl none 0 (.ex 0))]) H8)) ∧
(b6 = false → (bindP (faddrO 0 v1) fun v10 =>
bindP (aload H4 none v10) fun v11 =>
bindP (abin .geq a1 v11) fun v12 =>
bindP (boolOf v12) fun b237 =>
(b237 = true → (bindP (aload H4 (some 4) v1) fun v238 =>
bind2 (R lim (.fn 67) [v238, a1] H4) fun v239 H240 =>
bindP (extO 0 v239) fun v241 =>
bindP (extO 1 v239) fun v242 =>
bindP (aun .not v242) fun v243 =>
bindP (gd (some (v243, false)) (some v241)) fun v244 =>
bindP (gd (some (v243, false)) (some a2)) fun v245 =>
bindP (gd (some (v243, false)) (abin .neq v244 v245)) fun v246 =>
bindP (pickO v243 (.bool true) v246) fun v247 =>
bindP (boolOf v247) fun b248 =>
(b248 = true → (bindP (aload H240 (some 4) v1) fun v249 =>
bindP (astore lim H240 4 (.ptr (some (H2.next, 0))) v249) fun H250 =>
bindP (aload H250 (some 4) (.ptr (some (H2.next, 0)))) fun v251 =>
K (.tup [v251, (.bool false), (.int .u64 0), (.sl none 0 (.ex 0))]) H250)) ∧
(b248 = false → (F62_j5 R lim n K a1 a3 v1 (.ptr (some (H2.next, 0))) H240)))) ∧
(b237 = false → (F62_l0 R lim n K n a1 a3 v1 (.ptr (some (H2.next, 0))) (.bool false) (.int .i64 0) H4))))
def F62_Lp (R : Caller) (lim n : Nat) (K : AVal → Heap → Prop) : Nat → Tm → Heap → Prop
  | 0, T, H => F62_l0 R lim n K n (T 1) (T 3) (T 4) (T 8) (T 14) (T 15) H
  | 2, T, H => F62_l2 R lim n K n (T 3) (T 4) (T 8) (T 16) (T 17) (T 18) H
  | _, _, _ => False
def F62_Lp0 (R : Caller) (lim n : Nat) (K : AVal → Heap → Prop) (rec0 : AVal → AVal → AVal → AVal → AVal → AVal → Heap → Prop) : Nat → Tm → Heap → Prop
  | _, _, _ => False
def F62_Lp2 (R : Caller) (lim n : Nat) (K : AVal → Heap → Prop) (rec2 : AVal → AVal → AVal → AVal → AVal → AVal → Heap → Prop) : Nat → Tm → Heap → Prop
  | 4, T, H => F62_l4 R lim n K rec2 n (T 3) (T 4) (T 8) (T 16) (T 17) (T 18) (T 21) (T 22) H
  | _, _, _ => False
def F62_Lp4 (R : Caller) (lim n : Nat) (K : AVal → Heap → Prop) (rec2 : AVal → AVal → AVal → AVal → AVal → AVal → Heap → Prop) (rec4 : AVal → AVal → AVal → AVal → AVal → AVal → AVal → AVal → Heap → Prop) : Nat → Tm → Heap → Prop
  | _, _, _ => False
def F62_k2 (R : Caller) (lim n : Nat) (K : AVal → Heap → Prop) (rec2 : AVal → AVal → AVal → AVal → AVal → AVal → Heap → Prop) : Kt := fun ex T H => match ex with
  | .norm => rec2 (T 3) (T 4) (T 8) (T 16) (T 17) (T 18) H
  | ex => (kBlk 2 (kSeq (execI R lim n 170 (F62_Lp R lim n K) f62_p1) (retW [(.cell 8 (some 4)), (.tmp 9), (.tmp 10), (.tmp 11)] K))) ex T H
def F62_k4 (R : Caller) (lim n : Nat) (K : AVal → Heap → Prop) (rec2 : AVal → AVal → AVal → AVal → AVal → AVal → Heap → Prop) (rec4 : AVal → AVal → AVal → AVal → AVal → AVal → AVal → AVal → Heap → Prop) : Kt := fun ex T H => match ex with
  | .norm => rec4 (T 3) (T 4) (T 8) (T 16) (T 17) (T 18) (T 21) (T 22) H
  | ex => (kBlk 4 (kSeq (execI R lim n 170 (F62_Lp2 R lim n K rec2) f62_p3) (kBlk 3 (kSeq (execI R lim n 170 (F62_Lp2 R lim n K rec2) f62_p4) (F62_k2 R lim n K rec2))))) ex T H
theorem F62_s4_eq (R : Caller) (lim n : Nat) (K : AVal → Heap → Prop) (rec2 : AVal → AVal → AVal → AVal → AVal → AVal → Heap → Prop) (rec4 : AVal → AVal → AVal → AVal → AVal → AVal → AVal → AVal → Heap → Prop) (T : Tm) (H : Heap) : F62_s4 R lim n K rec2 rec4 (T 3) (T 4) (T 8) (T 16) (T 17) (T 18) (T 21) (T 22) H = execI R lim n 170 (F62_Lp4 R lim n K rec2 rec4) f62_p2 T H (F62_k4 R lim n K rec2 rec4) := by kernel_rfl
theorem F62_l4_ok (R : Caller) (lim n : Nat) (K : AVal → Heap → Prop) (rec2 : AVal → AVal → AVal → AVal → AVal → AVal → Heap → Prop) {kw : Kt} (hk : ∀ ex T H, (kBlk 4 (kSeq (execI R lim n 170 (F62_Lp2 R lim n K rec2) f62_p3) (kBlk 3 (kSeq (execI R lim n 170 (F62_Lp2 R lim n K rec2) f62_p4) (F62_k2 R lim n K rec2))))) ex T H → kw ex T H) : ∀ (m : Nat) (T : Tm) (H : Heap), F62_l4 R lim n K rec2 m (T 3) (T 4) (T 8) (T 16) (T 17) (T 18) (T 21) (T 22) H → loopW (execW R lim n 170 f62_p2) m T H kw
  | 0, _, _, h => False.elim h
  | m + 1, T, H, h => by
    have hb : ∀ ex T H, F62_k4 R lim n K rec2 (F62_l4 R lim n K rec2 m) ex T H → (fun ex T H => match ex with | .norm => loopW (execW R lim n 170 f62_p2) m T H kw | ex => kw ex T H : Kt) ex T H := by
      intro ex T H h
      cases ex with
      | norm => exact F62_l4_ok R lim n K rec2 hk m T H h
      | exit i => exact hk _ _ _ h
      | ret => exact hk _ _ _ h
    have h' : F62_s4 R lim n K rec2 (F62_l4 R lim n K rec2 m) (T 3) (T 4) (T 8) (T 16) (T 17) (T 18) (T 21) (T 22) H := h
    rw [F62_s4_eq] at h'
    exact execI_sound f62_p2 T H _ _ (oblig_nl (by kernel_rfl)) hb h'
theorem F62_s2_eq (R : Caller) (lim n : Nat) (K : AVal → Heap → Prop) (rec2 : AVal → AVal → AVal → AVal → AVal → AVal → Heap → Prop) (T : Tm) (H : Heap) : F62_s2 R lim n K rec2 (T 3) (T 4) (T 8) (T 16) (T 17) (T 18) H = execI R lim n 170 (F62_Lp2 R lim n K rec2) f62_p0 T H (F62_k2 R lim n K rec2) := by kernel_rfl
theorem F62_l2_ok (R : Caller) (lim n : Nat) (K : AVal → Heap → Prop) {kw : Kt} (hk : ∀ ex T H, (kBlk 2 (kSeq (execI R lim n 170 (F62_Lp R lim n K) f62_p1) (retW [(.cell 8 (some 4)), (.tmp 9), (.tmp 10), (.tmp 11)] K))) ex T H → kw ex T H) : ∀ (m : Nat) (T : Tm) (H : Heap), F62_l2 R lim n K m (T 3) (T 4) (T 8) (T 16) (T 17) (T 18) H → loopW (execW R lim n 170 f62_p0) m T H kw
  | 0, _, _, h => False.elim h
  | m + 1, T, H, h => by
    have hb : ∀ ex T H, F62_k2 R lim n K (F62_l2 R lim n K m) ex T H → (fun ex T H => match ex with | .norm => loopW (execW R lim n 170 f62_p0) m T H kw | ex => kw ex T H : Kt) ex T H := by
      intro ex T H h
      cases ex with
      | norm => exact F62_l2_ok R lim n K hk m T H h
      | exit i => exact hk _ _ _ h
      | ret => exact hk _ _ _ h
    have h' : F62_s2 R lim n K (F62_l2 R lim n K m) (T 3) (T 4) (T 8) (T 16) (T 17) (T 18) H := h
    rw [F62_s2_eq] at h'
    exact execI_sound f62_p0 T H _ _ ⟨(oblig_nl (by kernel_rfl)), ⟨⟨(oblig_nl (by kernel_rfl)), ⟨(oblig_nl (by kernel_rfl)), ⟨(oblig_nl (by kernel_rfl)), ⟨(oblig_nl (by kernel_rfl)), ⟨⟨(oblig_nl (by kernel_rfl)), (fun T H h => F62_l4_ok R lim n K (F62_l2 R lim n K m) (kBlk_mono (kSeqI_sound (oblig_nl (by kernel_rfl)) (kBlk_mono (kSeqI_sound (oblig_nl (by kernel_rfl)) (hb))))) _ T H h)⟩, (oblig_nl (by kernel_rfl))⟩⟩⟩⟩⟩, (oblig_nl (by kernel_rfl))⟩⟩ hb h'
def F62_k0 (R : Caller) (lim n : Nat) (K : AVal → Heap → Prop) (rec0 : AVal → AVal → AVal → AVal → AVal → AVal → Heap → Prop) : Kt := fun ex T H => match ex with
  | .norm => rec0 (T 1) (T 3) (T 4) (T 8) (T 14) (T 15) H
  | ex => (kBlk 0 (kSeq (execI R lim n 170 (F62_Lp R lim n K) f62_p6) (kSeq (execI R lim n 170 (F62_Lp R lim n K) f62_p7) (retW [(.cell 8 (some 4)), (.tmp 9), (.tmp 10), (.tmp 11)] K)))) ex T H
theorem F62_s0_eq (R : Caller) (lim n : Nat) (K : AVal → Heap → Prop) (rec0 : AVal → AVal → AVal → AVal → AVal → AVal → Heap → Prop) (T : Tm) (H : Heap) : F62_s0 R lim n K rec0 (T 1) (T 3) (T 4) (T 8) (T 14) (T 15) H = execI R lim n 170 (F62_Lp0 R lim n K rec0) f62_p5 T H (F62_k0 R lim n K rec0) := by kernel_rfl
theorem F62_l0_ok (R : Caller) (lim n : Nat) (K : AVal → Heap → Prop) {kw : Kt} (hk : ∀ ex T H, (kBlk 0 (kSeq (execI R lim n 170 (F62_Lp R lim n K) f62_p6) (kSeq (execI R lim n 170 (F62_Lp R lim n K) f62_p7) (retW [(.cell 8 (some 4)), (.tmp 9), (.tmp 10), (.tmp 11)] K)))) ex T H → kw ex T H) : ∀ (m : Nat) (T : Tm) (H : Heap), F62_l0 R lim n K m (T 1) (T 3) (T 4) (T 8) (T 14) (T 15) H → loopW (execW R lim n 170 f62_p5) m T H kw
  | 0, _, _, h => False.elim h
  | m + 1, T, H, h => by
    have hb : ∀ ex T H, F62_k0 R lim n K (F62_l0 R lim n K m) ex T H → (fun ex T H => match ex with | .norm => loopW (execW R lim n 170 f62_p5) m T H kw | ex => kw ex T H : Kt) ex T H := by
      intro ex T H h
      cases ex with
      | norm => exact F62_l0_ok R lim n K hk m T H h
      | exit i => exact hk _ _ _ h
      | ret => exact hk _ _ _ h
    have h' : F62_s0 R lim n K (F62_l0 R lim n K m) (T 1) (T 3) (T 4) (T 8) (T 14) (T 15) H := h
    rw [F62_s0_eq] at h'
    exact execI_sound f62_p5 T H _ _ (oblig_nl (by kernel_rfl)) hb h'
theorem F62_eq (R : Caller) (lim n : Nat) (K : AVal → Heap → Prop) (a0 a1 a2 a3 : AVal) (H : Heap) : F62 R lim n K a0 a1 a2 a3 H = execI R lim n 170 (F62_Lp R lim n K) f62.body (argT [a0, a1, a2, a3]) H (retW [(.cell 8 (some 4)), (.tmp 9), (.tmp 10), (.tmp 11)] K) := by kernel_rfl
theorem F62_ob (R : Caller) (lim n : Nat) (K : AVal → Heap → Prop) : Oblig R lim n 170 (F62_Lp R lim n K) f62.body (retW [(.cell 8 (some 4)), (.tmp 9), (.tmp 10), (.tmp 11)] K) := ⟨(oblig_nl (by kernel_rfl)), ⟨(oblig_nl (by kernel_rfl)), ⟨⟨(oblig_nl (by kernel_rfl)), ⟨(oblig_nl (by kernel_rfl)), ⟨(oblig_nl (by kernel_rfl)), ⟨⟨(oblig_nl (by kernel_rfl)), (fun T H h => F62_l0_ok R lim n K (kBlk_mono (kSeqI_sound (oblig_nl (by kernel_rfl)) (kSeqI_sound ⟨(oblig_nl (by kernel_rfl)), ⟨(oblig_nl (by kernel_rfl)), ⟨(oblig_nl (by kernel_rfl)), ⟨⟨(oblig_nl (by kernel_rfl)), (fun T H h => F62_l2_ok R lim n K (kBlk_mono (kSeqI_sound (oblig_nl (by kernel_rfl)) (fun _ _ _ h => h))) _ T H h)⟩, (oblig_nl (by kernel_rfl))⟩⟩⟩⟩ (fun _ _ _ h => h)))) _ T H h)⟩, (oblig_nl (by kernel_rfl))⟩⟩⟩⟩, ⟨(oblig_nl (by kernel_rfl)), ⟨(oblig_nl (by kernel_rfl)), ⟨(oblig_nl (by kernel_rfl)), ⟨⟨(oblig_nl (by kernel_rfl)), (fun T H h => F62_l2_ok R lim n K (kBlk_mono (kSeqI_sound (oblig_nl (by kernel_rfl)) (fun _ _ _ h => h))) _ T H h)⟩, (oblig_nl (by kernel_rfl))⟩⟩⟩⟩⟩⟩⟩
theorem F62_run {ap : FuncId → Option AFn} (hf : ap 62 = some (.code f62)) {n lim : Nat} {K : AVal → Heap → Prop} {a0 a1 a2 a3 : AVal} {H : Heap} (h : F62 (Ahs.runT ap n) lim n K a0 a1 a2 a3 H) : ∃ v H', Ahs.runT ap (n + 1) lim (.fn 62) [a0, a1, a2, a3] H = some (v, H') ∧ K v H' := by
  rw [F62_eq] at h
  exact run_of_W hf (by kernel_rfl) (by kernel_rfl) (execI_sound f62.body _ _ _ _ (F62_ob _ _ _ K) (fun _ _ _ h => h) h)
def F63 (R : Caller) (lim n : Nat) (K : AVal → Heap → Prop) (a0 a1 : AVal) (H : Heap) : Prop :=
bind2 (if (a0).cells.all (·.one) then some (.ptr (some (H.next, 0)), H.push (.cells (a0).cells)) else none) fun v1 H2 =>
bindP (aload (H2.push (.cells z1)) (some 4) v1) fun v3 =>
bind2 (R lim (.fn 65) [v3] (H2.push (.cells z1))) fun v4 H5 =>
bindP (extO 0 v4) fun v6 =>
bindP (extO 1 v4) fun v7 =>
bindP (faddrO 0 v1) fun v8 =>
bindP (aload H5 none v8) fun v9 =>
bindP (abin .lss a1 v9) fun v10 =>
bindP (boolOf v10) fun b11 =>
(b11 = true → (bindP (aload H5 (some 4) v1) fun v12 =>
bindP (astore lim H5 4 (.ptr (some (H2.next, 0))) v12) fun H13 =>
bindP (aload H13 (some 4) (.ptr (some (H2.next, 0)))) fun v14 =>
K (.tup [v14, (.int .i64 10)]) H13)) ∧
(b11 = false → (bindP (abin .gtr a1 v6) fun v15 =>
bindP (boolOf v15) fun b16 =>
(b16 = true → (bindP (aload H5 (some 4) v1) fun v17 =>
bindP (astore lim H5 4 (.ptr (some (H2.next, 0))) v17) fun H18 =>
bindP (aload H18 (some 4) (.ptr (some (H2.next, 0)))) fun v19 =>
K (.tup [v19, (.int .i64 4)]) H18)) ∧
(b16 = false → (bindP (aload H5 (some 4) v1) fun v20 =>
bind2 (R lim (.fn 67) [v20, a1] H5) fun v21 H22 =>
bindP (extO 0 v21) fun v23 =>
bindP (extO 1 v21) fun v24 =>
bindP (aload H22 (some 4) v1) fun v25 =>
bind2 (R lim (.fn 66) [v25, a1] H22) fun v26 H27 =>
bindP (extO 0 v26) fun v28 =>
bindP (extO 1 v26) fun v29 =>
bindP (aload H27 (some 4) v1) fun v30 =>
bind2 (R lim (.fn 64) [v30, a1, v23, v28] H27) fun v31 H32 =>
bindP (astore lim H32 4 (.ptr (some (H2.next, 0))) v31) fun H33 =>
bindP (aload H33 (some 4) (.ptr (some (H2.next, 0)))) fun v34 =>
K (.tup [v34, (.int .i64 0)]) H33))))
def F63_Lp (R : Caller) (lim n : Nat) (K : AVal → Heap → Prop) : Nat → Tm → Heap → Prop
  | _, _, _ => False
theorem F63_eq (R : Caller) (lim n : Nat) (K : AVal → Heap → Prop) (a0 a1 : AVal) (H : Heap) : F63 R lim n K a0 a1 H = execI R lim n 43 (F63_Lp R lim n K) f63.body (argT [a0, a1]) H (retW [(.cell 4 (some 4)), (.tmp 5)] K) := by kernel_rfl
theorem F63_ob (R : Caller) (lim n : Nat) (K : AVal → Heap → Prop) : Oblig R lim n 43 (F63_Lp R lim n K) f63.body (retW [(.cell 4 (some 4)), (.tmp 5)] K) := (oblig_nl (by kernel_rfl))
theorem F63_run {ap : FuncId → Option AFn} (hf : ap 63 = some (.code f63)) {n lim : Nat} {K : AVal → Heap → Prop} {a0 a1 : AVal} {H : Heap} (h : F63 (Ahs.runT ap n) lim n K a0 a1 H) : ∃ v H', Ahs.runT ap (n + 1) lim (.fn 63) [a0, a1] H = some (v, H') ∧ K v H' := by
  rw [F63_eq] at h
  exact run_of_W hf (by kernel_rfl) (by kernel_rfl) (execI_sound f63.body _ _ _ _ (F63_ob _ _ _ K) (fun _ _ _ h => h) h)
def F64_j0 (R : Caller) (lim n : Nat) (K : AVal → Heap → Prop) (t8 t9 : AVal) (H : Heap) : Prop :=
bindP (aload H (some 4) t9) fun v14 =>
bindP (astore lim H 4 t8 v14) fun H15 =>
bindP (aload H15 (some 4) t8) fun v16 =>
K v16 H15
def F64_j1 (R : Caller) (lim n : Nat) (K : AVal → Heap → Prop) (t8 t9 : AVal) (H : Heap) : Prop :=
F64_j0 R lim n K t8 t9 H
def F64_j2 (R : Caller) (lim n : Nat) (K : AVal → Heap → Prop) (rec0 : AVal → AVal → AVal → AVal → AVal → Heap → Prop) (t1 t4 t8 t9 t12 : AVal) (H : Heap) : Prop :=
bindP (abin .add t12 (.int .i64 1)) fun v54 =>
rec0 t1 t4 t8 t9 v54 H
def F64_s0 (R : Caller) (lim n : Nat) (K : AVal → Heap → Prop) (rec0 : AVal → AVal → AVal → AVal → AVal → Heap → Prop) (t1 t4 t8 t9 t12 : AVal) (H : Heap) : Prop :=
bindP (faddrO 3 t4) fun v43 =>
bindP (aload H none v43) fun v44 =>
bindP (alen false v44) fun v45 =>
bindP (abin .lss t12 v45) fun v46 =>
bindP (boolOf v46) fun b47 =>
(b47 = true → (bindP (faddrO 3 t4) fun v48 =>
bindP (aload H none v48) fun v49 =>
bindP (aindexAddr none 13 v49 t12) fun v50 =>
bindP (faddrO 0 v50) fun v51 =>
bindP (aload H none v51) fun v52 =>
bindP (abin .gtr v52 t1) fun v53 =>
bindP (boolOf v53) fun b55 =>
(b55 = true → (bindP (faddrO 3 t9) fun v56 =>
bindP (aload H none v56) fun v57 =>
bindP (faddrO 3 t4) fun v58 =>
bindP (aload H none v58) fun v59 =>
bindP (aindexAddr none 13 v59 t12) fun v60 =>
bindP (aload H (some 13) v60) fun v61 =>
bind2 ((fillV z0 [(0, 13, v61)]).map fun cs => (.sl (some (H.next, 0)) 1 (.ex 1), H.push (.cells cs))) fun v62 H63 =>
bind2 (aappend lim H63 z0 48 false v57 v62) fun v64 H65 =>
bindP (faddrO 3 t9) fun v66 =>
bindP (astore lim H65 1 v66 v64) fun H67 =>
F64_j2 R lim n K rec0 t1 t4 t8 t9 t12 H67)) ∧
(b55 = false → (F64_j2 R lim n K rec0 t1 t4 t8 t9 t12 H)))) ∧
(b47 = false → (F64_j1 R lim n K t8 t9 H))
def F64_l0 (R : Caller) (lim n : Nat) (K : AVal → Heap → Prop) : Nat → AVal → AVal → AVal → AVal → AVal → Heap → Prop
  | 0, _, _, _, _, _, _ => False
  | m + 1, t1, t4, t8, t9, t12, H => F64_s0 R lim n K (F64_l0 R lim n K m) t1 t4 t8 t9 t12 H
def F64 (R : Caller) (lim n : Nat) (K : AVal → Heap → Prop) (a0 a1 a2 a3 : AVal) (H : Heap) : Prop :=
bind2 (if (a0).cells.all (·.one) then some (.ptr (some (H.next, 0)), H.push (.cells (a0).cells)) else none) fun v1 H2 =>
bindP (buildO z1 [(0, 1, a1), (1, 1, a2), (2, 1, a3)]) fun v3 =>
bindP (astore lim ((H2.push (.cells z1)).push (.cells z1)) 4 (.ptr (some ((H2.push (.cells z1)).next, 0))) v3) fun H4 =>
bindP (aload H4 (some 4) v1) fun v5 =>
bind2 (R lim (.fn 67) [v5, a1] H4) fun v6 H7 =>
bindP (extO 0 v6) fun v8 =>
bindP (extO 1 v6) fun v9 =>
bindP (gd (some (v9, true)) (some v8)) fun v10 =>
bindP (gd (some (v9, true)) (some a2)) fun v11 =>
bindP (gd (some (v9, true)) (abin .eql v10 v11)) fun v12 =>
bindP (pickO v9 v12 (.bool false)) fun v13 =>
bindP (boolOf v13) fun b17 =>
(b17 = true → (F64_l0 R lim n K n a1 v1 (.ptr (some (H2.next, 0))) (.ptr (some ((H2.push (.cells z1)).next, 0))) (.int .i64 0) H7)) ∧
(b17 = false → (F64_j0 R lim n K (.ptr (some (H2.next, 0))) (.ptr (some ((H2.push (.cells z1)).next, 0))) H7))
def F64_Lp (R : Caller) (lim n : Nat) (K : AVal → Heap → Prop) : Nat → Tm → Heap → Prop
  | 0, T, H => F64_l0 R lim n K n (T 1) (T 4) (T 8) (T 9) (T 12) H
  | _, _, _ => False
def F64_Lp0 (R : Caller) (lim n : Nat) (K : AVal → Heap → Prop) (rec0 : AVal → AVal → AVal → AVal → AVal → Heap → Prop) : Nat → Tm → Heap → Prop
  | _, _, _ => False
def F64_k0 (R : Caller) (lim n : Nat) (K : AVal → Heap → Prop) (rec0 : AVal → AVal → AVal → AVal → AVal → Heap → Prop) : Kt := fun ex T H => match ex with
  | .norm => rec0 (T 1) (T 4) (T 8) (T 9) (T 12) H
  | ex => (kBlk 0 (kSeq (execI R lim n 55 (F64_Lp R lim n K) f64_p1) (retW [(.cell 8 (some 4))] K))) ex T H
theorem F64_s0_eq (R : Caller) (lim n : Nat) (K : AVal → Heap → Prop) (rec0 : AVal → AVal → AVal → AVal → AVal → Heap → Prop) (T : Tm) (H : Heap) : F64_s0 R lim n K rec0 (T 1) (T 4) (T 8) (T 9) (T 12) H = execI R lim n 55 (F64_Lp0 R lim n K rec0) f64_p0 T H (F64_k0 R lim n K rec0) := by kernel_rfl
theorem F64_l0_ok (R : Caller) (lim n : Nat) (K : AVal → Heap → Prop) {kw : Kt} (hk : ∀ ex T H, (kBlk 0 (kSeq (execI R lim n 55 (F64_Lp R lim n K) f64_p1) (retW [(.cell 8 (some 4))] K))) ex T H → kw ex T H) : ∀ (m : Nat) (T : Tm) (H : Heap), F64_l0 R lim n K m (T 1) (T 4) (T 8) (T 9) (T 12) H → loopW (execW R lim n 55 f64_p0) m T H kw
  | 0, _, _, h => False.elim h
  | m + 1, T, H, h => by
    have hb : ∀ ex T H, F64_k0 R lim n K (F64_l0 R lim n K m) ex T H → (fun ex T H => match ex with | .norm => loopW (execW R lim n 55 f64_p0) m T H kw | ex => kw ex T H : Kt) ex T H := by
      intro ex T H h
      cases ex with
      | norm => exact F64_l0_ok R lim n K hk m T H h
      | exit i => exact hk _ _ _ h
      | ret => exact hk _ _ _ h
    have h' : F64_s0 R lim n K (F64_l0 R lim n K m) (T 1) (T 4) (T 8) (T 9) (T 12) H := h
    rw [F64_s0_eq] at h'
    exact execI_sound f64_p0 T H _ _ (oblig_nl (by kernel_rfl)) hb h'
theorem F64_eq (R : Caller) (lim n : Nat) (K : AVal → Heap → Prop) (a0 a1 a2 a3 : AVal) (H : Heap) : F64 R lim n K a0 a1 a2 a3 H = execI R lim n 55 (F64_Lp R lim n K) f64.body (argT [a0, a1, a2, a3]) H (retW [(.cell 8 (some 4))] K) := by kernel_rfl
theorem F64_ob (R : Caller) (lim n : Nat) (K : AVal → Heap → Prop) : Oblig R lim n 55 (F64_Lp R lim n K) f64.body (retW [(.cell 8 (some 4))] K) := ⟨(oblig_nl (by kernel_rfl)), ⟨(oblig_nl (by kernel_rfl)), ⟨(oblig_nl (by kernel_rfl)), ⟨⟨(oblig_nl (by kernel_rfl)), ⟨⟨(oblig_nl (by kernel_rfl)), (fun T H h => F64_l0_ok R lim n K (kBlk_mono (kSeqI_sound (oblig_nl (by kernel_rfl)) (fun _ _ _ h => h))) _ T H h)⟩, (oblig_nl (by kernel_rfl))⟩⟩, (oblig_nl (by kernel_rfl))⟩⟩⟩⟩
theorem F64_run {ap : FuncId → Option AFn} (hf : ap 64 = some (.code f64)) {n lim : Nat} {K : AVal → Heap → Prop} {a0 a1 a2 a3 : AVal} {H : Heap} (h : F64 (Ahs.runT ap n) lim n K a0 a1 a2 a3 H) : ∃ v H', Ahs.runT ap (n + 1) lim (.fn 64) [a0, a1, a2, a3] H = some (v, H') ∧ K v H' := by
  rw [F64_eq] at h
  exact run_of_W hf (by kernel_rfl) (by kernel_rfl) (execI_sound f64.body _ _ _ _ (F64_ob _ _ _ K) (fun _ _ _ h => h) h)
def F65 (R : Caller) (lim n : Nat) (K : AVal → Heap → Prop) (a0 : AVal) (H : Heap) : Prop :=
bind2 (if (a0).cells.all (·.one) then some (.ptr (some (H.next, 0)), H.push (.cells (a0).cells)) else none) fun v1 H2 =>
bindP (faddrO 3 v1) fun v3 =>
bindP (aload H2 none v3) fun v4 =>
bindP (alen false v4) fun v5 =>
bindP (abin .eql v5 (.int .i64 0)) fun v6 =>
bindP (boolOf v6) fun b7 =>
(b7 = true → (bindP (faddrO 0 v1) fun v8 =>
bindP (aload H2 none v8) fun v9 =>
bindP (faddrO 1 v1) fun v10 =>
bindP (aload H2 none v10) fun v11 =>
K (.tup [v9, v11]) H2)) ∧
(b7 = false → (bindP (faddrO 3 v1) fun v12 =>
bindP (aload H2 none v12) fun v13 =>
bindP (faddrO 3 v1) fun v14 =>
bindP (aload H2 none v14) fun v15 =>
bindP (alen false v15) fun v16 =>
bindP (abin .sub v16 (.int .i64 1)) fun v17 =>
bindP (aindexAddr none 13 v13 v17) fun v18 =>
bindP (faddrO 0 v18) fun v19 =>
bindP (aload H2 none v19) fun v20 =>
bindP (faddrO 3 v1) fun v21 =>
bindP (aload H2 none v21) fun v22 =>
bindP (faddrO 3 v1) fun v23 =>
bindP (aload H2 none v23) fun v24 =>
bindP (alen false v24) fun v25 =>
bindP (abin .sub v25 (.int .i64 1)) fun v26 =>
bindP (aindexAddr none 13 v22 v26) fun v27 =>
bindP (faddrO 1 v27) fun v28 =>
bindP (aload H2 none v28) fun v29 =>
K (.tup [v20, v29]) H2))
def F65_Lp (R : Caller) (lim n : Nat) (K : AVal → Heap → Prop) : Nat → Tm → Heap → Prop
  | _, _, _ => False
theorem F65_eq (R : Caller) (lim n : Nat) (K : AVal → Heap → Prop) (a0 : AVal) (H : Heap) : F65 R lim n K a0 H = execI R lim n 30 (F65_Lp R lim n K) f65.body (argT [a0]) H (retW [(.tmp 2), (.tmp 3)] K) := by kernel_rfl
theorem F65_ob (R : Caller) (lim n : Nat) (K : AVal → Heap → Prop) : Oblig R lim n 30 (F65_Lp R lim n K) f65.body (retW [(.tmp 2), (.tmp 3)] K) := (oblig_nl (by kernel_rfl))
theorem F65_run {ap : FuncId → Option AFn} (hf : ap 65 = some (.code f65)) {n lim : Nat} {K : AVal → Heap → Prop} {a0 : AVal} {H : Heap} (h : F65 (Ahs.runT ap n) lim n K a0 H) : ∃ v H', Ahs.runT ap (n + 1) lim (.fn 65) [a0] H = some (v, H') ∧ K v H' := by
  rw [F65_eq] at h
  exact run_of_W hf (by kernel_rfl) (by kernel_rfl) (execI_sound f65.body _ _ _ _ (F65_ob _ _ _ K) (fun _ _ _ h => h) h)
def F66_j0 (R : Caller) (lim n : Nat) (K : AVal → Heap → Prop) (t6 t7 : AVal) (H : Heap) : Prop :=
K (.tup [t6, t7]) H
def F66_j1 (R : Caller) (lim n : Nat) (K : AVal → Heap → Prop) (rec0 : AVal → AVal → AVal → AVal → AVal → Heap → Prop) (t1 t2 t6 t7 t8 : AVal) (H : Heap) : Prop :=
bindP (abin .add t8 (.int .i64 1)) fun v58 =>
rec0 t1 t2 t6 t7 v58 H
def F66_s0 (R : Caller) (lim n : Nat) (K : AVal → Heap → Prop) (rec0 : AVal → AVal → AVal → AVal → AVal → Heap → Prop) (t1 t2 t6 t7 t8 : AVal) (H : Heap) : Prop :=
bindP (faddrO 3 t2) fun v36 =>
bindP (aload H none v36) fun v37 =>
bindP (alen false v37) fun v38 =>
bindP (abin .lss t8 v38) fun v39 =>
bindP (boolOf v39) fun b40 =>
(b40 = true → (bindP (faddrO 3 t2) fun v41 =>
bindP (aload H none v41) fun v42 =>
bindP (aindexAddr none 13 v42 t8) fun v43 =>
bindP (aload H (some 13) v43) fun v44 =>
bindP (astore lim (H.push (.cells z0)) 13 (.ptr (some (H.next, 0))) v44) fun H45 =>
bindP (faddrO 0 (.ptr (some (H.next, 0)))) fun v46 =>
bindP (aload H45 none v46) fun v47 =>
bindP (abin .leq v47 t1) fun v48 =>
bindP (gd (some (v48, true)) (faddrO 2 (.ptr (some (H.next, 0))))) fun v49 =>
bindP (gd (some (v48, true)) (aload H45 none v49)) fun v50 =>
bindP (gd (some (v48, true)) (abin .eql v50 (.int .u8 2))) fun v51 =>
bindP (pickO v48 v51 (.bool false)) fun v52 =>
bindP (gd (some (v52, true)) (faddrO 12 (.ptr (some (H.next, 0))))) fun v53 =>
bindP (gd (some (v52, true)) (aload H45 none v53)) fun v54 =>
bindP (gd (some (v52, true)) (alen true v54)) fun v55 =>
bindP (gd (some (v52, true)) (abin .eql v55 (.int .i64 1))) fun v56 =>
bindP (pickO v52 v56 (.bool false)) fun v57 =>
bindP (boolOf v57) fun b59 =>
(b59 = true → (bindP (faddrO 12 (.ptr (some (H.next, 0)))) fun v60 =>
bindP (aload H45 none v60) fun v61 =>
bindP (aindexStr v61 (.int .i64 0)) fun v62 =>
bindP (faddrO 0 (.ptr (some (H.next, 0)))) fun v63 =>
bindP (aload H45 none v63) fun v64 =>
F66_j1 R lim n K rec0 t1 t2 v62 v64 t8 H45)) ∧
(b59 = false → (F66_j1 R lim n K rec0 t1 t2 t6 t7 t8 H45)))) ∧
(b40 = false → (F66_j0 R lim n K t6 t7 H))
def F66_l0 (R : Caller) (lim n : Nat) (K : AVal → Heap → Prop) : Nat → AVal → AVal → AVal → AVal → AVal → Heap → Prop
  | 0, _, _, _, _, _, _ => False
  | m + 1, t1, t2, t6, t7, t8, H => F66_s0 R lim n K (F66_l0 R lim n K m) t1 t2 t6 t7 t8 H
def F66 (R : Caller) (lim n : Nat) (K : AVal → Heap → Prop) (a0 a1 : AVal) (H : Heap) : Prop :=
bind2 (if (a0).cells.all (·.one) then some (.ptr (some (H.next, 0)), H.push (.cells (a0).cells)) else none) fun v1 H2 =>
bindP (faddrO 2 v1) fun v3 =>
bindP (aload H2 none v3) fun v4 =>
bindP (faddrO 0 v1) fun v5 =>
bindP (aload H2 none v5) fun v6 =>
F66_l0 R lim n K n a1 v1 v4 v6 (.int .i64 0) H2
def F66_Lp (R : Caller) (lim n : Nat) (K : AVal → Heap → Prop) : Nat → Tm → Heap → Prop
  | 0, T, H => F66_l0 R lim n K n (T 1) (T 2) (T 6) (T 7) (T 8) H
  | _, _, _ => False
def F66_Lp0 (R : Caller) (lim n : Nat) (K : AVal → Heap → Prop) (rec0 : AVal → AVal → AVal → AVal → AVal → Heap → Prop) : Nat → Tm → Heap → Prop
  | _, _, _ => False
def F66_k0 (R : Caller) (lim n : Nat) (K : AVal → Heap → Prop) (rec0 : AVal → AVal → AVal → AVal → AVal → Heap → Prop) : Kt := fun ex T H => match ex with
  | .norm => rec0 (T 1) (T 2) (T 6) (T 7) (T 8) H
  | ex => (kBlk 0 (kSeq (execI R lim n 48 (F66_Lp R lim n K) f66_p1) (retW [(.tmp 4), (.tmp 5)] K))) ex T H
theorem F66_s0_eq (R : Caller) (lim n : Nat) (K : AVal → Heap → Prop) (rec0 : AVal → AVal → AVal → AVal → AVal → Heap → Prop) (T : Tm) (H : Heap) : F66_s0 R lim n K rec0 (T 1) (T 2) (T 6) (T 7) (T 8) H = execI R lim n 48 (F66_Lp0 R lim n K rec0) f66_p0 T H (F66_k0 R lim n K rec0) := by kernel_rfl
theorem F66_l0_ok (R : Caller) (lim n : Nat) (K : AVal → Heap → Prop) {kw : Kt} (hk : ∀ ex T H, (kBlk 0 (kSeq (execI R lim n 48 (F66_Lp R lim n K) f66_p1) (retW [(.tmp 4), (.tmp 5)] K))) ex T H → kw ex T H) : ∀ (m : Nat) (T : Tm) (H : Heap), F66_l0 R lim n K m (T 1) (T 2) (T 6) (T 7) (T 8) H → loopW (execW R lim n 48 f66_p0) m T H kw
  | 0, _, _, h => False.elim h
  | m + 1, T, H, h => by
    have hb : ∀ ex T H, F66_k0 R lim n K (F66_l0 R lim n K m) ex T H → (fun ex T H => match ex with | .norm => loopW (execW R lim n 48 f66_p0) m T H kw | ex => kw ex T H : Kt) ex T H := by
      intro ex T H h
      cases ex with
      | norm => exact F66_l0_ok R lim n K hk m T H h
      | exit i => exact hk _ _ _ h
      | ret => exact hk _ _ _ h
    have h' : F66_s0 R lim n K (F66_l0 R lim n K m) (T 1) (T 2) (T 6) (T 7) (T 8) H := h
    rw [F66_s0_eq] at h'
    exact execI_sound f66_p0 T H _ _ (oblig_nl (by kernel_rfl)) hb h'
theorem F66_eq (R : Caller) (lim n : Nat) (K : AVal → Heap → Prop) (a0 a1 : AVal) (H : Heap) : F66 R lim n K a0 a1 H = execI R lim n 48 (F66_Lp R lim n K) f66.body (argT [a0, a1]) H (retW [(.tmp 4), (.tmp 5)] K) := by kernel_rfl
theorem F66_ob (R : Caller) (lim n : Nat) (K : AVal → Heap → Prop) : Oblig R lim n 48 (F66_Lp R lim n K) f66.body (retW [(.tmp 4), (.tmp 5)] K) := ⟨(oblig_nl (by kernel_rfl)), ⟨(oblig_nl (by kernel_rfl)), ⟨(oblig_nl (by kernel_rfl)), ⟨⟨(oblig_nl (by kernel_rfl)), (fun T H h => F66_l0_ok R lim n K (kBlk_mono (kSeqI_sound (oblig_nl (by kernel_rfl)) (fun _ _ _ h => h))) _ T H h)⟩, (oblig_nl (by kernel_rfl))⟩⟩⟩⟩
theorem F66_run {ap : FuncId → Option AFn} (hf : ap 66 = some (.code f66)) {n lim : Nat} {K : AVal → Heap → Prop} {a0 a1 : AVal} {H : Heap} (h : F66 (Ahs.runT ap n) lim n K a0 a1 H) : ∃ v H', Ahs.runT ap (n + 1) lim (.fn 66) [a0, a1] H = some (v, H') ∧ K v H' := by
  rw [F66_eq] at h
  exact run_of_W hf (by kernel_rfl) (by kernel_rfl) (execI_sound f66.body _ _ _ _ (F66_ob _ _ _ K) (fun _ _ _ h => h) h)
def F67_j0 (R : Caller) (lim n : Nat) (K : AVal → Heap → Prop) (H : Heap) : Prop :=
K (.tup [(.int .u64 0), (.bool false)]) H
def F67_s0 (R : Caller) (lim n : Nat) (K : AVal → Heap → Prop) (rec0 : AVal → AVal → AVal → Heap → Prop) (t1 t2 t6 : AVal) (H : Heap) : Prop :=
bindP (faddrO 3 t2) fun v27 =>
bindP (aload H none v27) fun v28 =>
bindP (alen false v28) fun v29 =>
bindP (abin .lss t6 v29) fun v30 =>
bindP (boolOf v30) fun b31 =>
(b31 = true → (bindP (faddrO 3 t2) fun v32 =>
bindP (aload H none v32) fun v33 =>
bindP (aindexAddr none 13 v33 t6) fun v34 =>
bindP (faddrO 0 v34) fun v35 =>
bindP (aload H none v35) fun v36 =>
bindP (abin .eql v36 t1) fun v37 =>
bindP (boolOf v37) fun b38 =>
(b38 = true → (bindP (faddrO 3 t2) fun v39 =>
bindP (aload H none v39) fun v40 =>
bindP (aindexAddr none 13 v40 t6) fun v41 =>
bindP (faddrO 1 v41) fun v42 =>
bindP (aload H none v42) fun v43 =>
K (.tup [v43, (.bool true)]) H)) ∧
(b38 = false → (bindP (abin .add t6 (.int .i64 1)) fun v44 =>
rec0 t1 t2 v44 H)))) ∧
(b31 = false → (F67_j0 R lim n K H))
def F67_l0 (R : Caller) (lim n : Nat) (K : AVal → Heap → Prop) : Nat → AVal → AVal → AVal → Heap → Prop
  | 0, _, _, _, _ => False
  | m + 1, t1, t2, t6, H => F67_s0 R lim n K (F67_l0 R lim n K m) t1 t2 t6 H
def F67 (R : Caller) (lim n : Nat) (K : AVal → Heap → Prop) (a0 a1 : AVal) (H : Heap) : Prop :=
bind2 (if (a0).cells.all (·.one) then some (.ptr (some (H.next, 0)), H.push (.cells (a0).cells)) else none) fun v1 H2 =>
bindP (faddrO 0 v1) fun v3 =>
bindP (aload H2 none v3) fun v4 =>
bindP (abin .eql a1 v4) fun v5 =>
bindP (boolOf v5) fun b6 =>
(b6 = true → (bindP (faddrO 1 v1) fun v7 =>
bindP (aload H2 none v7) fun v8 =>
K (.tup [v8, (.bool true)]) H2)) ∧
(b6 = false → (F67_l0 R lim n K n a1 v1 (.int .i64 0) H2))
def F67_Lp (R : Caller) (lim n : Nat) (K : AVal → Heap → Prop) : Nat → Tm → Heap → Prop
  | 0, T, H => F67_l0 R lim n K n (T 1) (T 2) (T 6) H
  | _, _, _ => False
def F67_Lp0 (R : Caller) (lim n : Nat) (K : AVal → Heap → Prop) (rec0 : AVal → AVal → AVal → Heap → Prop) : Nat → Tm → Heap → Prop
  | _, _, _ => False
def F67_k0 (R : Caller) (lim n : Nat) (K : AVal → Heap → Prop) (rec0 : AVal → AVal → AVal → Heap → Prop) : Kt := fun ex T H => match ex with
  | .norm => rec0 (T 1) (T 2) (T 6) H
  | ex => (kBlk 0 (kSeq (execI R lim n 34 (F67_Lp R lim n K) f67_p1) (retW [(.tmp 4), (.tmp 5)] K))) ex T H
theorem F67_s0_eq (R : Caller) (lim n : Nat) (K : AVal → Heap → Prop) (rec0 : AVal → AVal → AVal → Heap → Prop) (T : Tm) (H : Heap) : F67_s0 R lim n K rec0 (T 1) (T 2) (T 6) H = execI R lim n 34 (F67_Lp0 R lim n K rec0) f67_p0 T H (F67_k0 R lim n K rec0) := by kernel_rfl
theorem F67_l0_ok (R : Caller) (lim n : Nat) (K : AVal → Heap → Prop) {kw : Kt} (hk : ∀ ex T H, (kBlk 0 (kSeq (execI R lim n 34 (F67_Lp R lim n K) f67_p1) (retW [(.tmp 4), (.tmp 5)] K))) ex T H → kw ex T H) : ∀ (m : Nat) (T : Tm) (H : Heap), F67_l0 R lim n K m (T 1) (T 2) (T 6) H → loopW (execW R lim n 34 f67_p0) m T H kw
  | 0, _, _, h => False.elim h
  | m + 1, T, H, h => by
    have hb : ∀ ex T H, F67_k0 R lim n K (F67_l0 R lim n K m) ex T H → (fun ex T H => match ex with | .norm => loopW (execW R lim n 34 f67_p0) m T H kw | ex => kw ex T H : Kt) ex T H := by
      intro ex T H h
      cases ex with
      | norm => exact F67_l0_ok R lim n K hk m T H h
      | exit i => exact hk _ _ _ h
      | ret => exact hk _ _ _ h
    have h' : F67_s0 R lim n K (F67_l0 R lim n K m) (T 1) (T 2) (T 6) H := h
    rw [F67_s0_eq] at h'
    exact execI_sound f67_p0 T H _ _ (oblig_nl (by kernel_rfl)) hb h'
theorem F67_eq (R : Caller) (lim n : Nat) (K : AVal → Heap → Prop) (a0 a1 : AVal) (H : Heap) : F67 R lim n K a0 a1 H = execI R lim n 34 (F67_Lp R lim n K) f67.body (argT [a0, a1]) H (retW [(.tmp 4), (.tmp 5)] K) := by kernel_rfl
theorem F67_ob (R : Caller) (lim n : Nat) (K : AVal → Heap → Prop) : Oblig R lim n 34 (F67_Lp R lim n K) f67.body (retW [(.tmp 4), (.tmp 5)] K) := ⟨(oblig_nl (by kernel_rfl)), ⟨(oblig_nl (by kernel_rfl)), ⟨⟨(oblig_nl (by kernel_rfl)), (fun T H h => F67_l0_ok R lim n K (kBlk_mono (kSeqI_sound (oblig_nl (by kernel_rfl)) (fun _ _ _ h => h))) _ T H h)⟩, (oblig_nl (by kernel_rfl))⟩⟩⟩
theorem F67_run {ap : FuncId → Option AFn} (hf : ap 67 = some (.code f67)) {n lim : Nat} {K : AVal → Heap → Prop} {a0 a1 : AVal} {H : Heap} (h : F67 (Ahs.runT ap n) lim n K a0 a1 H) : ∃ v H', Ahs.runT ap (n + 1) lim (.fn 67) [a0, a1] H = some (v, H') ∧ K v H' := by
  rw [F67_eq] at h
  exact run_of_W hf (by kernel_rfl) (by kernel_rfl) (execI_sound f67.body _ _ _ _ (F67_ob _ _ _ K) (fun _ _ _ h => h) h)
def F68 (R : Caller) (lim n : Nat) (K : AVal → Heap → Prop) (a0 a1 a2 : AVal) (H : Heap) : Prop :=
bind2 (if (a0).cells.all (·.one) then some (.ptr (some (H.next, 0)), H.push (.cells (a0).cells)) else none) fun v1 H2 =>
bindP (aload H2 (some 4) v1) fun v3 =>
bind2 (R lim (.fn 65) [v3] H2) fun v4 H5 =>
bindP (extO 0 v4) fun v6 =>
bindP (extO 1 v4) fun v7 =>
bindP (abin .eql a2 v7) fun v8 =>
bindP (boolOf v8) fun b9 =>
(b9 = true → (bindP (abin .geq a1 v6) fun v10 =>
K v10 H5)) ∧
(b9 = false → (bindP (abin .gtr a2 v7) fun v11 =>
K v11 H5))
def F68_Lp (R : Caller) (lim n : Nat) (K : AVal → Heap → Prop) : Nat → Tm → Heap → Prop
  | _, _, _ => False
theorem F68_eq (R : Caller) (lim n : Nat) (K : AVal → Heap → Prop) (a0 a1 a2 : AVal) (H : Heap) : F68 R lim n K a0 a1 a2 H = execI R lim n 23 (F68_Lp R lim n K) f68.body (argT [a0, a1, a2]) H (retW [(.tmp 6)] K) := by kernel_rfl
theorem F68_ob (R : Caller) (lim n : Nat) (K : AVal → Heap → Prop) : Oblig R lim n 23 (F68_Lp R lim n K) f68.body (retW [(.tmp 6)] K) := (oblig_nl (by kernel_rfl))
theorem F68_run {ap : FuncId → Option AFn} (hf : ap 68 = some (.code f68)) {n lim : Nat} {K : AVal → Heap → Prop} {a0 a1 a2 : AVal} {H : Heap} (h : F68 (Ahs.runT ap n) lim n K a0 a1 a2 H) : ∃ v H', Ahs.runT ap (n + 1) lim (.fn 68) [a0, a1, a2] H = some (v, H') ∧ K v H' := by
  rw [F68_eq] at h
  exact run_of_W hf (by kernel_rfl) (by kernel_rfl) (execI_sound f68.body _ _ _ _ (F68_ob _ _ _ K) (fun _ _ _ h => h) h)
def F69_j0 (R : Caller) (lim n : Nat) (K : AVal → Heap → Prop) (t7 : AVal) (H : Heap) : Prop :=
K t7 H
def F69_j1 (R : Caller) (lim n : Nat) (K : AVal → Heap → Prop) (rec0 : AVal → AVal → AVal → AVal → AVal → Heap → Prop) (t1 t2 t3 t7 t8 : AVal) (H : Heap) : Prop :=
bindP (abin .add t8 (.int .i64 1)) fun v45 =>
rec0 t1 t2 t3 t7 v45 H
def F69_s0 (R : Caller) (lim n : Nat) (K : AVal → Heap → Prop) (rec0 : AVal → AVal → AVal → AVal → AVal → Heap → Prop) (t1 t2 t3 t7 t8 : AVal) (H : Heap) : Prop :=
bindP (faddrO 3 t3) fun v29 =>
bindP (aload H none v29) fun v30 =>
bindP (alen false v30) fun v31 =>
bindP (abin .lss t8 v31) fun v32 =>
bindP (boolOf v32) fun b33 =>
(b33 = true → (bindP (faddrO 3 t3) fun v34 =>
bindP (aload H none v34) fun v35 =>
bindP (aindexAddr none 13 v35 t8) fun v36 =>
bindP (faddrO 0 v36) fun v37 =>
bindP (aload H none v37) fun v38 =>
bindP (abin .geq v38 t1) fun v39 =>
bindP (gd (some (v39, true)) (some t7)) fun v40 =>
bindP (gd (some (v39, true)) (alen false v40)) fun v41 =>
bindP (gd (some (v39, true)) (some t2)) fun v42 =>
bindP (gd (some (v39, true)) (abin .lss v41 v42)) fun v43 =>
bindP (pickO v39 v43 (.bool false)) fun v44 =>
bindP (boolOf v44) fun b46 =>
(b46 = true → (bindP (faddrO 3 t3) fun v47 =>
bindP (aload H none v47) fun v48 =>
bindP (aindexAddr none 13 v48 t8) fun v49 =>
bindP (aload H (some 13) v49) fun v50 =>
bind2 ((fillV z0 [(0, 13, v50)]).map fun cs => (.sl (some (H.next, 0)) 1 (.ex 1), H.push (.cells cs))) fun v51 H52 =>
bind2 (aappend lim H52 z0 48 false t7 v51) fun v53 H54 =>
F69_j1 R lim n K rec0 t1 t2 t3 v53 t8 H54)) ∧
(b46 = false → (F69_j1 R lim n K rec0 t1 t2 t3 t7 t8 H)))) ∧
(b33 = false → (F69_j0 R lim n K t7 H))
def F69_l0 (R : Caller) (lim n : Nat) (K : AVal → Heap → Prop) : Nat → AVal → AVal → AVal → AVal → AVal → Heap → Prop
  | 0, _, _, _, _, _, _ => False
  | m + 1, t1, t2, t3, t7, t8, H => F69_s0 R lim n K (F69_l0 R lim n K m) t1 t2 t3 t7 t8 H
def F69 (R : Caller) (lim n : Nat) (K : AVal → Heap → Prop) (a0 a1 a2 : AVal) (H : Heap) : Prop :=
bind2 (if (a0).cells.all (·.one) then some (.ptr (some (H.next, 0)), H.push (.cells (a0).cells)) else none) fun v1 H2 =>
F69_l0 R lim n K n a1 a2 v1 (.sl none 0 (.ex 0)) (.int .i64 0) H2
def F69_Lp (R : Caller) (lim n : Nat) (K : AVal → Heap → Prop) : Nat → Tm → Heap → Prop
  | 0, T, H => F69_l0 R lim n K n (T 1) (T 2) (T 3) (T 7) (T 8) H
  | _, _, _ => False
def F69_Lp0 (R : Caller) (lim n : Nat) (K : AVal → Heap → Prop) (rec0 : AVal → AVal → AVal → AVal → AVal → Heap → Prop) : Nat → Tm → Heap → Prop
  | _, _, _ => False
def F69_k0 (R : Caller) (lim n : Nat) (K : AVal → Heap → Prop) (rec0 : AVal → AVal → AVal → AVal → AVal → Heap → Prop) : Kt := fun ex T H => match ex with
  | .norm => rec0 (T 1) (T 2) (T 3) (T 7) (T 8) H
  | ex => (kBlk 0 (kSeq (execI R lim n 39 (F69_Lp R lim n K) f69_p1) (retW [(.tmp 6)] K))) ex T H
theorem F69_s0_eq (R : Caller) (lim n : Nat) (K : AVal → Heap → Prop) (rec0 : AVal → AVal → AVal → AVal → AVal → Heap → Prop) (T : Tm) (H : Heap) : F69_s0 R lim n K rec0 (T 1) (T 2) (T 3) (T 7) (T 8) H = execI R lim n 39 (F69_Lp0 R lim n K rec0) f69_p0 T H (F69_k0 R lim n K rec0) := by kernel_rfl
theorem F69_l0_ok (R : Caller) (lim n : Nat) (K : AVal → Heap → Prop) {kw : Kt} (hk : ∀ ex T H, (kBlk 0 (kSeq (execI R lim n 39 (F69_Lp R lim n K) f69_p1) (retW [(.tmp 6)] K))) ex T H → kw ex T H) : ∀ (m : Nat) (T : Tm) (H : Heap), F69_l0 R lim n K m (T 1) (T 2) (T 3) (T 7) (T 8) H → loopW (execW R lim n 39 f69_p0) m T H kw
  | 0, _, _, h => False.elim h
  | m + 1, T, H, h => by
    have hb : ∀ ex T H, F69_k0 R lim n K (F69_l0 R lim n K m) ex T H → (fun ex T H => match ex with | .norm => loopW (execW R lim n 39 f69_p0) m T H kw | ex => kw ex T H : Kt) ex T H := by
      intro ex T H h
      cases ex with
      | norm => exact F69_l0_ok R lim n K hk m T H h
      | exit i => exact hk _ _ _ h
      | ret => exact hk _ _ _ h
    have h' : F69_s0 R lim n K (F69_l0 R lim n K m) (T 1) (T 2) (T 3) (T 7) (T 8) H := h
    rw [F69_s0_eq] at h'
    exact execI_sound f69_p0 T H _ _ (oblig_nl (by kernel_rfl)) hb h'
theorem F69_eq (R : Caller) (lim n : Nat) (K : AVal → Heap → Prop) (a0 a1 a2 : AVal) (H : Heap) : F69 R lim n K a0 a1 a2 H = execI R lim n 39 (F69_Lp R lim n K) f69.body (argT [a0, a1, a2]) H (retW [(.tmp 6)] K) := by kernel_rfl
theorem F69_ob (R : Caller) (lim n : Nat) (K : AVal → Heap → Prop) : Oblig R lim n 39 (F69_Lp R lim n K) f69.body (retW [(.tmp 6)] K) := ⟨(oblig_nl (by kernel_rfl)), ⟨(oblig_nl (by kernel_rfl)), ⟨⟨(oblig_nl (by kernel_rfl)), (fun T H h => F69_l0_ok R lim n K (kBlk_mono (kSeqI_sound (oblig_nl (by kernel_rfl)) (fun _ _ _ h => h))) _ T H h)⟩, (oblig_nl (by kernel_rfl))⟩⟩⟩
theorem F69_run {ap : FuncId → Option AFn} (hf : ap 69 = some (.code f69)) {n lim : Nat} {K : AVal → Heap → Prop} {a0 a1 a2 : AVal} {H : Heap} (h : F69 (Ahs.runT ap n) lim n K a0 a1 a2 H) : ∃ v H', Ahs.runT ap (n + 1) lim (.fn 69) [a0, a1, a2] H = some (v, H') ∧ K v H' := by
  rw [F69_eq] at h
  exact run_of_W hf (by kernel_rfl) (by kernel_rfl) (execI_sound f69.body _ _ _ _ (F69_ob _ _ _ K) (fun _ _ _ h => h) h)
def F74_j0 (R : Caller) (lim n : Nat) (K : AVal → Heap → Prop) (t0 : AVal) (H : Heap) : Prop :=
K t0 H
def F74_j1 (R : Caller) (lim n : Nat) (K : AVal → Heap → Prop) (t0 t1 : AVal) (H : Heap) : Prop :=
bindP (acap t0) fun v2 =>
bindP (alen false t0) fun v3 =>
bindP (abin .sub v2 v3) fun v4 =>
bindP (abin .sub t1 v4) fun v5 =>
bindP (abin .gtr v5 (.int .i64 0)) fun v6 =>
bindP (boolOf v6) fun b7 =>
(b7 = true → (bindP (acap t0) fun v8 =>
bindP (aslice 13 t0 none (some v8) none) fun v9 =>
bind2 (aappend lim H z0 48 true v9 v5) fun v10 H11 =>
bindP (alen false t0) fun v12 =>
bindP (aslice 13 v10 none (some v12) none) fun v13 =>
F74_j0 R lim n K v13 H11)) ∧
(b7 = false → (F74_j0 R lim n K t0 H))
def F74 (R : Caller) (lim n : Nat) (K : AVal → Heap → Prop) (a0 a1 : AVal) (H : Heap) : Prop :=
bindP (abin .lss a1 (.int .i64 0)) fun v1 =>
bindP (boolOf v1) fun b14 =>
(b14 = true → (bindP (some (AVal.iface 9 (.str [99, 97, 110, 110, 111, 116, 32, 98, 101, 32, 110, 101, 103, 97, 116, 105, 118, 101]))) fun v15 =>
bindP ((none : Option AVal)) fun _ =>
F74_j1 R lim n K a0 a1 H)) ∧
(b14 = false → (F74_j1 R lim n K a0 a1 H))
def F74_Lp (R : Caller) (lim n : Nat) (K : AVal → Heap → Prop) : Nat → Tm → Heap → Prop
  | _, _, _ => False
theorem F74_eq (R : Caller) (lim n : Nat) (K : AVal → Heap → Prop) (a0 a1 : AVal) (H : Heap) : F74 R lim n K a0 a1 H = execI R lim n 27 (F74_Lp R lim n K) f74.body (argT [a0, a1]) H (retW [(.tmp 4)] K) := by kernel_rfl
theorem F74_ob (R : Caller) (lim n : Nat) (K : AVal → Heap → Prop) : Oblig R lim n 27 (F74_Lp R lim n K) f74.body (retW [(.tmp 4)] K) := (oblig_nl (by kernel_rfl))
theorem F74_run {ap : FuncId → Option AFn} (hf : ap 74 = some (.code f74)) {n lim : Nat} {K : AVal → Heap → Prop} {a0 a1 : AVal} {H : Heap} (h : F74 (Ahs.runT ap n) lim n K a0 a1 H) : ∃ v H', Ahs.runT ap (n + 1) lim (.fn 74) [a0, a1] H = some (v, H') ∧ K v H' := by
  rw [F74_eq] at h
  exact run_of_W hf (by kernel_rfl) (by kernel_rfl) (execI_sound f74.body _ _ _ _ (F74_ob _ _ _ K) (fun _ _ _ h => h) h)
def F75 (R : Caller) (lim n : Nat) (K : AVal → Heap → Prop) (a0 : AVal) (H : Heap) : Prop :=
bind2 (if (a0).cells.all (·.one) then some (.ptr (some (H.next, 0)), H.push (.cells (a0).cells)) else none) fun v1 H2 =>
bindP (some (AVal.fn 78 [] [v1])) fun v3 =>
K v3 H2
def F75_Lp (R : Caller) (lim n : Nat) (K : AVal → Heap → Prop) : Nat → Tm → Heap → Prop
  | _, _, _ => False
theorem F75_eq (R : Caller) (lim n : Nat) (K : AVal → Heap → Prop) (a0 : AVal) (H : Heap) : F75 R lim n K a0 H = execI R lim n 4 (F75_Lp R lim n K) f75.body (argT [a0]) H (retW [(.tmp 2)] K) := by kernel_rfl
theorem F75_ob (R : Caller) (lim n : Nat) (K : AVal → Heap → Prop) : Oblig R lim n 4 (F75_Lp R lim n K) f75.body (retW [(.tmp 2)] K) := (oblig_nl (by kernel_rfl))
theorem F75_run {ap : FuncId → Option AFn} (hf : ap 75 = some (.code f75)) {n lim : Nat} {K : AVal → Heap → Prop} {a0 : AVal} {H : Heap} (h : F75 (Ahs.runT ap n) lim n K a0 H) : ∃ v H', Ahs.runT ap (n + 1) lim (.fn 75) [a0] H = some (v, H') ∧ K v H' := by
  rw [F75_eq] at h
  exact run_of_W hf (by kernel_rfl) (by kernel_rfl) (execI_sound f75.body _ _ _ _ (F75_ob _ _ _ K) (fun _ _ _ h => h) h)
def F78_j0 (R : Caller) (lim n : Nat) (K : AVal → Heap → Prop) (H : Heap) : Prop :=
K (.tup []) H
def F78_s0 (R : Caller) (lim n : Nat) (K : AVal → Heap → Prop) (rec0 : AVal → AVal → AVal → Heap → Prop) (t0 t1 t3 : AVal) (H : Heap) : Prop :=
bindP (abin .geq t3 (.int .i64 0)) fun v14 =>
bindP (boolOf v14) fun b15 =>
(b15 = true → (bindP (aload H none t1) fun v16 =>
bindP (aindexAddr none 13 v16 t3) fun v17 =>
bindP (aload H (some 13) v17) fun v18 =>
bind2 (callvO R lim t0 [t3, v18] H) fun v19 H20 =>
bindP (aun .not v19) fun v21 =>
bindP (boolOf v21) fun b22 =>
(b22 = true → (K (.tup []) H20)) ∧
(b22 = false → (bindP (abin .sub t3 (.int .i64 1)) fun v23 =>
rec0 t0 t1 v23 H20)))) ∧
(b15 = false → (F78_j0 R lim n K H))
def F78_l0 (R : Caller) (lim n : Nat) (K : AVal → Heap → Prop) : Nat → AVal → AVal → AVal → Heap → Prop
  | 0, _, _, _, _ => False
  | m + 1, t0, t1, t3, H => F78_s0 R lim n K (F78_l0 R lim n K m) t0 t1 t3 H
def F78 (R : Caller) (lim n : Nat) (K : AVal → Heap → Prop) (a0 a1 : AVal) (H : Heap) : Prop :=
bindP (aload H none a1) fun v1 =>
bindP (alen false v1) fun v2 =>
bindP (abin .sub v2 (.int .i64 1)) fun v3 =>
F78_l0 R lim n K n a0 a1 v3 H
def F78_Lp (R : Caller) (lim n : Nat) (K : AVal → Heap → Prop) : Nat → Tm → Heap → Prop
  | 0, T, H => F78_l0 R lim n K n (T 0) (T 1) (T 3) H
  | _, _, _ => False
def F78_Lp0 (R : Caller) (lim n : Nat) (K : AVal → Heap → Prop) (rec0 : AVal → AVal → AVal → Heap → Prop) : Nat → Tm → Heap → Prop
  | _, _, _ => False
def F78_k0 (R : Caller) (lim n : Nat) (K : AVal → Heap → Prop) (rec0 : AVal → AVal → AVal → Heap → Prop) : Kt := fun ex T H => match ex with
  | .norm => rec0 (T 0) (T 1) (T 3) H
  | ex => (kBlk 0 (retW [] K)) ex T H
theorem F78_s0_eq (R : Caller) (lim n : Nat) (K : AVal → Heap → Prop) (rec0 : AVal → AVal → AVal → Heap → Prop) (T : Tm) (H : Heap) : F78_s0 R lim n K rec0 (T 0) (T 1) (T 3) H = execI R lim n 19 (F78_Lp0 R lim n K rec0) f78_p0 T H (F78_k0 R lim n K rec0) := by kernel_rfl
theorem F78_l0_ok (R : Caller) (lim n : Nat) (K : AVal → Heap → Prop) {kw : Kt} (hk : ∀ ex T H, (kBlk 0 (retW [] K)) ex T H → kw ex T H) : ∀ (m : Nat) (T : Tm) (H : Heap), F78_l0 R lim n K m (T 0) (T 1) (T 3) H → loopW (execW R lim n 19 f78_p0) m T H kw
  | 0, _, _, h => False.elim h
  | m + 1, T, H, h => by
    have hb : ∀ ex T H, F78_k0 R lim n K (F78_l0 R lim n K m) ex T H → (fun ex T H => match ex with | .norm => loopW (execW R lim n 19 f78_p0) m T H kw | ex => kw ex T H : Kt) ex T H := by
      intro ex T H h
      cases ex with
      | norm => exact F78_l0_ok R lim n K hk m T H h
      | exit i => exact hk _ _ _ h
      | ret => exact hk _ _ _ h
    have h' : F78_s0 R lim n K (F78_l0 R lim n K m) (T 0) (T 1) (T 3) H := h
    rw [F78_s0_eq] at h'
    exact execI_sound f78_p0 T H _ _ (oblig_nl (by kernel_rfl)) hb h'
theorem F78_eq (R : Caller) (lim n : Nat) (K : AVal → Heap → Prop) (a0 a1 : AVal) (H : Heap) : F78 R lim n K a0 a1 H = execI R lim n 19 (F78_Lp R lim n K) f78.body (argT [a0, a1]) H (retW [] K) := by kernel_rfl
theorem F78_ob (R : Caller) (lim n : Nat) (K : AVal → Heap → Prop) : Oblig R lim n 19 (F78_Lp R lim n K) f78.body (retW [] K) := ⟨(oblig_nl (by kernel_rfl)), (fun T H h => F78_l0_ok R lim n K (kBlk_mono (fun _ _ _ h => h)) _ T H h)⟩
theorem F78_run {ap : FuncId → Option AFn} (hf : ap 78 = some (.code f78)) {n lim : Nat} {K : AVal → Heap → Prop} {a0 a1 : AVal} {H : Heap} (h : F78 (Ahs.runT ap n) lim n K a0 a1 H) : ∃ v H', Ahs.runT ap (n + 1) lim (.fn 78) [a0, a1] H = some (v, H') ∧ K v H' := by
  rw [F78_eq] at h
  exact run_of_W hf (by kernel_rfl) (by kernel_rfl) (execI_sound f78.body _ _ _ _ (F78_ob _ _ _ K) (fun _ _ _ h => h) h)
end Go.Proofs.Ytpefhojmfcenfaa.logs
