/- Temporaries as a list that is not written out: what stands behind writing. -/
import Derived.Test.YtnlimogbokkfpaaGreatChsA23
set_option linter.unusedSimpArgs false
set_option linter.unusedVariables false
namespace Go.Ahs
theorem getD_set (T : List AVal) (i j : Nat) (v : AVal) (h : i < T.length) : (T.set i v).getD j und = if i = j then v else T.getD j und := by
 rw [List.getD_eq_getElem?_getD, List.getD_eq_getElem?_getD, List.getElem?_set]
 by_cases e : i = j
 ·subst e; simp [h]
 ·simp [e]
def wantV (v : AVal) (want : Bool) : Bool :=
 match v with
 | .bool b => b == want
 | _ => false
theorem wantV_bool (b want : Bool) : wantV (.bool b) want = (b == want) := rfl
theorem wanted_some (T : List AVal) (t : Nat) (want : Bool) : wantedA T (some (t, want)) = wantV (T.getD t und) want := by
 unfold wantedA wantV
 simp only
 rw [List.getD_eq_getElem?_getD]
 cases T[t]? with
 | none => rfl
 | some v => cases v <;> rfl
theorem beqT (b : Bool) : (b == true) = b := by cases b <;> rfl
theorem beqF (b : Bool) : (b == false) = !b := by cases b <;> rfl
theorem un_not (b : Bool) : aun .not (.bool b) = some (.bool !b) := by cases b <;> rfl
theorem step_un (R : Caller) (lim : Nat) (ev : Opd → AVal) (H : Heap) (op : UnOp) (x : Opd) : step R lim ev H (.un op x) = val H (aun op (ev x)) := rfl
theorem loopN_norm {body : St → Option (Ex × St)} {s s' : St} (n : Nat) (h : body s = some (.norm, s')) : loopN body (n + 1) s = loopN body n s' := by
 rw [loopN, h]
theorem loopN_ret {body : St → Option (Ex × St)} {s s' : St} (n : Nat) (h : body s = some (.ret, s')) : loopN body (n + 1) s = some (.ret, s') := by
 rw [loopN, h]
theorem loopN_exit {body : St → Option (Ex × St)} {s s' : St} (n id : Nat) (h : body s = some (.exit id, s')) : loopN body (n + 1) s = some (.exit id, s') := by
 rw [loopN, h]
def Stops (r : Option (Ex × St)) (Q : Ex → St → Prop) : Prop := ∃ ex s, r = some (ex, s) ∧ Q ex s
theorem Stops_some (ex : Ex) (s : St) (Q : Ex → St → Prop) : Stops (some (ex, s)) Q = Q ex s := by
 apply propext
 constructor
 ·rintro ⟨ex', s', h, hq⟩; simp at h; obtain ⟨rfl, rfl⟩ := h; exact hq
 ·exact fun h => ⟨ex, s, rfl, h⟩
end Go.Ahs
