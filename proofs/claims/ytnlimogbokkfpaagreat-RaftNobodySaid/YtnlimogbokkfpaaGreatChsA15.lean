/- A region whose operations go in the text's order; what an execution of a region is, operation by operation. -/
import Derived.Test.YtnlimogbokkfpaaGreatChsA14
set_option linter.unusedSimpArgs false
set_option linter.unusedVariables false
namespace Go.Ahs
def effLim (lim : Nat) (o : AOper) (H : Heap) : Nat := if o.bar then H.next else lim
def OneStep (R : Caller) (lim : Nat) (o : AOper) (tmps : List AVal) (H : Heap) (v : AVal) (H' : Heap) : Prop :=
 (wantedA tmps o.guard = true ∧ step R (effLim lim o H) (St.ev tmps) H o.op = some (v, H')) ∨ (wantedA tmps o.guard = false ∧ v = und ∧ H' = H)
section
variable {P : Program} {n0 lim : Nat} {ρ : Mp} {H H' : Heap} {w : World} {R : Caller} {v : AVal}
theorem execOp_inv {o : AOper} {s s' : St} (h : execOp R lim o s = some s') : ∃ v, OneStep R lim o s.tmps s.H v s'.H ∧ s'.tmps = putT s.tmps o.dst v ∧ (wantedA s.tmps o.guard = true → o.clear s.tmps = true ∨ (o.op.isLate = true ∧ o.kept s.tmps s.H s'.H = true)) := by
 unfold execOp at h
 split at h
 ·rename_i hw
  split at h
  ·unfold lateCallX at h
   split at h
   case isFalse => simp at h
   rename_i hic
   split at h
   case h_2 => simp at h
   rename_i v H' hs
   split at h <;> simp at h
   rename_i hkp
   subst h
   exact ⟨v, .inl ⟨hw, hs⟩, rfl, fun _ => .inr ⟨hic, hkp⟩⟩
  rename_i hcl
  split at h
  ·rename_i v H' hs
   simp at h; subst h
   exact ⟨v, .inl ⟨hw, hs⟩, rfl, fun _ => .inl (by simpa using hcl)⟩
  ·simp at h
 ·rename_i hw
  simp at h; subst h
  exact ⟨und, .inr ⟨by simpa using hw, rfl, rfl⟩, rfl, fun e => absurd e (by simpa using hw)⟩
theorem effLim_le (hlim : lim ≤ H.next) (o : AOper) : lim ≤ effLim lim o H ∧ effLim lim o H ≤ H.next := by
 unfold effLim; split <;> constructor <;> omega
theorem OneStep.keep (hR : Keeps R) (hlim : lim ≤ H.next) {o : AOper} {tmps : List AVal} (h : OneStep R lim o tmps H v H') : H.next ≤ H'.next ∧ ∀ b, b < effLim lim o H → H'.get b = H.get b := by
 rcases h with ⟨_, h⟩ | ⟨_, _, rfl⟩
 ·exact step_keep hR (effLim_le hlim o).2 h
 ·exact ⟨Nat.le_refl _, fun _ _ => rfl⟩
theorem one_wp {F : Fence} {m : Nat} (hF : Wide F) (hR : CallSim P R) (hr : Rel P n0 ρ H w) (hl : n0 ≤ lim) (hlim : lim ≤ H.next) (hfr : ∀ b, H.next ≤ b → b < H'.next → ρ b = none) {tmps : List AVal} {a : Act} (ht : LRel ρ tmps a.tmps.toList)
  {ops : Array Oper} {i : Nat} {o : Oper} {ao : AOper} {b : Bool} (hi : ops[i]? = some o) (hc : compOper P ops o = some ao) (h : OneStep R lim { ao with bar := b } tmps H v H') {K : Act → World → Prop} {Q : Exit → Act → World → Prop}
  (hK : ∀ ρ' v' w', Post P n0 (effLim lim { ao with bar := b } H) ρ H w ρ' H' w' → VRel ρ' v v' → K (a.put o.dst v') w') : wpOpIn F m P ops Q i K a w := by
 unfold compOper at hc
 split at hc <;> simp at hc
 rename_i op g hop hg
 subst hc
 have hwr := wanted_rel ht hg
 obtain ⟨l1, l2⟩ := effLim_le hlim { dst := o.dst, op := op, guard := g, bar := b, apart := [] }
 unfold wpOpIn
 simp only [hi]
 rcases h with ⟨hw, h⟩ | ⟨hw, rfl, rfl⟩
 ·simp only at hw
  rw [hwr, hw]
  simp only [if_true]
  exact (oper_wp hF hR hr (Nat.le_trans hl l1) l2 hfr ht rfl hop h hK)
 ·simp only at hw
  rw [hwr, hw]
  simp only [Bool.false_eq_true, if_false]
  exact ⟨fun f _ => hF.fn f, hK ρ undef w (.refl hr) (VRel.und ρ)⟩
theorem defers_put (a : Act) (d : Option Tmp) (v : Value) : (a.put d v).defers = a.defers := by cases d <;> rfl
theorem compOper_dst {ops : Array Oper} {o : Oper} {ao : AOper} (h : compOper P ops o = some ao) : ao.dst = o.dst ∧ ao.bar = false := by
 unfold compOper at h
 split at h <;> simp at h
 subst h; exact ⟨rfl, rfl⟩
theorem execOps_next (hRk : Keeps R) : ∀ (l : List AOper) (s s' : St), lim ≤ s.H.next → execOps R lim l s = some s' → s.H.next ≤ s'.H.next ∧ ∀ b, b < lim → s'.H.get b = s.H.get b
 | [], s, s', _, h => by simp [execOps] at h; subst h; exact ⟨Nat.le_refl _, fun _ _ => rfl⟩
 | o :: l, s, s', hlim, h => by
  unfold execOps at h
  split at h
  ·rename_i s1 h1
   obtain ⟨v, hs, _⟩ := execOp_inv h1
   obtain ⟨k1, k2⟩ := hs.keep hRk hlim
   obtain ⟨r1, r2⟩ := execOps_next hRk l s1 s' (by omega) h
   exact ⟨Nat.le_trans k1 r1, fun b hb => (r2 b hb).trans (k2 b (Nat.lt_of_lt_of_le hb (effLim_le hlim o).1))⟩
  ·simp at h
theorem ops_plain {F : Fence} {m : Nat} (hF : Wide F) (hR : CallSim P R) (hRk : Keeps R) (hl : n0 ≤ lim) {ops : Array Oper} {l : List AOper} (hc : allSome (compOper P ops) ops.toList = some l) {Q : Exit → Act → World → Prop} : ∀ (k i : Nat) (s s' : St) (ρ : Mp) (a : Act) (w : World),
  i + k = ops.size → execOps R lim (l.drop i) s = some s' → lim ≤ s.H.next → (∀ b, s.H.next ≤ b → b < s'.H.next → ρ b = none) → Rel P n0 ρ s.H w → LRel ρ s.tmps a.tmps.toList →
  (∀ ρ' a' w', Post P n0 lim ρ s.H w ρ' s'.H w' → LRel ρ' s'.tmps a'.tmps.toList → a'.defers = a.defers → Q .normal a' w') → wpOpsIn F m P ops Q (List.range' i k) a w
 | 0, i, s, s', ρ, a, w, hik, h, hlim, hfr, hr, ht, hQ => by
  have : l.drop i = [] := List.drop_eq_nil_of_le (by rw [allSome_length hc]; simp; omega)
  rw [this] at h
  simp [execOps] at h; subst h
  exact hQ ρ a w (.refl hr) ht rfl
 | k + 1, i, s, s', ρ, a, w, hik, h, hlim, hfr, hr, ht, hQ => by
  have hlen : l.length = ops.size := by rw [allSome_length hc]; simp
  have hi : i < ops.size := by omega
  have hil : i < l.length := by omega
  rw [List.drop_eq_getElem_cons hil] at h
  unfold execOps at h
  split at h
  ·rename_i s1 h1
   obtain ⟨v, hs, hput, _⟩ := execOp_inv h1
   obtain ⟨ao, q1, q2⟩ := allSome_get hc i ops[i] (by simp [hi])
   rw [List.getElem?_eq_getElem hil] at q1; simp at q1
   rw [q1] at hs hput
   obtain ⟨hd, hb⟩ := compOper_dst q2
   have hs' : OneStep R lim { ao with bar := false } s.tmps s.H v s1.H := by
    have : ({ ao with bar := false } : AOper) = ao := by cases ao; simp at hb; subst hb; rfl
    rw [this]; exact hs
   obtain ⟨k1, k2⟩ := hs'.keep hRk hlim
   obtain ⟨n1, _⟩ := execOps_next hRk _ s1 s' (by omega) h
   rw [List.range'_succ, wpOpsIn_cons]
   refine one_wp hF hR hr hl hlim (fun b g1 g2 => hfr b g1 (by omega)) ht (by simp [hi]) q2 hs' ?_
   intro ρ1 v1 w1 hp hv
   have hp' : Post P n0 lim ρ s.H w ρ1 s1.H w1 := hp
   refine ops_plain hF hR hRk hl hc k (i + 1) s1 s' ρ1 _ w1 (by omega) h (by omega) ?_ hp'.rel ?_ ?_
   ·intro b g1 g2
    cases hb : ρ1 b with
    | none => rfl
    | some L =>
     exfalso
     cases hb0 : ρ b with
     | none => have := (hp'.new b L hb0 hb).2.1; omega
     | some L0 => rw [hfr b (by omega) g2] at hb0; simp at hb0
   ·rw [hput, hd]
    exact put_rel_tmps (ht.ext hp'.ext) hv _
   ·intro ρ2 a2 w2 hp2 ht2 hd2
    exact hQ ρ2 a2 w2 (hp'.trans (Nat.le_refl _) hfr hp2) ht2 (by rw [hd2, defers_put])
  ·simp at h
end
end Go.Ahs
