/- Functions that come to no memory: what they give hangs on their arguments alone; so a check over the empty heap tells it for every heap. -/
import Derived.Test.YtnlimogbokkfpaaGreatChsA20
set_option linter.unusedSimpArgs false
set_option linter.unusedVariables false
namespace Go.Ahs
def Aop.free (S : FuncId → Bool) : Aop → Bool
 | .call f _ => S f
 | op => op.pure
def ACode.free (S : FuncId → Bool) : ACode → Bool
 | .region ops => ops.all fun o => o.op.free S && o.apart.isEmpty
 | .seq a b => a.free S && b.free S
 | .cond _ a b => a.free S && b.free S
 | .block _ a | .loop a => a.free S
 | .ranges _ _ _ _ => false
 | _ => true
def AFunc.free (S : FuncId → Bool) (af : AFunc) : Bool := af.body.free S && af.results.all fun | .tmp _ => true | .cell _ _ => false
def FreeOut (g : Nat → Heap → Option (AVal × Heap)) : Prop := ∀ lim H v H', g lim H = some (v, H') → H' = H ∧ ∀ lim2 H2, g lim2 H2 = some (v, H2)
def FreeFn (S : FuncId → Bool) : AFn → Prop
 | .code af => af.free S = true
 | .prim g => ∀ args, FreeOut fun lim H => g lim args H
section
variable {S : FuncId → Bool} {R : Caller}
theorem free_step (hR : ∀ f args, S f = true → FreeOut fun lim H => R lim (.fn f) args H) {lim : Nat} {ev : Opd → AVal} {H H' : Heap} {v : AVal} {op : Aop} (hf : op.free S = true) (h : step R lim ev H op = some (v, H')) :
  H' = H ∧ ∀ lim2 H2, step R lim2 ev H2 op = some (v, H2) := by
 have key : ∀ f xs, op = .call f xs → H' = H ∧ ∀ lim2 H2, step R lim2 ev H2 op = some (v, H2) := by
  rintro f xs rfl
  exact hR f (xs.map ev) hf lim H v H' h
 cases op
 case call f xs => exact key f xs rfl
 all_goals exact step_pure (by simpa [Aop.free] using hf) h
theorem free_ops (hR : ∀ f args, S f = true → FreeOut fun lim H => R lim (.fn f) args H) {lim : Nat} : ∀ (os : List AOper) (T : List AVal) (H : Heap) (s' : St), (os.all fun o => o.op.free S && o.apart.isEmpty) = true → execOps R lim os ⟨T, H⟩ = some s' →
  s'.H = H ∧ ∀ lim2 H2, execOps R lim2 os ⟨T, H2⟩ = some ⟨s'.tmps, H2⟩
 | [], T, H, s', _, h => by simp [execOps] at h; subst h; exact ⟨rfl, fun _ _ => rfl⟩
 | o :: os, T, H, s', hf, h => by
  rw [List.all_cons, Bool.and_eq_true, Bool.and_eq_true] at hf
  obtain ⟨⟨hf1, hf2⟩, hf3⟩ := hf
  have hcl : o.clear T = true := by
   have : o.apart = [] := by simpa using hf2
   unfold AOper.clear; rw [this]
  unfold execOps at h
  split at h
  case h_2 => simp at h
  rename_i s1 h1
  have one : s1.H = H ∧ ∀ lim2 H2, execOp R lim2 o ⟨T, H2⟩ = some ⟨s1.tmps, H2⟩ := by
   unfold execOp at h1 ⊢
   split at h1
   ·rename_i hw
    rw [hcl] at h1
    simp only [Bool.not_true, Bool.false_eq_true, if_false] at h1
    split at h1
    ·rename_i v H1 hs
     simp at h1; subst h1
     obtain ⟨e, hall⟩ := free_step hR hf1 hs
     refine ⟨e, fun lim2 H2 => ?_⟩
     simp only at hw
     simp only [hw, hcl, if_true, Bool.not_true, Bool.false_eq_true, if_false]
     rw [hall]
    ·simp at h1
   ·rename_i hw
    simp at h1; subst h1
    refine ⟨rfl, fun lim2 H2 => ?_⟩
    simp only at hw
    simp only [hw, if_false, Bool.false_eq_true]
  obtain ⟨e1, a1⟩ := one
  obtain ⟨T1, H1⟩ := s1
  simp only at e1 a1
  subst e1
  obtain ⟨e2, a2⟩ := free_ops hR os T1 H1 s' hf3 h
  refine ⟨e2, fun lim2 H2 => ?_⟩
  unfold execOps
  rw [a1]
  exact a2 lim2 H2
theorem free_loop {f : Nat → St → Option (Ex × St)} (hf : ∀ lim T H ex s', f lim ⟨T, H⟩ = some (ex, s') → s'.H = H ∧ ∀ lim2 H2, f lim2 ⟨T, H2⟩ = some (ex, ⟨s'.tmps, H2⟩)) {lim : Nat} : ∀ (n : Nat) (T : List AVal) (H : Heap) (ex : Ex) (s' : St),
  loopN (f lim) n ⟨T, H⟩ = some (ex, s') → s'.H = H ∧ ∀ lim2 H2, loopN (f lim2) n ⟨T, H2⟩ = some (ex, ⟨s'.tmps, H2⟩)
 | 0, T, H, ex, s', h => by simp [loopN] at h
 | n + 1, T, H, ex, s', h => by
  unfold loopN at h
  split at h
  ·rename_i s1 h1
   obtain ⟨T1, H1⟩ := s1
   obtain ⟨e1, a1⟩ := hf _ _ _ _ _ h1
   simp only at e1 a1
   subst e1
   obtain ⟨e2, a2⟩ := free_loop hf n T1 H1 ex s' h
   refine ⟨e2, fun lim2 H2 => ?_⟩
   unfold loopN
   rw [a1]
   exact a2 lim2 H2
  ·rename_i hne
   obtain ⟨e1, a1⟩ := hf _ _ _ _ _ h
   refine ⟨e1, fun lim2 H2 => ?_⟩
   unfold loopN
   rw [a1]
   split
   ·rename_i s2 h2
    simp at h2; obtain ⟨rfl, rfl⟩ := h2
    exact absurd h (hne s')
   ·rfl
theorem free_exec (hR : ∀ f args, S f = true → FreeOut fun lim H => R lim (.fn f) args H) (n : Nat) : ∀ (c : ACode), c.free S = true → ∀ (lim : Nat) (T : List AVal) (H : Heap) (ex : Ex) (s' : St), exec R lim n c ⟨T, H⟩ = some (ex, s') →
  s'.H = H ∧ ∀ lim2 H2, exec R lim2 n c ⟨T, H2⟩ = some (ex, ⟨s'.tmps, H2⟩)
 | .skip, _, lim, T, H, ex, s', h => by simp [exec] at h; obtain ⟨rfl, rfl⟩ := h; exact ⟨rfl, fun _ _ => rfl⟩
 | .exit id, _, lim, T, H, ex, s', h => by simp [exec] at h; obtain ⟨rfl, rfl⟩ := h; exact ⟨rfl, fun _ _ => rfl⟩
 | .ret, _, lim, T, H, ex, s', h => by simp [exec] at h; obtain ⟨rfl, rfl⟩ := h; exact ⟨rfl, fun _ _ => rfl⟩
 | .ranges _ _ _ _, hf, _, _, _, _, _, _ => by simp [ACode.free] at hf
 | .region os, hf, lim, T, H, ex, s', h => by
  simp only [exec, Option.map_eq_some_iff] at h
  obtain ⟨s1, h1, h2⟩ := h
  simp at h2; obtain ⟨rfl, rfl⟩ := h2
  obtain ⟨e, a⟩ := free_ops hR os T H s1 (by simpa only [ACode.free] using hf) h1
  exact ⟨e, fun lim2 H2 => by simp only [exec, a, Option.map_some]⟩
 | .seq a b, hf, lim, T, H, ex, s', h => by
  simp only [ACode.free, Bool.and_eq_true] at hf
  simp only [exec] at h
  split at h
  ·rename_i s1 h1
   obtain ⟨T1, H1⟩ := s1
   obtain ⟨e1, a1⟩ := free_exec hR n a hf.1 _ _ _ _ _ h1
   simp only at e1 a1
   subst e1
   obtain ⟨e2, a2⟩ := free_exec hR n b hf.2 _ _ _ _ _ h
   exact ⟨e2, fun lim2 H2 => by simp only [exec, a1, a2]⟩
  ·rename_i hne
   obtain ⟨e1, a1⟩ := free_exec hR n a hf.1 _ _ _ _ _ h
   refine ⟨e1, fun lim2 H2 => ?_⟩
   simp only [exec, a1]
   split
   ·rename_i s2 h2
    simp at h2; obtain ⟨rfl, rfl⟩ := h2
    exact absurd h (hne s')
   ·rfl
 | .cond c a b, hf, lim, T, H, ex, s', h => by
  simp only [ACode.free, Bool.and_eq_true] at hf
  simp only [exec] at h ⊢
  split at h
  ·rename_i t ht
   split at h
   ·rename_i htt
    obtain ⟨e1, a1⟩ := free_exec hR n a hf.1 _ _ _ _ _ h
    exact ⟨e1, fun lim2 H2 => by simp only [htt, if_true, a1]⟩
   ·rename_i htt
    obtain ⟨e1, a1⟩ := free_exec hR n b hf.2 _ _ _ _ _ h
    exact ⟨e1, fun lim2 H2 => by simp only [htt, if_false, a1]; rfl⟩
  ·simp at h
 | .block id c, hf, lim, T, H, ex, s', h => by
  simp only [exec] at h ⊢
  split at h
  ·rename_i id' s1 h1
   obtain ⟨e1, a1⟩ := free_exec hR n c (by simpa only [ACode.free] using hf) _ _ _ _ _ h1
   split at h
   ·rename_i hid
    simp at h; obtain ⟨rfl, rfl⟩ := h
    exact ⟨e1, fun lim2 H2 => by simp only [a1, hid, if_true]⟩
   ·rename_i hid
    simp at h; obtain ⟨rfl, rfl⟩ := h
    exact ⟨e1, fun lim2 H2 => by simp only [a1, hid, if_false]⟩
  ·rename_i hne
   obtain ⟨e1, a1⟩ := free_exec hR n c (by simpa only [ACode.free] using hf) _ _ _ _ _ h
   refine ⟨e1, fun lim2 H2 => ?_⟩
   rw [a1]
   split
   ·rename_i id' s2 h2
    simp at h2; obtain ⟨rfl, rfl⟩ := h2
    exact absurd h (hne _ _)
   ·rfl
 | .loop c, hf, lim, T, H, ex, s', h => by
  simp only [exec] at h ⊢
  exact free_loop (f := fun lim => exec R lim n c) (fun lim T H ex s' => free_exec hR n c (by simpa only [ACode.free] using hf) lim T H ex s') n T H ex s' h
theorem free_res : ∀ (rs : List ARes) (T : List AVal) (H : Heap) (vs : List AVal), (rs.all fun | .tmp _ => true | .cell _ _ => false) = true → resAll ⟨T, H⟩ rs = some vs → ∀ H2, resAll ⟨T, H2⟩ rs = some vs
 | [], T, H, vs, _, h, H2 => by simpa [resAll] using h
 | .tmp t :: rs, T, H, vs, hf, h, H2 => by
  simp only [List.all_cons, Bool.true_and] at hf
  simp only [resAll, resOf] at h ⊢
  split at h <;> simp at h
  rename_i v vs1 hv hvs
  simp at hv; subst hv
  rw [free_res rs T H vs1 hf hvs H2]
  simp [h]
 | .cell _ _ :: rs, T, H, vs, hf, h, H2 => by simp at hf
theorem free_run {ap : FuncId → Option AFn} (hS : ∀ f, S f = true → ∃ af, ap f = some af ∧ FreeFn S af) : ∀ (n : Nat) (f : FuncId) (args : List AVal), S f = true → FreeOut fun lim H => runT ap n lim (.fn f) args H
 | 0, f, args, _ => fun lim H v H' h => by simp [runT] at h
 | n + 1, f, args, hf => fun lim H v H' h => by
  obtain ⟨af, haf, hfree⟩ := hS f hf
  simp only [runT, haf] at h ⊢
  cases af with
  | prim g => exact hfree args lim H v H' h
  | code af =>
   simp only [FreeFn, AFunc.free, Bool.and_eq_true] at hfree
   simp only at h ⊢
   split at h
   ·simp at h
   ·rename_i ex s hne hex
    obtain ⟨e1, a1⟩ := free_exec (fun f args hf => free_run hS n f args hf) n af.body hfree.1 _ _ _ _ _ hex
    unfold leaveF at h
    rw [Option.map_eq_some_iff] at h
    obtain ⟨vs, hvs, h2⟩ := h
    simp at h2; obtain ⟨rfl, rfl⟩ := h2
    refine ⟨e1, fun lim2 H2 => ?_⟩
    rw [a1]
    have hr : leaveF af ⟨s.tmps, H2⟩ = some (oneOr vs, H2) := by
     unfold leaveF
     rw [free_res af.results s.tmps s.H vs hfree.2 hvs H2]
     rfl
    cases ex with
    | norm => exact hr
    | ret => exact hr
    | exit id => exact (hne id rfl).elim
   ·simp at h
end
end Go.Ahs
