/- All outcomes of drawn code, the settled part being run by the fast machine. -/
import Derived.Test.YtnlimogbokkfpaaGreatChsP7
import Derived.Test.YtnlimogbokkfpaaGreatChsF2
set_option linter.unusedSimpArgs false
set_option linter.unusedVariables false
namespace Go.Ahs
section
variable {RF R : Caller} {RP : CallerP} {lim0 lim n : Nat}
theorem detP_le (hR : LeR RF R) {o : AOper} {s : PSt} {K : PSt → Prop} (h : detP RF lim o s K) : detP R lim o s K := by
 obtain ⟨s1, h1, h2⟩ := h
 exact ⟨s1, execOp_le hR o _ _ h1, h2⟩
theorem opP_le (hR : LeR RF R) {o : AOper} {s : PSt} {K K' : PSt → Prop} (hRm : ∀ lim0 lim tg args H (K K' : AVal → Heap → Prop), (∀ v H, K v H → K' v H) → RP lim0 lim tg args H K → RP lim0 lim tg args H K') (hK : ∀ t, K t → K' t) (h : opP RF RP lim0 lim o s K) : opP R RP lim0 lim o s K' := by
 have det : detP RF lim o s K → detP R lim o s K' := fun h => by
  obtain ⟨s1, h1, h2⟩ := detP_le hR h
  exact ⟨s1, h1, hK _ h2⟩
 have call : ∀ {f args}, callP RP lim0 lim o f args s K → callP RP lim0 lim o f args s K' := fun ⟨h1, h2, h3⟩ => ⟨h1, h2, hRm _ _ _ _ _ _ _ (fun v H h => hK _ h) h3⟩
 unfold opP at h ⊢
 split at h
 ·obtain ⟨h1, h2, h3⟩ := h
  refine ⟨h1, h2, ?_⟩
  split at h3
  ·exact fun r => hK _ (h3 r)
  ·obtain ⟨es, cl, q1, q2, q3⟩ := h3
   exact ⟨es, cl, q1, q2, fun r => hK _ (q3 r)⟩
  ·exact h3.elim
 ·obtain ⟨h1, it, h2, h3, h4, h5⟩ := h
  exact ⟨h1, it, h2, h3, fun e => hK _ (h4 e), fun k v rest hp => hK _ (h5 k v rest hp)⟩
 ·obtain ⟨h1, it, k, v, h2, h3, h4, h5⟩ := h
  exact ⟨h1, it, k, v, h2, h3, h4, hK _ h5⟩
 ·rcases h with h | ⟨h1, it, b, H', q1, q2, q3, q4, q5, q6⟩
  ·exact .inl (det h)
  ·exact .inr ⟨h1, it, b, H', q1, q2, q3, q4, q5, hK _ q6⟩
 ·rcases h with h | h
  ·exact .inl (det h)
  ·exact .inr (call h)
 ·rcases h with h | h
  ·exact .inl (det h)
  ·refine .inr ?_
   split at h
   ·exact call h
   ·exact h.elim
 ·exact det h
def MonoP (RP : CallerP) : Prop := ∀ lim0 lim tg args H (K K' : AVal → Heap → Prop), (∀ v H, K v H → K' v H) → RP lim0 lim tg args H K → RP lim0 lim tg args H K'
theorem opsP_le (hR : LeR RF R) (hRm : MonoP RP) : ∀ (os : List AOper) {s : PSt} {K K' : PSt → Prop}, (∀ t, K t → K' t) → opsP RF RP lim0 lim os s K → opsP R RP lim0 lim os s K'
 | [], s, K, K', hK, h => hK _ h
 | o :: os, s, K, K', hK, h => opP_le hR hRm (fun t h => opsP_le hR hRm os hK h) h
theorem loopP_le {b b' : PSt → KP → Prop} (hb : ∀ (s : PSt) (K K' : KP), (∀ ex t, K ex t → K' ex t) → b s K → b' s K') : ∀ (m : Nat) {s : PSt} {K K' : KP}, (∀ ex t, K ex t → K' ex t) → loopP b m s K → loopP b' m s K'
 | 0, s, K, K', _, h => h
 | m + 1, s, K, K', hK, h => by
  unfold loopP at h ⊢
  refine hb _ _ _ (fun ex t h => ?_) h
  cases ex with
  | norm => exact loopP_le hb m hK h
  | exit id => exact hK _ _ h
  | ret => exact hK _ _ h
theorem execP_le (hR : LeR RF R) (hRm : MonoP RP) : ∀ (c : ACode) {s : PSt} {K K' : KP}, (∀ ex t, K ex t → K' ex t) → execP RF RP lim0 lim n c s K → execP R RP lim0 lim n c s K'
 | .skip, s, K, K', hK, h => hK _ _ h
 | .exit id, s, K, K', hK, h => hK _ _ h
 | .ret, s, K, K', hK, h => hK _ _ h
 | .region ops, s, K, K', hK, h => by
  rcases h with ⟨s1, h1, h2⟩ | ⟨h1, h2⟩
  ·exact .inl ⟨s1, execOps_le hR ops _ _ h1, hK _ _ h2⟩
  ·exact .inr ⟨h1, opsP_le hR hRm ops (fun t h => hK _ _ h) h2⟩
 | .seq a b, s, K, K', hK, h => by
  refine execP_le hR hRm a (fun ex t h => ?_) h
  cases ex with
  | norm => exact execP_le hR hRm b hK h
  | exit id => exact hK _ _ h
  | ret => exact hK _ _ h
 | .cond c a b, s, K, K', hK, h => by
  obtain ⟨t, h1, h2, h3⟩ := h
  exact ⟨t, h1, fun e => execP_le hR hRm a hK (h2 e), fun e => execP_le hR hRm b hK (h3 e)⟩
 | .block id c, s, K, K', hK, h => by
  refine execP_le hR hRm c (fun ex t h => ?_) h
  cases ex with
  | norm => exact hK _ _ h
  | exit i =>
   simp only at h ⊢
   split at h
   ·rename_i e; rw [if_pos e]; exact hK _ _ h
   ·rename_i e; rw [if_neg e]; exact hK _ _ h
  | ret => exact hK _ _ h
 | .loop c, s, K, K', hK, h => by
  replace h : loopP (execP RF RP lim0 lim n c) n s K := h
  show loopP (execP R RP lim0 lim n c) n s K'
  exact loopP_le (b := execP RF RP lim0 lim n c) (b' := execP R RP lim0 lim n c) (fun s K K' hK h => execP_le hR hRm c hK h) n hK h
 | .ranges g ps asg body, s, K, K', hK, h => by
  obtain ⟨h1, h2, h3⟩ := h
  refine ⟨h1, h2, ?_⟩
  split at h3
  ·refine hRm _ _ _ _ _ _ _ (fun v H h => ?_) h3
   split at h
   ·exact hK _ _ h
   ·exact hK _ _ h
   ·exact h.elim
  ·exact h3.elim
theorem funP_le (hR : LeR RF R) (hRm : MonoP RP) {af : AFunc} {args : List AVal} {H : Heap} {K : AVal → Heap → Prop} (h : funP RF RP lim0 lim n af args H K) : funP R RP lim0 lim n af args H K := execP_le hR hRm af.body (fun _ _ h => h) h
end
theorem leR_refl (R : Caller) : LeR R R := fun _ _ _ _ => .refl _
theorem runP_mono (ap : FuncId → Option AFn) (dp : FuncId → Option AFunc) : ∀ n, MonoP (runP ap dp n)
 | 0 => fun _ _ _ _ _ _ _ _ h => h
 | n + 1 => fun lim0 lim tg args H K K' hK h => by
  rcases h with ⟨v, H', h1, h2⟩ | ⟨f, af, h1, h2, h3⟩
  ·exact .inl ⟨v, H', h1, hK _ _ h2⟩
  ·refine .inr ⟨f, af, h1, h2, ?_⟩
   refine execP_le (leR_refl _) (runP_mono ap dp n) af.body (fun ex s hk => ?_) h3
   obtain ⟨q1, v, q2, q3⟩ := hk
   exact ⟨q1, v, q2, hK _ _ q3⟩
noncomputable def runAF (fp : Nat → Option AFn) (dp : FuncId → Option AFunc) : Nat → CallerA := @Nat.rec (fun _ => CallerA) (fun _ _ _ _ => none)
 (fun n ih lim tg args H => match tg with
  | .fn f => match dp f with
   | some af => funA (fun f => (dp f).isSome) (runFT fp n) ih lim n af args H
   | none => (runFT fp (Nat.succ n) lim (.fn f) args H).map fun p => [p]
  | .yl b => (runFT fp (Nat.succ n) lim (.yl b) args H).map fun p => [p])
section
variable {fp : Nat → Option AFn} {ap : FuncId → Option AFn} {dp : FuncId → Option AFunc}
theorem runAF_sound (hfp : ∀ f, Le (fp f) (ap f)) (hok : ∀ f af, fp f = some af → okF af = true) : ∀ n, SoundA (runAF fp dp n) (runP ap dp n)
 | 0 => fun lim0 lim tg args H outs h => by simp [runAF] at h
 | n + 1 => fun lim0 lim tg args H outs h K hk => by
  have det : (runFT fp (n + 1) lim tg args H).map (fun p => [p]) = some outs → runP ap dp (n + 1) lim0 lim tg args H K := by
   intro h
   rw [Option.map_eq_some_iff] at h
   obtain ⟨p, h1, h2⟩ := h
   subst h2
   exact .inl ⟨p.1, p.2, runFT_le hfp hok (n + 1) _ _ _ _ _ h1, hk _ (by simp)⟩
  cases tg with
  | yl b => exact det h
  | fn f =>
   replace h : (match dp f with
    | some af => funA (fun f => (dp f).isSome) (runFT fp n) (runAF fp dp n) lim n af args H
    | none => (runFT fp (n + 1) lim (.fn f) args H).map fun p => [p]) = some outs := h
   split at h
   ·rename_i af haf
    exact .inr ⟨f, af, rfl, haf, funP_le (runFT_le hfp hok n) (runP_mono ap dp n) (funA_sound (runAF_sound hfp hok n) h hk)⟩
   ·exact det h
theorem keeps_le {RF R : Caller} (hR : LeR RF R) (hk : Keeps R) : Keeps RF := fun lim f args H v H' hl h => hk lim f args H v H' hl (hR _ _ _ _ _ h)
theorem runAF_keep {P : Program} (hap : ∀ f af, ap f = some af → FnOK P f af) (hfp : ∀ f, Le (fp f) (ap f)) (hok : ∀ f af, fp f = some af → okF af = true) : ∀ n, KeepsA (runAF fp dp n)
 | 0 => fun lim tg args H outs hl h => by simp [runAF] at h
 | n + 1 => fun lim tg args H outs hl h p hp => by
  have hk : ∀ m, Keeps (runFT fp m) := fun m => keeps_le (runFT_le hfp hok m) (run_keeps hap m)
  have det : (runFT fp (n + 1) lim tg args H).map (fun p => [p]) = some outs → H.next ≤ p.2.next ∧ ∀ b, b < lim → p.2.get b = H.get b := by
   intro h
   rw [Option.map_eq_some_iff] at h
   obtain ⟨q, h1, h2⟩ := h
   subst h2
   simp at hp; subst hp
   exact hk (n + 1) _ _ _ _ _ _ hl h1
  cases tg with
  | yl b => exact det h
  | fn f =>
   replace h : (match dp f with
    | some af => funA (fun f => (dp f).isSome) (runFT fp n) (runAF fp dp n) lim n af args H
    | none => (runFT fp (n + 1) lim (.fn f) args H).map fun p => [p]) = some outs := h
   split at h
   ·rename_i af haf
    exact funA_keep (hk n) (runAF_keep hap hfp hok n) hl h p hp
   ·exact det h
noncomputable def primF (fp : Nat → Option AFn) (dp : FuncId → Option AFunc) (n : Nat) (f : FuncId) : Nat → List AVal → Heap → Option (AVal × Heap) :=
 fun _ args H => match runAF fp dp n H.next (.fn f) args H with
  | some l => joinA H l
  | none => none
theorem primF_ok {P : Program} (hP : P.follows .mixedOrders = true) (hap : ∀ f af, ap f = some af → FnOK P f af) (hdp : DpOK P dp) (hfp : ∀ f, Le (fp f) (ap f)) (hok : ∀ f af, fp f = some af → okF af = true) (n : Nat) {f : FuncId} {af : AFunc} (hf : dp f = some af) : PrimOK P f (primF fp dp n f) := by
 have key : ∀ {args : List AVal} {H : Heap} {v : AVal} {H' : Heap} {lim : Nat}, primF fp dp n f lim args H = some (v, H') → ∃ l, runAF fp dp n H.next (.fn f) args H = some l ∧ (∀ b, b < H.next → H'.get b = H.get b) ∧ H.next ≤ H'.next ∧ ∀ p ∈ l, p.1 = v ∧ Forget H.next p.2 H' := by
  intro args H v H' lim h
  unfold primF at h
  split at h
  case h_2 => simp at h
  rename_i l hl
  exact ⟨l, hl, joinA_ok (runAF_keep hap hfp hok n _ _ _ _ _ (Nat.le_refl _) hl) h⟩
 refine PrimOK.drawn hP hap hdp hf (fun lim args H v H' hl h => ?_) fun lim args H v H' hl h => ?_
 ·obtain ⟨l, _, h1, h2, _⟩ := key h
  exact ⟨h2, fun b hb => h1 b (by omega)⟩
 ·obtain ⟨l, h1, _, _, h3⟩ := key h
  exact ⟨n, runAF_sound hfp hok n lim H.next (.fn f) args H l h1 _ h3⟩
end
theorem tree_le {l : List (Nat × AFn)} (k : Nat) : ∀ f, Le ((TF.mk l k 0 1).get f) (tab l f) := fun f => by
 have := TF.get_mk l k 0 1 f
 simpa [tab] using this
theorem tree_ok {l : List (Nat × AFn)} (k : Nat) (hok : l.all (fun p => okF p.2) = true) : ∀ f af, (TF.mk l k 0 1).get f = some af → okF af = true := fun f af e => lookup_ok hok f af (tree_le k f _ e)
end Go.Ahs
