/- Code, functions, calls. -/
import Derived.Test.YtpefhojmfcenfaaAhsA17
set_option linter.unusedSimpArgs false
set_option linter.unusedVariables false
namespace Go.Ahs

/-- How many have not been done. -/
def cnt (S : Nat → Bool) : Nat → Nat
  | 0 => 0
  | n + 1 => cnt S n + (if S n then 0 else 1)

theorem cnt_ins_ge (S : Nat → Bool) (k : Nat) : ∀ n, n ≤ k → cnt (ins S k) n = cnt S n
  | 0, _ => rfl
  | n + 1, h => by
    simp only [cnt, cnt_ins_ge S k n (by omega)]
    have : ins S k n = S n := by unfold ins; rw [if_neg (by omega)]
    rw [this]

theorem cnt_ins (S : Nat → Bool) (k : Nat) (hk : S k = false) : ∀ n, k < n → cnt (ins S k) n + 1 = cnt S n
  | 0, h => by omega
  | n + 1, h => by
    simp only [cnt]
    by_cases e : k = n
    · subst e
      rw [cnt_ins_ge S k k (Nat.le_refl _), hk]
      have : ins S k k = true := by simp [ins]
      simp [this]
    · have : ins S k n = S n := by unfold ins; rw [if_neg (by omega)]
      have ih := cnt_ins S k hk n (by omega)
      rw [this]; omega

theorem cnt_zero (S : Nat → Bool) : ∀ n, cnt S n = 0 → ∀ i, i < n → S i = true
  | 0, _, i, h => by omega
  | n + 1, h, i, hi => by
    simp only [cnt] at h
    by_cases e : i = n
    · subst e
      cases hs : S i with
      | true => rfl
      | false => rw [hs] at h; simp at h
    · exact cnt_zero S n (by omega) i (by omega)

theorem cnt_false : ∀ n, cnt (fun _ => false) n = n
  | 0 => rfl
  | n + 1 => by simp [cnt, cnt_false n]

section
variable {P : Program} {n0 lim : Nat} {R : Caller} {ops : Array Oper} {l0 l : List AOper} {st : Nat → St} {vs : Nat → AVal}

theorem mem_ready {listed : Array Bool} {i : Nat} : i ∈ Region.ready .any ops listed ↔ i < ops.size ∧ listed.getD i true = false ∧ ∀ (o : Oper) (e : Edge), ops[i]? = some o → e ∈ o.after → Region.binds .any e = true → listed.getD e.on false = true := by
  unfold Region.ready
  rw [List.mem_filter, List.mem_range]
  constructor
  · rintro ⟨h1, h2⟩
    simp only [Bool.and_eq_true, Bool.not_eq_true'] at h2
    refine ⟨h1, h2.1, fun o e ho he hb => ?_⟩
    have h3 := h2.2
    rw [ho] at h3
    simp only [Option.map_some, Option.getD_some] at h3
    rw [Array.all_eq_true_iff_forall_mem] at h3
    have := h3 e he
    simpa [hb] using this
  · rintro ⟨h1, h2, h3⟩
    refine ⟨h1, ?_⟩
    simp only [Bool.and_eq_true, Bool.not_eq_true']
    refine ⟨h2, ?_⟩
    rw [Array.getElem?_eq_getElem h1]
    simp only [Option.map_some, Option.getD_some]
    rw [Array.all_eq_true_iff_forall_mem]
    intro e he
    cases hb : Region.binds .any e with
    | false => simp
    | true => simpa using h3 ops[i] e (by simp [h1]) he hb

theorem Run.any (h : Run P R lim ops l0 l st vs) (hl : n0 ≤ lim) {ρ0 : Mp} {a0 : Act} {w0 : World} (hf0 : ∀ b, (st 0).H.next ≤ b → b < (st ops.size).H.next → ρ0 b = none) {Q : Exit → Act → World → Prop}
    (hQ : ∀ ρ a w, LRel ρ (st ops.size).tmps a.tmps.toList → a.defers = a0.defers → Rel n0 ρ (st ops.size).H w → Fr lim ρ0 (st 0).H.next (st ops.size).H.next w0 ρ w → Q .normal a w) :
    ∀ (fuel : Nat) (listed : Array Bool) (S : Nat → Bool) (ρ : Mp) (a : Act) (w : World), listed.size = ops.size → (∀ i, i < ops.size → listed.getD i true = S i ∧ listed.getD i false = S i) → cnt S ops.size ≤ fuel →
      Inv P n0 lim ops l st vs ρ0 a0 w0 S ρ a w → wpAny P .any ops Q fuel listed a w := by
  have fin : ∀ (S : Nat → Bool) ρ a w, (∀ i, i < ops.size → S i = true) → Inv P n0 lim ops l st vs ρ0 a0 w0 S ρ a w → Q .normal a w := by
    intro S ρ a w hall I
    obtain ⟨q, hq, _, hq2, _, hrel⟩ := I.heap
    have : q = ops.size := by
      rcases Nat.lt_or_ge q ops.size with g | g
      · have := (hq2 g).2; rw [hall q g] at this; simp at this
      · omega
    subst this
    refine hQ ρ a w ?_ I.df hrel I.fr
    have e : foldT l vs (st 0).tmps S ops.size = (st ops.size).tmps := by
      have full : ∀ n, n ≤ ops.size → foldT l vs (st 0).tmps (fun _ => true) n = (st n).tmps := by
        intro n
        induction n with
        | zero => intro _; rfl
        | succ n ih =>
          intro hn
          obtain ⟨on, hon⟩ : ∃ on, l[n]? = some on := ⟨l[n]'(by rw [h.ok.len]; omega), List.getElem?_eq_getElem _⟩
          simp only [foldT, if_true, hon]
          rw [ih (by omega), (h.one n on hon).2]
      rw [← full ops.size (Nat.le_refl _)]
      apply List.ext_getElem?
      intro t
      exact foldT_agree l vs (st 0).tmps t S (fun _ => true) ops.size fun j hj _ _ _ => hall j hj
    rw [← e]; exact I.tm
  have empty : ∀ (listed : Array Bool) (S : Nat → Bool), (∀ i, i < ops.size → listed.getD i true = S i ∧ listed.getD i false = S i) → Region.ready .any ops listed = [] → ∀ i, i < ops.size → S i = true := by
    intro listed S hls hr i
    induction i using Nat.strongRecOn with
    | _ i ih =>
      intro hi
      cases hs : S i with
      | true => rfl
      | false =>
        exfalso
        have : i ∈ Region.ready .any ops listed := by
          rw [mem_ready]
          refine ⟨hi, by rw [(hls i hi).1]; exact hs, fun o e ho he hb => ?_⟩
          have hlt := h.ok.edges i o e ho he hb
          rw [(hls e.on (by omega)).2]
          exact ih e.on hlt (by omega)
        rw [hr] at this; simp at this
  intro fuel
  induction fuel with
  | zero =>
    intro listed S ρ a w hsz hls hc I
    have hall := cnt_zero S ops.size (by omega)
    refine ⟨?_, fin S ρ a w hall I⟩
    apply List.eq_nil_iff_forall_not_mem.2
    intro i hi
    rw [mem_ready] at hi
    rw [(hls i hi.1).1, hall i hi.1] at hi
    simp at hi
  | succ fuel ih =>
    intro listed S ρ a w hsz hls hc I
    refine ⟨fun hr => fin S ρ a w (empty listed S hls hr) I, ?_⟩
    intro k hk
    rw [mem_ready] at hk
    obtain ⟨hk1, hk2, hk3⟩ := hk
    have hS : S k = false := by rw [← (hls k hk1).1]; exact hk2
    refine h.step hl hf0 I hk1 hS (fun o e ho he hb => ?_) ?_
    · have hlt := h.ok.edges k o e ho he hb
      rw [← (hls e.on (by omega)).2]
      exact hk3 o e ho he hb
    · intro ρ' a' w' I'
      refine ih (listed.setIfInBounds k true) (ins S k) ρ' a' w' (by simp [hsz]) (fun i hi => ?_) ?_ I'
      · simp only [Array.getD_eq_getD_getElem?, Array.getElem?_setIfInBounds]
        unfold ins
        by_cases e : k = i
        · subst e; simp [hsz, hi]
        · rw [if_neg e, if_neg (Ne.symm e)]
          have := hls i hi
          simpa [Array.getD_eq_getD_getElem?] using this
      · have := cnt_ins S k hS ops.size hk1; omega

theorem region_sim (hP : P.follows .mixedOrders = true) (hR : CallSim P R) (hRk : Keeps R) (hl : n0 ≤ lim) {id : Nat} {draw : Bool} {l : List AOper} (hc : compRegion P ops draw = some l) {s s' : St} (h : execOps R lim l s = some s')
    {ρ : Mp} {a : Act} {w : World} (hlim : lim ≤ s.H.next) (hfr : ∀ b, s.H.next ≤ b → b < s'.H.next → ρ b = none) (hr : Rel n0 ρ s.H w) (ht : LRel ρ s.tmps a.tmps.toList) {Q : Exit → Act → World → Prop}
    (hQ : ∀ ρ' a' w', Post n0 lim ρ s.H w ρ' s'.H w' → LRel ρ' s'.tmps a'.tmps.toList → a'.defers = a.defers → Q .normal a' w') : (Code.region id ops draw).wp P Q a w := by
  cases draw with
  | false =>
    have hc' : allSome (compOper P ops) ops.toList = some l := by
      unfold compRegion at hc
      split at hc
      · rename_i l' hl'
        simp at hc; subst hc; exact hl'
      · simp at hc
    refine wp_region ?_
    rw [List.range_eq_range']
    exact ops_plain hR hRk hl hc' ops.size 0 s s' ρ a w (by omega) (by simpa using h) hlim hfr hr ht hQ
  | true =>
    obtain ⟨l0, ok⟩ := DrawOK.of hc
    obtain ⟨st, vs, e0, e1, hone⟩ := trace l s s' h
    rw [ok.len] at e1
    subst e0
    have hrun : Run P R lim ops l0 l st vs := ⟨ok, hone, hRk, hR, hlim⟩
    refine wp_region_any hP ?_
    have hr' : Rel n0 ρ (st 0).H { w with drawn := w.drawn + 1 } := hr.heap_eq rfl
    have hfr' : ∀ b, (st 0).H.next ≤ b → b < (st ops.size).H.next → ρ b = none := fun b g1 g2 => hfr b g1 (by rw [← e1]; exact g2)
    refine hrun.any hl hfr' ?_ ops.size _ (fun _ => false) ρ a _ (by simp) (fun i hi => by simp [Array.getD_eq_getD_getElem?, hi]) (by rw [cnt_false]; exact Nat.le_refl _) (hrun.start hr' ht hfr')
    intro ρ' a' w' t1 t2 t3 t4
    have hk := execOps_next hRk l (st 0) s' hlim h
    refine hQ ρ' a' w' ?_ (by rw [← e1]; exact t1) t2
    rw [← e1] at hk ⊢
    exact ⟨t3, t4.ext, t4.new, t4.frame, t4.size, hk.2, hk.1, t4.rest⟩

/-- How an exit of the abstract machine's is spelled in the model. -/
def toExit : Ex → Exit
  | .norm => .normal
  | .exit id => .exit id
  | .ret => .ret

theorem loopN_keep {body : St → Option (Ex × St)} (hb : ∀ s ex s', lim ≤ s.H.next → body s = some (ex, s') → s.H.next ≤ s'.H.next ∧ ∀ b, b < lim → s'.H.get b = s.H.get b) :
    ∀ n s ex s', lim ≤ s.H.next → loopN body n s = some (ex, s') → s.H.next ≤ s'.H.next ∧ ∀ b, b < lim → s'.H.get b = s.H.get b
  | 0, s, ex, s', _, h => by simp [loopN] at h
  | n + 1, s, ex, s', hl, h => by
    unfold loopN at h
    split at h
    · rename_i s1 h1
      obtain ⟨k1, k2⟩ := hb s _ s1 hl h1
      obtain ⟨r1, r2⟩ := loopN_keep hb n s1 ex s' (by omega) h
      exact ⟨by omega, fun b hb' => (r2 b hb').trans (k2 b hb')⟩
    · exact hb s ex s' hl h

theorem exec_keep (hRk : Keeps R) (n : Nat) : ∀ (c : ACode) (s : St) (ex : Ex) (s' : St), lim ≤ s.H.next → exec R lim n c s = some (ex, s') → s.H.next ≤ s'.H.next ∧ ∀ b, b < lim → s'.H.get b = s.H.get b
  | .skip, s, ex, s', _, h => by simp [exec] at h; obtain ⟨rfl, rfl⟩ := h; exact ⟨Nat.le_refl _, fun _ _ => rfl⟩
  | .region ops, s, ex, s', hl, h => by
    simp only [exec, Option.map_eq_some_iff] at h
    obtain ⟨s1, h1, h2⟩ := h
    simp at h2; obtain ⟨rfl, rfl⟩ := h2
    exact execOps_next hRk ops s s1 hl h1
  | .seq a b, s, ex, s', hl, h => by
    simp only [exec] at h
    split at h
    · rename_i s1 h1
      obtain ⟨k1, k2⟩ := exec_keep hRk n a s _ s1 hl h1
      obtain ⟨r1, r2⟩ := exec_keep hRk n b s1 ex s' (by omega) h
      exact ⟨by omega, fun x hx => (r2 x hx).trans (k2 x hx)⟩
    · exact exec_keep hRk n a s ex s' hl h
  | .cond c a b, s, ex, s', hl, h => by
    simp only [exec] at h
    split at h
    · split at h
      · exact exec_keep hRk n a s ex s' hl h
      · exact exec_keep hRk n b s ex s' hl h
    · simp at h
  | .block id c, s, ex, s', hl, h => by
    simp only [exec] at h
    split at h
    · rename_i id' s1 h1
      have := exec_keep hRk n c s _ s1 hl h1
      split at h <;> simp at h <;> obtain ⟨rfl, rfl⟩ := h <;> exact this
    · exact exec_keep hRk n c s ex s' hl h
  | .loop c, s, ex, s', hl, h => by
    simp only [exec] at h
    exact loopN_keep (fun s ex s' => exec_keep hRk n c s ex s') n s ex s' hl h
  | .exit id, s, ex, s', _, h => by simp [exec] at h; obtain ⟨rfl, rfl⟩ := h; exact ⟨Nat.le_refl _, fun _ _ => rfl⟩
  | .ret, s, ex, s', _, h => by simp [exec] at h; obtain ⟨rfl, rfl⟩ := h; exact ⟨Nat.le_refl _, fun _ _ => rfl⟩

/-- What is to be shown of a piece of code. -/
def CodeSim (P : Program) (n0 lim : Nat) (c : Code) (f : St → Option (Ex × St)) : Prop :=
  ∀ (s : St) (ex : Ex) (s' : St), f s = some (ex, s') → ∀ (ρ : Mp) (a : Act) (w : World), lim ≤ s.H.next → (∀ b, s.H.next ≤ b → b < s'.H.next → ρ b = none) → Rel n0 ρ s.H w → LRel ρ s.tmps a.tmps.toList →
    ∀ (Q : Exit → Act → World → Prop), (∀ ρ' a' w', Post n0 lim ρ s.H w ρ' s'.H w' → LRel ρ' s'.tmps a'.tmps.toList → a'.defers = a.defers → Q (toExit ex) a' w') → c.wp P Q a w

theorem Post.fresh {ρ ρ1 : Mp} {H H1 : Heap} {w w1 : World} {nx : Nat} (hp : Post n0 lim ρ H w ρ1 H1 w1) (hfr : ∀ b, H.next ≤ b → b < nx → ρ b = none) : ∀ b, H1.next ≤ b → b < nx → ρ1 b = none := by
  intro b g1 g2
  cases hb : ρ1 b with
  | none => rfl
  | some L =>
    exfalso
    have := hp.next
    have hn := hfr b (by omega) g2
    have := hp.new b L hn hb
    omega

theorem loop_sim (hl : n0 ≤ lim) {c : Code} {body : St → Option (Ex × St)} (hb : CodeSim P n0 lim c body) (hk : ∀ s ex s', lim ≤ s.H.next → body s = some (ex, s') → s.H.next ≤ s'.H.next ∧ ∀ b, b < lim → s'.H.get b = s.H.get b) :
    ∀ (n : Nat) (s : St) (ex : Ex) (s' : St), loopN body n s = some (ex, s') → ∀ (ρ : Mp) (a : Act) (w : World), lim ≤ s.H.next → (∀ b, s.H.next ≤ b → b < s'.H.next → ρ b = none) → Rel n0 ρ s.H w → LRel ρ s.tmps a.tmps.toList →
      ∀ (Q : Exit → Act → World → Prop), (∀ ρ' a' w', Post n0 lim ρ s.H w ρ' s'.H w' → LRel ρ' s'.tmps a'.tmps.toList → a'.defers = a.defers → Q (toExit ex) a' w') → Code.rounds P c Q n a w
  | 0, s, ex, s', h => by simp [loopN] at h
  | n + 1, s, ex, s', h => by
    intro ρ a w hlim hfr hr ht Q hQ
    unfold loopN at h
    rw [rounds_succ]
    split at h
    · rename_i s1 h1
      obtain ⟨k1, _⟩ := hk s _ s1 hlim h1
      have k2 := (loopN_keep hk n s1 ex s' (by omega) h).1
      refine hb s .norm s1 h1 ρ a w hlim (fun b g1 g2 => hfr b g1 (by omega)) hr ht _ ?_
      intro ρ1 a1 w1 hp1 ht1 hd1
      show Code.rounds P c Q n a1 w1
      refine loop_sim hl hb hk n s1 ex s' h ρ1 a1 w1 (by omega) (hp1.fresh hfr) hp1.rel ht1 Q ?_
      intro ρ2 a2 w2 hp2 ht2 hd2
      exact hQ ρ2 a2 w2 (hp1.trans (Nat.le_refl _) hfr hp2) ht2 (hd2.trans hd1)
    · rename_i hne
      refine hb s ex s' h ρ a w hlim hfr hr ht _ ?_
      intro ρ1 a1 w1 hp1 ht1 hd1
      have hq := hQ ρ1 a1 w1 hp1 ht1 hd1
      cases ex with
      | norm => exact absurd h (hne s')
      | exit id => exact hq
      | ret => exact hq

theorem exec_sim (hP : P.follows .mixedOrders = true) (hR : CallSim P R) (hRk : Keeps R) (hl : n0 ≤ lim) (n : Nat) : ∀ (c : Code) (ac : ACode), compCode P c = some ac → CodeSim P n0 lim c (exec R lim n ac)
  | .skip, ac, hc => by
    simp [compCode] at hc; subst hc
    intro s ex s' h ρ a w hlim hfr hr ht Q hQ
    simp [exec] at h; obtain ⟨rfl, rfl⟩ := h
    exact wp_skip (hQ ρ a w (.refl hr) ht rfl)
  | .region id ops draw, ac, hc => by
    simp only [compCode, Option.map_eq_some_iff] at hc
    obtain ⟨l, hl', rfl⟩ := hc
    intro s ex s' h ρ a w hlim hfr hr ht Q hQ
    simp only [exec, Option.map_eq_some_iff] at h
    obtain ⟨s1, h1, h2⟩ := h
    simp at h2; obtain ⟨rfl, rfl⟩ := h2
    exact region_sim hP hR hRk hl hl' h1 hlim hfr hr ht hQ
  | .seq x y, ac, hc => by
    simp only [compCode] at hc
    split at hc <;> simp at hc
    rename_i x' y' hx hy
    subst hc
    intro s ex s' h ρ a w hlim hfr hr ht Q hQ
    simp only [exec] at h
    refine wp_seq ?_
    split at h
    · rename_i s1 h1
      obtain ⟨k1, _⟩ := exec_keep hRk n x' s _ s1 hlim h1
      obtain ⟨k2, _⟩ := exec_keep hRk n y' s1 ex s' (by omega) h
      refine exec_sim hP hR hRk hl n x x' hx s .norm s1 h1 ρ a w hlim (fun b g1 g2 => hfr b g1 (by omega)) hr ht _ ?_
      intro ρ1 a1 w1 hp1 ht1 hd1
      show y.wp P Q a1 w1
      refine exec_sim hP hR hRk hl n y y' hy s1 ex s' h ρ1 a1 w1 (by omega) (hp1.fresh hfr) hp1.rel ht1 Q ?_
      intro ρ2 a2 w2 hp2 ht2 hd2
      exact hQ ρ2 a2 w2 (hp1.trans (Nat.le_refl _) hfr hp2) ht2 (hd2.trans hd1)
    · rename_i hne
      refine exec_sim hP hR hRk hl n x x' hx s ex s' h ρ a w hlim hfr hr ht _ ?_
      intro ρ1 a1 w1 hp1 ht1 hd1
      have hq := hQ ρ1 a1 w1 hp1 ht1 hd1
      cases ex with
      | norm => exact absurd h (hne s')
      | exit id => exact hq
      | ret => exact hq
  | .cond c x y, ac, hc => by
    simp only [compCode] at hc
    split at hc <;> simp at hc
    rename_i c' x' y' hcc hx hy
    subst hc
    intro s ex s' h ρ a w hlim hfr hr ht Q hQ
    simp only [exec] at h
    split at h
    · rename_i t hev
      have hv := ev_rel ht _ _ hcc
      rw [hev] at hv
      have hv' := (bool_rel hv t).1 rfl
      refine wp_cond hv' ?_
      cases t with
      | true => exact exec_sim hP hR hRk hl n x x' hx s ex s' (by simpa using h) ρ a w hlim hfr hr ht Q hQ
      | false => exact exec_sim hP hR hRk hl n y y' hy s ex s' (by simpa using h) ρ a w hlim hfr hr ht Q hQ
    · simp at h
  | .block id c, ac, hc => by
    simp only [compCode, Option.map_eq_some_iff] at hc
    obtain ⟨c', hc', rfl⟩ := hc
    intro s ex s' h ρ a w hlim hfr hr ht Q hQ
    simp only [exec] at h
    refine wp_block ?_
    split at h
    · rename_i id' s1 h1
      split at h
      · rename_i hid
        simp at h; obtain ⟨rfl, rfl⟩ := h
        refine exec_sim hP hR hRk hl n c c' hc' s _ _ h1 ρ a w hlim hfr hr ht _ ?_
        intro ρ1 a1 w1 hp1 ht1 hd1
        show (if id' = id then Q .normal a1 w1 else Q (.exit id') a1 w1)
        rw [if_pos hid]
        exact hQ ρ1 a1 w1 hp1 ht1 hd1
      · rename_i hid
        simp at h; obtain ⟨rfl, rfl⟩ := h
        refine exec_sim hP hR hRk hl n c c' hc' s _ _ h1 ρ a w hlim hfr hr ht _ ?_
        intro ρ1 a1 w1 hp1 ht1 hd1
        show (if id' = id then Q .normal a1 w1 else Q (.exit id') a1 w1)
        rw [if_neg hid]
        exact hQ ρ1 a1 w1 hp1 ht1 hd1
    · rename_i hne
      refine exec_sim hP hR hRk hl n c c' hc' s ex s' h ρ a w hlim hfr hr ht _ ?_
      intro ρ1 a1 w1 hp1 ht1 hd1
      have hq := hQ ρ1 a1 w1 hp1 ht1 hd1
      cases ex with
      | norm => exact hq
      | exit id' => exact absurd h (hne id' s')
      | ret => exact hq
  | .loop c, ac, hc => by
    simp only [compCode, Option.map_eq_some_iff] at hc
    obtain ⟨c', hc', rfl⟩ := hc
    intro s ex s' h ρ a w hlim hfr hr ht Q hQ
    simp only [exec] at h
    refine wp_loop_rounds n ?_
    exact loop_sim hl (exec_sim hP hR hRk hl n c c' hc') (fun s ex s' => exec_keep hRk n c' s ex s') n s ex s' h ρ a w hlim hfr hr ht Q hQ
  | .exit id, ac, hc => by
    simp [compCode] at hc; subst hc
    intro s ex s' h ρ a w hlim hfr hr ht Q hQ
    simp [exec] at h; obtain ⟨rfl, rfl⟩ := h
    exact wp_exit (hQ ρ a w (.refl hr) ht rfl)
  | .label l, ac, hc => by
    simp [compCode] at hc; subst hc
    intro s ex s' h ρ a w hlim hfr hr ht Q hQ
    simp [exec] at h; obtain ⟨rfl, rfl⟩ := h
    exact wp_label (hQ ρ a w (.refl hr) ht rfl)
  | .ret, ac, hc => by
    simp [compCode] at hc; subst hc
    intro s ex s' h ρ a w hlim hfr hr ht Q hQ
    simp [exec] at h; obtain ⟨rfl, rfl⟩ := h
    exact wp_ret (hQ ρ a w (.refl hr) ht rfl)
  | .rangeFunc _ _ _ _, ac, hc => by simp [compCode] at hc
  | .scope _, ac, hc => by simp [compCode] at hc
  | .goto _, ac, hc => by simp [compCode] at hc
  | .refuse _, ac, hc => by simp [compCode] at hc

theorem results_sim {rs : List ResultVar} {ars : List ARes} (hc : allSome (compRes P) rs = some ars) {s : St} {ρ : Mp} {a : Act} {w : World} (hr : Rel n0 ρ s.H w) (ht : LRel ρ s.tmps a.tmps.toList) {vs : List AVal} (h : resAll s ars = some vs) :
    ∃ vs' : List Value, (rs.mapM (fun r => (match r with
      | .tmp t => Pure.pure (a.tmps.getD t undef)
      | .cell ad t => do loadVar t (← asAddr (a.tmps.getD ad undef)) : Sem Value))).run P w = .ok vs' w ∧ LRel ρ vs vs' := by
  induction rs generalizing ars vs with
  | nil =>
    simp [allSome] at hc; subst hc
    simp [resAll] at h; subst h
    exact ⟨[], rfl, LRel.nil ρ⟩
  | cons r rs ih =>
    unfold allSome at hc
    split at hc <;> simp at hc
    rename_i y ys hy hys
    subst hc
    unfold resAll at h
    split at h <;> simp at h
    rename_i v vs1 hv hvs
    subst h
    obtain ⟨vs', q1, q2⟩ := ih hys hvs
    have one : ∃ v', (match r with
      | .tmp t => Pure.pure (a.tmps.getD t undef)
      | .cell ad t => do loadVar t (← asAddr (a.tmps.getD ad undef)) : Sem Value).run P w = .ok v' w ∧ VRel ρ v v' := by
      cases r with
      | tmp t =>
        simp [compRes] at hy; subst hy
        simp [resOf] at hv; subst hv
        exact ⟨_, rfl, getD_rel ht t⟩
      | cell ad t =>
        simp [compRes] at hy
        obtain ⟨g, hg, rfl⟩ := hy
        simp only [resOf] at hv
        obtain ⟨p, v', e1, e2, e3⟩ := aload_sim (P := P) hr hg (getD_rel ht ad) hv
        exact ⟨v', by simp only [e1, asAddr, Sem.run_bind, Sem.run_pure, Result.andThen_ok, e2], e3⟩
    obtain ⟨v', o1, o2⟩ := one
    refine ⟨v' :: vs', ?_, LRel.cons o2 q2⟩
    rw [List.mapM_cons]
    simp only [Sem.run_bind, o1, Result.andThen_ok, q1, Sem.run_pure]

theorem oneOr_rel {ρ : Mp} {vs : List AVal} {vs' : List Value} (h : LRel ρ vs vs') : VRel ρ (oneOr vs) (if h : vs'.toArray.size = 1 then vs'.toArray[0] else .tuple vs'.toArray) := by
  match vs, vs' with
  | [], [] => exact VRel.tup_of (LRel.nil ρ)
  | [v], [v'] => exact h.head
  | a :: b :: vs, a' :: b' :: vs' => simpa [oneOr] using VRel.tup_of (vs := (a' :: b' :: vs').toArray) (by simpa using h)
  | [], _ :: _ => have := h.1; simp at this
  | _ :: _, [] => have := h.1; simp at this
  | [_], _ :: _ :: _ => have := h.1; simp at this
  | _ :: _ :: _, [_] => have := h.1; simp at this

variable {ap : FuncId → Option AFunc}

theorem run_keeps (ap : FuncId → Option AFunc) : ∀ n, Keeps (run ap n)
  | 0 => fun lim f args H v H' _ h => by simp [run] at h
  | n + 1 => fun lim f args H v H' hl h => by
    simp only [run] at h
    split at h
    · rename_i af haf
      split at h
      · simp at h
      · rename_i ex s hne hex
        unfold leaveF at h
        rw [Option.map_eq_some_iff] at h
        obtain ⟨vs, _, h2⟩ := h
        simp at h2; obtain ⟨rfl, rfl⟩ := h2
        exact exec_keep (run_keeps ap n) n af.body _ ex s hl hex
      · simp at h
    · simp at h

theorem run_sim (hP : P.follows .mixedOrders = true) (hap : ∀ f af, ap f = some af → compF P f = some af) : ∀ n, CallSim P (run ap n)
  | 0 => fun n0 lim f args H v H' h => by simp [run] at h
  | n + 1 => fun n0 lim f args H v H' h => by
    simp only [run] at h
    split at h
    case h_2 => simp at h
    rename_i af haf
    have hcf := hap f af haf
    unfold compF at hcf
    split at hcf
    case h_2 => simp at hcf
    rename_i fn hfn
    split at hcf
    case h_2 => simp at hcf
    rename_i c hbody
    split at hcf
    case h_2 => simp at hcf
    rename_i ac ars hac hars
    split at hcf <;> simp at hcf
    rename_i hname
    subst hcf
    refine ⟨⟨fn, hfn, by rw [hbody]; rfl, by simpa using hname⟩, ?_⟩
    intro ρ w args' hl hlim hfr hr hargs
    refine calls_of_wp hfn hbody ?_
    have hent : LRel ρ (args ++ List.replicate (fn.ntmps - args.length) und) (args' ++ Array.replicate (fn.ntmps - args'.size) undef).toList := by
      have hl : args.length = args'.size := by simpa using hargs.1
      simp only [Array.toList_append, Array.toList_replicate, hl]
      exact LRel.append hargs (LRel.replicate _ (VRel.und ρ))
    split at h
    · simp at h
    · rename_i ex s hne hex
      unfold leaveF at h
      rw [Option.map_eq_some_iff] at h
      obtain ⟨vs, hvs, h2⟩ := h
      simp at h2; obtain ⟨rfl, rfl⟩ := h2
      refine exec_sim hP (run_sim hP hap n) (run_keeps ap n) hl n c ac hac ⟨enterF { ntmps := fn.ntmps, results := ars, body := ac } args, H⟩ ex s hex ρ { tmps := args' ++ Array.replicate (fn.ntmps - args'.size) undef, defers := [] } w hlim hfr hr hent _ ?_
      intro ρ' a' w' hp ht hd
      have fin : a'.defers = [] ∧ ∃ v', (results fn a'.tmps).run P w' = .ok v' w' ∧ (∃ v'' ρ', Ending.returned v' = .returned v'' ∧ VRel ρ' (oneOr vs) v'' ∧ Post n0 lim ρ H w ρ' s.H w') := by
        refine ⟨hd, ?_⟩
        obtain ⟨vs', q1, q2⟩ := results_sim (P := P) hars hp.rel ht hvs
        refine ⟨_, ?_, _, ρ', rfl, oneOr_rel q2, hp⟩
        unfold results
        rw [Array.mapM_eq_mapM_toList]
        simp only [Sem.run_bind, Sem.run_map, Sem.run_pure]
        exact Eq.trans (congrArg (fun z => Result.andThen (Result.andThen z _) _) q1) rfl
      cases ex with
      | norm => exact fin
      | ret => exact fin
      | exit id => exact (hne id rfl).elim
    · simp at h

end
end Go.Ahs
