/- Code, functions, calls. -/
import Derived.Test.YtnlimogbokkfpaaGreatChsA17
import Derived.RangeFuncLeaves
import Derived.RangeFuncRecord
set_option linter.unusedSimpArgs false
set_option linter.unusedVariables false
namespace Go.Ahs
def cnt (S : Nat → Bool) : Nat → Nat
 | 0 => 0
 | n + 1 => cnt S n + (if S n then 0 else 1)
theorem cnt_ins_ge (S : Nat → Bool) (k : Nat) : ∀ n, n ≤ k → cnt (ins S k) n = cnt S n
 | 0, _ => rfl
 | n + 1, h => by
  simp only [cnt, cnt_ins_ge S k n (by omega)]
  have : ins S k n = S n := by unfold ins; rw [if_neg (by omega)]
  rw [this]
theorem cnt_ins (S : Nat → Bool) (k : Nat) (hk : S k = false) : ∀ n, k < n → cnt (ins S k) n + 1 = cnt S n
 | 0, h => by omega
 | n + 1, h => by
  simp only [cnt]
  by_cases e : k = n
  ·subst e
   rw [cnt_ins_ge S k k (Nat.le_refl _), hk]
   have : ins S k k = true := by simp [ins]
   simp [this]
  ·have : ins S k n = S n := by unfold ins; rw [if_neg (by omega)]
   have ih := cnt_ins S k hk n (by omega)
   rw [this]; omega
theorem cnt_zero (S : Nat → Bool) : ∀ n, cnt S n = 0 → ∀ i, i < n → S i = true
 | 0, _, i, h => by omega
 | n + 1, h, i, hi => by
  simp only [cnt] at h
  by_cases e : i = n
  ·subst e
   cases hs : S i with
   | true => rfl
   | false => rw [hs] at h; simp at h
  ·exact cnt_zero S n (by omega) i (by omega)
theorem cnt_false : ∀ n, cnt (fun _ => false) n = n
 | 0 => rfl
 | n + 1 => by simp [cnt, cnt_false n]
section
variable {P : Program} {n0 lim : Nat} {R : Caller} {ops : Array Oper} {l0 l : List AOper} {st : Nat → St} {vs : Nat → AVal}
theorem mem_ready {listed : Array Bool} {i : Nat} : i ∈ Region.ready .any ops listed ↔ i < ops.size ∧ listed.getD i true = false ∧ ∀ (o : Oper) (e : Edge), ops[i]? = some o → e ∈ o.after → Region.binds .any e = true → listed.getD e.on false = true := by
 unfold Region.ready
 rw [List.mem_filter, List.mem_range]
 constructor
 ·rintro ⟨h1, h2⟩
  simp only [Bool.and_eq_true, Bool.not_eq_true'] at h2
  refine ⟨h1, h2.1, fun o e ho he hb => ?_⟩
  have h3 := h2.2
  rw [ho] at h3
  simp only [Option.map_some, Option.getD_some] at h3
  rw [Array.all_eq_true_iff_forall_mem] at h3
  have := h3 e he
  simpa [hb] using this
 ·rintro ⟨h1, h2, h3⟩
  refine ⟨h1, ?_⟩
  simp only [Bool.and_eq_true, Bool.not_eq_true']
  refine ⟨h2, ?_⟩
  rw [Array.getElem?_eq_getElem h1]
  simp only [Option.map_some, Option.getD_some]
  rw [Array.all_eq_true_iff_forall_mem]
  intro e he
  cases hb : Region.binds .any e with
  | false => simp
  | true => simpa using h3 ops[i] e (by simp [h1]) he hb
theorem Run.any {F : Fence} {m : Nat} (hF : Wide F) (h : Run P R lim ops l0 l st vs) (hl : n0 ≤ lim) {ρ0 : Mp} {a0 : Act} {w0 : World} (hf0 : ∀ b, (st 0).H.next ≤ b → b < (st ops.size).H.next → ρ0 b = none) {Q : Exit → Act → World → Prop}
  (hQ : ∀ ρ a w, LRel ρ (st ops.size).tmps a.tmps.toList → a.defers = a0.defers → Rel P n0 ρ (st ops.size).H w → Fr lim ρ0 (st 0).H.next (st ops.size).H.next w0 ρ w → Q .normal a w) :
  ∀ (fuel : Nat) (listed : Array Bool) (S : Nat → Bool) (ρ : Mp) (a : Act) (w : World), listed.size = ops.size → (∀ i, i < ops.size → listed.getD i true = S i ∧ listed.getD i false = S i) → cnt S ops.size ≤ fuel →
   Inv P n0 lim ops l st vs ρ0 a0 w0 S ρ a w → wpAnyIn F m P .any ops Q fuel listed a w := by
 have fin : ∀ (S : Nat → Bool) ρ a w, (∀ i, i < ops.size → S i = true) → Inv P n0 lim ops l st vs ρ0 a0 w0 S ρ a w → Q .normal a w := by
  intro S ρ a w hall I
  obtain ⟨q, hq, _, hq2, X, hX⟩ := I.heap
  have : q = ops.size := by
   rcases Nat.lt_or_ge q ops.size with g | g
   ·have := (hq2 g).2; rw [hall q g] at this; simp at this
   ·omega
  subst this
  have hrel : Rel P n0 ρ (st ops.size).H w := hX.rel.sub fun b L x _ hx _ => by rw [hX.low b (Heap.get_lt hx)]; exact hx
  refine hQ ρ a w ?_ I.df hrel I.fr
  have e : foldT l vs (st 0).tmps S ops.size = (st ops.size).tmps := by
   have full : ∀ n, n ≤ ops.size → foldT l vs (st 0).tmps (fun _ => true) n = (st n).tmps := by
    intro n
    induction n with
    | zero => intro _; rfl
    | succ n ih =>
     intro hn
     obtain ⟨on, hon⟩ : ∃ on, l[n]? = some on := ⟨l[n]'(by rw [h.ok.len]; omega), List.getElem?_eq_getElem _⟩
     simp only [foldT, if_true, hon]
     rw [ih (by omega), (h.one n on hon).2.1]
   rw [← full ops.size (Nat.le_refl _)]
   apply List.ext_getElem?
   intro t
   exact foldT_agree l vs (st 0).tmps t S (fun _ => true) ops.size fun j hj _ _ _ => hall j hj
  rw [← e]; exact I.tm
 have empty : ∀ (listed : Array Bool) (S : Nat → Bool), (∀ i, i < ops.size → listed.getD i true = S i ∧ listed.getD i false = S i) → Region.ready .any ops listed = [] → ∀ i, i < ops.size → S i = true := by
  intro listed S hls hr i
  induction i using Nat.strongRecOn with
  | _ i ih =>
   intro hi
   cases hs : S i with
   | true => rfl
   | false =>
    exfalso
    have : i ∈ Region.ready .any ops listed := by
     rw [mem_ready]
     refine ⟨hi, by rw [(hls i hi).1]; exact hs, fun o e ho he hb => ?_⟩
     have hlt := h.ok.edges i o e ho he hb
     rw [(hls e.on (by omega)).2]
     exact ih e.on hlt (by omega)
    rw [hr] at this; simp at this
 intro fuel
 induction fuel with
 | zero =>
  intro listed S ρ a w hsz hls hc I
  have hall := cnt_zero S ops.size (by omega)
  refine ⟨?_, fin S ρ a w hall I⟩
  apply List.eq_nil_iff_forall_not_mem.2
  intro i hi
  rw [mem_ready] at hi
  rw [(hls i hi.1).1, hall i hi.1] at hi
  simp at hi
 | succ fuel ih =>
  intro listed S ρ a w hsz hls hc I
  refine ⟨fun hr => fin S ρ a w (empty listed S hls hr) I, ?_⟩
  intro k hk
  rw [mem_ready] at hk
  obtain ⟨hk1, hk2, hk3⟩ := hk
  have hS : S k = false := by rw [← (hls k hk1).1]; exact hk2
  refine h.step hF hl hf0 I hk1 hS (fun o e ho he hb => ?_) ?_
  ·have hlt := h.ok.edges k o e ho he hb
   rw [← (hls e.on (by omega)).2]
   exact hk3 o e ho he hb
  ·intro ρ' a' w' I'
   refine ih (listed.setIfInBounds k true) (ins S k) ρ' a' w' (by simp [hsz]) (fun i hi => ?_) ?_ I'
   ·simp only [Array.getD_eq_getD_getElem?, Array.getElem?_setIfInBounds]
    unfold ins
    by_cases e : k = i
    ·subst e; simp [hsz, hi]
    ·rw [if_neg e, if_neg (Ne.symm e)]
     have := hls i hi
     simpa [Array.getD_eq_getD_getElem?] using this
   ·have := cnt_ins S k hS ops.size hk1; omega
theorem region_sim {F : Fence} {m : Nat} (hF : Wide F) (hP : P.follows .mixedOrders = true) (hR : CallSim P R) (hRk : Keeps R) (hl : n0 ≤ lim) {id : Nat} {draw : Bool} {l : List AOper} (hc : compRegion P ops draw = some l) {s s' : St} (h : execOps R lim l s = some s')
  {ρ : Mp} {a : Act} {w : World} (hlim : lim ≤ s.H.next) (hfr : ∀ b, s.H.next ≤ b → b < s'.H.next → ρ b = none) (hr : Rel P n0 ρ s.H w) (ht : LRel ρ s.tmps a.tmps.toList) {Q : Exit → Act → World → Prop}
  (hQ : ∀ ρ' a' w', Post P n0 lim ρ s.H w ρ' s'.H w' → LRel ρ' s'.tmps a'.tmps.toList → a'.defers = a.defers → Q .normal a' w') : (Code.region id ops draw).wpIn F m P Q a w := by
 cases draw with
 | false =>
  have hc' : allSome (compOper P ops) ops.toList = some l := by
   unfold compRegion at hc
   split at hc
   ·rename_i l' hl'
    simp at hc; subst hc; exact hl'
   ·simp at hc
  refine wpIn_region ?_
  rw [List.range_eq_range']
  exact ops_plain hF hR hRk hl hc' ops.size 0 s s' ρ a w (by omega) (by simpa using h) hlim hfr hr ht hQ
 | true =>
  obtain ⟨l0, ok⟩ := DrawOK.of hc
  obtain ⟨st, vs, e0, e1, hone⟩ := trace l s s' h
  rw [ok.len] at e1
  subst e0
  have hrun : Run P R lim ops l0 l st vs := ⟨ok, hone, hRk, hR, hlim⟩
  refine wpIn_region_any hP ?_
  have hr' : Rel P n0 ρ (st 0).H { w with drawn := w.drawn + 1 } := hr.heap_eq rfl
  have hfr' : ∀ b, (st 0).H.next ≤ b → b < (st ops.size).H.next → ρ b = none := fun b g1 g2 => hfr b g1 (by rw [← e1]; exact g2)
  refine hrun.any hF hl hfr' ?_ ops.size _ (fun _ => false) ρ a _ (by simp) (fun i hi => by simp [Array.getD_eq_getD_getElem?, hi]) (by rw [cnt_false]; exact Nat.le_refl _) (hrun.start hr' ht hfr')
  intro ρ' a' w' t1 t2 t3 t4
  have hk := execOps_next hRk l (st 0) s' hlim h
  refine hQ ρ' a' w' ?_ (by rw [← e1]; exact t1) t2
  rw [← e1] at hk ⊢
  exact ⟨t3, t4.ext, t4.new, t4.frame, t4.size, hk.2, hk.1, t4.rest⟩
def toExit : Ex → Exit
 | .norm => .normal
 | .exit id => .exit id
 | .ret => .ret
theorem loopN_keep {body : St → Option (Ex × St)} (hb : ∀ s ex s', lim ≤ s.H.next → body s = some (ex, s') → s.H.next ≤ s'.H.next ∧ ∀ b, b < lim → s'.H.get b = s.H.get b) :
  ∀ n s ex s', lim ≤ s.H.next → loopN body n s = some (ex, s') → s.H.next ≤ s'.H.next ∧ ∀ b, b < lim → s'.H.get b = s.H.get b
 | 0, s, ex, s', _, h => by simp [loopN] at h
 | n + 1, s, ex, s', hl, h => by
  unfold loopN at h
  split at h
  ·rename_i s1 h1
   obtain ⟨k1, k2⟩ := hb s _ s1 hl h1
   obtain ⟨r1, r2⟩ := loopN_keep hb n s1 ex s' (by omega) h
   exact ⟨by omega, fun b hb' => (r2 b hb').trans (k2 b hb')⟩
  ·exact hb s ex s' hl h
theorem exec_keep (hRk : Keeps R) (n : Nat) : ∀ (c : ACode) (s : St) (ex : Ex) (s' : St), lim ≤ s.H.next → exec R lim n c s = some (ex, s') → s.H.next ≤ s'.H.next ∧ ∀ b, b < lim → s'.H.get b = s.H.get b
 | .skip, s, ex, s', _, h => by simp [exec] at h; obtain ⟨rfl, rfl⟩ := h; exact ⟨Nat.le_refl _, fun _ _ => rfl⟩
 | .region ops, s, ex, s', hl, h => by
  simp only [exec, Option.map_eq_some_iff] at h
  obtain ⟨s1, h1, h2⟩ := h
  simp at h2; obtain ⟨rfl, rfl⟩ := h2
  exact execOps_next hRk ops s s1 hl h1
 | .seq a b, s, ex, s', hl, h => by
  simp only [exec] at h
  split at h
  ·rename_i s1 h1
   obtain ⟨k1, k2⟩ := exec_keep hRk n a s _ s1 hl h1
   obtain ⟨r1, r2⟩ := exec_keep hRk n b s1 ex s' (by omega) h
   exact ⟨by omega, fun x hx => (r2 x hx).trans (k2 x hx)⟩
  ·exact exec_keep hRk n a s ex s' hl h
 | .cond c a b, s, ex, s', hl, h => by
  simp only [exec] at h
  split at h
  ·split at h
   ·exact exec_keep hRk n a s ex s' hl h
   ·exact exec_keep hRk n b s ex s' hl h
  ·simp at h
 | .block id c, s, ex, s', hl, h => by
  simp only [exec] at h
  split at h
  ·rename_i id' s1 h1
   have := exec_keep hRk n c s _ s1 hl h1
   split at h <;> simp at h <;> obtain ⟨rfl, rfl⟩ := h <;> exact this
  ·exact exec_keep hRk n c s ex s' hl h
 | .loop c, s, ex, s', hl, h => by
  simp only [exec] at h
  exact loopN_keep (fun s ex s' => exec_keep hRk n c s ex s') n s ex s' hl h
 | .exit id, s, ex, s', _, h => by simp [exec] at h; obtain ⟨rfl, rfl⟩ := h; exact ⟨Nat.le_refl _, fun _ _ => rfl⟩
 | .ret, s, ex, s', _, h => by simp [exec] at h; obtain ⟨rfl, rfl⟩ := h; exact ⟨Nat.le_refl _, fun _ _ => rfl⟩
 | .ranges g ps asg c, s, ex, s', hl, h => by
  simp only [exec] at h
  split at h
  case isFalse => simp at h
  split at h
  case h_2 => simp at h
  rename_i f first captured hg
  split at h
  case h_2 => simp at h
  rename_i v H' hc
  obtain ⟨k1, k2⟩ := hRk _ _ _ _ _ _ (by rw [Heap.next_push]; omega) hc
  rw [Heap.next_push] at k1
  have fin : s.H.next ≤ (H'.set s.H.next .dead).next ∧ ∀ b, b < lim → (H'.set s.H.next .dead).get b = s.H.get b :=
   ⟨by rw [Heap.next_set]; omega, fun b hb => by rw [Heap.get_set_other _ _ _ _ (by omega), k2 b hb, Heap.get_push_old _ _ _ (by omega)]⟩
  split at h
  ·simp at h; obtain ⟨rfl, rfl⟩ := h; exact fin
  ·simp at h; obtain ⟨rfl, rfl⟩ := h; exact fin
  ·simp at h
structure Marks (base : Nat) (ρ : Mp) (w : World) (ds : List Deferred) : Prop where
 le : base ≤ w.heap.size
 each : ∀ d ∈ ds, ∃ r, d.target = .collected r ∧ base ≤ r ∧ w.heap[r]? = some (.deferred (some [])) ∧ ∀ b L, ρ b = some L → L.blk ≠ r
 apart : ds.Pairwise fun d e => d.target ≠ e.target
theorem heap_lt {w : World} {r : Nat} {o : Obj} (h : w.heap[r]? = some o) : r < w.heap.size := (Array.getElem?_eq_some_iff.1 h).1
theorem Marks.post {base : Nat} {ρ ρ' : Mp} {H H' : Heap} {w w' : World} {ds : List Deferred} (h : Marks base ρ w ds) (hp : Post P n0 lim ρ H w ρ' H' w') : Marks base ρ' w' ds := by
 refine ⟨Nat.le_trans h.le hp.size, fun d hd => ?_, h.apart⟩
 obtain ⟨r, h1, h2, h3, h4⟩ := h.each d hd
 have hlt := heap_lt h3
 refine ⟨r, h1, h2, by rw [hp.frame r hlt fun b L _ _ e => h4 b L e]; exact h3, fun b L e => ?_⟩
 cases hb : ρ b with
 | some L0 =>
  have := hp.ext b L0 hb
  rw [e] at this; simp at this; subst this
  exact h4 b L hb
 | none =>
  rcases (hp.new b L hb e).2.2 with q | ⟨b0, L0, _, _, q3, q4⟩
  ·omega
  ·rw [← q4]; exact h4 b0 L0 q3
structure Off (base : Nat) (ρ : Mp) (w w' : World) : Prop where
 size : w'.heap.size = w.heap.size
 old : ∀ r, r < base → w'.heap[r]? = w.heap[r]?
 mine : ∀ b L, ρ b = some L → w'.heap[L.blk]? = w.heap[L.blk]?
 rest : Same w w'
theorem Off.refl {base : Nat} {ρ : Mp} {w : World} : Off base ρ w w := ⟨rfl, fun _ _ => rfl, fun _ _ _ => rfl, .refl w⟩
theorem Off.trans {base : Nat} {ρ : Mp} {w w1 w2 : World} (h : Off base ρ w w1) (h' : Off base ρ w1 w2) : Off base ρ w w2 :=
 ⟨h'.size.trans h.size, fun r e => (h'.old r e).trans (h.old r e), fun b L e => (h'.mine b L e).trans (h.mine b L e), h.rest.trans h'.rest⟩
theorem Off.rel {base : Nat} {ρ : Mp} {H : Heap} {w w' : World} (hr : Rel P n0 ρ H w) (h : Off base ρ w w') : Rel P n0 ρ H w' :=
 ⟨fun b L cs e e' => by
   obtain ⟨c, ⟨t, fr, q1, q2, q3⟩, q4, q5⟩ := hr.row b L cs e e'
   exact ⟨c, ⟨t, fr, by rw [h.mine b L e]; exact q1, q2, q3⟩, q4, q5⟩,
  fun b L es cl e e' => by obtain ⟨es', q1, q2⟩ := hr.map b L es cl e e'; exact ⟨es', by rw [h.mine b L e]; exact q1, q2⟩,
  fun b L r e e' => by obtain ⟨r', q1, q2⟩ := hr.loop b L r e e'; exact ⟨r', by rw [h.mine b L e]; exact q1, q2⟩,
  fun b L e => by rw [h.size]; exact hr.dom b L e, hr.excl⟩
theorem Off.post {ρ ρ' : Mp} {H H' : Heap} {w w1 w2 : World} (h : Off w.heap.size ρ' w1 w2) (hp : Post P n0 lim ρ H w ρ' H' w1) : Post P n0 lim ρ H w ρ' H' w2 :=
 ⟨h.rel hp.rel, hp.ext, hp.new, fun r h1 h2 => (h.old r h1).trans (hp.frame r h1 h2), by rw [h.size]; exact hp.size, hp.keep, hp.next, hp.rest.trans h.rest⟩
theorem same_putObj (w : World) (r : Nat) (o : Obj) : Same w (w.putObj r o) := ⟨rfl, rfl, rfl⟩
theorem leaves_marks {F : Fence} {m : Nat} {fn : Func} {tmps : Array Value} {R : Ending → World → Prop} {base : Nat} {ρ : Mp} : ∀ (ds : List Deferred) (w : World), Marks base ρ w ds →
  (∀ w', Off base ρ w w' → ∃ v, (results fn tmps).run P w' = .ok v w' ∧ R (.returned v) w') → LeavesInM F m P fn tmps R ds .returning w
 | [], w, _, h => h w .refl
 | d :: ds, w, hm, h => by
  obtain ⟨r, h1, h2, h3, h4⟩ := hm.each d (by simp)
  have hlt := heap_lt h3
  have hoff : Off base ρ w (w.putObj r (.deferred none)) :=
   ⟨by simp, fun k hk => World.putObj_heap_other (by omega), fun b L e => World.putObj_heap_other (h4 b L e), same_putObj w r _⟩
  refine ⟨by simp, .inl ⟨r, _, h1, run_takeDeferred h3, ?_⟩⟩
  refine leaves_marks ds _ ⟨by rw [hoff.size]; exact hm.le, fun d' hd' => ?_, (List.pairwise_cons.1 hm.apart).2⟩ fun w' hw' => h w' (hoff.trans hw')
  obtain ⟨r', g1, g2, g3, g4⟩ := hm.each d' (by simp [hd'])
  have hne : r' ≠ r := fun e => (List.pairwise_cons.1 hm.apart).1 d' hd' (by rw [h1, g1, e])
  exact ⟨r', g1, g2, by rw [World.putObj_heap_other hne]; exact g3, g4⟩
def CodeSim (F : Fence) (m : Nat) (P : Program) (n0 lim : Nat) (c : Code) (f : St → Option (Ex × St)) : Prop :=
 ∀ (s : St) (ex : Ex) (s' : St), f s = some (ex, s') → ∀ (base : Nat) (ρ : Mp) (a : Act) (w : World), lim ≤ s.H.next → (∀ b, s.H.next ≤ b → b < s'.H.next → ρ b = none) → Rel P n0 ρ s.H w → LRel ρ s.tmps a.tmps.toList → Marks base ρ w a.defers →
  ∀ (Q : Exit → Act → World → Prop), (∀ ρ' a' w', Post P n0 lim ρ s.H w ρ' s'.H w' → LRel ρ' s'.tmps a'.tmps.toList → Marks base ρ' w' a'.defers → Q (toExit ex) a' w') → c.wpIn F m P Q a w
theorem Post.fresh {ρ ρ1 : Mp} {H H1 : Heap} {w w1 : World} {nx : Nat} (hp : Post P n0 lim ρ H w ρ1 H1 w1) (hfr : ∀ b, H.next ≤ b → b < nx → ρ b = none) : ∀ b, H1.next ≤ b → b < nx → ρ1 b = none := by
 intro b g1 g2
 cases hb : ρ1 b with
 | none => rfl
 | some L =>
  exfalso
  have := hp.next
  have hn := hfr b (by omega) g2
  have := hp.new b L hn hb
  omega
theorem loop_sim {F : Fence} {m : Nat} (hl : n0 ≤ lim) {c : Code} {body : St → Option (Ex × St)} (hb : CodeSim F m P n0 lim c body) (hk : ∀ s ex s', lim ≤ s.H.next → body s = some (ex, s') → s.H.next ≤ s'.H.next ∧ ∀ b, b < lim → s'.H.get b = s.H.get b) :
  ∀ (n : Nat) (s : St) (ex : Ex) (s' : St), loopN body n s = some (ex, s') → ∀ (base : Nat) (ρ : Mp) (a : Act) (w : World), lim ≤ s.H.next → (∀ b, s.H.next ≤ b → b < s'.H.next → ρ b = none) → Rel P n0 ρ s.H w → LRel ρ s.tmps a.tmps.toList → Marks base ρ w a.defers →
   ∀ (Q : Exit → Act → World → Prop), (∀ ρ' a' w', Post P n0 lim ρ s.H w ρ' s'.H w' → LRel ρ' s'.tmps a'.tmps.toList → Marks base ρ' w' a'.defers → Q (toExit ex) a' w') → Code.roundsIn F m P c Q n a w
 | 0, s, ex, s', h => by simp [loopN] at h
 | n + 1, s, ex, s', h => by
  intro base ρ a w hlim hfr hr ht hm Q hQ
  unfold loopN at h
  rw [roundsIn_succ]
  split at h
  ·rename_i s1 h1
   obtain ⟨k1, _⟩ := hk s _ s1 hlim h1
   have k2 := (loopN_keep hk n s1 ex s' (by omega) h).1
   refine hb s .norm s1 h1 base ρ a w hlim (fun b g1 g2 => hfr b g1 (by omega)) hr ht hm _ ?_
   intro ρ1 a1 w1 hp1 ht1 hd1
   show Code.roundsIn F m P c Q n a1 w1
   refine loop_sim hl hb hk n s1 ex s' h base ρ1 a1 w1 (by omega) (hp1.fresh hfr) hp1.rel ht1 hd1 Q ?_
   intro ρ2 a2 w2 hp2 ht2 hd2
   exact hQ ρ2 a2 w2 (hp1.trans (Nat.le_refl _) hfr hp2) ht2 hd2
  ·rename_i hne
   refine hb s ex s' h base ρ a w hlim hfr hr ht hm _ ?_
   intro ρ1 a1 w1 hp1 ht1 hd1
   have hq := hQ ρ1 a1 w1 hp1 ht1 hd1
   cases ex with
   | norm => exact absurd h (hne s')
   | exit id => exact hq
   | ret => exact hq
theorem exec_sim {F : Fence} {m : Nat} (hF : Wide F) (hP : P.follows .mixedOrders = true) (hR : CallSim P R) (hRk : Keeps R) (hl : n0 ≤ lim) (n : Nat) : ∀ (c : Code) (ac : ACode), compCode P c = some ac → (F = Fence.wide ∨ ac.plain = true) → CodeSim F m P n0 lim c (exec R lim n ac)
 | .skip, ac, hc => fun hpl => by
  simp [compCode] at hc; subst hc
  intro s ex s' h base ρ a w hlim hfr hr ht hm Q hQ
  simp [exec] at h; obtain ⟨rfl, rfl⟩ := h
  exact wpIn_skip (hQ ρ a w (.refl hr) ht hm)
 | .region id ops draw, ac, hc => fun hpl => by
  simp only [compCode, Option.map_eq_some_iff] at hc
  obtain ⟨l, hl', rfl⟩ := hc
  intro s ex s' h base ρ a w hlim hfr hr ht hm Q hQ
  simp only [exec, Option.map_eq_some_iff] at h
  obtain ⟨s1, h1, h2⟩ := h
  simp at h2; obtain ⟨rfl, rfl⟩ := h2
  exact region_sim hF hP hR hRk hl hl' h1 hlim hfr hr ht fun ρ' a' w' hp ht' hd => hQ ρ' a' w' hp ht' (by rw [hd]; exact hm.post hp)
 | .seq x y, ac, hc => fun hpl => by
  simp only [compCode] at hc
  split at hc <;> simp at hc
  rename_i x' y' hx hy
  subst hc
  intro s ex s' h base ρ a w hlim hfr hr ht hm Q hQ
  simp only [exec] at h
  refine wpIn_seq ?_
  split at h
  ·rename_i s1 h1
   obtain ⟨k1, _⟩ := exec_keep hRk n x' s _ s1 hlim h1
   obtain ⟨k2, _⟩ := exec_keep hRk n y' s1 ex s' (by omega) h
   refine exec_sim hF hP hR hRk hl n x x' hx (hpl.imp (fun e => e) fun e => by simp [ACode.plain] at e; exact e.1) s .norm s1 h1 base ρ a w hlim (fun b g1 g2 => hfr b g1 (by omega)) hr ht hm _ ?_
   intro ρ1 a1 w1 hp1 ht1 hd1
   show y.wpIn F m P Q a1 w1
   refine exec_sim hF hP hR hRk hl n y y' hy (hpl.imp (fun e => e) fun e => by simp [ACode.plain] at e; exact e.2) s1 ex s' h base ρ1 a1 w1 (by omega) (hp1.fresh hfr) hp1.rel ht1 hd1 Q ?_
   intro ρ2 a2 w2 hp2 ht2 hd2
   exact hQ ρ2 a2 w2 (hp1.trans (Nat.le_refl _) hfr hp2) ht2 hd2
  ·rename_i hne
   refine exec_sim hF hP hR hRk hl n x x' hx (hpl.imp (fun e => e) fun e => by simp [ACode.plain] at e; exact e.1) s ex s' h base ρ a w hlim hfr hr ht hm _ ?_
   intro ρ1 a1 w1 hp1 ht1 hd1
   have hq := hQ ρ1 a1 w1 hp1 ht1 hd1
   cases ex with
   | norm => exact absurd h (hne s')
   | exit id => exact hq
   | ret => exact hq
 | .cond c x y, ac, hc => fun hpl => by
  simp only [compCode] at hc
  split at hc <;> simp at hc
  rename_i c' x' y' hcc hx hy
  subst hc
  intro s ex s' h base ρ a w hlim hfr hr ht hm Q hQ
  simp only [exec] at h
  split at h
  ·rename_i t hev
   have hv := ev_rel ht _ _ hcc
   rw [hev] at hv
   have hv' := (bool_rel hv t).1 rfl
   refine wpIn_cond hv' ?_
   cases t with
   | true => exact exec_sim hF hP hR hRk hl n x x' hx (hpl.imp (fun e => e) fun e => by simp [ACode.plain] at e; exact e.1) s ex s' (by simpa using h) base ρ a w hlim hfr hr ht hm Q hQ
   | false => exact exec_sim hF hP hR hRk hl n y y' hy (hpl.imp (fun e => e) fun e => by simp [ACode.plain] at e; exact e.2) s ex s' (by simpa using h) base ρ a w hlim hfr hr ht hm Q hQ
  ·simp at h
 | .block id c, ac, hc => fun hpl => by
  simp only [compCode, Option.map_eq_some_iff] at hc
  obtain ⟨c', hc', rfl⟩ := hc
  intro s ex s' h base ρ a w hlim hfr hr ht hm Q hQ
  simp only [exec] at h
  refine wpIn_block ?_
  split at h
  ·rename_i id' s1 h1
   split at h
   ·rename_i hid
    simp at h; obtain ⟨rfl, rfl⟩ := h
    refine exec_sim hF hP hR hRk hl n c c' hc' (hpl.imp (fun e => e) fun e => by simpa [ACode.plain] using e) s _ _ h1 base ρ a w hlim hfr hr ht hm _ ?_
    intro ρ1 a1 w1 hp1 ht1 hd1
    show (if id' = id then Q .normal a1 w1 else Q (.exit id') a1 w1)
    rw [if_pos hid]
    exact hQ ρ1 a1 w1 hp1 ht1 hd1
   ·rename_i hid
    simp at h; obtain ⟨rfl, rfl⟩ := h
    refine exec_sim hF hP hR hRk hl n c c' hc' (hpl.imp (fun e => e) fun e => by simpa [ACode.plain] using e) s _ _ h1 base ρ a w hlim hfr hr ht hm _ ?_
    intro ρ1 a1 w1 hp1 ht1 hd1
    show (if id' = id then Q .normal a1 w1 else Q (.exit id') a1 w1)
    rw [if_neg hid]
    exact hQ ρ1 a1 w1 hp1 ht1 hd1
  ·rename_i hne
   refine exec_sim hF hP hR hRk hl n c c' hc' (hpl.imp (fun e => e) fun e => by simpa [ACode.plain] using e) s ex s' h base ρ a w hlim hfr hr ht hm _ ?_
   intro ρ1 a1 w1 hp1 ht1 hd1
   have hq := hQ ρ1 a1 w1 hp1 ht1 hd1
   cases ex with
   | norm => exact hq
   | exit id' => exact absurd h (hne id' s')
   | ret => exact hq
 | .loop c, ac, hc => fun hpl => by
  simp only [compCode, Option.map_eq_some_iff] at hc
  obtain ⟨c', hc', rfl⟩ := hc
  intro s ex s' h base ρ a w hlim hfr hr ht hm Q hQ
  simp only [exec] at h
  refine wpIn_loop_rounds n ?_
  exact loop_sim hl (exec_sim hF hP hR hRk hl n c c' hc' (hpl.imp (fun e => e) fun e => by simpa [ACode.plain] using e)) (fun s ex s' => exec_keep hRk n c' s ex s') n s ex s' h base ρ a w hlim hfr hr ht hm Q hQ
 | .exit id, ac, hc => fun hpl => by
  simp [compCode] at hc; subst hc
  intro s ex s' h base ρ a w hlim hfr hr ht hm Q hQ
  simp [exec] at h; obtain ⟨rfl, rfl⟩ := h
  exact wpIn_exit (hQ ρ a w (.refl hr) ht hm)
 | .label l, ac, hc => fun hpl => by
  simp [compCode] at hc; subst hc
  intro s ex s' h base ρ a w hlim hfr hr ht hm Q hQ
  simp [exec] at h; obtain ⟨rfl, rfl⟩ := h
  exact wpIn_label (hQ ρ a w (.refl hr) ht hm)
 | .ret, ac, hc => fun hpl => by
  simp [compCode] at hc; subst hc
  intro s ex s' h base ρ a w hlim hfr hr ht hm Q hQ
  simp [exec] at h; obtain ⟨rfl, rfl⟩ := h
  exact wpIn_ret (hQ ρ a w (.refl hr) ht hm)
 | .rangeFunc g ps asg body, ac, hc => fun hpl => by
  simp only [compCode] at hc
  split at hc <;> simp at hc
  rename_i g' asg' body' hg hasg hbody
  subst hc
  obtain rfl : F = Fence.wide := hpl.resolve_right (by simp [ACode.plain])
  intro s ex s' h base ρ a w hlim hfr hr ht hm Q hQ
  simp only [exec] at h
  split at h
  case isFalse => simp at h
  rename_i hpp
  simp only [Bool.and_eq_true] at hpp
  split at h
  case h_2 => simp at h
  rename_i f first captured hgv
  split at h
  case h_2 => simp at h
  rename_i v H' hcall
  have hgr := ev_rel ht _ _ hg
  rw [hgv] at hgr
  obtain ⟨as, bs, e1, l1, l2⟩ := hgr.fn_inv
  have hkeep := hRk _ _ _ _ _ _ (by rw [Heap.next_push]; omega) hcall
  rw [Heap.next_push] at hkeep
  have hn' : s'.H.next = H'.next := by
   split at h
   ·simp at h; obtain ⟨_, rfl⟩ := h; rfl
   ·simp at h; obtain ⟨_, rfl⟩ := h; rfl
   ·simp at h
  have hf0 : ρ s.H.next = none := hfr _ (Nat.le_refl _) (by omega)
  refine wpIn_rangeFunc fun fnn _ => ?_
  let rec1 : Loop := { state := .ready, pending := none, fn := fnn, tmps := a.tmps, params := ps, assign := asg, body := body, defers := w.heap.size }
  let w1 : World := (w.alloc (.deferred (some []))).alloc (.loop rec1)
  let L1 : Loc := ⟨w.heap.size + 1, 0, 0⟩
  have hw1size : w1.heap.size = w.heap.size + 2 := by simp [w1]
  have hw1rec : w1.heap[w.heap.size + 1]? = some (.loop rec1) := by
   have := World.alloc_heap_new (w.alloc (.deferred (some []))) (.loop rec1)
   rw [World.size_alloc] at this; exact this
  have hw1def : w1.heap[w.heap.size]? = some (.deferred (some [])) := by
   show ((w.heap.push _).push _)[w.heap.size]? = _
   rw [Array.getElem?_push, if_neg (by simp), Array.getElem?_push, if_pos rfl]
  have hw1old : ∀ r, r < w.heap.size → w1.heap[r]? = w.heap[r]? := fun r hr' => by
   show ((w.heap.push _).push _)[r]? = _
   rw [Array.getElem?_push, if_neg (by simp; omega), Array.getElem?_push, if_neg (by omega)]
  have hext := ext_upd (ρ := ρ) L1 hf0
  have hp1 : Post P n0 lim ρ s.H w (upd ρ s.H.next L1) (s.H.push (.loop ⟨.ready, none, s.tmps, ps.toList, asg', body'⟩)) w1 := by
   refine hr.grow hlim hf0 L1 _ (by simp [L1]) (by simp [L1, hw1size]) hw1old ⟨fun _ h => by simp at h, fun _ _ h => by simp at h, fun r h => ?_⟩ ⟨rfl, rfl, rfl⟩
   simp at h; subst h
   exact ⟨rec1, hw1rec, ⟨rfl, rfl, rfl, ht.ext hext, hasg, hbody, hpp⟩⟩
  obtain ⟨⟨fn0, hfn0, hb0, hnm0⟩, hcs⟩ := hR n0 lim (.fn f) _ _ v H' hcall
  have hargs : LRel (upd ρ s.H.next L1) (first ++ [.yl s.H.next] ++ captured) (as ++ #[Value.func (.yield (w.heap.size + 1)) #[] #[]] ++ bs).toList := by
   simp only [Array.toList_append]
   exact LRel.append (LRel.append (l1.ext hext) (LRel.cons (.yl (L := L1) (upd_same _ _ _)) (LRel.nil _))) (l2.ext hext)
  have hcalled := hcs _ w1 _ hl (by rw [Heap.next_push]; omega) (fun b g1 g2 => by
   rw [Heap.next_push] at g1
   rw [upd_other _ _ (by omega)]; exact hfr b (by omega) (by omega)) hp1.rel hargs
  refine ⟨w.heap.size + 1, [{ target := .collected w.heap.size, args := #[] }], w1, { target := .fn (.func f) bs, args := as ++ #[Value.func (.yield (w.heap.size + 1)) #[] #[]] }, w1, f, as ++ #[Value.func (.yield (w.heap.size + 1)) #[] #[]] ++ bs, w1,
   run_enterLoop_outer fnn a.tmps ps asg body, ?_, fun _ _ => trivial, ?_, fun hd => by simp [Fence.wide] at hd, ?_⟩
  ·have e2 : Act.eval a g = .func (.func f) as bs := e1
   have e3 : Act.eval a (.const (.func (.yield (w.heap.size + 1)) #[] #[])) = Value.func (.yield (w.heap.size + 1)) #[] #[] := rfl
   simp only [resolve, rangeCall, e2, Deferred.ofValue, Sem.run_pure, List.map_toArray, List.map_cons, List.map_nil, e3]
  ·have hb' : fn0.body.isNone = false := by cases h0 : fn0.body <;> simp [h0] at hb0 ⊢
   simp only [invoke, callFunc, Sem.run_bind, run_program, Result.andThen_ok, hfn0, hnm0, hb', Bool.false_eq_true, if_false, Sem.run_pure]
  ·refine hF.calls (hcalled.mono ?_)
   rintro e w3 ⟨v', ρ2, rfl, hv, hp2⟩
   have hm1 : Marks base (upd ρ s.H.next L1) w1 ([{ target := .collected w.heap.size, args := #[] }] ++ a.defers) := by
    have hmo := hm.post hp1
    refine ⟨hmo.le, fun d hd => ?_, ?_⟩
    ·simp only [List.singleton_append, List.mem_cons] at hd
     rcases hd with rfl | hd
     ·refine ⟨w.heap.size, rfl, hm.le, hw1def, fun b L e => ?_⟩
      by_cases hb : b = s.H.next
      ·subst hb; rw [upd_same] at e; simp at e; subst e; simp [L1]
      ·rw [upd_other _ _ hb] at e; have := hr.dom b L e; omega
     ·exact hmo.each d hd
    ·simp only [List.singleton_append, List.pairwise_cons]
     refine ⟨fun d hd => ?_, hm.apart⟩
     obtain ⟨r, g1, _, g3, _⟩ := hm.each d hd
     have := heap_lt g3
     rw [g1]; simp; omega
   have hm2 := hm1.post hp2
   have hL2 : ρ2 s.H.next = some L1 := hp2.ext _ _ (upd_same _ _ _)
   have shut : ∀ (r : LoopA), H'.get s.H.next = some (.loop r) → r.state ≠ .busy → s'.H = H'.set s.H.next .dead → s'.tmps = s.tmps →
     ∃ (r' : Loop) (w4 : World), (Instr.endLoop (w.heap.size + 1)).run P w3 = .ok r'.pending w4 ∧ r'.pending = r.pending.map exCode ∧ Post P n0 lim ρ s.H w ρ2 s'.H w4 ∧ Marks base ρ2 w4 ([{ target := .collected w.heap.size, args := #[] }] ++ a.defers) := by
    intro r hget hnb hH hT
    obtain ⟨r', q1, q2⟩ := hp2.rel.loop _ L1 r hL2 hget
    have hlt3 := heap_lt q1
    refine ⟨r', _, run_endLoop q1 (by rw [q2.state]; exact hnb), q2.pend, ?_⟩
    have hp3 : Post P n0 lim ρ2 H' w3 ρ2 (H'.set s.H.next .dead) (w3.putObj (w.heap.size + 1) (.loop { r' with state := .exhausted })) :=
     hp2.rel.turn hl hlim hL2 hget (by simp) (by simp) (fun r _ hne => World.putObj_heap_other hne) .dead (same_putObj _ _ _)
    rw [hH]
    refine ⟨(hp1.trans (Nat.le_refl _) (fun b g1 g2 => hfr b g1 (by omega)) hp2).trans (Nat.le_refl _) (fun b g1 g2 => hfr b g1 (by rw [Heap.next_set] at g2; omega)) hp3, hm2.post hp3⟩
   have htm : LRel ρ2 s.tmps a.tmps.toList := ht.ext (hext.trans hp2.ext)
   split at h
   ·rename_i t0 p0 a0 c0 hget
    simp at h; obtain ⟨rfl, rfl⟩ := h
    obtain ⟨r', w4, s1, s2, s3, s4⟩ := shut _ hget (by simp) rfl rfl
    refine ⟨r'.pending, w4, s1, ?_⟩
    rw [s2]
    exact hQ ρ2 _ w4 s3 htm s4
   ·rename_i e0 t0 p0 a0 c0 hget
    simp at h; obtain ⟨rfl, rfl⟩ := h
    obtain ⟨r', w4, s1, s2, s3, s4⟩ := shut _ hget (by simp) rfl rfl
    refine ⟨r'.pending, w4, s1, ?_⟩
    rw [s2]
    have hq := hQ ρ2 { a with defers := [{ target := .collected w.heap.size, args := #[] }] ++ a.defers } w4 s3 htm s4
    cases e0 with
    | norm => exact wpIn_skip hq
    | exit id => exact wpIn_exit hq
    | ret => exact wpIn_ret hq
   ·simp at h
 | .scope _, ac, hc => fun _ => by simp [compCode] at hc
 | .goto _, ac, hc => fun _ => by simp [compCode] at hc
 | .refuse _, ac, hc => fun _ => by
  simp [compCode] at hc; subst hc
  intro s ex s' h
  simp [exec, execOps, execOp, wantedA, AOper.clear, step] at h
theorem results_sim {rs : List ResultVar} {ars : List ARes} (hc : allSome (compRes P) rs = some ars) {s : St} {ρ : Mp} {a : Act} {w : World} (hr : Rel P n0 ρ s.H w) (ht : LRel ρ s.tmps a.tmps.toList) {vs : List AVal} (h : resAll s ars = some vs) :
  ∃ vs' : List Value, (rs.mapM (fun r => (match r with
   | .tmp t => Pure.pure (a.tmps.getD t undef)
   | .cell ad t => do loadVar t (← asAddr (a.tmps.getD ad undef)) : Sem Value))).run P w = .ok vs' w ∧ LRel ρ vs vs' := by
 induction rs generalizing ars vs with
 | nil =>
  simp [allSome] at hc; subst hc
  simp [resAll] at h; subst h
  exact ⟨[], rfl, LRel.nil ρ⟩
 | cons r rs ih =>
  unfold allSome at hc
  split at hc <;> simp at hc
  rename_i y ys hy hys
  subst hc
  unfold resAll at h
  split at h <;> simp at h
  rename_i v vs1 hv hvs
  subst h
  obtain ⟨vs', q1, q2⟩ := ih hys hvs
  have one : ∃ v', (match r with
   | .tmp t => Pure.pure (a.tmps.getD t undef)
   | .cell ad t => do loadVar t (← asAddr (a.tmps.getD ad undef)) : Sem Value).run P w = .ok v' w ∧ VRel ρ v v' := by
   cases r with
   | tmp t =>
    simp [compRes] at hy; subst hy
    simp [resOf] at hv; subst hv
    exact ⟨_, rfl, getD_rel ht t⟩
   | cell ad t =>
    simp [compRes] at hy
    obtain ⟨g, hg, rfl⟩ := hy
    simp only [resOf] at hv
    obtain ⟨p, v', e1, e2, e3⟩ := aload_sim (P := P) hr hg (getD_rel ht ad) hv
    exact ⟨v', by simp only [e1, asAddr, Sem.run_bind, Sem.run_pure, Result.andThen_ok, e2], e3⟩
  obtain ⟨v', o1, o2⟩ := one
  refine ⟨v' :: vs', ?_, LRel.cons o2 q2⟩
  rw [List.mapM_cons]
  simp only [Sem.run_bind, o1, Result.andThen_ok, q1, Sem.run_pure]
theorem oneOr_rel {ρ : Mp} {vs : List AVal} {vs' : List Value} (h : LRel ρ vs vs') : VRel ρ (oneOr vs) (if h : vs'.toArray.size = 1 then vs'.toArray[0] else .tuple vs'.toArray) := by
 match vs, vs' with
 | [], [] => exact VRel.tup_of (LRel.nil ρ)
 | [v], [v'] => exact h.head
 | a :: b :: vs, a' :: b' :: vs' => simpa [oneOr] using VRel.tup_of (vs := (a' :: b' :: vs').toArray) (by simpa using h)
 | [], _ :: _ => have := h.1; simp at this
 | _ :: _, [] => have := h.1; simp at this
 | [_], _ :: _ :: _ => have := h.1; simp at this
 | _ :: _ :: _, [_] => have := h.1; simp at this
end
end Go.Ahs
