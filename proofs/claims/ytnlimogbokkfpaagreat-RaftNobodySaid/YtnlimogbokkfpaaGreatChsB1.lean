/- Rounds of a range over a function; functions; whatever the run answers, the model's call answers alike. -/
import Derived.Test.YtnlimogbokkfpaaGreatChsA18
set_option linter.unusedSimpArgs false
set_option linter.unusedVariables false
namespace Go.Ahs
section
variable {P : Program} {n0 lim : Nat} {R : Caller}
theorem putAll_rel {ρ : Mp} : ∀ (ps : List Nat) (args : List AVal) (args' : List Value) (ts : List AVal) (ts' : Array Value), LRel ρ args args' → LRel ρ ts ts'.toList →
  LRel ρ (putAll ts ps args) ((ps.zip args').foldl (fun (tmps : Array Value) (p : Nat × Value) => tmps.setIfInBounds p.1 p.2) ts').toList
 | [], args, args', ts, ts', _, ht => by simpa [putAll] using ht
 | p :: ps, [], [], ts, ts', _, ht => by simpa [putAll] using ht
 | p :: ps, [], _ :: _, ts, ts', h, _ => by have := h.1; simp at this
 | p :: ps, _ :: _, [], ts, ts', h, _ => by have := h.1; simp at this
 | p :: ps, x :: args, x' :: args', ts, ts', h, ht => by
  have := putAll_rel ps args args' (ts.set p x) (ts'.setIfInBounds p x') h.tail (by
   have := put_rel_tmps (a := { tmps := ts', defers := [] }) ht h.head (some p)
   simpa [putT, Act.put] using this)
  simpa [putAll] using this
theorem round_keep {ex : ACode → St → Option (Ex × St)} (hx : ∀ c s e s', lim ≤ s.H.next → ex c s = some (e, s') → s.H.next ≤ s'.H.next ∧ ∀ b, b < lim → s'.H.get b = s.H.get b)
  {b : Nat} {args : List AVal} {H H' : Heap} {v : AVal} (hl : lim ≤ H.next) (h : roundF ex lim b args H = some (v, H')) : H.next ≤ H'.next ∧ ∀ c, c < lim → H'.get c = H.get c := by
 unfold roundF at h
 split at h
 case h_2 => simp at h
 rename_i r hget
 split at h
 case isFalse => simp at h
 rename_i hb
 split at h
 case h_2 => simp at h
 rename_i s1 h1
 obtain ⟨k1, k2⟩ := hx _ _ _ _ hl h1
 simp only at k1 k2
 split at h
 case h_2 => simp at h
 rename_i q t ps a c hg1
 split at h
 case h_2 => simp at h
 rename_i e s2 h2
 obtain ⟨r1, r2⟩ := hx _ _ _ _ (by simp only [Heap.next_set]; omega) h2
 simp only [Heap.next_set] at r1 r2
 split at h
 case h_2 => simp at h
 rename_i r2' hg2
 have fin : ∀ x, H.next ≤ (s2.H.set b x).next ∧ ∀ c, c < lim → (s2.H.set b x).get c = H.get c := fun x =>
  ⟨by rw [Heap.next_set]; omega, fun c hc => by
   rw [Heap.get_set_other _ _ _ _ (by omega), r2 c hc, Heap.get_set_other _ _ _ _ (by omega), k2 c hc]⟩
 split at h
 ·simp at h; obtain ⟨_, rfl⟩ := h; exact fin _
 ·simp at h; obtain ⟨_, rfl⟩ := h; exact fin _
theorem Marks.nil {ρ : Mp} {w : World} : Marks 0 ρ w [] := ⟨Nat.zero_le _, fun d hd => by simp at hd, .nil⟩
theorem round_sim (hP : P.follows .mixedOrders = true) (hR : CallSim P R) (hRk : Keeps R) {n : Nat} {b : Nat} {args : List AVal} {H H' : Heap} {v : AVal} (h : roundF (exec R lim n) lim b args H = some (v, H'))
  {ρ : Mp} {w : World} {args' : Array Value} {L : Loc} (hL : ρ b = some L) (hl : n0 ≤ lim) (hlim : lim ≤ H.next) (hfr : ∀ b, H.next ≤ b → b < H'.next → ρ b = none) (hr : Rel P n0 ρ H w) (ha : LRel ρ args args'.toList) :
  ∃ f tmps assign body, (Instr.yield L.blk args').run P w = .ok (.round L.blk f tmps assign body) w ∧ RoundIn Fence.wide 0 P L.blk f tmps assign body w (Ended P n0 lim ρ H w v H') := by
 unfold roundF at h
 split at h
 case h_2 => simp at h
 rename_i r hget
 split at h
 case isFalse => simp at h
 rename_i hb
 obtain ⟨hlb, hlen⟩ := hb
 split at h
 case h_2 => simp at h
 rename_i s1 h1
 obtain ⟨k1, k2⟩ := exec_keep hRk n r.assign _ _ s1 hlim h1
 simp only at k1 k2
 split at h
 case h_2 => simp at h
 rename_i q t ps a c hg1
 split at h
 case h_2 => simp at h
 rename_i e s2 h2
 obtain ⟨j1, j2⟩ := exec_keep hRk n r.body _ _ s2 (by simp only [Heap.next_set]; omega) h2
 simp only [Heap.next_set] at j1 j2
 split at h
 case h_2 => simp at h
 rename_i r2 hg2
 have hH' : H'.next = s2.H.next := by
  split at h
  ·simp at h; obtain ⟨_, rfl⟩ := h; rfl
  ·simp at h; obtain ⟨_, rfl⟩ := h; rfl
 obtain ⟨r', q1, q2⟩ := hr.loop b L r hL hget
 have hal : args.length = args'.size := by simpa using ha.1
 refine ⟨_, _, _, _, run_yield q1 (by rw [← hal, hlen, ← q2.ps]; simp), ?_⟩
 refine roundIn_of_wpIn trivial ?_
 have hw : Wide (Fence.wide.inRound L.blk) := .round _
 have htm : LRel ρ (putAll r.tmps r.ps args) ((r'.params.zip args').foldl (fun tmps (t, a) => tmps.setIfInBounds t a) r'.tmps).toList := by
  have := putAll_rel r.ps args args'.toList r.tmps r'.tmps ha q2.tmps
  rw [← q2.ps] at this ⊢
  rw [← Array.foldl_toList, Array.toList_zip]
  exact this
 refine exec_sim hw hP hR hRk hl n _ _ q2.asg (.inr q2.plain.1) _ _ _ h1 0 ρ _ w hlim (fun b g1 g2 => hfr b g1 (by omega)) hr htm .nil _ ?_
 intro ρ1 a1 w1 hp1 ht1 hm1
 have hL1 : ρ1 b = some L := hp1.ext _ _ hL
 obtain ⟨r1, p1, p2⟩ := hp1.rel.loop b L _ hL1 hg1
 have hst : r1.state = .ready := p2.state
 refine ⟨_, run_beginRound p1 hst, ?_⟩
 have hlt1 := heap_lt p1
 have hp2 : Post P n0 lim ρ1 s1.H w1 ρ1 (s1.H.set b (.loop ⟨.busy, q, t, ps, a, c⟩)) (w1.putObj L.blk (.loop { r1 with state := .busy })) := by
  refine hp1.rel.turn hl hlb hL1 hg1 (by simp) (by simp) (fun r _ hne => World.putObj_heap_other hne) ⟨fun _ h => by simp at h, fun _ _ h => by simp at h, fun r h => ?_⟩ (same_putObj _ _ _)
  simp at h; subst h
  exact ⟨_, World.putObj_heap_same hlt1, ⟨rfl, p2.pend, p2.ps, p2.tmps, p2.asg, p2.body, p2.plain⟩⟩
 have hfr1 : ∀ b', s1.H.next ≤ b' → b' < s2.H.next → ρ1 b' = none := hp1.fresh (nx := s2.H.next) (fun b' g1 g2 => hfr b' g1 (by omega))
 refine exec_sim hw hP hR hRk hl n _ _ q2.body (.inr q2.plain.2) _ _ _ h2 0 ρ1 a1 _ (by simp only [Heap.next_set]; omega) (by simp only [Heap.next_set]; exact hfr1) hp2.rel ht1 (hm1.post hp2) _ ?_
 intro ρ3 a3 w3 hp3 ht3 hm3
 have hL3 : ρ3 b = some L := hp3.ext _ _ hL1
 obtain ⟨r3, p3, p4⟩ := hp3.rel.loop b L _ hL3 hg2
 have hlt3 := heap_lt p3
 have hp13 : Post P n0 lim ρ H w ρ3 s2.H w3 :=
  (hp1.trans (Nat.le_refl _) (fun b' g1 g2 => hfr b' g1 (by rw [Heap.next_set] at g2; omega)) hp2).trans (Nat.le_refl _) (fun b' g1 g2 => hfr b' g1 (by omega)) hp3
 have last : ∀ (st : LoopState) (pd : Option Ex), Post P n0 lim ρ3 s2.H w3 ρ3 (s2.H.set b (.loop { r2 with state := st, pending := pd })) (w3.putObj L.blk (.loop { r3 with state := st, pending := pd.map exCode })) := by
  intro st pd
  refine hp3.rel.turn hl hlb hL3 hg2 (by simp) (by simp) (fun r _ hne => World.putObj_heap_other hne) ⟨fun _ h => by simp at h, fun _ _ h => by simp at h, fun r h => ?_⟩ (same_putObj _ _ _)
  simp at h; subst h
  exact ⟨_, World.putObj_heap_same hlt3, ⟨rfl, rfl, p4.ps, p4.tmps, p4.asg, p4.body, p4.plain⟩⟩
 have fin : ∀ (st : LoopState) (pd : Option Ex) (bv : Bool), (v, H') = (AVal.bool bv, s2.H.set b (.loop { r2 with state := st, pending := pd })) →
   Ended P n0 lim ρ H w v H' (.returned (.bool bv)) (w3.putObj L.blk (.loop { r3 with state := st, pending := pd.map exCode })) := by
  intro st pd bv he
  simp at he; obtain ⟨rfl, rfl⟩ := he
  exact ⟨_, ρ3, rfl, .bool bv, hp13.trans (Nat.le_refl _) (fun b' g1 g2 => hfr b' g1 (by rw [Heap.next_set] at g2; omega)) (last st pd)⟩
 cases e with
 | norm =>
  simp only [Option.some.injEq] at h
  exact ⟨_, _, run_endRound none p3, fin .ready none true h.symm⟩
 | exit id =>
  simp only [Option.some.injEq] at h
  exact ⟨_, _, run_endRound (some (.exit id)) p3, fin .done (some (.exit id)) false h.symm⟩
 | ret =>
  simp only [Option.some.injEq] at h
  exact ⟨_, _, run_endRound (some .ret) p3, fin .done (some .ret) false h.symm⟩
structure PrimOK (P : Program) (f : FuncId) (g : Nat → List AVal → Heap → Option (AVal × Heap)) : Prop where
 keeps : ∀ lim args H v H', lim ≤ H.next → g lim args H = some (v, H') → H.next ≤ H'.next ∧ ∀ b, b < lim → H'.get b = H.get b
 fn : ∃ fn, P.funcs[f]? = some fn ∧ fn.body.isSome = true ∧ (fn.name == "runtime.NumGoroutine") = false
 calls : ∀ (n0 lim : Nat) (args : List AVal) (H : Heap) (v : AVal) (H' : Heap), g lim args H = some (v, H') →
  ∀ (ρ : Mp) (w : World) (args' : Array Value), n0 ≤ lim → lim ≤ H.next → (∀ b, H.next ≤ b → b < H'.next → ρ b = none) → Rel P n0 ρ H w → LRel ρ args args'.toList → Calls P f args' w (Ended P n0 lim ρ H w v H')
def FnOK (P : Program) (f : FuncId) : AFn → Prop
 | .code af => compF P f = some af
 | .prim g => PrimOK P f g
theorem run_keeps {P : Program} {ap : FuncId → Option AFn} (hap : ∀ f af, ap f = some af → FnOK P f af) : ∀ n, Keeps (runT ap n)
 | 0 => fun lim f args H v H' _ h => by cases f <;> simp [runT] at h
 | n + 1 => fun lim f args H v H' hl h => by
  cases f with
  | fn f =>
   simp only [runT] at h
   split at h
   ·rename_i af haf
    split at h
    ·simp at h
    ·rename_i ex s hne hex
     unfold leaveF at h
     rw [Option.map_eq_some_iff] at h
     obtain ⟨vs, _, h2⟩ := h
     simp at h2; obtain ⟨rfl, rfl⟩ := h2
     exact exec_keep (run_keeps hap n) n af.body _ ex s hl hex
    ·simp at h
   ·rename_i g hg
    exact (hap f _ hg : PrimOK P f g).keeps _ _ _ _ _ hl h
   ·simp at h
  | yl b =>
   simp only [runT] at h
   exact round_keep (fun c s e s' hl' hx => exec_keep (run_keeps hap n) n c s e s' hl' hx) hl h
theorem run_sim {ap : FuncId → Option AFn} (hP : P.follows .mixedOrders = true) (hap : ∀ f af, ap f = some af → FnOK P f af) : ∀ n, CallSim P (runT ap n)
 | 0 => fun n0 lim tg args H v H' h => by cases tg <;> simp [runT] at h
 | n + 1 => fun n0 lim tg args H v H' h => by
  cases tg with
  | yl b =>
   simp only [runT] at h
   intro ρ w args' L hL hl hlim hfr hr ha
   exact round_sim hP (run_sim hP hap n) (run_keeps hap n) h hL hl hlim hfr hr ha
  | fn f =>
   simp only [runT] at h
   split at h
   case h_3 => simp at h
   case h_2 g hg =>
    have hp : PrimOK P f g := hap f _ hg
    exact ⟨hp.fn, fun ρ w args' => hp.calls n0 lim args H v H' h ρ w args'⟩
   rename_i af haf
   have hcf : compF P f = some af := hap f _ haf
   unfold compF at hcf
   split at hcf
   case h_2 => simp at hcf
   rename_i fn hfn
   split at hcf
   case h_2 => simp at hcf
   rename_i c hbody
   split at hcf
   case h_2 => simp at hcf
   rename_i ac ars hac hars
   split at hcf <;> simp at hcf
   rename_i hname
   subst hcf
   refine ⟨⟨fn, hfn, by rw [hbody]; rfl, by simpa using hname⟩, ?_⟩
   intro ρ w args' hl hlim hfr hr hargs
   refine (callsIn_wide (n := 0)).1 (callsIn_of_wp_marks hfn hbody trivial ?_)
   have hent : LRel ρ (args ++ List.replicate (fn.ntmps - args.length) und) (args' ++ Array.replicate (fn.ntmps - args'.size) undef).toList := by
    have hl : args.length = args'.size := by simpa using hargs.1
    simp only [Array.toList_append, Array.toList_replicate, hl]
    exact LRel.append hargs (LRel.replicate _ (VRel.und ρ))
   split at h
   ·simp at h
   ·rename_i ex s hne hex
    unfold leaveF at h
    rw [Option.map_eq_some_iff] at h
    obtain ⟨vs, hvs, h2⟩ := h
    simp at h2; obtain ⟨rfl, rfl⟩ := h2
    refine exec_sim .wide hP (run_sim hP hap n) (run_keeps hap n) hl n c ac hac (.inl rfl) ⟨enterF { ntmps := fn.ntmps, results := ars, body := ac } args, H⟩ ex s hex w.heap.size ρ { tmps := args' ++ Array.replicate (fn.ntmps - args'.size) undef, defers := [] } w hlim hfr hr hent
     ⟨Nat.le_refl _, fun d hd => by simp at hd, .nil⟩ _ ?_
    intro ρ' a' w' hp ht hm
    have fin : LeavesInM Fence.wide 0 P fn a'.tmps (Ended P n0 lim ρ H w (oneOr vs) s.H) a'.defers .returning w' := by
     refine leaves_marks a'.defers w' hm fun w'' hoff => ?_
     have hp' := hoff.post hp
     obtain ⟨vs', q1, q2⟩ := results_sim (P := P) hars hp'.rel ht hvs
     refine ⟨_, ?_, _, ρ', rfl, oneOr_rel q2, hp'⟩
     unfold results
     rw [Array.mapM_eq_mapM_toList]
     simp only [Sem.run_bind, Sem.run_map, Sem.run_pure]
     exact Eq.trans (congrArg (fun z => Result.andThen (Result.andThen z _) _) q1) rfl
    cases ex with
    | norm => exact fin
    | ret => exact fin
    | exit id => exact (hne id rfl).elim
   ·simp at h
theorem PrimOK.of_run {ap : FuncId → Option AFn} (hP : P.follows .mixedOrders = true) (hap : ∀ f af, ap f = some af → FnOK P f af) {f : FuncId} {af : AFn} (hf : ap f = some af) {g : Nat → List AVal → Heap → Option (AVal × Heap)}
  (h : ∀ lim args H v H', g lim args H = some (v, H') → ∃ n, run ap n lim f args H = some (v, H')) : PrimOK P f g where
 keeps := fun lim args H v H' hl hg => by
  obtain ⟨n, hn⟩ := h lim args H v H' hg
  exact run_keeps hap n _ _ _ _ _ _ hl hn
 fn := by
  cases af with
  | prim g' => exact (hap f _ hf : PrimOK P f g').fn
  | code af =>
   have hcf : compF P f = some af := hap f _ hf
   unfold compF at hcf
   split at hcf
   case h_2 => simp at hcf
   rename_i fn hfn
   split at hcf
   case h_2 => simp at hcf
   rename_i c hbody
   split at hcf
   case h_2 => simp at hcf
   split at hcf <;> simp at hcf
   rename_i hname
   exact ⟨fn, hfn, by rw [hbody]; rfl, by simpa using hname⟩
 calls := fun n0 lim args H v H' hg => by
  obtain ⟨n, hn⟩ := h lim args H v H' hg
  exact (run_sim hP hap n n0 lim (.fn f) args H v H' hn).2
def AVal.bare : AVal → Bool
 | .int _ _ | .bool _ | .str _ => true
 | _ => false
theorem VRel.bare {ρ ρ' : Mp} {v : AVal} {v' : Value} (h : VRel ρ v v') (hb : v.bare = true) : VRel ρ' v v' := by
 cases h <;> simp [AVal.bare] at hb
 ·exact .int _ _
 ·exact .bool _
 ·rename_i e; exact .str e
theorem Rel.empty {P : Program} (n0 : Nat) (w : World) : Rel P n0 (fun _ => none) Heap.empty w :=
 ⟨fun b L cs h => by simp at h, fun b L es cl h => by simp at h, fun b L r h => by simp at h, fun b L h => by simp at h, fun b b' L L' _ _ h => by simp at h⟩
theorem PrimOK.closed {ap : FuncId → Option AFn} (hP : P.follows .mixedOrders = true) (hap : ∀ f af, ap f = some af → FnOK P f af) {f : FuncId} {n : Nat} {v0 : AVal} {H0 : Heap} (h : run ap n 0 f [] Heap.empty = some (v0, H0)) (hb : v0.bare = true) :
  PrimOK P f (fun _ args H => match args with | [] => some (v0, H) | _ => none) where
 keeps := fun lim args H v H' hl hg => by
  split at hg <;> simp at hg
  obtain ⟨_, rfl⟩ := hg
  exact ⟨Nat.le_refl _, fun _ _ => rfl⟩
 fn := (run_sim hP hap n 0 0 (.fn f) [] Heap.empty v0 H0 h).1
 calls := fun n0 lim args H v H' hg ρ w args' hl hlim hfr hr ha => by
  split at hg <;> simp at hg
  obtain ⟨rfl, rfl⟩ := hg
  have := (run_sim hP hap n 0 0 (.fn f) [] Heap.empty v0 H0 h).2 (fun _ => none) w args' (Nat.le_refl _) (Nat.le_refl _) (fun _ _ _ => rfl) (Rel.empty _ w) ⟨ha.1, fun i v v' e => by simp at e⟩
  refine this.mono ?_
  rintro e w' ⟨v', ρ', rfl, hv, hp⟩
  have hold : ∀ r, r < w.heap.size → w'.heap[r]? = w.heap[r]? := fun r hr' => hp.frame r hr' fun b L _ _ e => by simp at e
  refine ⟨v', ρ, rfl, hv.bare hb, ⟨⟨?_, ?_, ?_, ?_, hr.excl⟩, .refl ρ, fun b L e e' => by rw [e] at e'; simp at e', fun r h1 _ => hold r h1, hp.size, fun _ _ => rfl, Nat.le_refl _, hp.rest⟩⟩
  ·intro b L cs e1 e2
   obtain ⟨c0, ⟨t0, fr0, q1, q2, q3⟩, q4, q5⟩ := hr.row b L cs e1 e2
   exact ⟨c0, ⟨t0, fr0, by rw [hold _ (hr.dom _ _ e1)]; exact q1, q2, q3⟩, q4, q5⟩
  ·intro b L es cl e1 e2
   obtain ⟨es', q1, q2⟩ := hr.map b L es cl e1 e2
   exact ⟨es', by rw [hold _ (hr.dom _ _ e1)]; exact q1, q2⟩
  ·intro b L r e1 e2
   obtain ⟨r', q1, q2⟩ := hr.loop b L r e1 e2
   exact ⟨r', by rw [hold _ (hr.dom _ _ e1)]; exact q1, q2⟩
  ·intro b L e1
   exact Nat.lt_of_lt_of_le (hr.dom b L e1) hp.size
#print axioms run_sim
end
end Go.Ahs
