/- A call with whatever arguments: out of the run on the abstract machine. -/
import Derived.Test.YtnlimogbokkfpaaGreatChsO1
import Derived.ChangeShapes
import Derived.Carry
set_option linter.unusedSimpArgs false
set_option linter.unusedVariables false
namespace Go.Ahs
def aggB (P : Program) (t : TypeId) : Bool :=
 match P.underlying t with
 | some (.struct _) | some (.array _ _) => true
 | _ => false
def tysOf (P : Program) : List TypeId → Option (List (Bool × Ty))
 | [] => some []
 | t :: ts => match tyOf P 20 t, tysOf P ts with
  | some u, some us => some ((aggB P t, u) :: us)
  | _, _ => none
def WfArgs (H : Heap) : List (Bool × Ty) → List AVal → Prop
 | [], as => as = []
 | (g, u) :: us, as => ∃ a as', as = a :: as' ∧ (if g = true then ∃ cs, a = .agg cs ∧ Wf H u cs else Wf H u [a]) ∧ WfArgs H us as'
theorem WfArgs.keep {H H' : Heap} (hk : Keeps2 H H') : ∀ {us : List (Bool × Ty)} {as : List AVal}, WfArgs H us as → WfArgs H' us as
 | [], as, h => h
 | (g, u) :: us, as, ⟨a, as', h1, h2, h3⟩ => by
  refine ⟨a, as', h1, ?_, WfArgs.keep hk h3⟩
  cases g with
  | true =>
   rw [if_pos rfl] at h2 ⊢
   obtain ⟨cs, h4, h5⟩ := h2
   exact ⟨cs, h4, h5.keep hk⟩
  | false => exact h2.keep hk
section
variable {P : Program} {w : World} {D : Type} {enc : TypeId × Value → D} {base base' : Nat} {sp : Nat → Bool} {held : Bool} {r : Reach}
theorem cell_pos {u : TypeId} {a : Addr} {l c : Nat} (h : Cell.okWide P w r base u (.slice (some a) l c)) : 0 < w.heap.size := by
 have fin : ∀ e, w.has P r base a e c → 0 < w.heap.size := by
  rintro e ⟨_, _, row, cells, hs, _⟩
  unfold World.shape? at hs
  split at hs
  ·rename_i c' e' fr hh
   have := lt_of_heap hh
   omega
  ·simp at hs
 unfold Cell.okWide at h
 split at h
 ·rename_i heq; simp at heq
 ·rename_i heq; simp at heq
 ·rename_i heq; simp at heq
 ·rename_i heq; simp at heq
 ·rename_i heq; simp at heq
 ·rename_i heq; simp at heq
 ·rename_i heq; simp at heq
 ·unfold Cell.ok at h
  split at h
  ·rename_i heq; simp at heq
  ·rename_i heq; simp at heq
  ·rename_i heq; simp at heq
  ·rename_i heq; simp at heq
  ·rename_i heq; simp at heq
  ·rename_i heq; simp at heq
  ·rename_i heq; simp at heq
  ·rename_i heq; simp at heq
  ·rename_i heq
   simp at heq
   obtain ⟨rfl, rfl, rfl⟩ := heq
   exact fin _ h.2.2
  ·exact h.elim
theorem cell_one {t : TypeId} {m : Nat} {u : Ty} {v : Value} (hu : tyOf P m t = some u) (hg : aggB P t = false) (h : Value.okWide P w r base t v) : v.cells.toList = [v] ∧ Cell.okWide P w r base t v := by
 have key : ∀ d, P.underlying t = some d → (∀ fs, d ≠ .struct fs) → (∀ n e, d ≠ .array n e) → Cell.okWide P w r base t v := by
  intro d hd h1 h2
  unfold Value.okWide at h
  rw [hd] at h
  split at h
  ·rename_i heq; simp at heq; exact absurd heq (h1 _)
  ·rename_i heq; simp at heq; exact absurd heq (h2 _ _)
  ·exact h
 cases m with
 | zero => simp [tyOf] at hu
 | succ m =>
  unfold tyOf at hu
  unfold aggB at hg
  have fin : ∀ d, P.underlying t = some d → (d = .bool ∨ d = .string ∨ (∃ k, d = .int k) ∨ ∃ e, d = .slice e) → v.cells.toList = [v] ∧ Cell.okWide P w r base t v := by
   intro d hd hc
   have hk := key d hd (by rcases hc with rfl | rfl | ⟨_, rfl⟩ | ⟨_, rfl⟩ <;> simp) (by rcases hc with rfl | rfl | ⟨_, rfl⟩ | ⟨_, rfl⟩ <;> simp)
   refine ⟨?_, hk⟩
   cases v with
   | agg cs =>
    exfalso
    unfold Cell.okWide Cell.ok at hk
    rw [hd] at hk
    rcases hc with rfl | rfl | ⟨_, rfl⟩ | ⟨_, rfl⟩ <;> simp at hk
   | _ => rfl
  split at hu
  ·rename_i k hk; exact fin _ hk (.inr (.inr (.inl ⟨_, rfl⟩)))
  ·rename_i hk; exact fin _ hk (.inl rfl)
  ·rename_i hk; exact fin _ hk (.inr (.inl rfl))
  ·rename_i e hk; exact fin _ hk (.inr (.inr (.inr ⟨_, rfl⟩)))
  ·rename_i fs hk; rw [hk] at hg; simp at hg
  ·rename_i n e hk; rw [hk] at hg; simp at hg
  ·simp at hu
theorem open_arg (hsp : ∀ b, sp b = true) {t : TypeId} {u : Ty} {v : Value} {d : DataW D} {ps : List MemPlace} (hu : tyOf P 20 t = some u) (hval : Value.okWide P w r base t v) (hd : DataW.Trod enc P w base' sp held t v d ps)
  {ρ : Mp} {H : Heap} (hr : RelIn P ρ H w) : ∃ ρ' H' a, Keeps2 H H' ∧ Ext ρ ρ' ∧ RelIn P ρ' H' w ∧ VRel ρ' a v ∧ (if aggB P t = true then ∃ cs, a = .agg cs ∧ Wf H' u cs else Wf H' u [a]) := by
 obtain ⟨fuel, hf⟩ := hd
 cases hg : aggB P t with
 | false =>
  obtain ⟨hc, hk⟩ := cell_one hu hg hval
  rw [hc] at hf
  obtain ⟨ρ', H', acs, k1, e1, r1, l1, w1⟩ := open_ty hsp fuel t _ _ 20 u hu hf (fun a l c hm => by
   simp at hm; subst hm; exact cell_pos hk) ρ H hr
  have hl := l1.1
  match acs, hl, l1, w1 with
  | [a], _, l1, w1 => exact ⟨ρ', H', a, k1, e1, r1, l1.head, by rw [if_neg (by simp)]; exact w1⟩
  | [], hl, _, _ => simp at hl
  | _ :: _ :: _, hl, _, _ => simp at hl
 | true =>
  have hex : ∃ cs, v = .agg cs ∧ Row.okWide P w r base t cs := by
   unfold aggB at hg
   unfold Value.okWide at hval
   split at hg
   ·rename_i fs hs; rw [hs] at hval; obtain ⟨cs, h1, _, h2⟩ := hval; exact ⟨cs, h1, h2⟩
   ·rename_i n e hs; rw [hs] at hval; obtain ⟨cs, h1, _, h2⟩ := hval; exact ⟨cs, h1, h2⟩
   ·simp at hg
  obtain ⟨cs, rfl, ts, _, _, hrow⟩ := hex
  obtain ⟨ρ', H', acs, k1, e1, r1, l1, w1⟩ := open_ty hsp fuel t _ _ 20 u hu hf (fun a l c hm => by
   simp only [Value.cells] at hm
   obtain ⟨i, hi, hx⟩ := List.getElem_of_mem hm
   have : cs[i]? = some (.slice (some a) l c) := by rw [Array.getElem?_eq_getElem (by simpa using hi)]; simpa using hx
   obtain ⟨u', _, hcell⟩ := hrow i _ this
   exact cell_pos hcell) ρ H hr
  exact ⟨ρ', H', .agg acs, k1, e1, r1, VRel.agg_of l1, by rw [if_pos rfl]; exact ⟨acs, rfl, w1⟩⟩
theorem open_args (hsp : ∀ b, sp b = true) : ∀ (ts : List TypeId) (us : List (Bool × Ty)) (vs : List Value) (ds : List (DataW D)) (ps : List MemPlace), tysOf P ts = some us → (∀ (j : Nat) t v, ts[j]? = some t → vs[j]? = some v → Value.okWide P w r base t v) →
  DataW.TrodAll enc P w base' sp held ts vs ds ps → ∀ (ρ : Mp) (H : Heap), RelIn P ρ H w → ∃ ρ' H' as, Keeps2 H H' ∧ Ext ρ ρ' ∧ RelIn P ρ' H' w ∧ LRel ρ' as vs ∧ WfArgs H' us as
 | [], us, vs, ds, ps, hu, _, hA, ρ, H, hr => by
  simp [tysOf] at hu; subst hu
  cases vs <;> cases ds <;> simp [DataW.TrodAll] at hA
  exact ⟨ρ, H, [], .refl H, .refl ρ, hr, LRel.nil ρ, rfl⟩
 | t :: ts, us, vs, ds, ps, hu, hval, hA, ρ, H, hr => by
  obtain ⟨v, vs', d, ds', p, q, rfl, rfl, rfl, h1, h2⟩ := Go.ChangeShapes.trodAll_cons hA
  unfold tysOf at hu
  split at hu
  case h_2 => simp at hu
  rename_i u us' hu1 hu2
  simp at hu; subst hu
  obtain ⟨ρ1, H1, a, k1, e1, r1, v1, w1⟩ := open_arg hsp hu1 (hval 0 t v rfl rfl) h1 hr
  obtain ⟨ρ2, H2, as, k2, e2, r2, l2, w2⟩ := open_args hsp ts us' vs' ds' q hu2 (fun j t v h h' => hval (j + 1) t v (by simpa using h) (by simpa using h')) h2 ρ1 H1 r1
  refine ⟨ρ2, H2, a :: as, k1.trans k2, e1.trans e2, r2, LRel.cons (v1.ext e2) l2, a, as, rfl, ?_, w2⟩
  cases hg : aggB P t with
  | true =>
   rw [hg, if_pos rfl] at w1
   rw [if_pos rfl]
   obtain ⟨cs, h4, h5⟩ := w1
   exact ⟨cs, h4, h5.keep k2⟩
  | false =>
   rw [hg] at w1
   exact Wf.keep k2 w1
open Go.RowKit in
theorem law_calls {ap : FuncId → Option AFn} (hP : P.follows .mixedOrders = true) (hap : ∀ f af, ap f = some af → FnOK P f af) {f : Nat} {ts : List TypeId} {us : List (Bool × Ty)} {args : Array Value} {ds : List (DataW D)} {ps : List MemPlace}
  (hu : tysOf P ts = some us) (hval : ∀ (j : Nat) t v, ts[j]? = some t → args[j]? = some v → Value.okWide P w r base t v) (hA : DataW.TrodAll enc P w 0 (fun _ => true) true ts args.toList ds ps)
  (walk : ∀ (H : Heap) (as : List AVal), WfArgs H us as → ∃ n, isTrue (run ap n H.next f as H) = true) :
  Calls P f args w fun e w' => e = .returned (.bool true) ∧ Below w.heap.size w w' := by
 obtain ⟨ρ, H, as, _, _, hr, hl, hw⟩ := open_args (fun _ => rfl) ts us args.toList ds ps hu (fun j t v h h' => hval j t v h (by simpa using h')) hA _ _ (RelIn.empty P w)
 obtain ⟨n, hn⟩ := walk H as hw
 exact calls_true hP hap hn (hr.rel _ (Nat.le_refl _)) hr.fresh hl
open Go.RowKit in
theorem law_callsP {ap : FuncId → Option AFn} (hP : P.follows .mixedOrders = true) (hap : ∀ f af, ap f = some af → FnOK P f af) {f : Nat} {ts : List TypeId} {us : List (Bool × Ty)} {args : Array Value} {ds : List (DataW D)} {ps : List MemPlace}
  (hu : tysOf P ts = some us) (hval : ∀ (j : Nat) t v, ts[j]? = some t → args[j]? = some v → Value.okWide P w r base t v) (hA : DataW.TrodAll enc P w 0 (fun _ => true) true ts args.toList ds ps)
  (walk : ∀ (H : Heap) (as : List AVal), WfArgs H us as → PlainH H → ∃ n, isTrue (run ap n H.next f as H) = true) :
  Calls P f args w fun e w' => e = .returned (.bool true) ∧ Below w.heap.size w w' := by
 obtain ⟨ρ, H, as, _, _, hr, hl, hw⟩ := open_args (fun _ => rfl) ts us args.toList ds ps hu (fun j t v h h' => hval j t v h (by simpa using h')) hA _ _ (RelIn.empty P w)
 obtain ⟨n, hn⟩ := walk H as hw hr.flat
 exact calls_true hP hap hn (hr.rel _ (Nat.le_refl _)) hr.fresh hl
def rowedAll (P : Program) (ts : List TypeId) : Bool := ts.all fun t => P.readableRec t && decide (t < P.types.size)
open Go.RowKit in
theorem Below.trodAll (hl : laidOutB P = true) {W W' : World} (hb : Below W.heap.size W W') : ∀ {ts : List TypeId} {vs : List Value} {ds : List (DataW D)} {ps : List MemPlace}, rowedAll P ts = true → DataW.TrodAll enc P W 0 (fun _ => true) true ts vs ds ps →
  (∀ x ∈ ps, x.block < W.heap.size) → DataW.TrodAll enc P W' 0 (fun b => decide (b < W.heap.size)) true ts vs ds ps
 | [], [], [], _, _, h, _ => h
 | [], _ :: _, _, _, _, h, _ => h.elim
 | [], [], _ :: _, _, _, h, _ => h.elim
 | _ :: _, [], _, _, _, h, _ => h.elim
 | _ :: _, _ :: _, [], _, _, h, _ => h.elim
 | t :: ts, v :: vs, d :: ds, ps, hr, h, hlt => by
  obtain ⟨p, q, h1, h2, rfl⟩ := h
  simp only [rowedAll, List.all_cons, Bool.and_eq_true, decide_eq_true_eq] at hr
  exact ⟨p, q, Below.trod hl hr.1.1 hr.1.2 h1 hb (fun x hx => hlt x (by simp [hx])), Below.trodAll hl hb hr.2 h2 (fun x hx => hlt x (by simp [hx])), rfl⟩
end
end Go.Ahs
