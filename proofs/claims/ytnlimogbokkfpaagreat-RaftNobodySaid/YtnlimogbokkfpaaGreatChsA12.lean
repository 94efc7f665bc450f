/- Every operation that is no call; a call's arguments. -/
import Derived.Test.YtnlimogbokkfpaaGreatChsM2
set_option linter.unusedSimpArgs false
set_option linter.unusedVariables false
namespace Go.Ahs
section
variable {P : Program} {n0 lim : Nat} {ρ : Mp} {H H' : Heap} {w : World} {R : Caller} {ev : Opd → AVal} {ev' : Operand → Value} {v : AVal}
theorem SimOp.ofU (hr : Rel P n0 ρ H w) {s : Sem Unit} {w' : World} (h : s.run P w = .ok () w') (hp : Post P n0 lim ρ H w ρ H' w') : SimOp P n0 lim ρ H w (do s; pure .skip) und H' :=
 ⟨.skip, w', ρ, by simp [h], hp, .inr ⟨rfl, rfl⟩⟩
theorem SimOp.ofB {s : Sem Value} (h : Sim1 P n0 lim ρ H w s v H') : SimOp P n0 lim ρ H w (do pure (.value (← s))) v H' := .of1 h
theorem builtin_sim (hr : Rel P n0 ρ H w) (hl : n0 ≤ lim) (hlim : lim ≤ H.next) (hfr : H.next < H'.next → ρ H.next = none) (he : EvRel ρ ev ev') {b : Builtin} {argTypes : Array TypeId} {args : Array Operand} {type : TypeId} {consts : Array Bool}
  {ys : List Opd} {aop : Aop} (ha : allSome copd args.toList = some ys) (hc : compBuiltin P b argTypes ys = some aop) (h : step R lim ev H aop = some (v, H')) :
  SimOp P n0 lim ρ H w (builtin b argTypes type consts (args.map ev')) v H' := by
 have hall := allSome_map_rel (ρ := ρ) he ha
 have hargs : ∀ {as : List Value}, args.toList.map ev' = as → args.map ev' = as.toArray := by
  intro as e; apply Array.ext'; simpa using e
 unfold compBuiltin at hc
 split at hc
 ·-- append
  rename_i s x
  generalize e1 : args.toList.map ev' = as at hall
  match as, hall with
  | [], hall => have := hall.1; simp at this
  | [_], hall => have := hall.1; simp at this
  | _ :: _ :: _ :: _, hall => have := hall.1; simp at this
  | [s', x'], hall =>
   have hs := hall.head
   have hx := hall.tail.head
   split at hc
   ·rename_i t tx h0 h1
    rw [hargs e1]
    split at hc
    ·rename_i e k ht htx
     split at hc
     ·rename_i z i hz hi
      simp at hc; subst hc
      exact .ofB (append_sim (zeros := true) hr hl hlim hfr h0 h1 ht (by simpa using ⟨_, htx⟩) hi hz hs hx h)
     ·simp at hc
    ·rename_i e k ht htx
     split at hc
     ·rename_i z i hz hi
      simp at hc; subst hc
      exact .ofB (append_sim (zeros := false) hr hl hlim hfr h0 h1 ht (by simpa using .inl ⟨_, htx⟩) hi hz hs hx h)
     ·simp at hc
    ·rename_i e ht htx
     split at hc
     ·rename_i z i hz hi
      simp at hc; subst hc
      exact .ofB (append_sim (zeros := false) hr hl hlim hfr h0 h1 ht (by simpa using .inr htx) hi hz hs hx h)
     ·simp at hc
    ·simp at hc
   ·simp at hc
 ·-- copy
  rename_i d s
  generalize e1 : args.toList.map ev' = as at hall
  match as, hall with
  | [], hall => have := hall.1; simp at this
  | [_], hall => have := hall.1; simp at this
  | _ :: _ :: _ :: _, hall => have := hall.1; simp at this
  | [d', s'], hall =>
   split at hc
   ·rename_i t h0
    split at hc
    ·rename_i e ht
     simp at hc
     obtain ⟨z, hz, rfl⟩ := hc
     rw [hargs e1]
     exact .ofB (copy_sim hr hl h0 ht hz hall.head hall.tail.head h)
    ·simp at hc
   ·simp at hc
 ·-- len
  rename_i x
  generalize e1 : args.toList.map ev' = as at hall
  match as, hall with
  | [], hall => have := hall.1; simp at this
  | _ :: _ :: _, hall => have := hall.1; simp at this
  | [x'], hall =>
   split at hc
   ·rename_i t h0
    rw [hargs e1]
    have hx := hall.head
    split at hc
    ·rename_i ht
     simp at hc; subst hc
     obtain ⟨h1, rfl⟩ := val_some h
     unfold alen at h1
     split at h1 <;> simp at h1
     subst h1
     rename_i sx heq
     rw [heq] at hx
     cases hx with | str hs =>
     refine .ofB (.same hr (v' := goInt _) (by simp only [Builtin.len_, h0, Sem.run_bind, run_und ht, Result.andThen_ok, List.getElem?_toArray, List.getElem?_cons_zero, Sem.run_pure]; rfl) ?_)
     rw [size_list hs]; exact .int _ _
    ·rename_i e ht
     simp at hc; subst hc
     obtain ⟨h1, rfl⟩ := val_some h
     unfold alen at h1
     split at h1 <;> simp at h1
     subst h1
     rename_i a n c heq
     rw [heq] at hx
     obtain ⟨a', cp, rfl, _⟩ := slice_all hx
     exact .ofB (.same hr (v' := goInt n) (by simp only [Builtin.len_, h0, Sem.run_bind, run_und ht, Result.andThen_ok, List.getElem?_toArray, List.getElem?_cons_zero, Sem.run_pure]) (.int _ _))
    ·rename_i kt e ht
     simp at hc; subst hc
     obtain ⟨h1, rfl⟩ := val_some h
     exact .ofB (mapLen_sim hr h0 ht hx h1)
    ·simp at hc
   ·simp at hc
 ·-- delete
  rename_i m k
  generalize e1 : args.toList.map ev' = as at hall
  match as, hall with
  | [], hall => have := hall.1; simp at this
  | [_], hall => have := hall.1; simp at this
  | _ :: _ :: _ :: _, hall => have := hall.1; simp at this
  | [m', k'], hall =>
   split at hc
   ·rename_i t h0
    rw [hargs e1]
    split at hc
    ·rename_i kt e ht
     rw [Option.map_eq_some_iff] at hc
     obtain ⟨⟨g, ls⟩, hk, rfl⟩ := hc
     simp only [step, Option.map_eq_some_iff] at h
     obtain ⟨H1, h1, h2⟩ := h
     simp at h2; obtain ⟨rfl, rfl⟩ := h2
     exact .ofB (mapDelete_sim hr hl h0 ht hk hall.head hall.tail.head h1)
    ·simp at hc
   ·simp at hc
 ·-- clear
  rename_i m
  generalize e1 : args.toList.map ev' = as at hall
  match as, hall with
  | [], hall => have := hall.1; simp at this
  | _ :: _ :: _, hall => have := hall.1; simp at this
  | [m'], hall =>
   split at hc
   ·rename_i t h0
    rw [hargs e1]
    split at hc
    ·rename_i kt e ht
     simp at hc; subst hc
     simp only [step, Option.map_eq_some_iff] at h
     obtain ⟨H1, h1, h2⟩ := h
     simp at h2; obtain ⟨rfl, rfl⟩ := h2
     exact .ofB (mapClear_sim hr hl h0 ht hall.head h1)
    ·rename_i e ht
     split at hc
     ·rename_i z hz
      split at hc <;> simp at hc
      rename_i hpos
      subst hc
      simp only [step, Option.map_eq_some_iff] at h
      obtain ⟨H1, h1, h2⟩ := h
      simp at h2; obtain ⟨rfl, rfl⟩ := h2
      exact .ofB (clearSl_sim hr hl h0 ht hz hpos hall.head h1)
     ·simp at hc
    ·simp at hc
   ·simp at hc
 ·-- cap
  rename_i x
  generalize e1 : args.toList.map ev' = as at hall
  match as, hall with
  | [], hall => have := hall.1; simp at this
  | _ :: _ :: _, hall => have := hall.1; simp at this
  | [x'], hall =>
   split at hc
   ·rename_i t h0
    rw [hargs e1]
    have hx := hall.head
    split at hc
    ·rename_i e ht
     simp at hc; subst hc
     obtain ⟨h1, rfl⟩ := val_some h
     unfold acap at h1
     split at h1 <;> simp at h1
     subst h1
     rename_i a n c heq
     rw [heq] at hx
     cases hx <;>
     exact .ofB (.same hr (v' := goInt _) (by simp only [Builtin.cap_, h0, Sem.run_bind, run_und ht, Result.andThen_ok, List.getElem?_toArray, List.getElem?_cons_zero, Sem.run_pure] <;> rfl) (.int _ _))
    ·simp at hc
   ·simp at hc
 ·simp at hc; subst hc
  obtain ⟨h1, rfl⟩ := val_some h
  exact .ofB (minmax_sim (P := P) (isMax := true) hr (by simpa using hall) h1 argTypes type)
 ·simp at hc; subst hc
  obtain ⟨h1, rfl⟩ := val_some h
  exact .ofB (minmax_sim (P := P) (isMax := false) hr (by simpa using hall) h1 argTypes type)
 ·simp at hc
theorem methT_inv {name : String} {t : TypeId} {f : FuncId} (h : methT P name t = some f) :
  ∃ i e m, P.info? t = some i ∧ P.underlying t = some (.pointer e) ∧ i.methods.find? (·.name == name) = some m ∧ m.path.toList = [] ∧ m.func = some (f, true) := by
 unfold methT at h
 split at h
 case h_2 => simp at h
 rename_i i e hi hu
 split at h
 case h_2 => simp at h
 rename_i m hm
 split at h
 case h_2 => simp at h
 rename_i f' hp hf
 simp at h; subst h
 exact ⟨i, e, m, hi, hu, hm, hp, hf⟩
theorem nilAhead_run {name : String} {t : TypeId} {f : FuncId} (h : methT P name t = some f) (k : Nat) (v : Value) (w : World) : (nilAhead (k + 1) t v name).run P w = .ok (some false) w := by
 obtain ⟨i, e, m, hi, hu, hm, hp, hf⟩ := methT_inv h
 simp only [nilAhead, Sem.run_bind, run_typeInfo' hi, Result.andThen_ok, hm, Sem.run_pure, hp, followBlind, hf]
theorem method_run {name : String} {t : TypeId} {f : FuncId} (h : methT P name t = some f) (k : Nat) (v : Value) (w : World) : (method (k + 1) t v name).run P w = .ok (f, v) w := by
 obtain ⟨i, e, m, hi, hu, hm, hp, hf⟩ := methT_inv h
 simp only [method, Sem.run_bind, run_typeInfo' hi, Result.andThen_ok, hm, Sem.run_pure, hp, follow, hf, receiverAt, run_und hu, Place.get]
theorem mthTab_mem {ty : TypeId} {name : String} {t : TypeId} (h : (mthTab P ty).contains (name, t) = true) : ∃ f, methT P name t = some f := by
 rw [List.contains_iff_mem] at h
 unfold mthTab at h
 rw [List.mem_flatMap] at h
 obtain ⟨⟨i, t'⟩, _, h⟩ := h
 rw [List.mem_filterMap] at h
 obtain ⟨m, _, h⟩ := h
 split at h
 ·rename_i hc
  simp only [Option.some.injEq, Prod.mk.injEq] at h
  obtain ⟨rfl, rfl⟩ := h
  simp only [Bool.and_eq_true] at hc
  exact Option.isSome_iff_exists.1 hc.2
 ·simp at h
theorem lookup_mem {α : Type} : ∀ {l : List (Nat × α)} {t : Nat} {x : α}, l.lookup t = some x → (t, x) ∈ l
 | [], t, x, h => by simp at h
 | (a, b) :: l, t, x, h => by
  rw [List.lookup_cons] at h
  split at h
  ·rename_i e
   simp at h e; subst h; subst e; simp
  ·exact List.mem_cons_of_mem _ (lookup_mem h)
theorem invTab_lookup {name : String} {as : List TypeId} {t : TypeId} {f : FuncId} (h : (invTab P name as).lookup t = some f) : methT P name t = some f := by
 have := lookup_mem h
 unfold invTab at this
 rw [List.mem_filterMap] at this
 obtain ⟨⟨i, t'⟩, _, h'⟩ := this
 replace h' : (if takes P as i = true then (methT P name t').map (fun f => (t', f)) else none) = some (t, f) := h'
 by_cases hc : takes P as i = true
 case neg => rw [if_neg hc] at h'; simp at h'
 rw [if_pos hc, Option.map_eq_some_iff] at h'
 obtain ⟨f', h1, h2⟩ := h'
 simp at h2
 obtain ⟨rfl, rfl⟩ := h2
 exact h1
theorem VRel.iface_inv {ρ : Mp} {t : TypeId} {v : AVal} {v' : Value} (h : VRel ρ (.iface t v) v') : ∃ x, v' = .iface t x ∧ VRel ρ v x := by
 cases h with | iface h => exact ⟨_, rfl, h⟩
theorem opd_inv {x : Operand} {o : Option Aop} {f : Opd → Aop} {aop : Aop} (h : (copd x).map f = some aop) : ∃ y, copd x = some y ∧ aop = f y := by
 rw [Option.map_eq_some_iff] at h
 obtain ⟨y, h1, h2⟩ := h
 exact ⟨y, h1, h2.symm⟩
theorem sim_step (hr : Rel P n0 ρ H w) (hl : n0 ≤ lim) (hlim : lim ≤ H.next) (hfr : H.next < H'.next → ρ H.next = none) (he : EvRel ρ ev ev') {o : Oper} {aop : Aop} (hc : compOp P o.type o.op = some aop) (hcall : aop.isCall = false)
  (h : step R lim ev H aop = some (v, H')) : SimOp P n0 lim ρ H w (Go.execOp ev' o) v H' := by
 obtain ⟨dst, op, type, pos, after, guard⟩ := o
 simp only at hc
 cases op
 case move x =>
  obtain ⟨y, hy, rfl⟩ := opd_inv (o := none) hc
  simp [step] at h; obtain ⟨rfl, rfl⟩ := h
  exact .value hr (he _ _ hy)
 case assign x =>
  obtain ⟨y, hy, rfl⟩ := opd_inv (o := none) hc
  simp [step] at h; obtain ⟨rfl, rfl⟩ := h
  exact .value hr (he _ _ hy)
 case pick c a b =>
  simp only [compOp] at hc
  split at hc <;> simp at hc
  rename_i c' a' b' h1 h2 h3
  subst hc
  have r1 := he _ _ h1
  simp only [step] at h
  split at h <;> simp at h
  rename_i t ht
  obtain ⟨rfl, rfl⟩ := h
  rw [ht] at r1
  simp only [Go.execOp]
  generalize ev' c = cv at r1
  cases r1
  refine ⟨.value (if t then ev' a else ev' b), w, ρ, by simp [asBool], .refl hr, .inl ⟨_, rfl, ?_⟩⟩
  cases t
  ·exact he _ _ h3
  ·exact he _ _ h2
 case alloc e =>
  simp only [compOp, Option.map_eq_some_iff] at hc
  obtain ⟨z, hz, rfl⟩ := hc
  simp [step] at h; obtain ⟨rfl, rfl⟩ := h
  obtain ⟨i, zv, hi, hzv, hzl, hzc, hzr, hz1⟩ := zeroT_inv ρ hz
  obtain ⟨s1, s2⟩ := alloc_sim (P := P) (lim := lim) hr hlim (hfr (Nat.lt_succ_self _)) e hzr
  refine .of1 ⟨.pointer (some ⟨w.heap.size, 0, none⟩), _, _, ?_, s2, .ptr (upd_same _ _ _)⟩
  simp only [Instr.alloc, Sem.run_bind, run_zeroValue' hi hzv, Result.andThen_ok, newVar, s1, Sem.run_pure]
 case box e x =>
  obtain ⟨y, hy, rfl⟩ := opd_inv (o := none) hc
  simp only [step] at h
  split at h <;> simp at h
  obtain ⟨rfl, rfl⟩ := h
  obtain ⟨s1, s2⟩ := alloc_sim (P := P) (lim := lim) hr hlim (hfr (Nat.lt_succ_self _)) e (he _ _ hy).cells
  refine .of1 ⟨.pointer (some ⟨w.heap.size, 0, none⟩), _, _, ?_, s2, .ptr (upd_same _ _ _)⟩
  simp only [Instr.box, Sem.run_bind, newVar, s1, Result.andThen_ok, Sem.run_pure]
 case build t parts => exact .of1 (build_sim hr he hc h)
 case buildSlice t len parts => exact .of1 (buildSlice_sim hr hlim hfr he hc h)
 case load t a =>
  simp only [compOp] at hc
  split at hc <;> simp at hc
  rename_i g a' h1 h2
  subst hc
  obtain ⟨h3, rfl⟩ := val_some h
  obtain ⟨p, v', e1, e2, e3⟩ := aload_sim (P := P) hr h1 (he _ _ h2) h3
  refine .of1 (.same hr (v' := v') ?_ e3)
  simp only [Instr.loadAt, e1, Instr.sureAddr, Sem.run_bind, Sem.run_pure, Result.andThen_ok, e2]
 case store t a x =>
  simp only [compOp] at hc
  split at hc <;> simp at hc
  rename_i n a' x' h1 h2 h3
  subst hc
  simp only [step, Option.map_eq_some_iff] at h
  obtain ⟨H1, h4, h5⟩ := h
  simp at h5; obtain ⟨rfl, rfl⟩ := h5
  obtain ⟨w', q1, q2⟩ := astore_sim (P := P) hr hl h1 (he _ _ h2) (he _ _ h3) h4
  exact .ofU hr q1 q2
 case nilCheck x =>
  simp only [compOp] at hc
  split at hc
  ·obtain ⟨y, hy, rfl⟩ := opd_inv (o := none) hc
   have r1 := he _ _ hy
   simp only [step] at h
   split at h
   ·rename_i f a b hf
    simp at h; obtain ⟨rfl, rfl⟩ := h
    rw [hf] at r1
    simp only [Go.execOp]
    generalize ev' x = cv at r1
    have r2 := r1
    cases r1
    exact .value hr r2
   ·rename_i name t v0 hm
    split at h <;> simp at h
    rename_i hin
    obtain ⟨rfl, rfl⟩ := h
    rw [hm] at r1
    obtain ⟨f, hf⟩ := mthTab_mem hin
    simp only [Go.execOp]
    generalize ev' x = cv at r1
    have r2 := r1
    cases r1 with
    | mth h0 =>
     have hn := fun (v' : Value) => nilAhead_run hf (P.types.size + 99) v' w
     refine ⟨_, w, ρ, ?_, .refl hr, .inl ⟨_, rfl, r2⟩⟩
     simp only [List.getElem?_toArray, List.getElem?_cons_zero, Sem.run_bind, run_program, Result.andThen_ok, show P.types.size + Made.depth = P.types.size + 99 + 1 from rfl, hn, bne_self_eq_false, Bool.false_eq_true, if_false, Sem.run_pure]
   ·simp at h
  ·obtain ⟨y, hy, rfl⟩ := opd_inv (o := none) hc
   have r1 := he _ _ hy
   simp only [step] at h
   split at h <;> simp at h
   rename_i a ha
   obtain ⟨rfl, rfl⟩ := h
   rw [ha] at r1
   simp only [Go.execOp]
   generalize ev' x = cv at r1
   have r2 := r1
   cases r1
   exact .value hr r2
 case binOp op t x y yt =>
  simp only [compOp] at hc
  split at hc
  ·rename_i x' y' h1 h2
   exact .of1 (bin_sim hr h1 h2 hc (he _ _ h1) (he _ _ h2) h)
  ·simp at hc
 case unOp op t x =>
  obtain ⟨y, hy, rfl⟩ := opd_inv (o := none) hc
  obtain ⟨h1, rfl⟩ := val_some h
  unfold aun at h1
  split at h1
  ·rename_i u hu
   obtain ⟨v', q1, q2⟩ := pureV_run (P := P) h1 ρ w
   rw [← toV_rel (he _ _ hy) hu] at q1
   exact .of1 (.same hr q1 q2)
  ·simp at h1
 case convert src dst x =>
  simp only [compOp] at hc
  split at hc
  ·rename_i k1 k2 y h1 h2 h3
   simp at hc; subst hc
   have r1 := he _ _ h3
   simp only [step] at h
   split at h <;> simp at h
   rename_i k n hy
   obtain ⟨rfl, rfl⟩ := h
   rw [hy] at r1
   simp only [Go.execOp]
   generalize ev' x = cv at r1
   cases r1
   refine .of1 (.same hr (v' := .int k2 (k2.wrap n)) ?_ (.int _ _))
   simp only [convert, Sem.run_bind, run_und h1, run_und h2, Result.andThen_ok, Conv.intToInt, Sem.run_pure]
  ·rename_i y h1 h2 h3
   simp at hc; subst hc
   have r1 := he _ _ h3
   simp only [step] at h
   split at h <;> simp at h
   rename_i s hy
   obtain ⟨rfl, rfl⟩ := h
   rw [hy] at r1
   simp only [Go.execOp]
   generalize ev' x = cv at r1
   cases r1 with | str hs =>
   refine .of1 (.same hr (v' := .string _) ?_ (.str hs))
   simp only [convert, Sem.run_bind, run_und h1, run_und h2, Result.andThen_ok, Sem.run_pure]
  ·rename_i e y h1 h2 h3
   split at hc <;> simp at hc
   rename_i hu8
   subst hc
   obtain ⟨s, e1, e2⟩ := strToBytes_sim (P := P) (lim := lim) hr hlim (hfr (by
    simp only [step, strToBytes] at h
    split at h
    ·split at h <;> simp at h
     rw [← h.2, Heap.next_push]; omega
    ·simp at h)) e (he _ _ h3) h
   have hu : P.underlying e = some (.int .u8) := hu8
   obtain ⟨v', w', ρ', q1, q2, q3⟩ := e2
   refine .of1 ⟨v', w', ρ', ?_, q2, q3⟩
   simp only [convert, e1, Sem.run_bind, run_und h1, run_und h2, run_und hu, Result.andThen_ok, q1]
  ·rename_i e y h1 h2 h3
   split at hc <;> simp at hc
   rename_i hu8
   subst hc
   obtain ⟨h4, rfl⟩ := val_some h
   have hu : P.underlying e = some (.int .u8) := hu8
   have hx := he _ _ h3
   obtain ⟨v', w', ρ', q1, q2, q3⟩ := bytesToStr_sim (P := P) (lim := lim) hr hx h4
   refine .of1 ⟨v', w', ρ', ?_, q2, q3⟩
   have hsl : ∃ a n c, ev' x = .slice a n c := by
    generalize ev y = A at hx h4
    unfold abytesToStr at h4
    split at h4
    ·obtain ⟨a, c, e, _⟩ := slice_all hx; exact ⟨_, _, _, e⟩
    ·obtain ⟨a, c, e, _⟩ := slice_all hx; exact ⟨_, _, _, e⟩
    ·simp at h4
   obtain ⟨a, n, c, hsl⟩ := hsl
   rw [hsl] at q1 ⊢
   simp only [convert, Sem.run_bind, run_und h1, run_und h2, run_und hu, Result.andThen_ok, q1]
  ·simp at hc
 case makeInterface t x =>
  simp only [compOp] at hc
  split at hc
  ·simp at hc
  ·rename_i d y hn h1 h2
   simp at hc; subst hc
   simp [step] at h; obtain ⟨rfl, rfl⟩ := h
   refine .of1 (.same hr (v' := .iface t (ev' x)) ?_ (.iface (he _ _ h2)))
   simp only [Instr.makeInterface, Sem.run_bind, run_und h1, Result.andThen_ok]
   cases d <;> first | rfl | exact absurd h1 (hn _)
  ·simp at hc
 case makeFunc fn first captured =>
  cases fn <;> simp only [compOp] at hc <;> try (simp at hc; done)
  case method name =>
   split at hc
   case h_2 => simp at hc
   rename_i x h1 h2
   obtain ⟨y, hy, rfl⟩ := opd_inv (o := none) hc
   simp only [step] at h
   split at h <;> simp at h
   rename_i t v0 hv
   obtain ⟨rfl, rfl⟩ := h
   have r1 := he _ _ hy
   rw [hv] at r1
   obtain ⟨x', e1, r2⟩ := r1.iface_inv
   have hfirst : first = #[x] := by
    have := congrArg List.toArray h1; simpa using this
   have hcap : captured = #[] := by
    have := congrArg List.toArray h2; simpa using this
   subst hfirst hcap
   refine .of1 (.same hr (v' := .func (.method name) #[.iface t x'] #[]) ?_ (.mth r2))
   simp only [Instr.makeFunc, List.map_toArray, List.map_cons, List.map_nil, e1, Sem.run_pure]
  rename_i f
  split at hc <;> simp at hc
  rename_i a b h1 h2
  subst hc
  simp [step] at h; obtain ⟨rfl, rfl⟩ := h
  exact .of1 (.same hr (v' := .func (.func f) (first.map ev') (captured.map ev')) rfl (VRel.fn_of (by simpa using allSome_map_rel he h1) (by simpa using allSome_map_rel he h2)))
 case makeSlice t l c =>
  simp only [compOp] at hc
  split at hc
  ·rename_i e l' c' h1 h2 h3
   split at hc
   ·rename_i z i hz hi
    split at hc <;> simp at hc
    rename_i hpos
    subst hc
    refine .of1 (makeSlice_sim hr hlim (hfr ?_) h1 hi hz (he _ _ h2) (he _ _ h3) hpos h)
    simp only [step, amakeSlice] at h
    split at h
    ·split at h <;> simp at h
     rw [← h.2, Heap.next_push]; omega
    ·simp at h
   ·simp at hc
  ·simp at hc
 case slice t x lo hi mx =>
  simp only [compOp] at hc
  split at hc
  ·rename_i x' lo' hi' mx' h1 h2 h3 h4
   split at hc
   ·rename_i e hu
    simp at hc
    obtain ⟨s, hs, rfl⟩ := hc
    obtain ⟨h5, rfl⟩ := val_some h
    exact .of1 (slice_sim hr hu hs (he _ _ h1) (optO_rel he h2) (optO_rel he h3) (optO_rel he h4) h5)
   ·rename_i hu
    split at hc <;> simp at hc
    rename_i hmx
    subst hc
    obtain ⟨h5, rfl⟩ := val_some h
    have : mx = none := by
     cases mx with
     | none => rfl
     | some z => simp [optO] at h4; obtain ⟨q, _, rfl⟩ := h4; simp at hmx
    subst this
    exact .of1 (sliceStr_sim hr hu (he _ _ h1) (optO_rel he h2) (optO_rel he h3) h5)
   ·rename_i n e hu
    simp at hc
    obtain ⟨s, hs, rfl⟩ := hc
    obtain ⟨h5, rfl⟩ := val_some h
    exact .of1 (sliceArr_sim hr hu hs (he _ _ h1) (optO_rel he h2) (optO_rel he h3) (optO_rel he h4) h5)
   ·simp at hc
  ·simp at hc
 case fieldAddr s x f =>
  simp only [compOp] at hc
  split at hc
  ·rename_i fs y hu hy
   split at hc
   ·rename_i fd hfd
    split at hc
    ·rename_i z hz
     split at hc <;> simp at hc
     rename_i hz0
     subst hc
     have r1 := he _ _ hy
     simp only [step] at h
     split at h <;> simp at h
     rename_i b o hb
     obtain ⟨rfl, rfl⟩ := h
     rw [hb] at r1
     simp only [Go.execOp]
     generalize ev' x = cv at r1
     cases r1 with | ptr hρ =>
     rename_i L
     refine .of1 (.same hr (v' := .pointer (some ⟨L.blk, L.d + o + fd.offset, none⟩)) ?_ (by rw [Nat.add_assoc]; exact .ptr hρ))
     simp only [Instr.fieldAt, Sem.run_bind, run_und hu, Result.andThen_ok, hfd, Instr.sureAddr, Sem.run_pure, fieldPlace, run_sizeOf' hz, hz0, if_false, add_eq]
    ·simp at hc
   ·simp at hc
  ·simp at hc
 case field t x f =>
  simp only [compOp] at hc
  split at hc
  ·rename_i fs y hu hy
   split at hc
   ·rename_i fd hfd
    simp at hc
    obtain ⟨g, hg, rfl⟩ := hc
    have r1 := he _ _ hy
    simp only [step] at h
    split at h
    ·rename_i cs hcs
     obtain ⟨h5, rfl⟩ := val_some h
     rw [hcs] at r1
     obtain ⟨c, e1, e2⟩ := r1.agg_inv
     obtain ⟨v', q1, q2⟩ := part_sim (P := P) fd.type hg e2 h5 w
     refine .of1 (.same hr (v' := v') ?_ q2)
     simp only [Instr.field, Sem.run_bind, run_und hu, Result.andThen_ok, hfd, e1, asAgg, Sem.run_pure, q1]
    ·simp at h
   ·simp at hc
  ·simp at hc
 case indexAddr t x i =>
  simp only [compOp] at hc
  split at hc
  ·rename_i e y z hu h1 h2
   simp at hc
   obtain ⟨s, hs, rfl⟩ := hc
   obtain ⟨h5, rfl⟩ := val_some h
   exact .of1 (indexAddr_sim (arr := none) hr hu hs (he _ _ h1) (he _ _ h2) h5)
  ·rename_i n e y z hu h1 h2
   simp at hc
   obtain ⟨s, hs, rfl⟩ := hc
   obtain ⟨h5, rfl⟩ := val_some h
   exact .of1 (indexAddr_sim (arr := some n) hr hu hs (he _ _ h1) (he _ _ h2) h5)
  ·simp at hc
 case index t x i =>
  simp only [compOp] at hc
  split at hc
  ·rename_i n e y z hu h1 h2
   split at hc
   ·rename_i g s hg hs
    simp at hc; subst hc
    obtain ⟨h5, rfl⟩ := val_some h
    exact .of1 (index_sim hr hu hs hg (he _ _ h1) (he _ _ h2) h5)
   ·simp at hc
  ·rename_i y z hu h1 h2
   simp at hc; subst hc
   obtain ⟨h5, rfl⟩ := val_some h
   exact .of1 (indexStr_sim hr hu (he _ _ h1) (he _ _ h2) h5)
  ·simp at hc
 case extract x i =>
  obtain ⟨y, hy, rfl⟩ := opd_inv (o := none) hc
  have r1 := he _ _ hy
  simp only [step] at h
  split at h
  ·rename_i vs hvs
   obtain ⟨h5, rfl⟩ := val_some h
   rw [hvs] at r1
   obtain ⟨c, e1, e2⟩ := r1.tup_inv
   obtain ⟨v', q1, q2⟩ := e2.get h5
   have q1' : c[i]? = some v' := by simpa using q1
   refine .of1 (.same hr (v' := v') ?_ q2)
   simp only [Instr.extract, e1, q1', Sem.run_pure]
  ·simp at h
 case call c =>
  simp only [compOp] at hc
  split at hc
  ·rename_i ys hys
   split at hc
   ·simp at hc; subst hc; simp [Aop.isCall] at hcall
   ·simp at hc
    obtain ⟨y, _, rfl⟩ := hc
    simp [Aop.isCall] at hcall
   ·rename_i b hb
    have := builtin_sim (P := P) (type := type) (consts := c.args.map fun | .const _ => true | _ => false) hr hl hlim hfr he hys hc h
    obtain ⟨x, w', ρ', q1, q2, q3⟩ := this
    refine ⟨x, w', ρ', ?_, q2, q3⟩
    simp only [Go.execOp, resolve, hb, Sem.run_bind, Sem.run_pure, Result.andThen_ok, invoke]
    exact q1
   ·simp at hc
    obtain ⟨y, _, rfl⟩ := hc
    simp [Aop.isCall] at hcall
  ·simp at hc
 case makeMap t hint =>
  simp only [compOp] at hc
  split at hc <;> simp at hc
  rename_i kt e hint' hu hh
  subst hc
  simp only [step] at h
  split at h <;> simp at h
  rename_i hok
  obtain ⟨rfl, rfl⟩ := h
  have hrel : (match hint'.map ev, hint.map ev' with | none, none => True | some x, some x' => VRel ρ x x' | _, _ => False) := by
   cases hint with
   | none => simp [optO] at hh; subst hh; trivial
   | some x =>
    simp [optO] at hh
    obtain ⟨y, hy, rfl⟩ := hh
    exact he _ _ hy
  exact .of1 (makeMap_sim hr hlim (hfr (by rw [Heap.next_push]; omega)) hu hrel hok)
 case lookup t m k ok =>
  simp only [compOp] at hc
  split at hc
  ·rename_i kt e m' k' hu h1 h2
   split at hc <;> simp at hc
   rename_i q z hq hz
   subst hc
   obtain ⟨h5, rfl⟩ := val_some h
   exact .of1 (lookup_sim hr hu hq hz (he _ _ h1) (he _ _ h2) h5)
  ·simp at hc
 case mapEntry t m k =>
  simp only [compOp] at hc
  split at hc
  ·rename_i kt e m' k' hu h1 h2
   split at hc <;> simp at hc
   rename_i q z hq hz
   subst hc
   exact .of1 (mapPlace_sim hr hl hu hq hz (he _ _ h1) (he _ _ h2) h)
  ·simp at hc
 case entryStore t m s x =>
  simp only [compOp] at hc
  split at hc
  ·rename_i kt e m' s' x' hu h1 h2 h3
   rw [Option.map_eq_some_iff] at hc
   obtain ⟨⟨g, ls⟩, hq, rfl⟩ := hc
   simp only [step, Option.map_eq_some_iff] at h
   obtain ⟨H1, h4, h5⟩ := h
   simp at h5; obtain ⟨rfl, rfl⟩ := h5
   obtain ⟨w', q1, q2⟩ := placeStore_sim (t := t) hr hl (he _ _ h1) (he _ _ h2) (he _ _ h3) h4
   exact .ofU hr q1 q2
  ·simp at hc
 case mapUpdate t m k x =>
  simp only [compOp] at hc
  split at hc
  ·rename_i kt e m' k' x' hu h1 h2 h3
   rw [Option.map_eq_some_iff] at hc
   obtain ⟨⟨g, ls⟩, hq, rfl⟩ := hc
   simp only [step, Option.map_eq_some_iff] at h
   obtain ⟨H1, h4, h5⟩ := h
   simp at h5; obtain ⟨rfl, rfl⟩ := h5
   obtain ⟨w', q1, q2⟩ := mapUpdate_sim hr hl hu hq (he _ _ h1) (he _ _ h2) (he _ _ h3) h4
   exact .ofU hr q1 q2
  ·simp at hc
 case range t m =>
  simp only [compOp] at hc
  split at hc
  ·obtain ⟨y, hy, rfl⟩ := opd_inv (o := none) hc
   simp [step] at h
  ·simp at hc
 case next it s =>
  simp only [compOp] at hc
  split at hc
  ·simp at hc
  ·obtain ⟨y, hy, rfl⟩ := opd_inv (o := none) hc
   simp [step] at h
 case entry it =>
  obtain ⟨y, hy, rfl⟩ := opd_inv (o := none) hc
  simp [step] at h
 case panic x =>
  simp [compOp] at hc; subst hc
  simp [step] at h
 all_goals (simp [compOp] at hc)
end
end Go.Ahs
