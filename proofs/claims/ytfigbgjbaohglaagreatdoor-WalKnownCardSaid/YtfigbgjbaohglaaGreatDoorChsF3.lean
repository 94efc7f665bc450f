/- All outcomes of drawn code on the fast machine: told on from operation to operation. -/
import Derived.Test.YtfigbgjbaohglaaGreatDoorChsP8
set_option linter.unusedSimpArgs false
set_option linter.unusedVariables false
namespace Go.Ahs

abbrev Outs := Option (List (AVal × Heap))
abbrev KF := TV → Heap → Option ItA → Outs
abbrev KX := Ex → TV → Heap → Option ItA → Outs

def addO (a b : Outs) : Outs :=
  match a with
  | some x => match b with
    | some y => some (x ++ y)
    | none => none
  | none => none

/-- All that a list's elements come to. -/
noncomputable def manyO {α : Type} (f : α → Outs) : List α → Outs := @List.rec α (fun _ => Outs) (some []) (fun x _ ih => addO (f x) ih)

def Sub (a b : List (AVal × Heap)) : Prop := ∀ x ∈ a, x ∈ b
theorem Sub.refl (a : List (AVal × Heap)) : Sub a a := fun _ h => h

theorem addO_inv {a b : Outs} {o : List (AVal × Heap)} (h : addO a b = some o) : ∃ x y, a = some x ∧ b = some y ∧ o = x ++ y := by
  unfold addO at h
  split at h
  · split at h
    · simp at h; exact ⟨_, _, rfl, rfl, h.symm⟩
    · simp at h
  · simp at h

theorem manyO_inv {α : Type} {f : α → Outs} : ∀ {l : List α} {o : List (AVal × Heap)}, manyO f l = some o → ∀ x ∈ l, ∃ y, f x = some y ∧ Sub y o
  | [], o, _, x, hx => by simp at hx
  | z :: l, o, h, x, hx => by
    obtain ⟨a, b, h1, h2, rfl⟩ := addO_inv (h : addO (f z) (manyO f l) = some o)
    simp only [List.mem_cons] at hx
    rcases hx with rfl | hx
    · exact ⟨a, h1, fun y hy => by simp [hy]⟩
    · obtain ⟨y, q1, q2⟩ := manyO_inv h2 x hx
      exact ⟨y, q1, fun z hz => by simp [q2 z hz]⟩

noncomputable def detK (RF : Caller) (lim : Nat) (o : AOper) (t : TV) (H : Heap) (it : Option ItA) (k : KF) : Outs := @OR.rec (fun _ => Outs) none (fun t H => k t H it) (opF o RF lim t H)

noncomputable def isNoneF {α : Type} (o : Option α) : Bool := @Option.rec α (fun _ => Bool) true (fun _ => false) o
theorem isNoneF_eq {α : Type} (o : Option α) : isNoneF o = true ↔ o = none := by cases o <;> simp [isNoneF]

noncomputable def rangeK (lim : Nat) (o : AOper) (m : AVal) (t : TV) (H : Heap) (it : Option ItA) (k : KF) : Outs :=
  cnd (isNoneF o.guard) (cnd (isNoneF it) (match m with
    | .map none => k (setD t (.itr 0) o.dst) H (some ⟨0, none, [], none⟩)
    | .map (some b) => match hGet H b with
      | some (.map es _) => cnd (Nat.blt b lim) (k (setD t (.itr 0) o.dst) H (some ⟨0, some b, es, none⟩)) none
      | _ => none
    | _ => none) none) none

noncomputable def nextK (o : AOper) (t : TV) (H : Heap) (it : Option ItA) (k : KF) : Outs :=
  cnd (isNoneF o.guard) (match it with
    | some it => match it.left with
      | [] => k (setD t (.tup [.bool false]) o.dst) H (some it)
      | l => manyO (fun p => k (setD t (.tup [.bool true, p.1.1, p.1.2]) o.dst) H (some { it with left := p.2, cur := some p.1 })) (picks l)
    | none => none) none

noncomputable def entryK (o : AOper) (t : TV) (H : Heap) (it : Option ItA) (k : KF) : Outs :=
  cnd (isNoneF o.guard) (match it with
    | some it => match it.cur with
      | some p => k (setD t (.tup [p.1, p.2]) o.dst) H (some it)
      | none => none
    | none => none) none

noncomputable def callK (RA : CallerA) (lim : Nat) (o : AOper) (f : FuncId) (args : List AVal) (t : TV) (H : Heap) (it : Option ItA) (k : KF) : Outs :=
  cnd (isNoneF o.guard) (cnd (isNoneF it) (match RA lim (.fn f) args H with
    | some l => manyO (fun p => k (setD t p.1 o.dst) p.2 none) l
    | none => none) none) none

/-- What a function value that is called is. -/
noncomputable def callvK (dr : FuncId → Bool) (RF : Caller) (RA : CallerA) (lim : Nat) (o : AOper) (x : AVal) (args : List AVal) (t : TV) (H : Heap) (it : Option ItA) (k : KF) : Outs :=
  match x with
  | .fn f first captured => cnd (dr f) (callK RA lim o f (first ++ args ++ captured) t H it k) (detK RF lim o t H it k)
  | _ => detK RF lim o t H it k

/-- Which operations of ranges, and calls, are met. -/
inductive PK where
  | det
  | range (x : Opd)
  | next (x : Opd)
  | entry (x : Opd)
  | call (f : FuncId) (args : List Opd)
  | callv (x : Opd) (args : List Opd)

noncomputable def kindK : Aop → PK := @Aop.rec (fun _ => PK)
  (fun _ => .det) (fun _ _ _ => .det) (fun _ => .det) (fun _ => .det) (fun _ _ => .det) (fun _ _ _ => .det) (fun _ _ => .det) (fun _ _ _ => .det) (fun _ => .det) (fun _ _ _ => .det)
  (fun _ _ _ _ => .det) (fun _ _ => .det) (fun _ _ => .det) (fun _ => .det) (fun _ => .det) (fun _ => .det) (fun _ _ => .det) (fun _ _ _ => .det) (fun _ _ _ _ => .det) (fun _ _ _ _ _ => .det)
  (fun _ _ _ => .det) (fun _ _ _ _ _ _ => .det) (fun _ _ => .det) (fun _ _ _ => .det) (fun _ _ _ _ => .det) (fun _ _ _ _ _ => .det) (fun _ _ => .det) (fun _ _ => .det)
  (fun f xs => .call f xs) (fun x xs => .callv x xs) (fun _ _ _ => .det) (fun _ _ => .det) (fun _ _ => .det) (fun _ _ _ _ _ => .det) (fun _ _ _ => .det) (fun _ _ => .det) (fun _ => .det) (fun _ _ => .det)
  (fun _ => .det) (fun _ _ _ _ _ _ => .det) (fun _ _ _ _ _ => .det) (fun _ _ _ _ => .det) (fun _ _ _ _ _ => .det) (fun _ _ _ _ _ => .det) (fun _ => .det) (fun _ => .det) (fun _ _ => .det)
  (fun x => .range x) (fun x => .next x) (fun x => .entry x) .det

noncomputable def opK (dr : FuncId → Bool) (RF : Caller) (RA : CallerA) (lim : Nat) (o : AOper) (t : TV) (H : Heap) (it : Option ItA) (k : KF) : Outs :=
  @PK.rec (fun _ => Outs) (detK RF lim o t H it k) (fun x => rangeK lim o (evF t x) t H it k) (fun _ => nextK o t H it k) (fun _ => entryK o t H it k)
    (fun f args => cnd (dr f) (callK RA lim o f (args.map (evF t)) t H it k) (detK RF lim o t H it k))
    (fun x args => callvK dr RF RA lim o (evF t x) (args.map (evF t)) t H it k) (kindK o.op)

noncomputable def opsK (dr : FuncId → Bool) (RF : Caller) (RA : CallerA) (lim : Nat) : List AOper → TV → Heap → Option ItA → KF → Outs := @List.rec AOper (fun _ => TV → Heap → Option ItA → KF → Outs)
  (fun t H it k => k t H it) (fun o _ ih t H it k => opK dr RF RA lim o t H it (fun t H it => ih t H it k))

noncomputable def loopK (body : TV → Heap → Option ItA → KX → Outs) : Nat → TV → Heap → Option ItA → KX → Outs := @Nat.rec (fun _ => TV → Heap → Option ItA → KX → Outs) (fun _ _ _ _ => none)
  (fun _ ih t H it k => body t H it (fun e t H it => @Ex.rec (fun _ => Outs) (ih t H it k) (fun id => k (.exit id) t H it) (k .ret t H it) e))

noncomputable def condK (a b : TV → Heap → Option ItA → KX → Outs) (t : TV) (H : Heap) (it : Option ItA) (k : KX) : AVal → Outs
  | .bool c => cnd c (a t H it k) (b t H it k)
  | _ => none

noncomputable def endK (t : TV) (b : Nat) (k : KX) (p : AVal × Heap) : Outs :=
  match p.2.get b with
  | some (.loop ⟨.ready, none, _, _, _, _⟩) => k .norm t (p.2.set b .dead) none
  | some (.loop ⟨.done, some e, _, _, _, _⟩) => k e t (p.2.set b .dead) none
  | _ => none

noncomputable def rngK' (RA : CallerA) (lim : Nat) (ps : List Nat) (asg body : ACode) (T : List AVal) (t : TV) (gv : AVal) (H : Heap) (it : Option ItA) (k : KX) : Outs :=
  cnd (asg.plain && body.plain) (cnd (isNoneF it) (match gv with
    | .fn f first captured => match RA lim (.fn f) (first ++ [.yl H.next] ++ captured) (H.push (.loop ⟨.ready, none, T, ps, asg, body⟩)) with
      | some l => manyO (endK t H.next k) l
      | none => none
    | _ => none) none) none

noncomputable def execK (dr : FuncId → Bool) (RF : Caller) (RA : CallerA) (lim n N : Nat) : ACode → TV → Heap → Option ItA → KX → Outs := @ACode.rec (fun _ => TV → Heap → Option ItA → KX → Outs)
  (fun t H it k => k .norm t H it)
  (fun os t H it k => cnd (hard os) (@OR.rec (fun _ => Outs) none (fun t H => k .norm t H it) (opsF RF lim os t H)) (opsK dr RF RA lim os t H it (fun t H it => k .norm t H it)))
  (fun _ _ iha ihb t H it k => iha t H it (fun e t H it => @Ex.rec (fun _ => Outs) (ihb t H it k) (fun id => k (.exit id) t H it) (k .ret t H it) e))
  (fun c _ _ iha ihb t H it k => condK iha ihb t H it k (evF t c))
  (fun id _ ih t H it k => ih t H it (fun e t H it => @Ex.rec (fun _ => Outs) (k .norm t H it) (fun i => cnd (Nat.beq i id) (k .norm t H it) (k (.exit i) t H it)) (k .ret t H it) e))
  (fun _ ih t H it k => loopK ih n t H it k)
  (fun id t H it k => k (.exit id) t H it)
  (fun t H it k => k .ret t H it)
  (fun g ps asg body _ _ t H it k => rngK' RA lim ps asg body (toL N t) t (evF t g) H it k)

/-- Where the record of a range lies is looked at by its own steps alone. -/
def offO (τ : Nat) (o : AOper) : Bool := !o.reads.contains τ && !(o.dst == some τ) && o.apart.all fun x => match x with | .tmp i => !(i == τ) | .val _ => true
def offX (τ : Nat) : Opd → Bool
  | .tmp i => !(i == τ)
  | .val _ => true
def offR (τ : Nat) (o : AOper) : Bool := match o.op with
  | .mapRange x => offX τ x && (o.dst == some τ)
  | .mapNext x | .mapEntry x => (match x with | .tmp i => i == τ | .val _ => false) && !(o.dst == some τ)
  | _ => offO τ o
def offC (τ : Nat) : ACode → Bool
  | .region os => if hard os then os.all (offO τ) else os.all (offR τ)
  | .seq a b => offC τ a && offC τ b
  | .cond c a b => offX τ c && offC τ a && offC τ b
  | .block _ a | .loop a => offC τ a
  | .ranges g _ _ _ => offX τ g
  | _ => true
def offRes (τ : Nat) : ARes → Bool
  | .tmp t => !(t == τ)
  | .cell t _ => !(t == τ)

/-- Where a function's range keeps its record. -/
def tauO : List AOper → Option Nat
  | [] => none
  | o :: os => match o.op with
    | .mapRange _ => o.dst
    | _ => tauO os
def tauC : ACode → Option Nat
  | .region os => tauO os
  | .seq a b => match tauC a with
    | some x => some x
    | none => tauC b
  | .cond _ a b => match tauC a with
    | some x => some x
    | none => tauC b
  | .block _ a | .loop a => tauC a
  | _ => none
def tauF (af : AFunc) : Nat := (tauC af.body).getD af.ntmps

noncomputable def outK (rs : List ARes) (e : Ex) (t : TV) (H : Heap) (_ : Option ItA) : Outs := @Ex.rec (fun _ => Outs) ((resAllF t H rs).map fun vs => [(oneOr vs, H)]) (fun _ => none) ((resAllF t H rs).map fun vs => [(oneOr vs, H)]) e

noncomputable def funK (dr : FuncId → Bool) (RF : Caller) (RA : CallerA) (lim n : Nat) (af : AFunc) (args : List AVal) (H : Heap) : Outs :=
  cnd (Nat.ble (lenF args) af.ntmps) (execK dr RF RA lim n af.ntmps af.body (ofL args 0 .lf) H none (outK af.results)) none

noncomputable def runKF (fp : Nat → Option AFn) (dp : FuncId → Option AFunc) : Nat → CallerA := @Nat.rec (fun _ => CallerA) (fun _ _ _ _ => none)
  (fun n ih lim tg args H => match tg with
    | .fn f => match dp f with
      | some af => funK (fun f => (dp f).isSome) (runFT fp n) ih lim n af args H
      | none => (runFT fp (Nat.succ n) lim (.fn f) args H).map fun p => [p]
    | .yl b => (runFT fp (Nat.succ n) lim (.yl b) args H).map fun p => [p])

/-! ## It is so -/

def ItP (τ : Nat) (t : TV) (T : List AVal) : Option ItA → Option ItA → Prop
  | none, none => t.get τ = T.getD τ und
  | some a, some b => T.getD τ und = .itr b.r ∧ b.m = a.m ∧ a.left.Perm b.left ∧ b.cur = a.cur
  | _, _ => False

/-- The tree and the state: alike but for the place of the range's record, and the row of what is left. -/
structure RepP (τ N : Nat) (t : TV) (H : Heap) (it : Option ItA) (s : PSt) : Prop where
  heap : s.H = H
  len : s.tmps.length = N
  off : ∀ i, i ≠ τ → t.get i = s.tmps.getD i und
  itr : ItP τ t s.tmps it s.it

section
variable {dr : FuncId → Bool} {RF R : Caller} {RA : CallerA} {RP : CallerP} {lim0 lim n N τ : Nat}

theorem RepP.ev {t : TV} {H : Heap} {it : Option ItA} {s : PSt} (h : RepP τ N t H it s) {x : Opd} (hx : offX τ x = true) : evF t x = St.ev s.tmps x := by
  cases x with
  | val v => rfl
  | tmp i => exact h.off i (by simpa [offX] using hx)

theorem RepP.put {t : TV} {H H' : Heap} {it : Option ItA} {s : PSt} (h : RepP τ N t H it s) (hN : N < 100000) {o : AOper} (hd : dOK N o = true) (hτ : (!(o.dst == some τ)) = true) (v : AVal) {it' it2 : Option ItA}
    (hi : ∀ (t2 : TV) (T : List AVal), t2.get τ = t.get τ → T.getD τ und = s.tmps.getD τ und → ItP τ t2 T it' it2) : RepP τ N (setD t v o.dst) H' it' ⟨putT s.tmps o.dst v, H', it2⟩ := by
  have hl := h.len
  have key : ∀ d, o.dst = some d → d < N ∧ d ≠ τ := fun d e => by
    refine ⟨?_, ?_⟩
    · unfold dOK at hd; rw [e] at hd; simpa [Nat.blt_eq] using hd
    · intro e2; rw [e, e2] at hτ; simp at hτ
  have hget : ∀ i, (setD t v o.dst).get i = if o.dst = some i then v else t.get i := by
    intro i
    cases hdst : o.dst with
    | none => simp [setD]
    | some d =>
      show (t.set d v).get i = _
      have := key d hdst
      rw [TV.set, TV.get_setN v 20 t d i (by omega)]
      by_cases e : i = d
      · subst e; simp
      · rw [if_neg e, if_neg (fun e2 => e (by simpa using e2.symm))]
  have hgetD : ∀ i, (putT s.tmps o.dst v).getD i und = if o.dst = some i then v else s.tmps.getD i und := by
    intro i
    cases hdst : o.dst with
    | none => simp [putT]
    | some d =>
      have := key d hdst
      simp only [putT, List.getD_eq_getElem?_getD, List.getElem?_set]
      by_cases e : d = i
      · subst e; simp [hl, this.1]
      · rw [if_neg e, if_neg (fun e2 => e (by simpa using e2))]
  have hτ' : ¬ o.dst = some τ := fun e => (key τ e).2 rfl
  refine ⟨rfl, by rw [putT_len, hl], fun i hi => by rw [hget, hgetD, h.off i hi], ?_⟩
  exact hi _ _ (by rw [hget, if_neg hτ']) (by rw [hgetD, if_neg hτ'])

theorem ItP.congr {t t2 : TV} {T T2 : List AVal} {a b : Option ItA} (h : ItP τ t T a b) (h1 : t2.get τ = t.get τ) (h2 : T2.getD τ und = T.getD τ und) : ItP τ t2 T2 a b := by
  unfold ItP at *
  split at h
  · rw [h1, h2]; exact h
  · rw [h2]; exact h
  · exact h.elim

/-- What an operation does, whatever the place of the range's record holds. -/
theorem execOp_off {o : AOper} {T T' : List AVal} {H : Heap} {s1 : St} (ho : offO τ o = true) (hT : ∀ i, i ≠ τ → T'[i]? = T[i]?) (h : execOp R lim o ⟨T, H⟩ = some s1) : ∃ v, s1.tmps = putT T o.dst v ∧ execOp R lim o ⟨T', H⟩ = some ⟨putT T' o.dst v, s1.H⟩ := by
  simp only [offO, Bool.and_eq_true, Bool.not_eq_true', List.contains_eq_mem, decide_eq_false_iff_not] at ho
  obtain ⟨⟨h1, h2⟩, h3⟩ := ho
  have hev : ∀ i, i ≠ τ → St.ev T' (.tmp i) = St.ev T (.tmp i) := fun i hi => by
    simp only [St.ev, List.getD_eq_getElem?_getD, hT i hi]
  have hops : ∀ x ∈ o.op.opds, St.ev T' x = St.ev T x := by
    intro x hx
    cases x with
    | val v => rfl
    | tmp i =>
      refine hev i fun e => h1 ?_
      subst e
      simp only [AOper.reads, List.mem_append, List.mem_filterMap]
      exact .inl ⟨.tmp i, hx, rfl⟩
  have hc : ∀ l, step R l (St.ev T') H o.op = step R l (St.ev T) H o.op := fun l => step_congr hops
  have hw : wantedA T' o.guard = wantedA T o.guard := by
    cases hg : o.guard with
    | none => rfl
    | some g =>
      obtain ⟨j, want⟩ := g
      have : j ≠ τ := fun e => h1 (by subst e; simp [AOper.reads, hg])
      simp only [wantedA, hT j this]
  have hap : ∀ x ∈ o.apart, St.ev T' x = St.ev T x := by
    intro x hx
    have := List.all_eq_true.1 h3 x hx
    cases x with
    | val v => rfl
    | tmp i => exact hev i (by simpa using this)
  have hcl : o.clear T' = o.clear T := by
    unfold AOper.clear
    split
    · rfl
    · rename_i ys gg a e3 hne
      have ha : St.ev T' a = St.ev T a := hops a (by rw [e3]; simp [Aop.opds])
      rw [ha]
      rw [Bool.eq_iff_iff, List.all_eq_true, List.all_eq_true]
      constructor <;> intro q y hy
      · rw [← hap y hy]; exact q y hy
      · rw [hap y hy]; exact q y hy
    · rfl
  have hk : ∀ H1, o.kept T' H H1 = o.kept T H H1 := by
    intro H1
    unfold AOper.kept
    rw [Bool.eq_iff_iff, List.all_eq_true, List.all_eq_true]
    constructor <;> intro q y hy
    · have := q y hy; rw [hap y hy] at this; exact this
    · have := q y hy; rw [← hap y hy] at this; exact this
  unfold execOp lateCallX at h ⊢
  simp only [hw, hcl, hc, hk] at h ⊢
  split at h
  · rename_i c1
    rw [if_pos c1]
    split at h
    · rename_i c2
      rw [if_pos c2]
      split at h
      · rename_i c3
        rw [if_pos c3]
        split at h
        · rename_i v H1 hs
          split at h
          · rename_i c4
            simp at h; subst h
            exact ⟨v, rfl, by simp only [hs, c4, if_true]⟩
          · simp at h
        · simp at h
      · simp at h
    · rename_i c2
      rw [if_neg c2]
      split at h
      · rename_i v H1 hs
        simp at h; subst h
        exact ⟨v, rfl, by simp only [hs]⟩
      · simp at h
  · rename_i c1
    rw [if_neg c1]
    simp at h; subst h
    exact ⟨und, rfl, rfl⟩


/-- The list that the tree holds. -/
theorem RepP.rep {t : TV} {H : Heap} {it : Option ItA} {s : PSt} (h : RepP τ N t H it s) : ∃ T : List AVal, RepT t T ∧ T.length = N ∧ ∀ i, i ≠ τ → s.tmps[i]? = T[i]? := by
  refine ⟨s.tmps.set τ (t.get τ), ?_, by simp [h.len], fun i hi => by rw [List.getElem?_set, if_neg (Ne.symm hi)]⟩
  intro i
  by_cases e : i = τ
  · subst e
    simp only [List.getD_eq_getElem?_getD, List.getElem?_set, if_true]
    by_cases hl : i < s.tmps.length
    · simp [hl]
    · rw [if_neg hl]
      have hi := h.itr
      have hu : s.tmps.getD i und = und := by simp [List.getD_eq_getElem?_getD, List.getElem?_eq_none (by omega : s.tmps.length ≤ i)]
      unfold ItP at hi
      split at hi
      · rw [hi, hu]; rfl
      · rw [hu] at hi; exact absurd hi.1 (by simp)
      · exact hi.elim
  · rw [h.off i e]
    simp only [List.getD_eq_getElem?_getD, List.getElem?_set, if_neg (Ne.symm e)]

theorem RepP.step {t t' : TV} {H H' : Heap} {it : Option ItA} {s : PSt} (h : RepP τ N t H it s) {T : List AVal} (hT : RepT t T) (hTN : T.length = N) (hTs : ∀ i, i ≠ τ → s.tmps[i]? = T[i]?) {d : Option Nat} {v : AVal} (hd : ¬ d = some τ) (ht' : RepT t' (putT T d v)) : RepP τ N t' H' it ⟨putT s.tmps d v, H', s.it⟩ := by
  have hg : ∀ (X : List AVal) i, ¬ d = some i → (putT X d v)[i]? = X[i]? := by
    intro X i hi
    cases d with
    | none => rfl
    | some j => simp only [putT, List.getElem?_set]; rw [if_neg (fun e => hi (by rw [e]))]
  refine ⟨rfl, by rw [putT_len, h.len], fun i hi => ?_, ?_⟩
  · rw [ht' i]
    simp only [List.getD_eq_getElem?_getD]
    by_cases e : d = some i
    · subst e
      simp only [putT, List.getElem?_set, if_true, hTN, h.len]
    · rw [hg T i e, hg s.tmps i e, hTs i hi]
  · refine h.itr.congr ?_ ?_
    · rw [ht' τ, hT τ]
      simp only [List.getD_eq_getElem?_getD, hg T τ hd]
    · simp only [List.getD_eq_getElem?_getD, hg s.tmps τ hd]

theorem offO_dst {o : AOper} (ho : offO τ o = true) : ¬ o.dst = some τ := by
  simp only [offO, Bool.and_eq_true, Bool.not_eq_true'] at ho
  intro e
  have := ho.1.2
  rw [e] at this
  simp at this

theorem detK_sound (hR : LeR RF R) (hN : N < 100000) {o : AOper} {t : TV} {H : Heap} {it : Option ItA} {s : PSt} {k : KF} {outs : List (AVal × Heap)} {K : PSt → Prop} (h : detK RF lim o t H it k = some outs) (hs : RepP τ N t H it s) (hd : dOK N o = true) (ho : offO τ o = true)
    (hk : ∀ t' H' it' s' out, k t' H' it' = some out → Sub out outs → RepP τ N t' H' it' s' → K s') : detP R lim o s K := by
  obtain ⟨T, hT, hTN, hTs⟩ := hs.rep
  unfold detK at h
  cases h1 : opF o RF lim t H with
  | no => rw [h1] at h; simp at h
  | ok t' H' =>
    rw [h1] at h
    replace h : k t' H' it = some outs := h
    obtain ⟨T', e1, r1, n1⟩ := opF_le hR hT hTN hN hd h1
    obtain ⟨v, q1, q2⟩ := execOp_off (T' := s.tmps) ho hTs e1
    simp only at q1 q2
    subst q1
    refine ⟨⟨putT s.tmps o.dst v, H'⟩, by rw [hs.heap]; exact q2, ?_⟩
    exact hk _ _ _ _ _ h (.refl _) (hs.step hT hTN hTs (offO_dst ho) r1)

/-- A row of settled operations. -/
theorem dets_sound (hR : LeR RF R) (hN : N < 100000) : ∀ (os : List AOper) {t t' : TV} {H H' : Heap} {it : Option ItA} {s : PSt}, opsF RF lim os t H = .ok t' H' → RepP τ N t H it s → os.all (dOK N) = true → os.all (offO τ) = true →
    ∃ s1, execOps R lim os ⟨s.tmps, s.H⟩ = some s1 ∧ RepP τ N t' H' it ⟨s1.tmps, s1.H, s.it⟩
  | [], t, t', H, H', it, s, h, hs, _, _ => by
    simp only [opsF, OR.ok.injEq] at h
    obtain ⟨rfl, rfl⟩ := h
    exact ⟨_, rfl, hs⟩
  | o :: os, t, t', H, H', it, s, h, hs, hd, ho => by
    simp only [List.all_cons, Bool.and_eq_true] at hd ho
    obtain ⟨T, hT, hTN, hTs⟩ := hs.rep
    replace h : @OR.rec (fun _ => OR) .no (fun t H => opsF RF lim os t H) (opF o RF lim t H) = .ok t' H' := h
    cases h1 : opF o RF lim t H with
    | no => rw [h1] at h; simp at h
    | ok t1 H1 =>
      rw [h1] at h
      obtain ⟨T', e1, r1, n1⟩ := opF_le hR hT hTN hN hd.1 h1
      obtain ⟨v, q1, q2⟩ := execOp_off (T' := s.tmps) ho.1 hTs e1
      simp only at q1 q2
      subst q1
      have hs1 := hs.step (H' := H1) hT hTN hTs (offO_dst ho.1) r1
      obtain ⟨s2, e2, r2⟩ := dets_sound hR hN os h hs1 hd.2 ho.2
      refine ⟨s2, ?_, r2⟩
      unfold execOps
      rw [hs.heap, q2]
      exact e2

theorem cnd_some {b : Bool} {x : Outs} {o : List (AVal × Heap)} (h : cnd b x none = some o) : b = true ∧ x = some o := by
  cases b with
  | true => exact ⟨rfl, h⟩
  | false => simp [cnd] at h

theorem RepP.none_it {t : TV} {H : Heap} {s : PSt} (h : RepP τ N t H none s) : s.it = none := by
  have := h.itr
  unfold ItP at this
  split at this
  · assumption
  · rename_i e _; simp at e
  · exact this.elim

theorem RepP.some_it {t : TV} {H : Heap} {a : ItA} {s : PSt} (h : RepP τ N t H (some a) s) : ∃ b, s.it = some b ∧ s.tmps.getD τ und = .itr b.r ∧ b.m = a.m ∧ a.left.Perm b.left ∧ b.cur = a.cur := by
  have hi := h.itr
  cases hb : s.it with
  | none => rw [hb] at hi; exact hi.elim
  | some b => rw [hb] at hi; exact ⟨b, rfl, hi⟩

theorem RepP.evs {t : TV} {H : Heap} {it : Option ItA} {s : PSt} (h : RepP τ N t H it s) {xs : List Opd} (hx : ∀ i, Opd.tmp i ∈ xs → i ≠ τ) : xs.map (evF t) = xs.map (St.ev s.tmps) :=
  List.map_congr_left fun x hm => by
    cases x with
    | val v => rfl
    | tmp i => exact h.ev (by simpa [offX] using hx i hm)

theorem off_reads {o : AOper} (ho : offO τ o = true) : ∀ i, Opd.tmp i ∈ o.op.opds → i ≠ τ := by
  simp only [offO, Bool.and_eq_true, Bool.not_eq_true', List.contains_eq_mem, decide_eq_false_iff_not] at ho
  intro i hi e
  subst e
  refine ho.1.1 ?_
  simp only [AOper.reads, List.mem_append, List.mem_filterMap]
  exact .inl ⟨.tmp i, hi, rfl⟩

theorem callK_sound (hA : SoundA RA RP) (hN : N < 100000) {o : AOper} {f : FuncId} {args : List AVal} {t : TV} {H : Heap} {it : Option ItA} {s : PSt} {k : KF} {outs : List (AVal × Heap)} {K : PSt → Prop} (h : callK RA lim o f args t H it k = some outs) (hs : RepP τ N t H it s) (hd : dOK N o = true) (ho : offO τ o = true)
    (hk : ∀ t' H' it' s' out, k t' H' it' = some out → Sub out outs → RepP τ N t' H' it' s' → K s') : callP RP lim0 lim o f args s K := by
  unfold callK at h
  obtain ⟨g1, hcn⟩ := cnd_some h
  clear h
  have h := hcn
  clear hcn
  obtain ⟨g2, hcn⟩ := cnd_some h
  clear h
  have h := hcn
  clear hcn
  rw [isNoneF_eq] at g1 g2
  subst g2
  split at h
  · rename_i l hl
    have hit := hs.none_it
    refine ⟨g1, hit, ?_⟩
    rw [hs.heap]
    refine hA _ _ _ _ _ _ hl _ fun p hp => ?_
    obtain ⟨y, h1, h2⟩ := manyO_inv h p hp
    refine hk _ _ _ _ _ h1 h2 (hs.put hN hd (by have := offO_dst ho; simpa using this) p.1 fun t2 T e1 e2 => ?_)
    have := hs.itr
    rw [hit] at this
    exact this.congr e1 e2
  · simp at h

theorem kindK_inv (op : Aop) : (kindK op = .det ∧ (∀ f xs, op ≠ .call f xs) ∧ (∀ x xs, op ≠ .callv x xs) ∧ (∀ x, op ≠ .mapRange x) ∧ (∀ x, op ≠ .mapNext x) ∧ ∀ x, op ≠ .mapEntry x) ∨ (∃ f xs, op = .call f xs ∧ kindK op = .call f xs) ∨ (∃ x xs, op = .callv x xs ∧ kindK op = .callv x xs) ∨
    (∃ x, op = .mapRange x ∧ kindK op = .range x) ∨ (∃ x, op = .mapNext x ∧ kindK op = .next x) ∨ ∃ x, op = .mapEntry x ∧ kindK op = .entry x := by
  cases op
  case call f xs => exact .inr (.inl ⟨f, xs, rfl, rfl⟩)
  case callv x xs => exact .inr (.inr (.inl ⟨x, xs, rfl, rfl⟩))
  case mapRange x => exact .inr (.inr (.inr (.inl ⟨x, rfl, rfl⟩)))
  case mapNext x => exact .inr (.inr (.inr (.inr (.inl ⟨x, rfl, rfl⟩))))
  case mapEntry x => exact .inr (.inr (.inr (.inr (.inr ⟨x, rfl, rfl⟩))))
  all_goals exact .inl ⟨rfl, fun _ _ e => by simp at e, fun _ _ e => by simp at e, fun _ e => by simp at e, fun _ e => by simp at e, fun _ e => by simp at e⟩

theorem opK_sound (hR : LeR RF R) (hA : SoundA RA RP) (hN : N < 100000) {o : AOper} {t : TV} {H : Heap} {it : Option ItA} {s : PSt} {k : KF} {outs : List (AVal × Heap)} {K : PSt → Prop} (h : opK dr RF RA lim o t H it k = some outs) (hs : RepP τ N t H it s) (hd : dOK N o = true) (ho : offR τ o = true)
    (hk : ∀ t' H' it' s' out, k t' H' it' = some out → Sub out outs → RepP τ N t' H' it' s' → K s') : opP R RP lim0 lim o s K := by
  unfold opK at h
  have det : detK RF lim o t H it k = some outs → offO τ o = true → detP R lim o s K := fun h ho => detK_sound hR hN h hs hd ho hk
  rcases kindK_inv o.op with ⟨e, n1, n2, n3, n4, n5⟩ | ⟨f, xs, e1, e⟩ | ⟨x, xs, e1, e⟩ | ⟨x, e1, e⟩ | ⟨x, e1, e⟩ | ⟨x, e1, e⟩
  · rw [e] at h
    have ho' : offO τ o = true := by
      unfold offR at ho
      split at ho
      · rename_i q; exact absurd q (n3 _)
      · rename_i q; exact absurd q (n4 _)
      · rename_i q; exact absurd q (n5 _)
      · exact ho
    have hdet := det h ho'
    unfold opP
    split
    · rename_i q; exact absurd q (n3 _)
    · rename_i q; exact absurd q (n4 _)
    · rename_i q; exact absurd q (n5 _)
    · exact .inl hdet
    · rename_i q; exact absurd q (n1 _ _)
    · rename_i q; exact absurd q (n2 _ _)
    · exact hdet
  · rw [e] at h
    have ho' : offO τ o = true := by unfold offR at ho; rw [e1] at ho; exact ho
    unfold opP
    simp only [e1]
    replace h : cnd (dr f) (callK RA lim o f (xs.map (evF t)) t H it k) (detK RF lim o t H it k) = some outs := h
    rw [cnd_eq] at h
    split at h
    · rw [hs.evs (fun i hi => off_reads ho' i (by rw [e1]; exact hi))] at h
      exact .inr (callK_sound hA hN h hs hd ho' hk)
    · exact .inl (det h ho')
  · rw [e] at h
    have ho' : offO τ o = true := by unfold offR at ho; rw [e1] at ho; exact ho
    unfold opP
    simp only [e1]
    replace h : callvK dr RF RA lim o (evF t x) (xs.map (evF t)) t H it k = some outs := h
    have hr := off_reads ho'
    rw [e1] at hr
    have hxe : evF t x = St.ev s.tmps x := by
      cases x with
      | val v => rfl
      | tmp i => exact hs.ev (by simpa [offX] using hr i (by simp [Aop.opds]))
    rw [hxe, hs.evs (fun i hi => hr i (by simp [Aop.opds, hi]))] at h
    unfold callvK at h
    split at h
    · rename_i f first captured hx
      rw [cnd_eq] at h
      split at h
      · refine .inr ?_
        simp only [hx]
        exact callK_sound hA hN h hs hd ho' hk
      · exact .inl (det h ho')
    · exact .inl (det h ho')
  · rw [e] at h
    replace h : rangeK lim o (evF t x) t H it k = some outs := h
    unfold offR at ho
    rw [e1] at ho
    simp only [Bool.and_eq_true, beq_iff_eq] at ho
    obtain ⟨ho1, ho2⟩ := ho
    rw [hs.ev ho1] at h
    unfold opP
    simp only [e1]
    unfold rangeK at h
    obtain ⟨g1, hcn⟩ := cnd_some h
    clear h
    have h := hcn
    clear hcn
    obtain ⟨g2, hcn⟩ := cnd_some h
    clear h
    have h := hcn
    clear hcn
    rw [isNoneF_eq] at g1 g2
    subst g2
    have hτN : τ < N := by unfold dOK at hd; rw [ho2] at hd; simpa [Nat.blt_eq] using hd
    have fin : ∀ (r : Nat) (m : Option Nat) (es : List (AVal × AVal)), RepP τ N (setD t (.itr 0) o.dst) H (some ⟨0, m, es, none⟩) ⟨putT s.tmps o.dst (.itr r), s.H, some ⟨r, m, es, none⟩⟩ := by
      intro r m es
      rw [ho2]
      refine ⟨hs.heap, by rw [putT_len, hs.len], fun i hi => ?_, ?_⟩
      · show (t.set τ (.itr 0)).get i = (s.tmps.set τ (.itr r)).getD i und
        rw [TV.set, TV.get_setN _ 20 t τ i (by omega), if_neg hi, hs.off i hi]
        simp only [List.getD_eq_getElem?_getD, List.getElem?_set, if_neg (Ne.symm hi)]
      · refine ⟨?_, rfl, .refl _, rfl⟩
        show (s.tmps.set τ (.itr r)).getD τ und = _
        simp only [List.getD_eq_getElem?_getD, List.getElem?_set, if_true, hs.len, hτN, Option.getD_some]
    refine ⟨g1, hs.none_it, ?_⟩
    split at h
    · rename_i hm
      simp only [hm]
      exact fun r => hk _ _ _ _ _ h (.refl _) (fin r none [])
    · rename_i b hm
      simp only [hm]
      rw [hGet_eq] at h
      split at h
      · rename_i es cl hg
        obtain ⟨g3, hcn⟩ := cnd_some h
        clear h
        have h := hcn
        clear hcn
        rw [hs.heap]
        exact ⟨es, cl, hg, by simpa [Nat.blt_eq] using g3, fun r => hk _ _ _ _ _ h (.refl _) (by have := fin r (some b) es; rw [hs.heap] at this; exact this)⟩
      · simp at h
    · simp at h
  · rw [e] at h
    replace h : nextK o t H it k = some outs := h
    unfold offR at ho
    rw [e1] at ho
    simp only [Bool.and_eq_true] at ho
    obtain ⟨ho1, ho2⟩ := ho
    have hx : x = .tmp τ := by
      split at ho1
      · rename_i i; simp at ho1; rw [ho1]
      · simp at ho1
    unfold opP
    simp only [e1]
    unfold nextK at h
    obtain ⟨g1, hcn⟩ := cnd_some h
    clear h
    have h := hcn
    clear hcn
    rw [isNoneF_eq] at g1
    split at h
    · rename_i a
      obtain ⟨b, hb, b1, b2, b3, b4⟩ := hs.some_it
      refine ⟨g1, b, hb, by rw [hx]; exact b1, ?_, ?_⟩
      · intro hbl
        rw [hbl] at b3
        have hal : a.left = [] := List.Perm.eq_nil b3
        split at h
        · refine hk _ _ _ _ _ h (.refl _) ?_
          rw [hs.heap]
          exact hs.put hN hd ho2 _ fun t2 T e1 e2 => ⟨by rw [e2]; exact b1, b2, by rw [hal, hbl], b4⟩
        · rename_i hne; exact absurd hal hne
      · intro kk v rest hp
        have hmem : (kk, v) ∈ a.left := (b3.trans hp).mem_iff.2 (by simp)
        obtain ⟨rest', p1, p2⟩ := picks_mem hmem
        split at h
        · rename_i hal; rw [hal] at hmem; simp at hmem
        · obtain ⟨y, h1, h2⟩ := manyO_inv h _ p1
          refine hk _ _ _ _ _ h1 h2 ?_
          rw [hs.heap]
          exact hs.put hN hd ho2 _ fun t2 T e1 e2 => ⟨by rw [e2]; exact b1, b2, List.Perm.cons_inv (p2.symm.trans (b3.trans hp)), rfl⟩
    · simp at h
  · rw [e] at h
    replace h : entryK o t H it k = some outs := h
    unfold offR at ho
    rw [e1] at ho
    simp only [Bool.and_eq_true] at ho
    obtain ⟨ho1, ho2⟩ := ho
    have hx : x = .tmp τ := by
      split at ho1
      · rename_i i; simp at ho1; rw [ho1]
      · simp at ho1
    unfold opP
    simp only [e1]
    unfold entryK at h
    obtain ⟨g1, hcn⟩ := cnd_some h
    clear h
    have h := hcn
    clear hcn
    rw [isNoneF_eq] at g1
    split at h
    · rename_i a
      obtain ⟨b, hb, b1, b2, b3, b4⟩ := hs.some_it
      split at h
      · rename_i p hp
        refine ⟨g1, b, p.1, p.2, hb, by rw [hx]; exact b1, by rw [b4, hp], ?_⟩
        refine hk _ _ _ _ _ h (.refl _) ?_
        rw [hs.heap, hb]
        exact hs.put hN hd ho2 _ fun t2 T e1 e2 => ⟨by rw [e2]; exact b1, b2, b3, b4⟩
      · simp at h
    · simp at h

theorem opsK_sound (hR : LeR RF R) (hA : SoundA RA RP) (hN : N < 100000) : ∀ (os : List AOper) {t : TV} {H : Heap} {it : Option ItA} {s : PSt} {k : KF} {outs : List (AVal × Heap)} {K : PSt → Prop}, opsK dr RF RA lim os t H it k = some outs → RepP τ N t H it s → os.all (dOK N) = true → os.all (offR τ) = true →
    (∀ t' H' it' s' out, k t' H' it' = some out → Sub out outs → RepP τ N t' H' it' s' → K s') → opsP R RP lim0 lim os s K
  | [], t, H, it, s, k, outs, K, h, hs, _, _, hk => hk _ _ _ _ _ h (.refl _) hs
  | o :: os, t, H, it, s, k, outs, K, h, hs, hd, ho, hk => by
    simp only [List.all_cons, Bool.and_eq_true] at hd ho
    exact opK_sound hR hA hN h hs hd.1 ho.1 fun t' H' it' s' out h1 h2 hs' => opsK_sound hR hA hN os h1 hs' hd.2 ho.2 fun t2 H2 it2 s2 out2 q1 q2 q3 => hk _ _ _ _ _ q1 (fun x hx => h2 x (q2 x hx)) q3

theorem loopK_sound {body : TV → Heap → Option ItA → KX → Outs} {bodyP : PSt → KP → Prop} (hb : ∀ (t : TV) (H : Heap) (it : Option ItA) (s : PSt) (k : KX) (outs : List (AVal × Heap)) (K : KP), body t H it k = some outs → RepP τ N t H it s → (∀ e t' H' it' s' out, k e t' H' it' = some out → Sub out outs → RepP τ N t' H' it' s' → K e s') → bodyP s K) :
    ∀ (m : Nat) {t : TV} {H : Heap} {it : Option ItA} {s : PSt} {k : KX} {outs : List (AVal × Heap)} {K : KP}, loopK body m t H it k = some outs → RepP τ N t H it s → (∀ e t' H' it' s' out, k e t' H' it' = some out → Sub out outs → RepP τ N t' H' it' s' → K e s') → loopP bodyP m s K
  | 0, t, H, it, s, k, outs, K, h, _, _ => by simp [loopK] at h
  | m + 1, t, H, it, s, k, outs, K, h, hs, hk => by
    unfold loopP
    refine hb _ _ _ _ _ _ _ (h : body t H it _ = some outs) hs fun e t' H' it' s' out h1 h2 hs' => ?_
    cases e with
    | norm => exact loopK_sound hb m (h1 : loopK body m t' H' it' k = some out) hs' fun e t2 H2 it2 s2 out2 q1 q2 q3 => hk _ _ _ _ _ _ q1 (fun x hx => h2 x (q2 x hx)) q3
    | exit id => exact hk _ _ _ _ _ _ h1 h2 hs'
    | ret => exact hk _ _ _ _ _ _ h1 h2 hs'

theorem execK_sound (hR : LeR RF R) (hA : SoundA RA RP) (hN : N < 100000) (n : Nat) : ∀ (c : ACode) {t : TV} {H : Heap} {it : Option ItA} {s : PSt} {k : KX} {outs : List (AVal × Heap)} {K : KP}, execK dr RF RA lim n N c t H it k = some outs → RepP τ N t H it s → bndF N c = true → offC τ c = true →
    (∀ e t' H' it' s' out, k e t' H' it' = some out → Sub out outs → RepP τ N t' H' it' s' → K e s') → execP R RP lim0 lim n c s K
  | .skip, t, H, it, s, k, outs, K, h, hs, _, _, hk => hk _ _ _ _ _ _ h (.refl _) hs
  | .exit id, t, H, it, s, k, outs, K, h, hs, _, _, hk => hk _ _ _ _ _ _ h (.refl _) hs
  | .ret, t, H, it, s, k, outs, K, h, hs, _, _, hk => hk _ _ _ _ _ _ h (.refl _) hs
  | .region os, t, H, it, s, k, outs, K, h, hs, hb, ho, hk => by
    replace h : cnd (hard os) (@OR.rec (fun _ => Outs) none (fun t H => k .norm t H it) (opsF RF lim os t H)) (opsK dr RF RA lim os t H it (fun t H it => k .norm t H it)) = some outs := h
    rw [cnd_eq] at h
    simp only [offC] at ho
    split at h
    · rename_i hh
      rw [if_pos hh] at ho
      cases h1 : opsF RF lim os t H with
      | no => rw [h1] at h; simp at h
      | ok t' H' =>
        rw [h1] at h
        obtain ⟨s1, e1, r1⟩ := dets_sound hR hN os h1 hs hb ho
        exact .inl ⟨s1, e1, hk _ _ _ _ _ _ h (.refl _) r1⟩
    · rename_i hh
      rw [if_neg hh] at ho
      exact .inr ⟨by simpa using hh, opsK_sound hR hA hN os h hs hb ho fun t' H' it' s' out h1 h2 hs' => hk _ _ _ _ _ _ h1 h2 hs'⟩
  | .seq a b, t, H, it, s, k, outs, K, h, hs, hb, ho, hk => by
    simp only [bndF, offC, Bool.and_eq_true] at hb ho
    refine execK_sound hR hA hN n a (h : execK dr RF RA lim n N a t H it _ = some outs) hs hb.1 ho.1 fun e t' H' it' s' out h1 h2 hs' => ?_
    cases e with
    | norm => exact execK_sound hR hA hN n b (h1 : execK dr RF RA lim n N b t' H' it' k = some out) hs' hb.2 ho.2 fun e t2 H2 it2 s2 out2 q1 q2 q3 => hk _ _ _ _ _ _ q1 (fun x hx => h2 x (q2 x hx)) q3
    | exit id => exact hk _ _ _ _ _ _ h1 h2 hs'
    | ret => exact hk _ _ _ _ _ _ h1 h2 hs'
  | .cond c a b, t, H, it, s, k, outs, K, h, hs, hb, ho, hk => by
    simp only [bndF, offC, Bool.and_eq_true] at hb ho
    replace h : condK (execK dr RF RA lim n N a) (execK dr RF RA lim n N b) t H it k (evF t c) = some outs := h
    rw [hs.ev ho.1.1] at h
    unfold condK at h
    split at h
    · rename_i cv hc
      rw [cnd_eq] at h
      refine ⟨cv, hc, fun e => ?_, fun e => ?_⟩
      · subst e; exact execK_sound hR hA hN n a h hs hb.1 ho.1.2 hk
      · subst e; exact execK_sound hR hA hN n b h hs hb.2 ho.2 hk
    · simp at h
  | .block id c, t, H, it, s, k, outs, K, h, hs, hb, ho, hk => by
    simp only [bndF, offC] at hb ho
    refine execK_sound hR hA hN n c (h : execK dr RF RA lim n N c t H it _ = some outs) hs hb ho fun e t' H' it' s' out h1 h2 hs' => ?_
    cases e with
    | norm => exact hk _ _ _ _ _ _ h1 h2 hs'
    | exit i =>
      replace h1 : cnd (Nat.beq i id) (k .norm t' H' it') (k (.exit i) t' H' it') = some out := h1
      simp only [cnd_eq, Nat.beq_eq] at h1
      show (if i = id then K .norm s' else K (.exit i) s')
      split at h1
      · rename_i e; rw [if_pos e]; exact hk _ _ _ _ _ _ h1 h2 hs'
      · rename_i e; rw [if_neg e]; exact hk _ _ _ _ _ _ h1 h2 hs'
    | ret => exact hk _ _ _ _ _ _ h1 h2 hs'
  | .loop c, t, H, it, s, k, outs, K, h, hs, hb, ho, hk => by
    simp only [bndF, offC] at hb ho
    exact loopK_sound (fun t H it s k outs K h hs hk => execK_sound hR hA hN n c h hs hb ho hk) n h hs hk
  | .ranges g ps asg body, t, H, it, s, k, outs, K, h, hs, hb, ho, hk => by
    simp only [offC] at ho
    replace h : rngK' RA lim ps asg body (toL N t) t (evF t g) H it k = some outs := h
    rw [hs.ev ho] at h
    unfold rngK' at h
    obtain ⟨g1, hcn⟩ := cnd_some h
    clear h
    have h := hcn
    clear hcn
    obtain ⟨g2, hcn⟩ := cnd_some h
    clear h
    have h := hcn
    clear hcn
    rw [isNoneF_eq] at g2
    subst g2
    have hit := hs.none_it
    have hrep : RepT t s.tmps := by
      intro i
      by_cases e : i = τ
      · subst e
        have := hs.itr
        rw [hit] at this
        exact this
      · exact hs.off i e
    rw [toL_eq hrep hs.len] at h
    refine ⟨g1, hit, ?_⟩
    split at h
    · rename_i f first captured hg
      simp only [hg]
      split at h
      · rename_i l hl
        rw [hs.heap]
        refine hA _ _ _ _ _ _ hl _ fun p hp => ?_
        obtain ⟨y, h1, h2⟩ := manyO_inv h p hp
        have fin : ∀ H2 : Heap, RepP τ N t H2 none ⟨s.tmps, H2, none⟩ := fun H2 => ⟨rfl, hs.len, hs.off, by have := hs.itr; rw [hit] at this; exact this⟩
        unfold endK at h1
        split at h1
        · rename_i e
          simp only [e]
          exact hk _ _ _ _ _ _ h1 h2 (fin _)
        · rename_i e
          simp only [e]
          exact hk _ _ _ _ _ _ h1 h2 (fin _)
        · simp at h1
      · simp at h
    · simp at h

theorem funK_sound (hR : LeR RF R) (hA : SoundA RA RP) {af : AFunc} (hok : okF (.code af) = true) (hτ : offC (tauF af) af.body = true) (hres : af.results.all (offRes (tauF af)) = true) {args : List AVal} {H : Heap} {outs : List (AVal × Heap)} {K : AVal → Heap → Prop} (h : funK dr RF RA lim n af args H = some outs) (hk : ∀ p ∈ outs, K p.1 p.2) :
    funP R RP lim0 lim n af args H K := by
  simp only [okF, Bool.and_eq_true, Nat.blt_eq] at hok
  obtain ⟨hn, hb⟩ := hok
  unfold funK at h
  obtain ⟨g1, hcn⟩ := cnd_some h
  clear h
  have h := hcn
  clear hcn
  rw [lenF_eq, Nat.ble_eq] at g1
  have hlen : (enterF af args).length = af.ntmps := by simp [enterF]; omega
  have hrep : RepT (ofL args 0 .lf) (enterF af args) := RepT.enter (args := args) (k := af.ntmps - args.length) (by omega)
  refine execK_sound (τ := tauF af) hR hA (by omega) n af.body h ⟨rfl, hlen, fun i _ => hrep i, hrep _⟩ hb hτ fun e t' H' it' s' out h1 h2 hs' => ?_
  have fin : ((resAllF t' H' af.results).map fun vs => [(oneOr vs, H')]) = some out → ∃ v, leaveF af ⟨s'.tmps, s'.H⟩ = some (v, s'.H) ∧ K v s'.H := by
    intro h1
    rw [Option.map_eq_some_iff] at h1
    obtain ⟨vs, q1, q2⟩ := h1
    have hr : ∀ rs : List ARes, rs.all (offRes (tauF af)) = true → Le (resAllF t' H' rs) (resAll ⟨s'.tmps, s'.H⟩ rs) := by
      intro rs
      induction rs with
      | nil => intro _; exact .refl _
      | cons r rs ih =>
        intro ho v hv
        simp only [List.all_cons, Bool.and_eq_true] at ho
        replace hv : (match resF t' H' r with
          | some v => match resAllF t' H' rs with
            | some vs => some (v :: vs)
            | none => none
          | none => none) = some v := hv
        have h1 : Le (resF t' H' r) (resOf ⟨s'.tmps, s'.H⟩ r) := by
          cases r with
          | tmp i =>
            have hi : i ≠ tauF af := by simpa [offRes] using ho.1
            show Le (some (t'.get i)) (some (s'.tmps.getD i und))
            rw [hs'.off i hi]; exact .refl _
          | cell i g =>
            have hi : i ≠ tauF af := by simpa [offRes] using ho.1
            show Le (loadF H' g (t'.get i)) (aload s'.H g (s'.tmps.getD i und))
            rw [hs'.off i hi, hs'.heap]; exact loadF_le _ _ _
        split at hv
        · rename_i v1 e1
          split at hv
          · rename_i vs' e2
            simp only [resAll, h1 _ e1, ih ho.2 _ e2]
            exact hv
          · simp at hv
        · simp at hv
    refine ⟨oneOr vs, ?_, ?_⟩
    · unfold leaveF
      rw [hr _ hres _ q1]; rfl
    · subst q2
      rw [hs'.heap]
      exact hk (oneOr vs, H') (h2 _ (List.mem_singleton_self _))
  cases e with
  | exit id => simp [outK] at h1
  | norm => exact ⟨fun id e => by simp at e, fin h1⟩
  | ret => exact ⟨fun id e => by simp at e, fin h1⟩

end

/-- Is a drawn function in order? -/
def okD (af : AFunc) : Bool := okF (.code af) && offC (tauF af) af.body && af.results.all (offRes (tauF af))

section
variable {fp : Nat → Option AFn} {ap : FuncId → Option AFn} {dp : FuncId → Option AFunc}

theorem runKF_sound (hfp : ∀ f, Le (fp f) (ap f)) (hok : ∀ f af, fp f = some af → okF af = true) (hdok : ∀ f af, dp f = some af → okD af = true) : ∀ n, SoundA (runKF fp dp n) (runP ap dp n)
  | 0 => fun lim0 lim tg args H outs h => by simp [runKF] at h
  | n + 1 => fun lim0 lim tg args H outs h K hk => by
    have det : (runFT fp (n + 1) lim tg args H).map (fun p => [p]) = some outs → runP ap dp (n + 1) lim0 lim tg args H K := by
      intro h
      rw [Option.map_eq_some_iff] at h
      obtain ⟨p, h1, h2⟩ := h
      subst h2
      exact .inl ⟨p.1, p.2, runFT_le hfp hok (n + 1) _ _ _ _ _ h1, hk _ (by simp)⟩
    cases tg with
    | yl b => exact det h
    | fn f =>
      replace h : (match dp f with
        | some af => funK (fun f => (dp f).isSome) (runFT fp n) (runKF fp dp n) lim n af args H
        | none => (runFT fp (n + 1) lim (.fn f) args H).map fun p => [p]) = some outs := h
      split at h
      · rename_i af haf
        have := hdok f af haf
        simp only [okD, Bool.and_eq_true] at this
        exact .inr ⟨f, af, rfl, haf, funK_sound (runFT_le hfp hok n) (runKF_sound hfp hok hdok n) this.1.1 this.1.2 this.2 h hk⟩
      · exact det h

end

/-! ## What lay there stays -/

section
variable {dr : FuncId → Bool} {RF R : Caller} {RA : CallerA} {RP : CallerP} {lim0 lim n N τ : Nat}

def KeepK (lim : Nat) (H : Heap) (outs : List (AVal × Heap)) : Prop := ∀ p ∈ outs, H.next ≤ p.2.next ∧ ∀ b, b < lim → p.2.get b = H.get b
def KeepH (lim : Nat) (H H' : Heap) : Prop := H.next ≤ H'.next ∧ ∀ b, b < lim → H'.get b = H.get b

theorem manyO_back {α : Type} {f : α → Outs} : ∀ {l : List α} {o : List (AVal × Heap)}, manyO f l = some o → ∀ y ∈ o, ∃ x ∈ l, ∃ z, f x = some z ∧ y ∈ z
  | [], o, h, y, hy => by simp [manyO] at h; subst h; simp at hy
  | x :: l, o, h, y, hy => by
    obtain ⟨a, b, h1, h2, rfl⟩ := addO_inv (h : addO (f x) (manyO f l) = some o)
    rcases List.mem_append.1 hy with hy | hy
    · exact ⟨x, by simp, a, h1, hy⟩
    · obtain ⟨z, q1, q2⟩ := manyO_back h2 y hy
      exact ⟨z, by simp [q1], q2⟩

theorem KeepH.trans {H0 H H' : Heap} (h : KeepH lim H0 H) (h' : KeepH lim H H') : KeepH lim H0 H' := ⟨Nat.le_trans h.1 h'.1, fun b hb => (h'.2 b hb).trans (h.2 b hb)⟩

theorem opF_keep (hRk : Keeps RF) {o : AOper} {t t' : TV} {H H' : Heap} (hl : lim ≤ H.next) (h : opF o RF lim t H = .ok t' H') : KeepH lim H H' := by
  have hst : ∀ {v : AVal} {H1 : Heap}, stepF o.op RF (limF o lim H) (evF t) H = some (v, H1) → KeepH lim H H1 := by
    intro v H1 hs
    have hlim : lim ≤ limF o lim H ∧ limF o lim H ≤ H.next := by
      unfold limF; rw [cnd_eq]; split <;> omega
    have := step_keep hRk hlim.2 (stepF_le (leR_refl RF) _ hs)
    exact ⟨this.1, fun b hb => this.2 b (by omega)⟩
  unfold opF at h
  rw [cnd_eq] at h
  split at h
  · cases hap : o.apart with
    | nil =>
      rw [hap] at h
      obtain ⟨v, h1, _⟩ := putR_inv h
      exact hst h1
    | cons y ys =>
      rw [hap] at h
      replace h : lateF o RF lim t H = .ok t' H' := h
      unfold lateF at h
      split at h
      · obtain ⟨v, h1, _⟩ := putR_inv h
        exact hst h1
      · split at h
        · split at h
          · rename_i v H1 hs
            split at h
            · simp only [OR.ok.injEq] at h
              obtain ⟨_, rfl⟩ := h
              exact hst hs
            · simp at h
          · simp at h
        · simp at h
  · simp only [OR.ok.injEq] at h
    obtain ⟨_, rfl⟩ := h
    exact ⟨Nat.le_refl _, fun _ _ => rfl⟩

theorem opsF_keep (hRk : Keeps RF) : ∀ (os : List AOper) {t t' : TV} {H H' : Heap}, lim ≤ H.next → opsF RF lim os t H = .ok t' H' → KeepH lim H H'
  | [], t, t', H, H', _, h => by
    simp only [opsF, OR.ok.injEq] at h
    obtain ⟨_, rfl⟩ := h
    exact ⟨Nat.le_refl _, fun _ _ => rfl⟩
  | o :: os, t, t', H, H', hl, h => by
    replace h : @OR.rec (fun _ => OR) .no (fun t H => opsF RF lim os t H) (opF o RF lim t H) = .ok t' H' := h
    cases h1 : opF o RF lim t H with
    | no => rw [h1] at h; simp at h
    | ok t1 H1 =>
      rw [h1] at h
      have k1 := opF_keep hRk hl h1
      exact k1.trans (opsF_keep hRk os (Nat.le_trans hl k1.1) h)

theorem detK_keep (hRk : Keeps RF) {o : AOper} {t : TV} {H H0 : Heap} {it : Option ItA} {k : KF} {outs : List (AVal × Heap)} (hl : lim ≤ H.next) (h0 : KeepH lim H0 H) (h : detK RF lim o t H it k = some outs) (hk : ∀ t' H' it' out, k t' H' it' = some out → lim ≤ H'.next → KeepH lim H0 H' → KeepK lim H0 out) : KeepK lim H0 outs := by
  unfold detK at h
  cases h1 : opF o RF lim t H with
  | no => rw [h1] at h; simp at h
  | ok t' H' =>
    rw [h1] at h
    have k1 := opF_keep hRk hl h1
    exact hk t' H' it outs h (Nat.le_trans hl k1.1) (h0.trans k1)

theorem callK_keep (hRA : KeepsA RA) {o : AOper} {f : FuncId} {args : List AVal} {t : TV} {H H0 : Heap} {it : Option ItA} {k : KF} {outs : List (AVal × Heap)} (hl : lim ≤ H.next) (h0 : KeepH lim H0 H) (h : callK RA lim o f args t H it k = some outs) (hk : ∀ t' H' it' out, k t' H' it' = some out → lim ≤ H'.next → KeepH lim H0 H' → KeepK lim H0 out) : KeepK lim H0 outs := by
  unfold callK at h
  obtain ⟨_, hc⟩ := cnd_some h
  obtain ⟨_, hc⟩ := cnd_some hc
  split at hc
  · rename_i l hl'
    intro y hy
    obtain ⟨p, hp, z, q1, q2⟩ := manyO_back hc y hy
    have k1 := hRA _ _ _ _ _ hl hl' p hp
    exact hk _ _ _ _ q1 (Nat.le_trans hl k1.1) (h0.trans k1) y q2
  · simp at hc

theorem opK_keep (hRk : Keeps RF) (hRA : KeepsA RA) {o : AOper} {t : TV} {H H0 : Heap} {it : Option ItA} {k : KF} {outs : List (AVal × Heap)} (hl : lim ≤ H.next) (h0 : KeepH lim H0 H) (h : opK dr RF RA lim o t H it k = some outs) (hk : ∀ t' H' it' out, k t' H' it' = some out → lim ≤ H'.next → KeepH lim H0 H' → KeepK lim H0 out) : KeepK lim H0 outs := by
  unfold opK at h
  cases hkd : kindK o.op with
  | det => rw [hkd] at h; exact detK_keep hRk hl h0 h hk
  | range x =>
    rw [hkd] at h
    replace h : rangeK lim o (evF t x) t H it k = some outs := h
    unfold rangeK at h
    obtain ⟨_, hc⟩ := cnd_some h
    obtain ⟨_, hc⟩ := cnd_some hc
    split at hc
    · exact hk _ _ _ _ hc hl h0
    · split at hc
      · obtain ⟨_, hc⟩ := cnd_some hc
        exact hk _ _ _ _ hc hl h0
      · simp at hc
    · simp at hc
  | next x =>
    rw [hkd] at h
    replace h : nextK o t H it k = some outs := h
    unfold nextK at h
    obtain ⟨_, hc⟩ := cnd_some h
    split at hc
    · split at hc
      · exact hk _ _ _ _ hc hl h0
      · intro y hy
        obtain ⟨p, _, z, q1, q2⟩ := manyO_back hc y hy
        exact hk _ _ _ _ q1 hl h0 y q2
    · simp at hc
  | entry x =>
    rw [hkd] at h
    replace h : entryK o t H it k = some outs := h
    unfold entryK at h
    obtain ⟨_, hc⟩ := cnd_some h
    split at hc
    · split at hc
      · exact hk _ _ _ _ hc hl h0
      · simp at hc
    · simp at hc
  | call f xs =>
    rw [hkd] at h
    replace h : cnd (dr f) (callK RA lim o f (xs.map (evF t)) t H it k) (detK RF lim o t H it k) = some outs := h
    rw [cnd_eq] at h
    split at h
    · exact callK_keep hRA hl h0 h hk
    · exact detK_keep hRk hl h0 h hk
  | callv x xs =>
    rw [hkd] at h
    replace h : callvK dr RF RA lim o (evF t x) (xs.map (evF t)) t H it k = some outs := h
    unfold callvK at h
    split at h
    · rw [cnd_eq] at h
      split at h
      · exact callK_keep hRA hl h0 h hk
      · exact detK_keep hRk hl h0 h hk
    · exact detK_keep hRk hl h0 h hk

theorem opsK_keep (hRk : Keeps RF) (hRA : KeepsA RA) {H0 : Heap} : ∀ (os : List AOper) {t : TV} {H : Heap} {it : Option ItA} {k : KF} {outs : List (AVal × Heap)}, lim ≤ H.next → KeepH lim H0 H → opsK dr RF RA lim os t H it k = some outs → (∀ t' H' it' out, k t' H' it' = some out → lim ≤ H'.next → KeepH lim H0 H' → KeepK lim H0 out) → KeepK lim H0 outs
  | [], t, H, it, k, outs, hl, h0, h, hk => hk _ _ _ _ h hl h0
  | o :: os, t, H, it, k, outs, hl, h0, h, hk => opK_keep hRk hRA hl h0 h fun t' H' it' out h1 h2 h3 => opsK_keep hRk hRA os h2 h3 h1 hk

theorem loopK_keep {body : TV → Heap → Option ItA → KX → Outs} {H0 : Heap} (hb : ∀ (t : TV) (H : Heap) (it : Option ItA) (k : KX) (outs : List (AVal × Heap)), lim ≤ H.next → KeepH lim H0 H → body t H it k = some outs → (∀ e t' H' it' out, k e t' H' it' = some out → lim ≤ H'.next → KeepH lim H0 H' → KeepK lim H0 out) → KeepK lim H0 outs) :
    ∀ (m : Nat) {t : TV} {H : Heap} {it : Option ItA} {k : KX} {outs : List (AVal × Heap)}, lim ≤ H.next → KeepH lim H0 H → loopK body m t H it k = some outs → (∀ e t' H' it' out, k e t' H' it' = some out → lim ≤ H'.next → KeepH lim H0 H' → KeepK lim H0 out) → KeepK lim H0 outs
  | 0, t, H, it, k, outs, _, _, h, _ => by simp [loopK] at h
  | m + 1, t, H, it, k, outs, hl, h0, h, hk => hb _ _ _ _ _ hl h0 (h : body t H it _ = some outs) fun e t' H' it' out h1 h2 h3 => by
    cases e with
    | norm => exact loopK_keep hb m h2 h3 (h1 : loopK body m t' H' it' k = some out) hk
    | exit id => exact hk _ _ _ _ _ h1 h2 h3
    | ret => exact hk _ _ _ _ _ h1 h2 h3

theorem execK_keep (hRk : Keeps RF) (hRA : KeepsA RA) {H0 : Heap} : ∀ (c : ACode) {t : TV} {H : Heap} {it : Option ItA} {k : KX} {outs : List (AVal × Heap)}, lim ≤ H.next → KeepH lim H0 H → execK dr RF RA lim n N c t H it k = some outs → (∀ e t' H' it' out, k e t' H' it' = some out → lim ≤ H'.next → KeepH lim H0 H' → KeepK lim H0 out) → KeepK lim H0 outs
  | .skip, t, H, it, k, outs, hl, h0, h, hk => hk _ _ _ _ _ h hl h0
  | .exit id, t, H, it, k, outs, hl, h0, h, hk => hk _ _ _ _ _ h hl h0
  | .ret, t, H, it, k, outs, hl, h0, h, hk => hk _ _ _ _ _ h hl h0
  | .region os, t, H, it, k, outs, hl, h0, h, hk => by
    replace h : cnd (hard os) (@OR.rec (fun _ => Outs) none (fun t H => k .norm t H it) (opsF RF lim os t H)) (opsK dr RF RA lim os t H it (fun t H it => k .norm t H it)) = some outs := h
    rw [cnd_eq] at h
    split at h
    · cases h1 : opsF RF lim os t H with
      | no => rw [h1] at h; simp at h
      | ok t' H' =>
        rw [h1] at h
        have k1 := opsF_keep hRk os hl h1
        exact hk _ _ _ _ _ h (Nat.le_trans hl k1.1) (h0.trans k1)
    · exact opsK_keep hRk hRA os hl h0 h fun t' H' it' out h1 h2 h3 => hk _ _ _ _ _ h1 h2 h3
  | .seq a b, t, H, it, k, outs, hl, h0, h, hk => execK_keep hRk hRA a hl h0 (h : execK dr RF RA lim n N a t H it _ = some outs) fun e t' H' it' out h1 h2 h3 => by
    cases e with
    | norm => exact execK_keep hRk hRA b h2 h3 (h1 : execK dr RF RA lim n N b t' H' it' k = some out) hk
    | exit id => exact hk _ _ _ _ _ h1 h2 h3
    | ret => exact hk _ _ _ _ _ h1 h2 h3
  | .cond c a b, t, H, it, k, outs, hl, h0, h, hk => by
    replace h : condK (execK dr RF RA lim n N a) (execK dr RF RA lim n N b) t H it k (evF t c) = some outs := h
    unfold condK at h
    split at h
    · rw [cnd_eq] at h
      split at h
      · exact execK_keep hRk hRA a hl h0 h hk
      · exact execK_keep hRk hRA b hl h0 h hk
    · simp at h
  | .block id c, t, H, it, k, outs, hl, h0, h, hk => execK_keep hRk hRA c hl h0 (h : execK dr RF RA lim n N c t H it _ = some outs) fun e t' H' it' out h1 h2 h3 => by
    cases e with
    | norm => exact hk _ _ _ _ _ h1 h2 h3
    | exit i =>
      replace h1 : cnd (Nat.beq i id) (k .norm t' H' it') (k (.exit i) t' H' it') = some out := h1
      rw [cnd_eq] at h1
      split at h1
      · exact hk _ _ _ _ _ h1 h2 h3
      · exact hk _ _ _ _ _ h1 h2 h3
    | ret => exact hk _ _ _ _ _ h1 h2 h3
  | .loop c, t, H, it, k, outs, hl, h0, h, hk => loopK_keep (fun t H it k outs hl h0 h hk => execK_keep hRk hRA c hl h0 h hk) n hl h0 h hk
  | .ranges g ps asg body, t, H, it, k, outs, hl, h0, h, hk => by
    replace h : rngK' RA lim ps asg body (toL N t) t (evF t g) H it k = some outs := h
    unfold rngK' at h
    obtain ⟨_, hc⟩ := cnd_some h
    obtain ⟨_, hc⟩ := cnd_some hc
    split at hc
    · split at hc
      · rename_i l hl'
        intro y hy
        obtain ⟨p, hp, z, q1, q2⟩ := manyO_back hc y hy
        obtain ⟨k1, k2⟩ := hRA _ _ _ _ _ (by rw [Heap.next_push]; omega) hl' p hp
        rw [Heap.next_push] at k1
        have fin : KeepH lim H (p.2.set H.next .dead) := ⟨by rw [Heap.next_set]; omega, fun b hb => by rw [Heap.get_set_other _ _ _ _ (by omega), k2 b hb, Heap.get_push_old _ _ _ (by omega)]⟩
        unfold endK at q1
        split at q1
        · exact hk _ _ _ _ _ q1 (Nat.le_trans hl fin.1) (h0.trans fin) y q2
        · exact hk _ _ _ _ _ q1 (Nat.le_trans hl fin.1) (h0.trans fin) y q2
        · simp at q1
      · simp at hc
    · simp at hc

theorem funK_keep (hRk : Keeps RF) (hRA : KeepsA RA) {af : AFunc} {args : List AVal} {H : Heap} {outs : List (AVal × Heap)} (hl : lim ≤ H.next) (h : funK dr RF RA lim n af args H = some outs) : KeepK lim H outs := by
  unfold funK at h
  obtain ⟨_, hc⟩ := cnd_some h
  refine execK_keep hRk hRA af.body hl ⟨Nat.le_refl _, fun _ _ => rfl⟩ hc fun e t' H' it' out h1 h2 h3 => ?_
  have fin : ((resAllF t' H' af.results).map fun vs => [(oneOr vs, H')]) = some out → KeepK lim H out := by
    intro h1
    rw [Option.map_eq_some_iff] at h1
    obtain ⟨vs, _, q2⟩ := h1
    subst q2
    intro y hy
    simp only [List.mem_singleton] at hy
    subst hy
    exact h3
  cases e with
  | exit id => simp [outK] at h1
  | norm => exact fin h1
  | ret => exact fin h1

end

section
variable {fp : Nat → Option AFn} {ap : FuncId → Option AFn} {dp : FuncId → Option AFunc}

theorem runKF_keep {P : Program} (hap : ∀ f af, ap f = some af → FnOK P f af) (hfp : ∀ f, Le (fp f) (ap f)) (hok : ∀ f af, fp f = some af → okF af = true) : ∀ n, KeepsA (runKF fp dp n)
  | 0 => fun lim tg args H outs hl h => by simp [runKF] at h
  | n + 1 => fun lim tg args H outs hl h p hp => by
    have hk : ∀ m, Keeps (runFT fp m) := fun m => keeps_le (runFT_le hfp hok m) (run_keeps hap m)
    have det : (runFT fp (n + 1) lim tg args H).map (fun p => [p]) = some outs → H.next ≤ p.2.next ∧ ∀ b, b < lim → p.2.get b = H.get b := by
      intro h
      rw [Option.map_eq_some_iff] at h
      obtain ⟨q, h1, h2⟩ := h
      subst h2
      simp at hp; subst hp
      exact hk (n + 1) _ _ _ _ _ _ hl h1
    cases tg with
    | yl b => exact det h
    | fn f =>
      replace h : (match dp f with
        | some af => funK (fun f => (dp f).isSome) (runFT fp n) (runKF fp dp n) lim n af args H
        | none => (runFT fp (n + 1) lim (.fn f) args H).map fun p => [p]) = some outs := h
      split at h
      · exact funK_keep (hk n) (runKF_keep hap hfp hok n) hl h p hp
      · exact det h

/-- A drawn function, all of whose outcomes are alike. -/
noncomputable def primK (fp : Nat → Option AFn) (dp : FuncId → Option AFunc) (n : Nat) (f : FuncId) : Nat → List AVal → Heap → Option (AVal × Heap) :=
  fun _ args H => match runKF fp dp n H.next (.fn f) args H with
    | some l => joinA H l
    | none => none

theorem primK_ok {P : Program} (hP : P.follows .mixedOrders = true) (hap : ∀ f af, ap f = some af → FnOK P f af) (hdp : DpOK P dp) (hfp : ∀ f, Le (fp f) (ap f)) (hok : ∀ f af, fp f = some af → okF af = true) (hdok : ∀ f af, dp f = some af → okD af = true) (n : Nat) {f : FuncId} {af : AFunc} (hf : dp f = some af) : PrimOK P f (primK fp dp n f) := by
  have key : ∀ {args : List AVal} {H : Heap} {v : AVal} {H' : Heap} {lim : Nat}, primK fp dp n f lim args H = some (v, H') → ∃ l, runKF fp dp n H.next (.fn f) args H = some l ∧ (∀ b, b < H.next → H'.get b = H.get b) ∧ H.next ≤ H'.next ∧ ∀ p ∈ l, p.1 = v ∧ Forget H.next p.2 H' := by
    intro args H v H' lim h
    unfold primK at h
    split at h
    case h_2 => simp at h
    rename_i l hl
    exact ⟨l, hl, joinA_ok (runKF_keep hap hfp hok n _ _ _ _ _ (Nat.le_refl _) hl) h⟩
  refine PrimOK.drawn hP hap hdp hf (fun lim args H v H' hl h => ?_) fun lim args H v H' hl h => ?_
  · obtain ⟨l, _, h1, h2, _⟩ := key h
    exact ⟨h2, fun b hb => h1 b (by omega)⟩
  · obtain ⟨l, h1, _, _, h3⟩ := key h
    exact ⟨n, runKF_sound hfp hok hdok n lim H.next (.fn f) args H l h1 _ h3⟩

theorem okD_tab {l : List (Nat × AFunc)} (h : l.all (fun p => okD p.2) = true) : ∀ f af, l.lookup f = some af → okD af = true := by
  induction l with
  | nil => intro f af h'; simp at h'
  | cons p l ih =>
    intro f af h'
    simp only [List.all_cons, Bool.and_eq_true] at h
    rw [List.lookup_cons] at h'
    split at h'
    · simp at h'; subst h'; exact h.1
    · exact ih h.2 f af h'

end

end Go.Ahs
