/- What a piece of code comes to, told as one formula: for functions that a program prints in Lean. -/
import Derived.Test.YtnlimogbokkfpaaGreatChsA25
set_option linter.unusedSimpArgs false
set_option linter.unusedVariables false
namespace Go.Ahs
abbrev Tm := Nat → AVal
def setT (T : Tm) (d : Nat) (v : AVal) : Tm := fun i => bif Nat.beq i d then v else T i
def setO (T : Tm) : Option Nat → AVal → Tm
 | some d, v => setT T d v
 | none, _ => T
def evT (T : Tm) : Opd → AVal
 | .tmp t => T t
 | .val v => v
def bindP {α : Type} (o : Option α) (k : α → Prop) : Prop := ∃ a, o = some a ∧ k a
def bind2 (o : Option (AVal × Heap)) (k : AVal → Heap → Prop) : Prop := ∃ v H, o = some (v, H) ∧ k v H
theorem bindP_intro {α : Type} {o : Option α} {k : α → Prop} {a : α} (h : o = some a) (hk : k a) : bindP o k := ⟨a, h, hk⟩
theorem bind2_intro {o : Option (AVal × Heap)} {k : AVal → Heap → Prop} {v : AVal} {H : Heap} (h : o = some (v, H)) (hk : k v H) : bind2 o k := ⟨v, H, h, hk⟩
def gd (g : Option (AVal × Bool)) (o : Option AVal) : Option AVal :=
 match g with
 | none => o
 | some (v, w) => if wantV v w = true then o else some und
def gd2 (g : Option (AVal × Bool)) (H : Heap) (o : Option (AVal × Heap)) : Option (AVal × Heap) :=
 match g with
 | none => o
 | some (v, w) => if wantV v w = true then o else some (und, H)
def boolOf : AVal → Option Bool
 | .bool b => some b
 | _ => none
def pickO (c a b : AVal) : Option AVal :=
 match c with
 | .bool t => some (if t = true then a else b)
 | _ => none
def nilO : AVal → Option AVal
 | .ptr (some a) => some (.ptr (some a))
 | _ => none
def eqvO (neg : Bool) (k : EqK) (x y : AVal) : Option AVal := (aeq k x y).map fun b => .bool (if neg then !b else b)
def convO (k : IntKind) : AVal → Option AVal
 | .int _ n => some (.int k (k.wrap n))
 | _ => none
def convSO : AVal → Option AVal
 | .str s => some (.str s)
 | _ => none
def faddrO (off : Nat) : AVal → Option AVal
 | .ptr (some (b, o)) => some (.ptr (some (b, o + off)))
 | _ => none
def fieldO (off : Nat) (agg : Option Nat) : AVal → Option AVal
 | .agg cs => partOf cs off agg
 | _ => none
def extO (i : Nat) : AVal → Option AVal
 | .tup vs => vs[i]?
 | _ => none
def fillV : List AVal → List (Nat × Nat × AVal) → Option (List AVal)
 | cs, [] => some cs
 | cs, (off, size, x) :: rest => if x.cells.length = size ∧ off + size ≤ cs.length then fillV (put cs off x.cells) rest else none
def buildO (zero : List AVal) (parts : List (Nat × Nat × AVal)) : Option AVal := (fillV zero parts).map .agg
def valOp (ev : Opd → AVal) (H : Heap) : Aop → Option (Option AVal)
 | .mov x => some (some (ev x))
 | .pick c a b => some (pickO (ev c) (ev a) (ev b))
 | .build z ps => some (buildO z (ps.map fun p => (p.1, p.2.1, ev p.2.2)))
 | .load g a => some (aload H g (ev a))
 | .nilCheck x => some (nilO (ev x))
 | .bin op x y => some (abin op (ev x) (ev y))
 | .eqv neg k x y => some (eqvO neg k (ev x) (ev y))
 | .un op x => some (aun op (ev x))
 | .convInt k x => some (convO k (ev x))
 | .convStr x => some (convSO (ev x))
 | .bytesToStr x => some (abytesToStr H (ev x))
 | .makeIface t x => some (some (.iface t (ev x)))
 | .makeFn f first captured => some (some (.fn f (first.map ev) (captured.map ev)))
 | .slice sz x lo hi mx => some (aslice sz (ev x) (lo.map ev) (hi.map ev) (mx.map ev))
 | .sliceStr x lo hi => some (asliceStr (ev x) (lo.map ev) (hi.map ev))
 | .sliceArr n sz x lo hi mx => some (asliceArr n sz (ev x) (lo.map ev) (hi.map ev) (mx.map ev))
 | .fieldAddr x off => some (faddrO off (ev x))
 | .field x off agg => some (fieldO off agg (ev x))
 | .indexAddr arr sz x i => some (aindexAddr arr sz (ev x) (ev i))
 | .index len sz agg x i => some (aindex len sz agg (ev x) (ev i))
 | .indexStr x i => some (aindexStr (ev x) (ev i))
 | .extract x i => some (extO i (ev x))
 | .len str x => some (alen str (ev x))
 | .cap x => some (acap (ev x))
 | .minmax isMax args => some (aminmax isMax (args.map ev))
 | .lookup g ls z ok m k => some (alookup H g ls z ok (ev m) (ev k))
 | .mapLen m => some (amapLen H (ev m))
 | .stop => some none
 | _ => none
theorem valOp_step {R : Caller} {lim : Nat} {ev : Opd → AVal} {H : Heap} {op : Aop} {o : Option AVal} (h : valOp ev H op = some o) : step R lim ev H op = o.map fun v => (v, H) := by
 have fills : ∀ (ps : List (Nat × Nat × Opd)) (z : List AVal), fillV z (ps.map fun p => (p.1, p.2.1, ev p.2.2)) = fillAll ev z ps := by
  intro ps
  induction ps with
  | nil => intro z; rfl
  | cons p ps ih =>
   intro z
   obtain ⟨off, size, x⟩ := p
   simp only [List.map_cons, fillV, fillAll]
   split <;> simp_all
 cases op <;> simp only [valOp, Option.some.injEq, reduceCtorEq] at h <;> subst h
 case build z ps => simp only [step, val, buildO, fills]
 case pick c a b => simp only [step, pickO]; generalize ev c = y; cases y <;> rfl
 case nilCheck x => simp only [step, nilO]; generalize ev x = y; rcases y with _ | _ | _ | (_ | _) | _ | _ | _ | _ | _ | _ | _ | _ | _ <;> rfl
 case eqv neg k x y => simp only [step, val, eqvO]
 case convInt k x => simp only [step, convO]; generalize ev x = y; cases y <;> rfl
 case convStr x => simp only [step, convSO]; generalize ev x = y; cases y <;> rfl
 case fieldAddr x off => simp only [step, faddrO]; generalize ev x = y; rcases y with _ | _ | _ | (_ | _) | _ | _ | _ | _ | _ | _ | _ | _ | _ <;> rfl
 case field x off agg => simp only [step, fieldO]; generalize ev x = y; cases y <;> rfl
 case extract x i => simp only [step, extO]; generalize ev x = y; cases y <;> rfl
 all_goals rfl
def callvO (R : Caller) (lim : Nat) (x : AVal) (args : List AVal) (H : Heap) : Option (AVal × Heap) :=
 match x with
 | .fn f first captured => R lim (.fn f) (first ++ args ++ captured) H
 | .yl b => R lim (.yl b) args H
 | _ => none
def effOp (R : Caller) (lim : Nat) (ev : Opd → AVal) (H : Heap) : Aop → Option (AVal × Heap)
 | .call f args => R lim (.fn f) (args.map ev) H
 | .callv x args => callvO R lim (ev x) (args.map ev) H
 | .append z bytes zs s x => aappend lim H z bytes zs (ev s) (ev x)
 | .copy sz d s => acopy lim H sz (ev d) (ev s)
 | .store n a x => (astore lim H n (ev a) (ev x)).map fun H => (und, H)
 | .makeSlice z bytes l c => amakeSlice H z bytes (ev l) (ev c)
 | .strToBytes x => strToBytes H (ev x)
 | .alloc z => some (.ptr (some (H.next, 0)), H.push (.cells z))
 | .box x => if (ev x).cells.all (·.one) then some (.ptr (some (H.next, 0)), H.push (.cells (ev x).cells)) else none
 | .buildSlice z len ps => (fillV z (ps.map fun p => (p.1, p.2.1, ev p.2.2))).map fun cs => (.sl (some (H.next, 0)) len (.ex len), H.push (.cells cs))
 | op => step R lim ev H op
theorem effOp_step {R : Caller} {lim : Nat} {ev : Opd → AVal} {H : Heap} {op : Aop} : effOp R lim ev H op = step R lim ev H op := by
 have fills : ∀ (ps : List (Nat × Nat × Opd)) (z : List AVal), fillV z (ps.map fun p => (p.1, p.2.1, ev p.2.2)) = fillAll ev z ps := by
  intro ps
  induction ps with
  | nil => intro z; rfl
  | cons p ps ih =>
   intro z
   obtain ⟨off, size, x⟩ := p
   simp only [List.map_cons, fillV, fillAll]
   split <;> simp_all
 cases op <;> simp only [effOp, step, callvO, fills]
 all_goals rfl
def opW (R : Caller) (lim : Nat) (ev : Opd → AVal) (H : Heap) (g : Option (AVal × Bool)) (op : Aop) (k : AVal → Heap → Prop) : Prop :=
 match g, op with
 | none, .mov x => k (ev x) H
 | none, .alloc z => k (.ptr (some (H.next, 0))) (H.push (.cells z))
 | none, .store n a x => bindP (astore lim H n (ev a) (ev x)) fun H' => k und H'
 | g, op => match valOp ev H op with
  | some o => bindP (gd g o) fun v => k v H
  | none => bind2 (gd2 g H (effOp R lim ev H op)) k
theorem opW_sound {R : Caller} {lim : Nat} {ev : Opd → AVal} {H : Heap} {g : Option (AVal × Bool)} {op : Aop} {k : AVal → Heap → Prop} (h : opW R lim ev H g op k) :
  ∃ v H', gd2 g H (step R lim ev H op) = some (v, H') ∧ k v H' := by
 have gen : (match valOp ev H op with
  | some o => bindP (gd g o) fun v => k v H
  | none => bind2 (gd2 g H (effOp R lim ev H op)) k) → ∃ v H', gd2 g H (step R lim ev H op) = some (v, H') ∧ k v H' := by
  intro h
  split at h
  ·rename_i o ho
   obtain ⟨v, h1, h2⟩ := h
   refine ⟨v, H, ?_, h2⟩
   rw [valOp_step ho]
   unfold gd at h1
   unfold gd2
   split at h1
   ·simp [h1]
   ·split at h1
    ·rename_i hw; simp only [hw, if_true]; simp [h1]
    ·rename_i hw; simp only [hw]; simp at h1; simp [h1]
  ·rw [effOp_step] at h
   exact h
 unfold opW at h
 split at h
 ·exact ⟨_, _, rfl, h⟩
 ·exact ⟨_, _, rfl, h⟩
 ·obtain ⟨H', h1, h2⟩ := h
  exact ⟨und, H', by simp [gd2, step, h1], h2⟩
 ·exact gen h
def gOf (T : Tm) : Option (Nat × Bool) → Option (AVal × Bool)
 | none => none
 | some (t, w) => some (T t, w)
def clearT (T : Tm) (o : AOper) : Bool :=
 match o.apart, o.op with
 | [], _ => true
 | ys, .load _ a => ys.all fun y => apartB (evT T a) (evT T y)
 | _, _ => false
def keptG (g : Option (AVal × Bool)) (H H' : Heap) (l : List AVal) : Prop :=
 match g with
 | none => (l.all fun v => match blkOf v with
  | some b => sameB (H.get b) (H'.get b)
  | none => true) = true
 | some (v, w) => wantV v w = true → (l.all fun v => match blkOf v with
  | some b => sameB (H.get b) (H'.get b)
  | none => true) = true
def opsW (R : Caller) (lim : Nat) : List AOper → Tm → Heap → (Tm → Heap → Prop) → Prop
 | [], T, H, k => k T H
 | o :: os, T, H, k =>
  match o.apart with
  | [] => opW R (bif o.bar then H.next else lim) (evT T) H (gOf T o.guard) o.op fun v H' => opsW R lim os (setO T o.dst v) H' k
  | ys => match o.op.isCall with
   | true => opW R (bif o.bar then H.next else lim) (evT T) H (gOf T o.guard) o.op fun v H' => keptG (gOf T o.guard) H H' (ys.map (evT T)) ∧ opsW R lim os (setO T o.dst v) H' k
   | false => clearT T o = true ∧ opW R (bif o.bar then H.next else lim) (evT T) H (gOf T o.guard) o.op fun v H' => opsW R lim os (setO T o.dst v) H' k
abbrev Kt := Ex → Tm → Heap → Prop
def loopW (body : Tm → Heap → Kt → Prop) : Nat → Tm → Heap → Kt → Prop
 | 0, _, _, _ => False
 | m + 1, T, H, k => body T H fun ex T H => match ex with
  | .norm => loopW body m T H k
  | ex => k ex T H
def kSeq (w : Tm → Heap → Kt → Prop) (k : Kt) : Kt := fun ex T H => match ex with
 | .norm => w T H k
 | ex => k ex T H
def kBlk (id : Nat) (k : Kt) : Kt := fun ex T H => match ex with
 | .exit i => bif Nat.beq i id then k .norm T H else k (.exit i) T H
 | ex => k ex T H
def listT (N : Nat) (T : Tm) : List AVal := (List.range N).map T
def execI (R : Caller) (lim n N : Nat) (Lp : Nat → Tm → Heap → Prop) : ACode → Tm → Heap → Kt → Prop
 | .skip, T, H, k => k .norm T H
 | .region os, T, H, k => opsW R lim os T H fun T H => k .norm T H
 | .seq a b, T, H, k => execI R lim n N Lp a T H (kSeq (execI R lim n N Lp b) k)
 | .cond c a b, T, H, k => bindP (boolOf (evT T c)) fun t => (t = true → execI R lim n N Lp a T H k) ∧ (t = false → execI R lim n N Lp b T H k)
 | .block id body, T, H, k => match body with
  | .loop _ => Lp id T H
  | body => execI R lim n N Lp body T H (kBlk id k)
 | .loop _, _, _, _ => False
 | .exit id, T, H, k => k (.exit id) T H
 | .ret, T, H, k => k .ret T H
 | .ranges g ps a b, T, H, k => ∃ ex l H', exec R lim n (.ranges g ps a b) ⟨listT N T, H⟩ = some (ex, ⟨l, H'⟩) ∧ l.length = N ∧ k ex (fun i => l.getD i und) H'
def execW (R : Caller) (lim n N : Nat) : ACode → Tm → Heap → Kt → Prop
 | .skip, T, H, k => k .norm T H
 | .region os, T, H, k => opsW R lim os T H fun T H => k .norm T H
 | .seq a b, T, H, k => execW R lim n N a T H (kSeq (execW R lim n N b) k)
 | .cond c a b, T, H, k => bindP (boolOf (evT T c)) fun t => (t = true → execW R lim n N a T H k) ∧ (t = false → execW R lim n N b T H k)
 | .block id body, T, H, k => execW R lim n N body T H (kBlk id k)
 | .loop body, T, H, k => loopW (execW R lim n N body) n T H k
 | .exit id, T, H, k => k (.exit id) T H
 | .ret, T, H, k => k .ret T H
 | .ranges g ps a b, T, H, k => ∃ ex l H', exec R lim n (.ranges g ps a b) ⟨listT N T, H⟩ = some (ex, ⟨l, H'⟩) ∧ l.length = N ∧ k ex (fun i => l.getD i und) H'
theorem opW_mono {R : Caller} {lim : Nat} {ev : Opd → AVal} {H : Heap} {g : Option (AVal × Bool)} {op : Aop} {k k' : AVal → Heap → Prop} (hk : ∀ v H, k v H → k' v H) (h : opW R lim ev H g op k) : opW R lim ev H g op k' := by
 unfold opW at *
 split at h
 ·exact hk _ _ h
 ·exact hk _ _ h
 ·obtain ⟨H', h1, h2⟩ := h; exact ⟨H', h1, hk _ _ h2⟩
 ·split at h
  ·rename_i o ho
   obtain ⟨v, h1, h2⟩ := h; exact ⟨v, h1, hk _ _ h2⟩
  ·rename_i ho
   obtain ⟨v, H', h1, h2⟩ := h; exact ⟨v, H', h1, hk _ _ h2⟩
theorem opsW_mono {R : Caller} {lim : Nat} : ∀ (os : List AOper) (T : Tm) (H : Heap) (k k' : Tm → Heap → Prop), (∀ T H, k T H → k' T H) → opsW R lim os T H k → opsW R lim os T H k'
 | [], T, H, k, k', hk, h => hk _ _ h
 | o :: os, T, H, k, k', hk, h => by
  unfold opsW at *
  split at h
  ·exact opW_mono (fun v H' h' => opsW_mono os _ _ k k' hk h') h
  split at *
  ·exact opW_mono (fun v H' h' => ⟨h'.1, opsW_mono os _ _ k k' hk h'.2⟩) h
  ·exact ⟨h.1, opW_mono (fun v H' h' => opsW_mono os _ _ k k' hk h') h.2⟩
theorem kSeq_mono {w : Tm → Heap → Kt → Prop} (hw : ∀ T H (k k' : Kt), (∀ ex T H, k ex T H → k' ex T H) → w T H k → w T H k') {k k' : Kt} (hk : ∀ ex T H, k ex T H → k' ex T H) : ∀ ex T H, kSeq w k ex T H → kSeq w k' ex T H := by
 intro ex T H h
 cases ex with
 | norm => exact hw _ _ _ _ hk h
 | exit i => exact hk _ _ _ h
 | ret => exact hk _ _ _ h
theorem kBlk_mono {id : Nat} {k k' : Kt} (hk : ∀ ex T H, k ex T H → k' ex T H) : ∀ ex T H, kBlk id k ex T H → kBlk id k' ex T H := by
 intro ex T H h
 cases ex with
 | norm => exact hk _ _ _ h
 | exit i =>
  simp only [kBlk] at *
  cases hb : Nat.beq i id with
  | true => rw [hb] at h; exact hk _ _ _ h
  | false => rw [hb] at h; exact hk _ _ _ h
 | ret => exact hk _ _ _ h
theorem loopW_mono {body : Tm → Heap → Kt → Prop} (hb : ∀ T H (k k' : Kt), (∀ ex T H, k ex T H → k' ex T H) → body T H k → body T H k') : ∀ (m : Nat) (T : Tm) (H : Heap) (k k' : Kt), (∀ ex T H, k ex T H → k' ex T H) → loopW body m T H k → loopW body m T H k'
 | 0, _, _, _, _, _, h => h
 | m + 1, T, H, k, k', hk, h => by
  unfold loopW at *
  refine hb _ _ _ _ ?_ h
  intro ex T H h'
  cases ex with
  | norm => exact loopW_mono hb m _ _ _ _ hk h'
  | exit i => exact hk _ _ _ h'
  | ret => exact hk _ _ _ h'
theorem execW_mono {R : Caller} {lim n N : Nat} : ∀ (c : ACode) (T : Tm) (H : Heap) (k k' : Kt), (∀ ex T H, k ex T H → k' ex T H) → execW R lim n N c T H k → execW R lim n N c T H k'
 | .skip, T, H, k, k', hk, h => hk _ _ _ h
 | .region os, T, H, k, k', hk, h => opsW_mono os _ _ _ _ (fun _ _ h => hk _ _ _ h) h
 | .seq a b, T, H, k, k', hk, h => execW_mono a _ _ _ _ (kSeq_mono (fun T H k k' => execW_mono b T H k k') hk) h
 | .cond c a b, T, H, k, k', hk, h => by
  obtain ⟨t, h1, h2, h3⟩ := h
  exact ⟨t, h1, fun e => execW_mono a _ _ _ _ hk (h2 e), fun e => execW_mono b _ _ _ _ hk (h3 e)⟩
 | .block id body, T, H, k, k', hk, h => execW_mono body _ _ _ _ (kBlk_mono hk) h
 | .loop body, T, H, k, k', hk, h => loopW_mono (fun T H k k' => execW_mono body T H k k') n _ _ _ _ hk h
 | .exit id, T, H, k, k', hk, h => hk _ _ _ h
 | .ret, T, H, k, k', hk, h => hk _ _ _ h
 | .ranges _ _ _ _, T, H, k, k', hk, h => by
  obtain ⟨ex, l, H', h1, h2, h3⟩ := h
  exact ⟨ex, l, H', h1, h2, hk _ _ _ h3⟩
def Oblig (R : Caller) (lim n N : Nat) (Lp : Nat → Tm → Heap → Prop) : ACode → Kt → Prop
 | .seq a b, k => Oblig R lim n N Lp a (kSeq (execW R lim n N b) k) ∧ Oblig R lim n N Lp b k
 | .cond _ a b, k => Oblig R lim n N Lp a k ∧ Oblig R lim n N Lp b k
 | .block id body, k => match body with
  | .loop c => ∀ T H, Lp id T H → loopW (execW R lim n N c) n T H (kBlk id k)
  | body => Oblig R lim n N Lp body (kBlk id k)
 | _, _ => True
theorem execI_sound {R : Caller} {lim n N : Nat} {Lp : Nat → Tm → Heap → Prop} : ∀ (c : ACode) (T : Tm) (H : Heap) (k k' : Kt), Oblig R lim n N Lp c k' → (∀ ex T H, k ex T H → k' ex T H) → execI R lim n N Lp c T H k → execW R lim n N c T H k'
 | .skip, T, H, k, k', _, hk, h => hk _ _ _ h
 | .region os, T, H, k, k', _, hk, h => opsW_mono os _ _ _ _ (fun _ _ h => hk _ _ _ h) h
 | .seq a b, T, H, k, k', ho, hk, h => by
  refine execI_sound a _ _ _ _ ho.1 ?_ h
  intro ex T H h'
  cases ex with
  | norm => exact execI_sound b _ _ _ _ ho.2 hk h'
  | exit i => exact hk _ _ _ h'
  | ret => exact hk _ _ _ h'
 | .cond c a b, T, H, k, k', ho, hk, h => by
  obtain ⟨t, h1, h2, h3⟩ := h
  exact ⟨t, h1, fun e => execI_sound a _ _ _ _ ho.1 hk (h2 e), fun e => execI_sound b _ _ _ _ ho.2 hk (h3 e)⟩
 | .block id body, T, H, k, k', ho, hk, h => by
  unfold execI at h
  unfold Oblig at ho
  split at h
  ·rename_i c
   simp only at ho
   exact ho T H h
  ·rename_i c hne
   split at ho
   ·rename_i c'; exact absurd rfl (hne c')
   ·exact execI_sound body _ _ _ _ ho (kBlk_mono hk) h
 | .loop body, T, H, k, k', _, hk, h => False.elim h
 | .exit id, T, H, k, k', _, hk, h => hk _ _ _ h
 | .ret, T, H, k, k', _, hk, h => hk _ _ _ h
 | .ranges _ _ _ _, T, H, k, k', _, hk, h => by
  obtain ⟨ex, l, H', h1, h2, h3⟩ := h
  exact ⟨ex, l, H', h1, h2, hk _ _ _ h3⟩
def ACode.noLoops : ACode → Bool
 | .seq a b => a.noLoops && b.noLoops
 | .cond _ a b => a.noLoops && b.noLoops
 | .block _ c => c.noLoops
 | .loop _ => false
 | _ => true
theorem oblig_nl {R : Caller} {lim n N : Nat} {Lp : Nat → Tm → Heap → Prop} : ∀ {c : ACode} {k : Kt}, c.noLoops = true → Oblig R lim n N Lp c k
 | .skip, _, _ => trivial
 | .region _, _, _ => trivial
 | .seq a b, k, h => by
  simp only [ACode.noLoops, Bool.and_eq_true] at h
  exact ⟨oblig_nl h.1, oblig_nl h.2⟩
 | .cond _ a b, k, h => by
  simp only [ACode.noLoops, Bool.and_eq_true] at h
  exact ⟨oblig_nl h.1, oblig_nl h.2⟩
 | .block id c, k, h => by
  unfold Oblig
  split
  ·simp [ACode.noLoops] at h
  ·exact oblig_nl (by simpa only [ACode.noLoops] using h)
 | .loop _, _, h => by simp [ACode.noLoops] at h
 | .exit _, _, _ => trivial
 | .ret, _, _ => trivial
 | .ranges _ _ _ _, _, _ => trivial
theorem kSeqI_sound {R : Caller} {lim n N : Nat} {Lp : Nat → Tm → Heap → Prop} {c : ACode} {kI k : Kt} (ho : Oblig R lim n N Lp c k) (hk : ∀ ex T H, kI ex T H → k ex T H) :
  ∀ ex T H, kSeq (execI R lim n N Lp c) kI ex T H → kSeq (execW R lim n N c) k ex T H := by
 intro ex T H h
 cases ex with
 | norm => exact execI_sound c T H _ _ ho hk h
 | exit i => exact hk _ _ _ h
 | ret => exact hk _ _ _ h
def opBound (N : Nat) (o : AOper) : Bool := match o.dst with
 | some d => Nat.blt d N
 | none => true
def ACode.bound (N : Nat) : ACode → Bool
 | .region os => os.all (opBound N)
 | .seq a b => a.bound N && b.bound N
 | .cond _ a b => a.bound N && b.bound N
 | .block _ a | .loop a => a.bound N
 | _ => true
def tmT (l : List AVal) : Tm := fun i => l.getD i und
theorem tmT_set {l : List AVal} {d : Option Nat} {v : AVal} (h : ∀ i, d = some i → i < l.length) : tmT (putT l d v) = setO (tmT l) d v := by
 cases d with
 | none => rfl
 | some d =>
  have hd := h d rfl
  funext i
  simp only [tmT, putT, setO, setT]
  rw [getD_set _ _ _ _ hd]
  by_cases e : d = i
  ·subst e; simp
  ·have : Nat.beq i d = false := by
    cases hb : Nat.beq i d with
    | false => rfl
    | true => exact absurd (Nat.eq_of_beq_eq_true hb).symm e
   rw [this, if_neg e]; rfl
theorem ev_tmT (l : List AVal) : St.ev l = evT (tmT l) := by
 funext x; cases x <;> rfl
theorem listT_tmT (l : List AVal) : listT l.length (tmT l) = l := by
 apply List.ext_getElem
 ·simp [listT]
 ·intro i h1 h2
  simp only [listT, List.getElem_map, List.getElem_range, tmT]
  rw [List.getD_eq_getElem?_getD, List.getElem?_eq_getElem h2]; rfl
theorem putT_len (l : List AVal) (d : Option Nat) (v : AVal) : (putT l d v).length = l.length := by
 cases d <;> simp [putT]
theorem opsW_run {R : Caller} {lim : Nat} : ∀ (os : List AOper) (l : List AVal) (H : Heap) (k : Tm → Heap → Prop), os.all (opBound l.length) = true → opsW R lim os (tmT l) H k →
  ∃ l' H', execOps R lim os ⟨l, H⟩ = some ⟨l', H'⟩ ∧ l'.length = l.length ∧ k (tmT l') H'
 | [], l, H, k, _, h => ⟨l, H, rfl, rfl, h⟩
 | o :: os, l, H, k, hb, h => by
  rw [List.all_cons, Bool.and_eq_true] at hb
  have hcl : o.clear l = clearT (tmT l) o := by
   unfold AOper.clear clearT
   rw [ev_tmT]
   rfl
  have main : clearT (tmT l) o = true → opW R (bif o.bar then H.next else lim) (evT (tmT l)) H (gOf (tmT l) o.guard) o.op (fun v H' => opsW R lim os (setO (tmT l) o.dst v) H' k) →
    ∃ l' H', execOps R lim (o :: os) ⟨l, H⟩ = some ⟨l', H'⟩ ∧ l'.length = l.length ∧ k (tmT l') H' := by
   intro hc h
   obtain ⟨v, H1, h1, h2⟩ := opW_sound h
   have hd : ∀ i, o.dst = some i → i < l.length := by
    intro i hi
    have := hb.1
    unfold opBound at this
    rw [hi] at this
    simpa [Nat.blt_eq] using this
   have hset := tmT_set (v := v) hd
   rw [← hset] at h2
   have hlen := putT_len l o.dst v
   obtain ⟨l', H', e1, e2, e3⟩ := opsW_run os (putT l o.dst v) H1 k (by rw [hlen]; exact hb.2) h2
   refine ⟨l', H', ?_, by rw [e2, hlen], e3⟩
   have one : execOp R lim o ⟨l, H⟩ = some ⟨putT l o.dst v, H1⟩ := by
    have hlim : (if o.bar = true then H.next else lim) = (bif o.bar then H.next else lim) := by cases o.bar <;> rfl
    unfold execOp
    simp only [hcl, hc, Bool.not_true, Bool.false_eq_true, if_false]
    rw [ev_tmT, hlim]
    cases hg : o.guard with
    | none =>
     rw [hg] at h1
     simp only [gOf, gd2] at h1
     simp only [wantedA, if_true, h1]
    | some g =>
     obtain ⟨t, w⟩ := g
     rw [hg] at h1
     simp only [gOf, gd2] at h1
     have hw : wantedA l (some (t, w)) = wantV (tmT l t) w := wanted_some l t w
     rw [hw]
     by_cases hc : wantV (tmT l t) w = true
     ·rw [if_pos hc] at h1 ⊢
      simp only [h1]
     ·rw [if_neg hc] at h1 ⊢
      simp at h1
      obtain ⟨rfl, rfl⟩ := h1
      rfl
   unfold execOps
   rw [one]
   exact e1
  unfold opsW at h
  split at h
  ·rename_i ha
   refine main ?_ h
   unfold clearT; rw [ha]
  rename_i ys hne
  split at h
  ·rename_i hcall
   obtain ⟨v, H1, h1, hk, h2⟩ := opW_sound h
   have hd : ∀ i, o.dst = some i → i < l.length := by
    intro i hi
    have := hb.1
    unfold opBound at this
    rw [hi] at this
    simpa [Nat.blt_eq] using this
   rw [← tmT_set (v := v) hd] at h2
   have hlen := putT_len l o.dst v
   obtain ⟨l', H', e1, e2, e3⟩ := opsW_run os (putT l o.dst v) H1 k (by rw [hlen]; exact hb.2) h2
   refine ⟨l', H', ?_, by rw [e2, hlen], e3⟩
   have hlate : o.op.isLate = true := by
    generalize o.op = op at hcall
    cases op <;> simp_all [Aop.isLate, Aop.isCall]
   have hncl : o.clear l = false := by
    unfold AOper.clear
    generalize o.op = op at hcall
    generalize o.apart = ap at hne
    cases ap with
    | nil => exact absurd rfl hne
    | cons y ys => cases op <;> simp_all [Aop.isCall]
   have one : execOp R lim o ⟨l, H⟩ = some ⟨putT l o.dst v, H1⟩ := by
    have hlim : (if o.bar = true then H.next else lim) = (bif o.bar then H.next else lim) := by cases o.bar <;> rfl
    have hkept : ∀ q : keptG none H H1 (o.apart.map (evT (tmT l))), o.kept l H H1 = true := by
     intro q
     unfold keptG at q
     unfold AOper.kept
     rw [List.all_map] at q
     rw [ev_tmT]
     exact q
    unfold execOp lateCallX
    simp only [hncl, Bool.not_false, if_true, hlate]
    rw [ev_tmT, hlim]
    cases hg : o.guard with
    | none =>
     rw [hg] at h1 hk
     simp only [gOf, gd2] at h1
     simp only [wantedA, if_true, h1]
     rw [if_pos (hkept hk)]
    | some g =>
     obtain ⟨t, w⟩ := g
     rw [hg] at h1 hk
     simp only [gOf, gd2] at h1
     have hw : wantedA l (some (t, w)) = wantV (tmT l t) w := wanted_some l t w
     rw [hw]
     by_cases hc : wantV (tmT l t) w = true
     ·rw [if_pos hc] at h1 ⊢
      simp only [h1]
      rw [if_pos (hkept (hk hc))]
     ·rw [if_neg hc] at h1 ⊢
      simp at h1
      obtain ⟨rfl, rfl⟩ := h1
      rfl
   unfold execOps
   rw [one]
   exact e1
  ·exact main h.1 h.2
theorem loopW_run {body : Tm → Heap → Kt → Prop} {f : St → Option (Ex × St)} {N : Nat} (hb : ∀ (l : List AVal) (H : Heap) (k : Kt), l.length = N → body (tmT l) H k → ∃ ex l' H', f ⟨l, H⟩ = some (ex, ⟨l', H'⟩) ∧ l'.length = N ∧ k ex (tmT l') H') :
  ∀ (m : Nat) (l : List AVal) (H : Heap) (k : Kt), l.length = N → loopW body m (tmT l) H k → ∃ ex l' H', loopN f m ⟨l, H⟩ = some (ex, ⟨l', H'⟩) ∧ l'.length = N ∧ k ex (tmT l') H'
 | 0, _, _, _, _, h => False.elim h
 | m + 1, l, H, k, hl, h => by
  unfold loopW at h
  obtain ⟨ex, l1, H1, h1, h2, h3⟩ := hb l H _ hl h
  cases ex with
  | norm =>
   obtain ⟨ex, l2, H2, g1, g2, g3⟩ := loopW_run hb m l1 H1 k h2 h3
   exact ⟨ex, l2, H2, by rw [loopN, h1]; exact g1, g2, g3⟩
  | exit i => exact ⟨_, l1, H1, by rw [loopN, h1], h2, h3⟩
  | ret => exact ⟨_, l1, H1, by rw [loopN, h1], h2, h3⟩
theorem execW_run {R : Caller} {lim n N : Nat} : ∀ (c : ACode) (l : List AVal) (H : Heap) (k : Kt), c.bound N = true → l.length = N → execW R lim n N c (tmT l) H k →
  ∃ ex l' H', exec R lim n c ⟨l, H⟩ = some (ex, ⟨l', H'⟩) ∧ l'.length = N ∧ k ex (tmT l') H'
 | .skip, l, H, k, _, hl, h => ⟨_, l, H, rfl, hl, h⟩
 | .exit id, l, H, k, _, hl, h => ⟨_, l, H, rfl, hl, h⟩
 | .ret, l, H, k, _, hl, h => ⟨_, l, H, rfl, hl, h⟩
 | .region os, l, H, k, hb, hl, h => by
  subst hl
  obtain ⟨l', H', e1, e2, e3⟩ := opsW_run os l H _ hb h
  exact ⟨_, l', H', by simp only [exec, e1, Option.map_some], e2, e3⟩
 | .seq a b, l, H, k, hb, hl, h => by
  simp only [ACode.bound, Bool.and_eq_true] at hb
  obtain ⟨ex, l1, H1, e1, e2, e3⟩ := execW_run a l H _ hb.1 hl h
  cases ex with
  | norm =>
   obtain ⟨ex, l2, H2, g1, g2, g3⟩ := execW_run b l1 H1 k hb.2 e2 e3
   exact ⟨ex, l2, H2, by simp only [exec, e1, g1], g2, g3⟩
  | exit i => exact ⟨_, l1, H1, by simp only [exec, e1], e2, e3⟩
  | ret => exact ⟨_, l1, H1, by simp only [exec, e1], e2, e3⟩
 | .cond c a b, l, H, k, hb, hl, h => by
  simp only [ACode.bound, Bool.and_eq_true] at hb
  obtain ⟨t, h1, h2, h3⟩ := h
  have hc : St.ev l c = .bool t := by
   rw [ev_tmT]
   unfold boolOf at h1
   split at h1 <;> simp at h1
   rename_i b hb'
   rw [hb', h1]
  cases t with
  | true =>
   obtain ⟨ex, l1, H1, e1, e2, e3⟩ := execW_run a l H k hb.1 hl (h2 rfl)
   exact ⟨ex, l1, H1, by simp only [exec, hc, e1, if_true], e2, e3⟩
  | false =>
   obtain ⟨ex, l1, H1, e1, e2, e3⟩ := execW_run b l H k hb.2 hl (h3 rfl)
   exact ⟨ex, l1, H1, by simp only [exec, hc, e1, if_false, Bool.false_eq_true], e2, e3⟩
 | .block id body, l, H, k, hb, hl, h => by
  obtain ⟨ex, l1, H1, e1, e2, e3⟩ := execW_run body l H _ hb hl h
  cases ex with
  | norm => exact ⟨_, l1, H1, by simp only [exec, e1], e2, e3⟩
  | exit i =>
   simp only [kBlk] at e3
   by_cases he : i = id
   ·subst he
    have : Nat.beq i i = true := by simp
    rw [this] at e3
    exact ⟨_, l1, H1, by simp only [exec, e1, if_true], e2, e3⟩
   ·have : Nat.beq i id = false := by
     cases hq : Nat.beq i id with
     | false => rfl
     | true => exact absurd (Nat.eq_of_beq_eq_true hq) he
    rw [this] at e3
    exact ⟨_, l1, H1, by simp only [exec, e1, if_neg he], e2, e3⟩
  | ret => exact ⟨_, l1, H1, by simp only [exec, e1], e2, e3⟩
 | .loop body, l, H, k, hb, hl, h => by
  have := loopW_run (N := N) (f := exec R lim n body) (fun l H k hl h => execW_run body l H k hb hl h) n l H k hl h
  exact this
 | .ranges g ps a b, l, H, k, hb, hl, h => by
  obtain ⟨ex, l', H', h1, h2, h3⟩ := h
  rw [← hl, listT_tmT] at h1
  exact ⟨ex, l', H', h1, h2, h3⟩
def resW (T : Tm) (H : Heap) : List ARes → (List AVal → Prop) → Prop
 | [], k => k []
 | .tmp t :: rs, k => resW T H rs fun vs => k (T t :: vs)
 | .cell t g :: rs, k => bindP (aload H g (T t)) fun v => resW T H rs fun vs => k (v :: vs)
def retW (rs : List ARes) (K : AVal → Heap → Prop) : Kt := fun ex T H => match ex with
 | .exit _ => False
 | _ => resW T H rs fun vs => K (oneOr vs) H
theorem resW_sound {l : List AVal} {H : Heap} : ∀ (rs : List ARes) (k : List AVal → Prop), resW (tmT l) H rs k → ∃ vs, resAll ⟨l, H⟩ rs = some vs ∧ k vs
 | [], k, h => ⟨[], rfl, h⟩
 | .tmp t :: rs, k, h => by
  obtain ⟨vs, h1, h2⟩ := resW_sound rs _ h
  exact ⟨_, by simp only [resAll, resOf, h1]; rfl, h2⟩
 | .cell t g :: rs, k, h => by
  obtain ⟨v, h0, h⟩ := h
  obtain ⟨vs, h1, h2⟩ := resW_sound rs _ h
  exact ⟨v :: vs, by simp only [resAll, resOf]; simp only [tmT] at h0; rw [h0, h1], h2⟩
def argT (args : List AVal) : Tm := fun i => args.getD i und
theorem run_of_W {ap : FuncId → Option AFn} {n lim f : Nat} {af : AFunc} (hf : ap f = some (.code af)) {args : List AVal} {H : Heap} {K : AVal → Heap → Prop} (hb : af.body.bound af.ntmps = true) (ha : Nat.ble args.length af.ntmps = true)
  (h : execW (runT ap n) lim n af.ntmps af.body (argT args) H (retW af.results K)) : ∃ v H', runT ap (n + 1) lim (.fn f) args H = some (v, H') ∧ K v H' := by
 have ha' : args.length ≤ af.ntmps := Nat.le_of_ble_eq_true ha
 have hT : argT args = tmT (enterF af args) := by
  funext i
  simp only [argT, tmT, enterF]
  rw [List.getD_eq_getElem?_getD, List.getD_eq_getElem?_getD, List.getElem?_append]
  split
  ·rfl
  ·rename_i hi
   rw [List.getElem?_eq_none (by omega), List.getElem?_replicate]
   split <;> rfl
 rw [hT] at h
 obtain ⟨ex, l, H', h1, h2, h3⟩ := execW_run af.body (enterF af args) H _ hb (by simp [enterF]; omega) h
 have fin : ∀ (h3 : resW (tmT l) H' af.results fun vs => K (oneOr vs) H'), ∃ v H'', leaveF af ⟨l, H'⟩ = some (v, H'') ∧ K v H'' := by
  intro h3
  obtain ⟨vs, g1, g2⟩ := resW_sound _ _ h3
  exact ⟨oneOr vs, H', by simp only [leaveF, g1, Option.map_some], g2⟩
 cases ex with
 | norm =>
  obtain ⟨v, H'', g1, g2⟩ := fin h3
  exact ⟨v, H'', by simp only [runT, hf, h1]; exact g1, g2⟩
 | exit i => exact False.elim h3
 | ret =>
  obtain ⟨v, H'', g1, g2⟩ := fin h3
  exact ⟨v, H'', by simp only [runT, hf, h1]; exact g1, g2⟩
end Go.Ahs
