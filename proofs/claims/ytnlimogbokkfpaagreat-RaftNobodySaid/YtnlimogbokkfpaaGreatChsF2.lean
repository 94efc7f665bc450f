/- The fast machine's operations, code, calls. -/
import Derived.Test.YtnlimogbokkfpaaGreatChsF1
import Derived.Test.YtnlimogbokkfpaaGreatChsA19
set_option linter.unusedSimpArgs false
set_option linter.unusedVariables false
namespace Go.Ahs
noncomputable def evF (t : TV) : Opd → AVal := @Opd.rec (fun _ => AVal) (fun i => t.get i) (fun v => v)
theorem evF_eq {t : TV} {T : List AVal} (h : RepT t T) : evF t = St.ev T := by
 funext x
 cases x with
 | tmp i => exact h i
 | val v => rfl
abbrev OpF := Caller → Nat → (Opd → AVal) → Heap → Option (AVal × Heap)
def vH (H : Heap) (o : Option AVal) : Option (AVal × Heap) :=
 match o with
 | some v => some (v, H)
 | none => none
theorem vH_eq (H : Heap) (o : Option AVal) : vH H o = val H o := by cases o <;> rfl
def hU (o : Option Heap) : Option (AVal × Heap) :=
 match o with
 | some H => some (und, H)
 | none => none
noncomputable def eqvF (neg : Bool) (k : EqK) (x y : AVal) : Option AVal :=
 match aeq k x y with
 | some b => some (.bool (cnd neg (cnd b false true) b))
 | none => none
noncomputable def wrapVF (k : IntKind) : AVal → Option AVal
 | .int _ n => some (.int k (wrapF k n))
 | _ => none
def extF (i : Nat) : AVal → Option AVal
 | .tup vs => vs[i]?
 | _ => none
noncomputable def extN (i : Nat) : AVal → Option AVal
 | .tup vs => nthF vs i
 | _ => none
def fldAddrF (off : Nat) (x : AVal) : Option AVal :=
 match addrOf x with
 | some (b, o) => some (.ptr (some (b, Nat.add o off)))
 | none => none
def nilChkF (x : AVal) : Option AVal :=
 match addrOf x with
 | some a => some (.ptr (some a))
 | none => none
noncomputable def fldF (off : Nat) (agg : Option Nat) : AVal → Option AVal
 | .agg cs => partF cs off agg
 | _ => none
def pickF (x y : AVal) : AVal → Option AVal
 | .bool t => some (match t with | true => x | false => y)
 | _ => none
noncomputable def boxF (H : Heap) (x : AVal) : Option (AVal × Heap) := cnd (allOneF x.cells) (some (.ptr (some (H.next, 0)), hPush H (.cells x.cells))) none
noncomputable def lenVF (str : Bool) : AVal → Option AVal
 | .sl _ n _ => cnd str none (some (.int .i64 (.ofNat n)))
 | .str s => cnd str (some (.int .i64 (.ofNat (lenF s)))) none
 | _ => none
def callvF (R : Caller) (lim : Nat) (x : AVal) (args : List AVal) (H : Heap) : Option (AVal × Heap) :=
 match x with
 | .fn f first captured => R lim (.fn f) (first ++ args ++ captured) H
 | .yl b => R lim (.yl b) args H
 | _ => none
def invokeF (R : Caller) (lim : Nat) (tab : List (TypeId × FuncId)) (x : AVal) (args : List AVal) (H : Heap) : Option (AVal × Heap) :=
 match x with
 | .iface t v => match tab.lookup t with
  | some f => R lim (.fn f) (v :: args) H
  | none => none
 | _ => none
noncomputable def stepF : Aop → OpF := @Aop.rec (fun _ => OpF)
 (fun x _ _ ev H => some (ev x, H))
 (fun c a b _ _ ev H => vH H (pickF (ev a) (ev b) (ev c)))
 (fun z _ _ _ H => some (.ptr (some (H.next, 0)), hPush H (.cells z)))
 (fun x _ _ ev H => boxF H (ev x))
 (fun z ps R lim ev H => step R lim ev H (.build z ps))
 (fun z n ps R lim ev H => step R lim ev H (.buildSlice z n ps))
 (fun g a _ _ ev H => vH H (loadF H g (ev a)))
 (fun n a x _ lim ev H => hU (storeF lim H n (ev a) (ev x)))
 (fun x _ _ ev H => vH H (nilChkF (ev x)))
 (fun op x y _ _ ev H => vH H (abinF op (ev x) (ev y)))
 (fun neg k x y _ _ ev H => vH H (eqvF neg k (ev x) (ev y)))
 (fun op x R lim ev H => step R lim ev H (.un op x))
 (fun k x _ _ ev H => vH H (wrapVF k (ev x)))
 (fun x R lim ev H => step R lim ev H (.convStr x))
 (fun x R lim ev H => step R lim ev H (.strToBytes x))
 (fun x R lim ev H => step R lim ev H (.bytesToStr x))
 (fun t x _ _ ev H => some (.iface t (ev x), H))
 (fun f xs ys _ _ ev H => some (.fn f (xs.map ev) (ys.map ev), H))
 (fun z b l c R lim ev H => step R lim ev H (.makeSlice z b l c))
 (fun sz x lo hi mx R lim ev H => step R lim ev H (.slice sz x lo hi mx))
 (fun x lo hi R lim ev H => step R lim ev H (.sliceStr x lo hi))
 (fun n sz x lo hi mx R lim ev H => step R lim ev H (.sliceArr n sz x lo hi mx))
 (fun x off _ _ ev H => vH H (fldAddrF off (ev x)))
 (fun x off g _ _ ev H => vH H (fldF off g (ev x)))
 (fun arr sz x i _ _ ev H => vH H (idxAddrF arr sz (ev x) (ev i)))
 (fun n sz g x i R lim ev H => step R lim ev H (.index n sz g x i))
 (fun x i R lim ev H => step R lim ev H (.indexStr x i))
 (fun x i _ _ ev H => vH H (extN i (ev x)))
 (fun f xs R lim ev H => R lim (.fn f) (xs.map ev) H)
 (fun x xs R lim ev H => callvF R lim (ev x) (xs.map ev) H)
 (fun tab x xs R lim ev H => invokeF R lim tab (ev x) (xs.map ev) H)
 (fun n x R lim ev H => step R lim ev H (.bound n x))
 (fun tab x R lim ev H => step R lim ev H (.nilFn tab x))
 (fun z b zs s x R lim ev H => step R lim ev H (.append z b zs s x))
 (fun sz d s R lim ev H => step R lim ev H (.copy sz d s))
 (fun s x _ _ ev H => vH H (lenVF s (ev x)))
 (fun x R lim ev H => step R lim ev H (.cap x))
 (fun m xs R lim ev H => step R lim ev H (.minmax m xs))
 (fun h R lim ev H => step R lim ev H (.makeMap h))
 (fun g ls z ok m k R lim ev H => step R lim ev H (.lookup g ls z ok m k))
 (fun g ls m k v R lim ev H => step R lim ev H (.mapUpdate g ls m k v))
 (fun g ls m k R lim ev H => step R lim ev H (.mapDelete g ls m k))
 (fun g ls z m k R lim ev H => step R lim ev H (.mapPlace g ls z m k))
 (fun g ls m s v R lim ev H => step R lim ev H (.placeStore g ls m s v))
 (fun m R lim ev H => step R lim ev H (.mapLen m))
 (fun m R lim ev H => step R lim ev H (.mapClear m))
 (fun z x R lim ev H => step R lim ev H (.clearSl z x))
 (fun _ _ _ _ _ => none)
 (fun _ _ _ _ _ => none)
 (fun _ _ _ _ _ => none)
 (fun _ _ _ _ => none)
def LeR (RF R : Caller) : Prop := ∀ lim tg args H, Le (RF lim tg args H) (R lim tg args H)
theorem Le.vH {H : Heap} {o o' : Option AVal} (h : Le o o') : Le (vH H o) (val H o') := by rw [vH_eq]; exact h.map _
theorem step_le {RF R : Caller} (hR : LeR RF R) {lim : Nat} {ev : Opd → AVal} {H : Heap} {op : Aop} : Le (step RF lim ev H op) (step R lim ev H op) := by
 cases op <;> try exact .refl _
 case call f xs => exact hR _ _ _ _
 case callv x xs =>
  simp only [step]
  generalize ev x = y
  cases y <;> first | exact .refl _ | exact hR _ _ _ _
 case invoke tab x xs =>
  simp only [step]
  generalize ev x = y
  cases y <;> try exact .refl _
  rename_i t v
  dsimp only
  cases tab.lookup t with
  | none => exact .refl _
  | some f => exact hR _ _ _ _
theorem stepF_le {RF R : Caller} (hR : LeR RF R) {lim : Nat} {ev : Opd → AVal} {H : Heap} {op : Aop} : Le (stepF op RF lim ev H) (step R lim ev H op) := by
 cases op
 case mov x => exact .refl _
 case pick c a b =>
  simp only [step]
  show Le (vH H (pickF (ev a) (ev b) (ev c))) _
  generalize ev c = y
  cases y <;> try exact .none _
  rename_i t
  cases t <;> exact .refl _
 case alloc z =>
  show Le (some (AVal.ptr (some (H.next, 0)), hPush H (.cells z))) _
  rw [hPush_eq]; exact .refl _
 case box x =>
  show Le (boxF H (ev x)) _
  unfold boxF
  rw [hPush_eq, cnd_eq, allOneF_eq]
  exact .refl _
 case load g a => exact Le.vH (loadF_le H g (ev a))
 case store n a x =>
  show Le (hU (storeF lim H n (ev a) (ev x))) ((astore lim H n (ev a) (ev x)).map fun H => (und, H))
  intro v hv
  cases h : storeF lim H n (ev a) (ev x) with
  | none => rw [h] at hv; simp [hU] at hv
  | some H' =>
   rw [h] at hv
   rw [storeF_le lim H n _ _ H' h]
   exact hv
 case nilCheck x =>
  simp only [step]
  show Le (vH H (nilChkF (ev x))) _
  generalize ev x = y
  cases y <;> try exact .none _
  rename_i a
  cases a <;> first | exact .refl _ | exact .none _
 case bin op x y => exact Le.vH (abinF_le op _ _)
 case eqv neg k x y =>
  show Le (vH H (eqvF neg k (ev x) (ev y))) (val H _)
  refine Le.vH (.of_eq ?_)
  unfold eqvF
  cases aeq k (ev x) (ev y) with
  | none => rfl
  | some b => cases neg <;> cases b <;> rfl
 case convInt k x =>
  simp only [step]
  show Le (vH H (wrapVF k (ev x))) _
  generalize ev x = y
  cases y <;> try exact .none _
  simp only [wrapVF, wrapF_eq]
  exact .refl _
 case fieldAddr x off =>
  simp only [step]
  show Le (vH H (fldAddrF off (ev x))) _
  generalize ev x = y
  cases y <;> try exact .none _
  rename_i a
  cases a <;> first | exact .refl _ | exact .none _
 case field x off g =>
  simp only [step]
  show Le (vH H (fldF off g (ev x))) _
  generalize ev x = y
  cases y <;> try exact .none _
  simp only [fldF, partF_eq, vH_eq]
  exact .refl _
 case indexAddr arr sz x i => exact Le.vH (idxAddrF_le _ _ _ _)
 case extract x i =>
  simp only [step]
  show Le (vH H (extN i (ev x))) _
  generalize ev x = y
  cases y <;> try exact .none _
  simp only [extN, nthF_eq, vH_eq]
  exact .refl _
 case len s x =>
  show Le (vH H (lenVF s (ev x))) (val H (alen s (ev x)))
  refine Le.vH ?_
  generalize ev x = y
  cases y <;> try exact .none _
  ·simp only [lenVF, alen, lenF_eq, cnd_eq]; exact .refl _
  ·simp only [lenVF, alen, cnd_eq]; exact .refl _
 case callv x xs =>
  show Le (callvF RF lim (ev x) (xs.map ev) H) _
  simp only [step]
  generalize ev x = y
  cases y <;> first | exact .none _ | exact hR _ _ _ _
 case invoke tab x xs =>
  show Le (invokeF RF lim tab (ev x) (xs.map ev) H) _
  simp only [step]
  generalize ev x = y
  cases y <;> try exact .none _
  rename_i t v
  simp only [invokeF]
  cases tab.lookup t with
  | none => exact .refl _
  | some f => exact hR _ _ _ _
 all_goals first | exact step_le hR | exact .refl _ | exact hR _ _ _ _ | exact .none _
inductive OR where
 | no
 | ok (t : TV) (H : Heap)
noncomputable def setD (t : TV) (v : AVal) (d : Option Nat) : TV := @Option.rec Nat (fun _ => TV) t (fun i => t.set i v) d
def boolIs (w : Bool) : AVal → Bool
 | .bool b => b == w
 | _ => false
noncomputable def wantF (t : TV) (g : Option (Nat × Bool)) : Bool := @Option.rec (Nat × Bool) (fun _ => Bool) true (fun p => boolIs p.2 (t.get p.1)) g
def AOper.clearV (o : AOper) (ev : Opd → AVal) : Bool :=
 match o.apart, o.op with
 | [], _ => true
 | ys, .load _ a => ys.all fun y => apartB (ev a) (ev y)
 | _, _ => false
def AOper.keptV (o : AOper) (ev : Opd → AVal) (H H' : Heap) : Bool :=
 o.apart.all fun y => match blkOf (ev y) with
  | some b => sameB (H.get b) (H'.get b)
  | none => true
noncomputable def putR (t : TV) (d : Option Nat) (r : Option (AVal × Heap)) : OR := @Option.rec (AVal × Heap) (fun _ => OR) .no (fun p => .ok (setD t p.1 d) p.2) r
noncomputable def limF (o : AOper) (lim : Nat) (H : Heap) : Nat := cnd o.bar H.next lim
noncomputable def lateF (o : AOper) (R : Caller) (lim : Nat) (t : TV) (H : Heap) : OR :=
 match o.clearV (evF t) with
 | true => putR t o.dst (stepF o.op R (limF o lim H) (evF t) H)
 | false => match o.op.isLate with
  | true => match stepF o.op R (limF o lim H) (evF t) H with
   | some (v, H') => match o.keptV (evF t) H H' with
    | true => .ok (setD t v o.dst) H'
    | false => .no
   | none => .no
  | false => .no
noncomputable def opF (o : AOper) (R : Caller) (lim : Nat) (t : TV) (H : Heap) : OR :=
 cnd (wantF t o.guard)
  (@List.rec Opd (fun _ => OR) (putR t o.dst (stepF o.op R (limF o lim H) (evF t) H)) (fun _ _ _ => lateF o R lim t H) o.apart)
  (.ok (setD t und o.dst) H)
noncomputable def opsF (R : Caller) (lim : Nat) : List AOper → TV → Heap → OR := @List.rec AOper (fun _ => TV → Heap → OR) (fun t H => .ok t H)
 (fun o _ ih t H => @OR.rec (fun _ => OR) .no (fun t H => ih t H) (opF o R lim t H))
def dOK (N : Nat) (o : AOper) : Bool := match o.dst with
 | some d => Nat.blt d N
 | none => true
theorem setD_rep {t : TV} {T : List AVal} {o : AOper} {N : Nat} (h : RepT t T) (hN : T.length = N) (hN2 : N < 100000) (hd : dOK N o = true) (v : AVal) : RepT (setD t v o.dst) (putT T o.dst v) := by
 unfold dOK at hd
 cases hdst : o.dst with
 | none => exact h
 | some d =>
  rw [hdst] at hd
  simp only [Nat.blt_eq] at hd
  exact h.set (by omega) (by omega) v
theorem want_eq {t : TV} {T : List AVal} (h : RepT t T) (g : Option (Nat × Bool)) : wantF t g = wantedA T g := by
 cases g with
 | none => rfl
 | some p =>
  obtain ⟨j, w⟩ := p
  show boolIs w (t.get j) = wantedA T (some (j, w))
  rw [h j, List.getD_eq_getElem?_getD]
  unfold wantedA
  dsimp only
  cases hj : T[j]? with
  | none => rfl
  | some v => cases v <;> rfl
theorem putT_len (T : List AVal) (d : Option Nat) (v : AVal) : (putT T d v).length = T.length := by
 cases d <;> simp [putT]
theorem putR_inv {t t' : TV} {d : Option Nat} {r : Option (AVal × Heap)} {H' : Heap} (h : putR t d r = .ok t' H') : ∃ v, r = some (v, H') ∧ t' = setD t v d := by
 cases r with
 | none => simp [putR] at h
 | some p =>
  simp only [putR, OR.ok.injEq] at h
  exact ⟨p.1, by rw [← h.2], h.1.symm⟩
theorem opF_le {RF R : Caller} (hR : LeR RF R) {o : AOper} {lim N : Nat} {t t' : TV} {T : List AVal} {H H' : Heap} (ht : RepT t T) (hN : T.length = N) (hN2 : N < 100000) (hd : dOK N o = true) (h : opF o RF lim t H = .ok t' H') :
  ∃ T', execOp R lim o ⟨T, H⟩ = some ⟨T', H'⟩ ∧ RepT t' T' ∧ T'.length = N := by
 have hev := evF_eq ht
 have hlim : limF o lim H = if o.bar = true then H.next else lim := by unfold limF; rw [cnd_eq]
 have fin : ∀ {r : Option (AVal × Heap)}, Le r (step R (if o.bar = true then H.next else lim) (St.ev T) H o.op) → putR t o.dst r = .ok t' H' → o.clear T = true → wantedA T o.guard = true → ∃ T', execOp R lim o ⟨T, H⟩ = some ⟨T', H'⟩ ∧ RepT t' T' ∧ T'.length = N := by
  intro r hr hp hc hw
  obtain ⟨v, rfl, rfl⟩ := putR_inv hp
  refine ⟨putT T o.dst v, ?_, setD_rep ht hN hN2 hd v, by rw [putT_len, hN]⟩
  unfold execOp
  simp only [hw, if_true, hc, Bool.not_true, Bool.false_eq_true, if_false, hr _ rfl]
 have hst : Le (stepF o.op RF (limF o lim H) (evF t) H) (step R (if o.bar = true then H.next else lim) (St.ev T) H o.op) := by
  rw [hlim, hev]; exact stepF_le hR
 unfold opF at h
 rw [cnd_eq, want_eq ht] at h
 split at h
 ·rename_i hw
  cases hap : o.apart with
  | nil =>
   rw [hap] at h
   exact fin hst h (by unfold AOper.clear; rw [hap]) hw
  | cons y ys =>
   rw [hap] at h
   replace h : lateF o RF lim t H = .ok t' H' := h
   unfold lateF at h
   have hcl : o.clearV (evF t) = o.clear T := by rw [hev]; rfl
   rw [hcl] at h
   split at h
   ·rename_i hc
    exact fin hst h hc hw
   ·rename_i hc
    split at h
    ·rename_i hcall
     split at h
     ·rename_i v H1 hs
      have hs' := hst _ hs
      have hk : o.keptV (evF t) H H1 = o.kept T H H1 := by rw [hev]; rfl
      rw [hk] at h
      split at h
      ·rename_i hkept
       simp only [OR.ok.injEq] at h
       obtain ⟨rfl, rfl⟩ := h
       refine ⟨putT T o.dst v, ?_, setD_rep ht hN hN2 hd v, by rw [putT_len, hN]⟩
       unfold execOp
       simp only [hw, if_true, hc, Bool.not_false, lateCallX, hcall, hs', hkept]
      ·simp at h
     ·simp at h
    ·simp at h
 ·rename_i hw
  simp only [OR.ok.injEq] at h
  obtain ⟨rfl, rfl⟩ := h
  refine ⟨putT T o.dst und, ?_, setD_rep ht hN hN2 hd und, by rw [putT_len, hN]⟩
  unfold execOp
  simp only [hw, if_false, Bool.false_eq_true]
theorem opsF_le {RF R : Caller} (hR : LeR RF R) {lim N : Nat} (hN2 : N < 100000) : ∀ (os : List AOper) {t t' : TV} {T : List AVal} {H H' : Heap}, RepT t T → T.length = N → os.all (dOK N) = true → opsF RF lim os t H = .ok t' H' →
  ∃ T', execOps R lim os ⟨T, H⟩ = some ⟨T', H'⟩ ∧ RepT t' T' ∧ T'.length = N
 | [], t, t', T, H, H', ht, hN, _, h => by
  simp only [opsF, OR.ok.injEq] at h
  obtain ⟨rfl, rfl⟩ := h
  exact ⟨T, rfl, ht, hN⟩
 | o :: os, t, t', T, H, H', ht, hN, hd, h => by
  simp only [List.all_cons, Bool.and_eq_true] at hd
  replace h : @OR.rec (fun _ => OR) .no (fun t H => opsF RF lim os t H) (opF o RF lim t H) = .ok t' H' := h
  cases h1 : opF o RF lim t H with
  | no => rw [h1] at h; simp at h
  | ok t1 H1 =>
   rw [h1] at h
   obtain ⟨T1, e1, r1, n1⟩ := opF_le hR ht hN hN2 hd.1 h1
   obtain ⟨T2, e2, r2, n2⟩ := opsF_le hR hN2 os r1 n1 hd.2 h
   exact ⟨T2, by simp only [execOps, e1, e2], r2, n2⟩
inductive XR where
 | no
 | ok (e : Ex) (t : TV) (H : Heap)
noncomputable def toL (N : Nat) (t : TV) : List AVal := (List.range N).map t.get
theorem toL_eq {t : TV} {T : List AVal} {N : Nat} (h : RepT t T) (hN : T.length = N) : toL N t = T := by
 unfold toL
 refine List.ext_getElem? fun i => ?_
 rw [List.getElem?_map]
 by_cases hi : i < N
 ·rw [List.getElem?_range hi, Option.map_some, h i, List.getD_eq_getElem?_getD]
  cases hT : T[i]? with
  | none => rw [List.getElem?_eq_none_iff] at hT; omega
  | some v => rfl
 ·rw [List.getElem?_eq_none (by simpa using hi), List.getElem?_eq_none (by omega)]; rfl
noncomputable def loopF (body : TV → Heap → XR) : Nat → TV → Heap → XR := @Nat.rec (fun _ => TV → Heap → XR) (fun _ _ => .no)
 (fun _ ih t H => @XR.rec (fun _ => XR) .no (fun e t H => @Ex.rec (fun _ => XR) (ih t H) (fun id => .ok (.exit id) t H) (.ok .ret t H) e) (body t H))
noncomputable def blockEnd (id : Nat) (r : XR) : XR := @XR.rec (fun _ => XR) .no (fun e t H => @Ex.rec (fun _ => XR) (.ok .norm t H) (fun id' => cnd (Nat.beq id' id) (.ok .norm t H) (.ok (.exit id') t H)) (.ok .ret t H) e) r
noncomputable def condF (a b : TV → Heap → XR) (t : TV) (H : Heap) : AVal → XR
 | .bool c => cnd c (a t H) (b t H)
 | _ => .no
def rngF (R : Caller) (lim N : Nat) (g : Opd) (ps : List Nat) (asg body : ACode) (t : TV) (T : List AVal) (gv : AVal) (H : Heap) : XR :=
 match asg.plain && body.plain with
 | true => match gv with
  | .fn f first captured =>
   match R lim (.fn f) (first ++ [.yl H.next] ++ captured) (H.push (.loop ⟨.ready, none, T, ps, asg, body⟩)) with
   | some (_, H') => match H'.get H.next with
    | some (.loop ⟨.ready, none, _, _, _, _⟩) => .ok .norm t (H'.set H.next .dead)
    | some (.loop ⟨.done, some e, _, _, _, _⟩) => .ok e t (H'.set H.next .dead)
    | _ => .no
   | none => .no
  | _ => .no
 | false => .no
noncomputable def execF (R : Caller) (lim n N : Nat) : ACode → TV → Heap → XR := @ACode.rec (fun _ => TV → Heap → XR)
 (fun t H => .ok .norm t H)
 (fun os t H => @OR.rec (fun _ => XR) .no (fun t H => .ok .norm t H) (opsF R lim os t H))
 (fun _ _ iha ihb t H => @XR.rec (fun _ => XR) .no (fun e t H => @Ex.rec (fun _ => XR) (ihb t H) (fun id => .ok (.exit id) t H) (.ok .ret t H) e) (iha t H))
 (fun c _ _ iha ihb t H => condF iha ihb t H (evF t c))
 (fun id _ ih t H => blockEnd id (ih t H))
 (fun _ ih t H => loopF ih n t H)
 (fun id t H => .ok (.exit id) t H)
 (fun t H => .ok .ret t H)
 (fun g ps asg body _ _ t H => rngF R lim N g ps asg body t (toL N t) (evF t g) H)
def bndF (N : Nat) : ACode → Bool
 | .region os => os.all (dOK N)
 | .seq a b => bndF N a && bndF N b
 | .cond _ a b => bndF N a && bndF N b
 | .block _ a | .loop a => bndF N a
 | _ => true
theorem loopF_le {bodyF : TV → Heap → XR} {body : St → Option (Ex × St)} {N : Nat} (hb : ∀ {t t' T H e H'}, RepT t T → T.length = N → bodyF t H = .ok e t' H' → ∃ T', body ⟨T, H⟩ = some (e, ⟨T', H'⟩) ∧ RepT t' T' ∧ T'.length = N) :
  ∀ (n : Nat) {t t' : TV} {T : List AVal} {H H' : Heap} {e : Ex}, RepT t T → T.length = N → loopF bodyF n t H = .ok e t' H' → ∃ T', loopN body n ⟨T, H⟩ = some (e, ⟨T', H'⟩) ∧ RepT t' T' ∧ T'.length = N
 | 0, t, t', T, H, H', e, _, _, h => by simp [loopF] at h
 | n + 1, t, t', T, H, H', e, ht, hN, h => by
  replace h : @XR.rec (fun _ => XR) .no (fun e t H => @Ex.rec (fun _ => XR) (loopF bodyF n t H) (fun id => .ok (.exit id) t H) (.ok .ret t H) e) (bodyF t H) = .ok e t' H' := h
  cases h1 : bodyF t H with
  | no => rw [h1] at h; simp at h
  | ok e1 t1 H1 =>
   rw [h1] at h
   obtain ⟨T1, q1, q2, q3⟩ := hb ht hN h1
   cases e1 with
   | norm =>
    obtain ⟨T2, p1, p2, p3⟩ := loopF_le hb n q2 q3 h
    exact ⟨T2, by simp only [loopN, q1, p1], p2, p3⟩
   | exit id =>
    simp only [XR.ok.injEq] at h
    obtain ⟨rfl, rfl, rfl⟩ := h
    exact ⟨T1, by simp only [loopN, q1], q2, q3⟩
   | ret =>
    simp only [XR.ok.injEq] at h
    obtain ⟨rfl, rfl, rfl⟩ := h
    exact ⟨T1, by simp only [loopN, q1], q2, q3⟩
theorem execF_le {RF R : Caller} (hR : LeR RF R) {lim n N : Nat} (hN2 : N < 100000) : ∀ (c : ACode) {t t' : TV} {T : List AVal} {H H' : Heap} {e : Ex}, RepT t T → T.length = N → bndF N c = true → execF RF lim n N c t H = .ok e t' H' →
  ∃ T', exec R lim n c ⟨T, H⟩ = some (e, ⟨T', H'⟩) ∧ RepT t' T' ∧ T'.length = N
 | .skip, t, t', T, H, H', e, ht, hN, _, h => by
  simp only [execF, XR.ok.injEq] at h
  obtain ⟨rfl, rfl, rfl⟩ := h
  exact ⟨T, rfl, ht, hN⟩
 | .exit id, t, t', T, H, H', e, ht, hN, _, h => by
  simp only [execF, XR.ok.injEq] at h
  obtain ⟨rfl, rfl, rfl⟩ := h
  exact ⟨T, rfl, ht, hN⟩
 | .ret, t, t', T, H, H', e, ht, hN, _, h => by
  simp only [execF, XR.ok.injEq] at h
  obtain ⟨rfl, rfl, rfl⟩ := h
  exact ⟨T, rfl, ht, hN⟩
 | .region os, t, t', T, H, H', e, ht, hN, hb, h => by
  replace h : @OR.rec (fun _ => XR) .no (fun t H => .ok .norm t H) (opsF RF lim os t H) = .ok e t' H' := h
  cases h1 : opsF RF lim os t H with
  | no => rw [h1] at h; simp at h
  | ok t1 H1 =>
   rw [h1] at h
   simp only [XR.ok.injEq] at h
   obtain ⟨rfl, rfl, rfl⟩ := h
   obtain ⟨T1, e1, r1, n1⟩ := opsF_le hR hN2 os ht hN hb h1
   exact ⟨T1, by simp only [exec, e1, Option.map_some], r1, n1⟩
 | .seq a b, t, t', T, H, H', e, ht, hN, hb, h => by
  simp only [bndF, Bool.and_eq_true] at hb
  replace h : @XR.rec (fun _ => XR) .no (fun e t H => @Ex.rec (fun _ => XR) (execF RF lim n N b t H) (fun id => .ok (.exit id) t H) (.ok .ret t H) e) (execF RF lim n N a t H) = .ok e t' H' := h
  cases h1 : execF RF lim n N a t H with
  | no => rw [h1] at h; simp at h
  | ok e1 t1 H1 =>
   rw [h1] at h
   obtain ⟨T1, q1, q2, q3⟩ := execF_le hR hN2 a ht hN hb.1 h1
   cases e1 with
   | norm =>
    obtain ⟨T2, p1, p2, p3⟩ := execF_le hR hN2 b q2 q3 hb.2 h
    exact ⟨T2, by simp only [exec, q1, p1], p2, p3⟩
   | exit id =>
    simp only [XR.ok.injEq] at h
    obtain ⟨rfl, rfl, rfl⟩ := h
    exact ⟨T1, by simp only [exec, q1], q2, q3⟩
   | ret =>
    simp only [XR.ok.injEq] at h
    obtain ⟨rfl, rfl, rfl⟩ := h
    exact ⟨T1, by simp only [exec, q1], q2, q3⟩
 | .cond c a b, t, t', T, H, H', e, ht, hN, hb, h => by
  simp only [bndF, Bool.and_eq_true] at hb
  replace h : condF (execF RF lim n N a) (execF RF lim n N b) t H (evF t c) = .ok e t' H' := h
  rw [evF_eq ht] at h
  unfold condF at h
  split at h
  ·rename_i cv hc
   rw [cnd_eq] at h
   simp only [exec, hc]
   cases cv with
   | true =>
    simp only [if_true] at h ⊢
    exact execF_le hR hN2 a ht hN hb.1 h
   | false =>
    simp only [Bool.false_eq_true, if_false] at h ⊢
    exact execF_le hR hN2 b ht hN hb.2 h
  ·simp at h
 | .block id body, t, t', T, H, H', e, ht, hN, hb, h => by
  simp only [bndF] at hb
  replace h : blockEnd id (execF RF lim n N body t H) = .ok e t' H' := h
  cases h1 : execF RF lim n N body t H with
  | no => rw [h1] at h; simp [blockEnd] at h
  | ok e1 t1 H1 =>
   rw [h1] at h
   obtain ⟨T1, q1, q2, q3⟩ := execF_le hR hN2 body ht hN hb h1
   cases e1 with
   | norm =>
    simp only [blockEnd, XR.ok.injEq] at h
    obtain ⟨rfl, rfl, rfl⟩ := h
    exact ⟨T1, by simp only [exec, q1], q2, q3⟩
   | exit i =>
    simp only [blockEnd, cnd_eq, Nat.beq_eq] at h
    by_cases hi : i = id
    ·rw [if_pos hi] at h
     simp only [XR.ok.injEq] at h
     obtain ⟨rfl, rfl, rfl⟩ := h
     exact ⟨T1, by simp only [exec, q1, hi, if_true], q2, q3⟩
    ·rw [if_neg hi] at h
     simp only [XR.ok.injEq] at h
     obtain ⟨rfl, rfl, rfl⟩ := h
     exact ⟨T1, by simp only [exec, q1, hi, if_false], q2, q3⟩
   | ret =>
    simp only [blockEnd, XR.ok.injEq] at h
    obtain ⟨rfl, rfl, rfl⟩ := h
    exact ⟨T1, by simp only [exec, q1], q2, q3⟩
 | .loop body, t, t', T, H, H', e, ht, hN, hb, h => by
  simp only [bndF] at hb
  replace h : loopF (execF RF lim n N body) n t H = .ok e t' H' := h
  exact loopF_le (fun ht hN h => execF_le hR hN2 body ht hN hb h) n ht hN h
 | .ranges g ps asg body, t, t', T, H, H', e, ht, hN, hb, h => by
  replace h : rngF RF lim N g ps asg body t (toL N t) (evF t g) H = .ok e t' H' := h
  rw [toL_eq ht hN, evF_eq ht] at h
  unfold rngF at h
  split at h
  ·rename_i hp
   split at h
   ·rename_i f first captured hg
    split at h
    ·rename_i v1 H1 hr
     have hr' := hR _ _ _ _ _ hr
     simp only [exec, hp, if_true, hg, hr']
     split at h
     ·rename_i q
      simp only [XR.ok.injEq] at h
      obtain ⟨rfl, rfl, rfl⟩ := h
      exact ⟨T, by simp only [q], ht, hN⟩
     ·rename_i q
      simp only [XR.ok.injEq] at h
      obtain ⟨rfl, rfl, rfl⟩ := h
      exact ⟨T, by simp only [q], ht, hN⟩
     ·simp at h
    ·simp at h
   ·simp at h
  ·simp at h
theorem execOp_le {RF R : Caller} (hR : LeR RF R) {lim : Nat} (o : AOper) (s : St) : Le (execOp RF lim o s) (execOp R lim o s) := by
 unfold execOp lateCallX
 split
 ·split
  ·split
   ·intro v hv
    split at hv
    ·rename_i p q hs
     rw [step_le hR _ hs]
     exact hv
    ·simp at hv
   ·exact .refl _
  ·intro v hv
   split at hv
   ·rename_i p q hs
    rw [step_le hR _ hs]
    exact hv
   ·simp at hv
 ·exact .refl _
theorem execOps_le {RF R : Caller} (hR : LeR RF R) {lim : Nat} : ∀ (os : List AOper) (s : St), Le (execOps RF lim os s) (execOps R lim os s)
 | [], s => .refl _
 | o :: os, s => by
  intro v hv
  unfold execOps at hv ⊢
  split at hv
  ·rename_i s1 hs
   rw [execOp_le hR o s _ hs]
   exact execOps_le hR os s1 v hv
  ·simp at hv
theorem loopN_le {b b' : St → Option (Ex × St)} (h : ∀ s, Le (b s) (b' s)) : ∀ (n : Nat) (s : St), Le (loopN b n s) (loopN b' n s)
 | 0, s => .refl _
 | n + 1, s => by
  intro v hv
  unfold loopN at hv ⊢
  split at hv
  ·rename_i s1 hs
   rw [h s _ hs]
   exact loopN_le h n s1 v hv
  ·rename_i hne
   have := h s _ hv
   rw [this]
   split
   ·rename_i s1 e
    exact absurd hv (by simp only [Option.some.injEq] at e; rw [e]; exact fun e' => hne _ e')
   ·rfl
theorem exec_le {RF R : Caller} (hR : LeR RF R) {lim n : Nat} : ∀ (c : ACode) (s : St), Le (exec RF lim n c s) (exec R lim n c s)
 | .skip, s => .refl _
 | .exit id, s => .refl _
 | .ret, s => .refl _
 | .region os, s => (execOps_le hR os s).map _
 | .seq a b, s => by
  intro v hv
  unfold exec at hv ⊢
  split at hv
  ·rename_i s1 hs
   rw [exec_le hR a s _ hs]
   exact exec_le hR b s1 v hv
  ·rename_i hne
   rw [exec_le hR a s _ hv]
   split
   ·rename_i s1 e
    exact absurd hv (by simp only [Option.some.injEq] at e; rw [e]; exact fun e' => hne _ e')
   ·rfl
 | .cond c a b, s => by
  unfold exec
  split
  ·split
   ·exact exec_le hR a s
   ·exact exec_le hR b s
  ·exact .refl _
 | .block id body, s => by
  intro v hv
  unfold exec at hv ⊢
  split at hv
  ·rename_i i s1 hs
   rw [exec_le hR body s _ hs]
   exact hv
  ·rename_i hne
   rw [exec_le hR body s _ hv]
   split
   ·rename_i i s1 e
    exact absurd hv (by simp only [Option.some.injEq] at e; rw [e]; exact fun e' => hne _ _ e')
   ·rfl
 | .loop body, s => loopN_le (exec_le hR body) n s
 | .ranges g ps asg body, s => by
  intro v hv
  unfold exec at hv ⊢
  split at hv
  ·rename_i hp
   rw [if_pos hp]
   split at hv
   ·rename_i f first captured hg
    split at hv
    ·rename_i p q hr
     rw [hR _ _ _ _ _ hr]
     exact hv
    ·simp at hv
   ·simp at hv
  ·simp at hv
theorem round_le {ex ex' : ACode → St → Option (Ex × St)} (h : ∀ c s, Le (ex c s) (ex' c s)) {lim b : Nat} {args : List AVal} {H : Heap} : Le (roundF ex lim b args H) (roundF ex' lim b args H) := by
 intro v hv
 unfold roundF at hv ⊢
 split at hv
 ·rename_i r hr
  split at hv
  ·rename_i hc
   rw [if_pos hc]
   split at hv
   ·rename_i s1 h1
    simp only [h _ _ _ h1]
    split at hv
    ·rename_i h2
     try simp only [h2]
     split at hv
     ·rename_i e s2 h3
      simp only [h _ _ _ h3]
      exact hv
     ·simp at hv
    ·simp at hv
   ·simp at hv
  ·simp at hv
 ·simp at hv
noncomputable def resF (t : TV) (H : Heap) : ARes → Option AVal := @ARes.rec (fun _ => Option AVal) (fun i => some (t.get i)) (fun i g => loadF H g (t.get i))
noncomputable def resAllF (t : TV) (H : Heap) : List ARes → Option (List AVal) := @List.rec ARes (fun _ => Option (List AVal)) (some [])
 (fun r _ ih => match resF t H r with
  | some v => match ih with
   | some vs => some (v :: vs)
   | none => none
  | none => none)
theorem resAllF_le {t : TV} {T : List AVal} {H : Heap} (ht : RepT t T) : ∀ rs : List ARes, Le (resAllF t H rs) (resAll ⟨T, H⟩ rs)
 | [] => .refl _
 | r :: rs => by
  intro v hv
  replace hv : (match resF t H r with
   | some v => match resAllF t H rs with
    | some vs => some (v :: vs)
    | none => none
   | none => none) = some v := hv
  have hr : Le (resF t H r) (resOf ⟨T, H⟩ r) := by
   cases r with
   | tmp i => show Le (some (t.get i)) (some (T.getD i und)); rw [ht i]; exact .refl _
   | cell i g => show Le (loadF H g (t.get i)) (aload H g (T.getD i und)); rw [ht i]; exact loadF_le _ _ _
  split at hv
  ·rename_i v1 h1
   split at hv
   ·rename_i vs h2
    simp only [resAll, hr _ h1, resAllF_le ht rs _ h2]
    exact hv
   ·simp at hv
  ·simp at hv
noncomputable def leaveX (rs : List ARes) (r : XR) : Option (AVal × Heap) := @XR.rec (fun _ => Option (AVal × Heap)) none
 (fun e t H => @Ex.rec (fun _ => Option (AVal × Heap)) ((resAllF t H rs).map fun vs => (oneOr vs, H)) (fun _ => none) ((resAllF t H rs).map fun vs => (oneOr vs, H)) e) r
noncomputable def codeF (R : Caller) (lim n : Nat) (af : AFunc) (args : List AVal) (H : Heap) : Option (AVal × Heap) :=
 cnd (Nat.ble (lenF args) af.ntmps) (leaveX af.results (execF R lim n af.ntmps af.body (ofL args 0 .lf) H)) none
noncomputable def runFT (fp : Nat → Option AFn) : Nat → Caller := @Nat.rec (fun _ => Caller) (fun _ _ _ _ => none)
 (fun n ih lim tg args H => match tg with
  | .fn f => match fp f with
   | some (.code af) => codeF ih lim n af args H
   | some (.prim g) => g lim args H
   | none => none
  | .yl b => roundF (exec ih lim n) lim b args H)
def okF : AFn → Bool
 | .code af => Nat.blt af.ntmps 60000 && bndF af.ntmps af.body
 | .prim _ => true
theorem leaveX_inv {rs : List ARes} {r : XR} {v : AVal} {H' : Heap} (h : leaveX rs r = some (v, H')) : ∃ e t, r = .ok e t H' ∧ (∀ id, e ≠ .exit id) ∧ ∃ vs, resAllF t H' rs = some vs ∧ v = oneOr vs := by
 cases r with
 | no => simp [leaveX] at h
 | ok e t H =>
  have fin : ((resAllF t H rs).map fun vs => (oneOr vs, H)) = some (v, H') → ∃ vs, H = H' ∧ resAllF t H rs = some vs ∧ v = oneOr vs := by
   intro h
   rw [Option.map_eq_some_iff] at h
   obtain ⟨vs, h1, h2⟩ := h
   simp at h2
   exact ⟨vs, h2.2, h1, h2.1.symm⟩
  cases e with
  | exit id => simp [leaveX] at h
  | norm =>
   obtain ⟨vs, rfl, h1, h2⟩ := fin h
   exact ⟨_, t, rfl, fun _ e => by simp at e, vs, h1, h2⟩
  | ret =>
   obtain ⟨vs, rfl, h1, h2⟩ := fin h
   exact ⟨_, t, rfl, fun _ e => by simp at e, vs, h1, h2⟩
theorem runFT_le {fp : Nat → Option AFn} {ap : FuncId → Option AFn} (hfp : ∀ f, Le (fp f) (ap f)) (hok : ∀ f af, fp f = some af → okF af = true) : ∀ n, LeR (runFT fp n) (runT ap n)
 | 0 => fun lim tg args H => .none _
 | n + 1 => fun lim tg args H => by
  have ih := runFT_le hfp hok n
  cases tg with
  | yl b => exact round_le (exec_le ih)
  | fn f =>
   intro r hr
   replace hr : (match fp f with
    | some (.code af) => codeF (runFT fp n) lim n af args H
    | some (.prim g) => g lim args H
    | none => none) = some r := hr
   simp only [runT]
   split at hr
   ·rename_i af haf
    rw [hfp f _ haf]
    have hk := hok f _ haf
    simp only [okF, Bool.and_eq_true, Nat.blt_eq] at hk
    obtain ⟨hn, hb⟩ := hk
    unfold codeF at hr
    simp only [cnd_eq, lenF_eq, Nat.ble_eq] at hr
    split at hr
    ·rename_i hl
     obtain ⟨v, H'⟩ := r
     obtain ⟨e, t, hx, hne, vs, hvs, rfl⟩ := leaveX_inv hr
     have hlen : (enterF af args).length = af.ntmps := by simp [enterF]; omega
     obtain ⟨T', q1, q2, _⟩ := execF_le ih (by omega) af.body (RepT.enter (args := args) (k := af.ntmps - args.length) (by omega)) hlen hb hx
     have hv : leaveF af ⟨T', H'⟩ = some (oneOr vs, H') := by
      unfold leaveF
      rw [resAllF_le q2 _ _ hvs]; rfl
     have q1' : exec (runT ap n) lim n af.body ⟨enterF af args, H⟩ = some (e, ⟨T', H'⟩) := q1
     simp only [q1']
     cases e with
     | exit id => exact absurd rfl (hne id)
     | norm => exact hv
     | ret => exact hv
    ·simp at hr
   ·rename_i g hg
    rw [hfp f _ hg]
    exact hr
   ·simp at hr
inductive TF where
 | lf
 | nd (l : TF) (v : Option AFn) (r : TF)
noncomputable def TF.get : TF → Nat → Option AFn := @TF.rec (fun _ => Nat → Option AFn) (fun _ => none)
 (fun _ v _ ihl ihr n => cnd (Nat.beq n 0) v (cnd (Nat.beq (Nat.mod n 2) 1) (ihl (Nat.div n 2)) (ihr (Nat.pred (Nat.div n 2)))))
def TF.mk (l : List (Nat × AFn)) : Nat → Nat → Nat → TF
 | 0, _, _ => .lf
 | h + 1, i, s => .nd (TF.mk l h (i + s) (2 * s)) (l.lookup i) (TF.mk l h (i + 2 * s) (2 * s))
theorem TF.get_mk (l : List (Nat × AFn)) : ∀ (h i s n : Nat), Le ((TF.mk l h i s).get n) (l.lookup (i + n * s))
 | 0, i, s, n => .none _
 | h + 1, i, s, n => by
  show Le (cnd (Nat.beq n 0) (l.lookup i) (cnd (Nat.beq (n % 2) 1) ((TF.mk l h (i + s) (2 * s)).get (n / 2)) ((TF.mk l h (i + 2 * s) (2 * s)).get (n / 2 - 1)))) _
  rw [cnd_eq, cnd_eq]
  simp only [Nat.beq_eq]
  split
  ·rename_i h0; subst h0; simp only [Nat.zero_mul, Nat.add_zero]; exact .refl _
  ·split
   ·rename_i h0 h1
    have e : i + n * s = i + s + n / 2 * (2 * s) := by
     have : n = 2 * (n / 2) + 1 := by omega
     rw [Nat.add_assoc]; congr 1
     conv => lhs; rw [this]
     rw [Nat.add_mul, Nat.one_mul, Nat.add_comm]; congr 1
     rw [Nat.mul_comm 2, Nat.mul_assoc]
    rw [e]
    exact TF.get_mk l h (i + s) (2 * s) (n / 2)
   ·rename_i h0 h1
    have e : i + n * s = i + 2 * s + (n / 2 - 1) * (2 * s) := by
     have : n = 2 * (n / 2 - 1) + 2 := by omega
     rw [Nat.add_assoc]; congr 1
     conv => lhs; rw [this]
     rw [Nat.add_mul, Nat.add_comm]; congr 1
     rw [Nat.mul_comm 2, Nat.mul_assoc]
    rw [e]
    exact TF.get_mk l h (i + 2 * s) (2 * s) (n / 2 - 1)
theorem lookup_ok {l : List (Nat × AFn)} (h : l.all (fun p => okF p.2) = true) : ∀ f af, l.lookup f = some af → okF af = true := by
 induction l with
 | nil => intro f af h'; simp at h'
 | cons p l ih =>
  intro f af h'
  simp only [List.all_cons, Bool.and_eq_true] at h
  rw [List.lookup_cons] at h'
  split at h'
  ·simp at h'; subst h'; exact h.1
  ·exact ih h.2 f af h'
theorem fast_run {l : List (Nat × AFn)} {T : TF} {k : Nat} (hT : T = TF.mk l k 0 1) (hok : l.all (fun p => okF p.2) = true) {n lim f : Nat} {args : List AVal} {H : Heap} (h : isTrue (runFT T.get n lim (.fn f) args H) = true) : isTrue (run (tab l) n lim f args H) = true := by
 have hle : ∀ f, Le (T.get f) (tab l f) := fun f => by
  have := TF.get_mk l k 0 1 f
  rw [hT]
  simpa [tab] using this
 obtain ⟨H', h'⟩ := isTrue_inv h
 have := runFT_le hle (fun f af e => lookup_ok hok f af (hle f _ e)) n lim (.fn f) args H _ h'
 unfold run
 rw [this]; rfl
end Go.Ahs
