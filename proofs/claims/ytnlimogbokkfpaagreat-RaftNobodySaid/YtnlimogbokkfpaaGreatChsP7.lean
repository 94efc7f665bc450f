/- All outcomes of drawn code, one by one: functions that range over maps, evaluated. -/
import Derived.Test.YtnlimogbokkfpaaGreatChsP6
set_option linter.unusedSimpArgs false
set_option linter.unusedVariables false
namespace Go.Ahs
abbrev CallerA := Nat → Tgt → List AVal → Heap → Option (List (AVal × Heap))
def bindA {α β : Type} (f : α → Option (List β)) : List α → Option (List β)
 | [] => some []
 | x :: xs => match f x, bindA f xs with
  | some a, some b => some (a ++ b)
  | _, _ => none
theorem bindA_mem {α β : Type} {f : α → Option (List β)} : ∀ {l : List α} {out : List β}, bindA f l = some out → ∀ x ∈ l, ∃ o, f x = some o ∧ ∀ y ∈ o, y ∈ out
 | [], _, _, x, hx => by simp at hx
 | z :: l, out, h, x, hx => by
  unfold bindA at h
  split at h
  ·rename_i a b h1 h2
   simp at h; subst h
   simp only [List.mem_cons] at hx
   rcases hx with rfl | hx
   ·exact ⟨a, h1, fun y hy => by simp [hy]⟩
   ·obtain ⟨o, q1, q2⟩ := bindA_mem h2 x hx
    exact ⟨o, q1, fun y hy => by simp [q2 y hy]⟩
  ·simp at h
theorem bindA_back {α β : Type} {f : α → Option (List β)} : ∀ {l : List α} {out : List β}, bindA f l = some out → ∀ y ∈ out, ∃ x ∈ l, ∃ o, f x = some o ∧ y ∈ o
 | [], out, h, y, hy => by simp [bindA] at h; subst h; simp at hy
 | z :: l, out, h, y, hy => by
  unfold bindA at h
  split at h
  ·rename_i a b h1 h2
   simp at h; subst h
   rcases List.mem_append.1 hy with hy | hy
   ·exact ⟨z, by simp, a, h1, hy⟩
   ·obtain ⟨x, q1, q2⟩ := bindA_back h2 y hy
    exact ⟨x, by simp [q1], q2⟩
  ·simp at h
def isItr : AVal → Bool
 | .itr _ => true
 | _ => false
def ren (r : Nat) : AVal → AVal
 | .itr _ => .itr r
 | v => v
theorem ren_id {r : Nat} {v : AVal} (h : isItr v = false) : ren r v = v := by cases v <;> first | rfl | simp [isItr] at h
def dstOK (o : AOper) (s1 : St) : Bool := match o.dst with
 | some d => !isItr (s1.tmps.getD d und)
 | none => true
def detA (R : Caller) (lim : Nat) (o : AOper) (s : PSt) : Option (List PSt) :=
 if o.op.opds.all fun x => !isItr (St.ev s.tmps x) then
  match execOp R lim o ⟨s.tmps, s.H⟩ with
  | some s1 => if dstOK o s1 then some [⟨s1.tmps, s1.H, s.it⟩] else none
  | none => none
 else none
def detsA (R : Caller) (lim : Nat) : List AOper → PSt → Option (List PSt)
 | [], s => some [s]
 | o :: os, s => match detA R lim o s with
  | some l => bindA (detsA R lim os) l
  | none => none
def picks {α : Type} : List α → List (α × List α)
 | [] => []
 | x :: xs => (x, xs) :: (picks xs).map fun p => (p.1, x :: p.2)
theorem picks_mem {α : Type} : ∀ {l : List α} {x : α}, x ∈ l → ∃ rest, (x, rest) ∈ picks l ∧ l.Perm (x :: rest)
 | [], x, h => by simp at h
 | y :: l, x, h => by
  simp only [List.mem_cons] at h
  rcases h with rfl | h
  ·exact ⟨l, by simp [picks], .refl _⟩
  ·obtain ⟨rest, h1, h2⟩ := picks_mem h
   exact ⟨y :: rest, by simp only [picks, List.mem_cons, List.mem_map]; exact .inr ⟨(x, rest), h1, rfl⟩, (List.Perm.cons y h2).trans (List.Perm.swap x y rest)⟩
def callA (RA : CallerA) (lim : Nat) (o : AOper) (f : FuncId) (args : List AVal) (s : PSt) : Option (List PSt) :=
 if o.guard.isNone && s.it.isNone && args.all (fun v => !isItr v) then match RA lim (.fn f) args s.H with
  | some l => if l.all (fun p => !isItr p.1) then some (l.map fun p => ⟨putT s.tmps o.dst p.1, p.2, none⟩) else none
  | none => none
 else none
def opA (dr : FuncId → Bool) (R : Caller) (RA : CallerA) (lim : Nat) (o : AOper) (s : PSt) : Option (List PSt) :=
 match o.op with
 | .mapRange x => if o.guard.isNone && s.it.isNone && s.tmps.all (fun v => !isItr v) then
   match St.ev s.tmps x with
   | .map none => some [⟨putT s.tmps o.dst (.itr 0), s.H, some ⟨0, none, [], none⟩⟩]
   | .map (some b) => match s.H.get b with
    | some (.map es _) => if b < lim then some [⟨putT s.tmps o.dst (.itr 0), s.H, some ⟨0, some b, es, none⟩⟩] else none
    | _ => none
   | _ => none
  else none
 | .mapNext x => if o.guard.isNone && isItr (St.ev s.tmps x) && x.isTmp then
   match s.it with
   | some it => match it.left with
    | [] => some [⟨putT s.tmps o.dst (.tup [.bool false]), s.H, some it⟩]
    | l => some ((picks l).map fun p => ⟨putT s.tmps o.dst (.tup [.bool true, p.1.1, p.1.2]), s.H, some { it with left := p.2, cur := some p.1 }⟩)
   | none => none
  else none
 | .mapEntry x => if o.guard.isNone && isItr (St.ev s.tmps x) && x.isTmp then
   match s.it with
   | some it => match it.cur with
    | some (k, v) => some [⟨putT s.tmps o.dst (.tup [k, v]), s.H, s.it⟩]
    | none => none
   | none => none
  else none
 | .call f args => if dr f then callA RA lim o f (args.map (St.ev s.tmps)) s else detA R lim o s
 | .callv x args => match St.ev s.tmps x with
  | .fn f first captured => if dr f then callA RA lim o f (first ++ args.map (St.ev s.tmps) ++ captured) s else detA R lim o s
  | _ => detA R lim o s
 | .mapDelete _ _ _ _ => detA R lim o s
 | _ => detA R lim o s
def opsA (dr : FuncId → Bool) (R : Caller) (RA : CallerA) (lim : Nat) : List AOper → PSt → Option (List PSt)
 | [], s => some [s]
 | o :: os, s => match opA dr R RA lim o s with
  | some l => bindA (opsA dr R RA lim os) l
  | none => none
def loopA (body : PSt → Option (List (Ex × PSt))) : Nat → PSt → Option (List (Ex × PSt))
 | 0, _ => none
 | n + 1, s => match body s with
  | some l => bindA (fun p => match p with
   | (.norm, s) => loopA body n s
   | p => some [p]) l
  | none => none
def execA (dr : FuncId → Bool) (R : Caller) (RA : CallerA) (lim n : Nat) : ACode → PSt → Option (List (Ex × PSt))
 | .skip, s => some [(.norm, s)]
 | .region ops, s => ((if hard ops then detsA R lim ops s else opsA dr R RA lim ops s)).map fun l => l.map fun s => (.norm, s)
 | .seq a b, s => match execA dr R RA lim n a s with
  | some l => bindA (fun p => match p with
   | (.norm, s) => execA dr R RA lim n b s
   | p => some [p]) l
  | none => none
 | .cond c a b, s => match St.ev s.tmps c with
  | .bool t => if t then execA dr R RA lim n a s else execA dr R RA lim n b s
  | _ => none
 | .block id body, s => match execA dr R RA lim n body s with
  | some l => some (l.map fun p => match p with
   | (.exit id', s) => if id' = id then (.norm, s) else (.exit id', s)
   | p => p)
  | none => none
 | .loop body, s => loopA (execA dr R RA lim n body) n s
 | .exit id, s => some [(.exit id, s)]
 | .ret, s => some [(.ret, s)]
 | .ranges g ps asg body, s =>
  if asg.plain && body.plain && s.it.isNone && s.tmps.all (fun v => !isItr v) then
   match St.ev s.tmps g with
   | .fn f first captured => match RA lim (.fn f) (first ++ [.yl s.H.next] ++ captured) (s.H.push (.loop ⟨.ready, none, s.tmps, ps, asg, body⟩)) with
    | some l => bindA (fun p => match p.2.get s.H.next with
     | some (.loop ⟨.ready, none, _, _, _, _⟩) => some [(.norm, ⟨s.tmps, p.2.set s.H.next .dead, none⟩)]
     | some (.loop ⟨.done, some e, _, _, _, _⟩) => some [(e, ⟨s.tmps, p.2.set s.H.next .dead, none⟩)]
     | _ => none) l
    | none => none
   | _ => none
  else none
def resClean (s : PSt) : ARes → Bool
 | .tmp t => !isItr (s.tmps.getD t und)
 | .cell t _ => !isItr (s.tmps.getD t und)
def funA (dr : FuncId → Bool) (R : Caller) (RA : CallerA) (lim n : Nat) (af : AFunc) (args : List AVal) (H : Heap) : Option (List (AVal × Heap)) :=
 if args.all (fun v => !isItr v) then
  match execA dr R RA lim n af.body ⟨enterF af args, H, none⟩ with
  | some l => bindA (fun p => match p with
   | (.exit _, _) => none
   | (_, s) => if af.results.all (resClean s) then (leaveF af ⟨s.tmps, s.H⟩).map fun r => [r] else none) l
  | none => none
 else none
def runA (ap : FuncId → Option AFn) (dp : FuncId → Option AFunc) : Nat → CallerA
 | 0, _, _, _, _ => none
 | n + 1, lim, .fn f, args, H => match dp f with
  | some af => funA (fun f => (dp f).isSome) (runT ap n) (runA ap dp n) lim n af args H
  | none => (runT ap (n + 1) lim (.fn f) args H).map fun p => [p]
 | n + 1, lim, .yl b, args, H => (runT ap (n + 1) lim (.yl b) args H).map fun p => [p]
structure Alike (s s' : PSt) : Prop where
 heap : s'.H = s.H
 st : ∃ r, s'.tmps = s.tmps.map (ren r) ∧ (match s.it, s'.it with
  | none, none => True
  | some a, some b => b.r = r ∧ b.m = a.m ∧ a.left.Perm b.left ∧ b.cur = a.cur
  | _, _ => False)
def SoundA (RA : CallerA) (RP : CallerP) : Prop := ∀ lim0 lim tg args H outs, RA lim tg args H = some outs → ∀ K : AVal → Heap → Prop, (∀ p ∈ outs, K p.1 p.2) → RP lim0 lim tg args H K
section
variable {dr : FuncId → Bool} {R : Caller} {RA : CallerA} {RP : CallerP} {lim0 lim n : Nat}
theorem map_getD (T : List AVal) (r t : Nat) : (T.map (ren r)).getD t und = ren r (T.getD t und) := by
 simp only [List.getD_eq_getElem?_getD, List.getElem?_map]
 cases T[t]? <;> rfl
theorem ev_ren {T : List AVal} {r : Nat} {x : Opd} (h : isItr (St.ev T x) = false) : St.ev (T.map (ren r)) x = St.ev T x := by
 cases x with
 | val v => rfl
 | tmp t =>
  simp only [St.ev, map_getD] at *
  exact ren_id h
theorem ev_ren' {T : List AVal} {r : Nat} (x : Opd) (h : ∀ v, x ≠ .val v) : St.ev (T.map (ren r)) x = ren r (St.ev T x) := by
 cases x with
 | val v => exact absurd rfl (h v)
 | tmp t => exact map_getD T r t
theorem putT_ren {T : List AVal} {r : Nat} {d : Option Nat} {v : AVal} (h : d.isSome = true → isItr v = false) : (putT T d v).map (ren r) = putT (T.map (ren r)) d v := by
 cases d with
 | none => rfl
 | some d => simp only [putT, List.map_set, ren_id (h rfl)]
theorem blkOf_ren (T : List AVal) (r : Nat) (x : Opd) : blkOf (St.ev (T.map (ren r)) x) = blkOf (St.ev T x) := by
 cases x with
 | val v => rfl
 | tmp t =>
  simp only [St.ev, map_getD]
  cases T.getD t und <;> rfl
theorem wanted_ren (T : List AVal) (r : Nat) (g : Option (Nat × Bool)) : wantedA (T.map (ren r)) g = wantedA T g := by
 cases g with
 | none => rfl
 | some g =>
  obtain ⟨t, w⟩ := g
  simp only [wantedA, List.getElem?_map]
  cases h : T[t]? with
  | none => rfl
  | some v => cases v <;> rfl
theorem clear_ren (o : AOper) (T : List AVal) (r : Nat) : o.clear (T.map (ren r)) = o.clear T := by
 unfold AOper.clear
 split
 ·rfl
 ·simp only [apartB, blkOf_ren]
 ·rfl
theorem kept_ren (o : AOper) (T : List AVal) (r : Nat) (H H' : Heap) : o.kept (T.map (ren r)) H H' = o.kept T H H' := by
 unfold AOper.kept
 simp only [blkOf_ren]
theorem execOp_ren {o : AOper} {T : List AVal} {H : Heap} {s1 : St} (r : Nat) (ho : (o.op.opds.all fun x => !isItr (St.ev T x)) = true) (h : execOp R lim o ⟨T, H⟩ = some s1)
  (hd : dstOK o s1 = true) : execOp R lim o ⟨T.map (ren r), H⟩ = some ⟨s1.tmps.map (ren r), s1.H⟩ := by
 have hc : ∀ (l : Nat), step R l (St.ev (T.map (ren r))) H o.op = step R l (St.ev T) H o.op := fun l =>
  step_congr fun x hx => ev_ren (by simpa using List.all_eq_true.1 ho x hx)
 have put : ∀ v, s1.tmps = putT T o.dst v → putT (T.map (ren r)) o.dst v = s1.tmps.map (ren r) := by
  intro v hv
  rw [hv]
  cases hdst : o.dst with
  | none => rfl
  | some d =>
   simp only [putT, List.map_set]
   by_cases hl : d < T.length
   ·unfold dstOK at hd
    rw [hdst] at hd hv
    simp only [hv, putT] at hd
    have hv' : isItr v = false := by
     simpa [List.getD_eq_getElem?_getD, List.getElem?_set, hl] using hd
    rw [ren_id hv']
   ·rw [List.set_eq_of_length_le (by simp; omega), List.set_eq_of_length_le (by simp; omega)]
 unfold execOp at h ⊢
 simp only [wanted_ren, clear_ren, hc] at h ⊢
 split at h
 ·rename_i hw
  rw [if_pos hw]
  split at h
  ·rename_i hcl
   rw [if_pos hcl]
   unfold lateCallX at h ⊢
   simp only [hc, kept_ren] at h ⊢
   split at h
   ·rename_i hcall
    rw [if_pos hcall]
    split at h
    ·rename_i v H1 hs
     split at h
     ·rename_i hk
      rw [if_pos hk]
      simp at h; subst h
      rw [put v rfl]
     ·simp at h
    ·simp at h
   ·simp at h
  ·rename_i hcl
   rw [if_neg hcl]
   split at h
   ·rename_i v H1 hs
    simp at h; subst h
    rw [put v rfl]
   ·simp at h
 ·rename_i hw
  rw [if_neg hw]
  simp at h; subst h
  rw [put und rfl]
theorem detA_sound {o : AOper} {s s' : PSt} {outs : List PSt} {K : PSt → Prop} (h : detA R lim o s = some outs) (ha : Alike s s') (hk : ∀ t ∈ outs, ∀ t', Alike t t' → K t') : detP R lim o s' K := by
 obtain ⟨T', H', it'⟩ := s'
 obtain ⟨hH, r, hT, hit⟩ := ha
 simp only at hH hT
 subst hH hT
 unfold detA at h
 split at h
 ·rename_i ho
  split at h
  ·rename_i s1 h1
   split at h
   ·rename_i hd
    simp at h; subst h
    exact ⟨_, execOp_ren r ho h1 hd, hk _ (List.mem_singleton_self _) _ ⟨rfl, r, rfl, hit⟩⟩
   ·simp at h
  ·simp at h
 ·simp at h
theorem detsA_sound : ∀ (os : List AOper) {s s' : PSt} {outs : List PSt} {K : PSt → Prop}, detsA R lim os s = some outs → Alike s s' → (∀ t ∈ outs, ∀ t', Alike t t' → K t') → ∃ s1, execOps R lim os ⟨s'.tmps, s'.H⟩ = some s1 ∧ K ⟨s1.tmps, s1.H, s'.it⟩
 | [], s, s', outs, K, h, ha, hk => by
  simp [detsA] at h; subst h
  exact ⟨⟨s'.tmps, s'.H⟩, rfl, hk s (List.mem_singleton_self _) s' ha⟩
 | o :: os, s, s', outs, K, h, ha, hk => by
  unfold detsA at h
  split at h
  ·rename_i l h1
   have := detA_sound (K := fun t => ∃ s1, execOps R lim os ⟨t.tmps, t.H⟩ = some s1 ∧ K ⟨s1.tmps, s1.H, t.it⟩) h1 ha fun t ht t' hat => by
    obtain ⟨out, h2, h3⟩ := bindA_mem h t ht
    exact detsA_sound os h2 hat fun u hu u' hau => hk u (h3 u hu) u' hau
   obtain ⟨s1, e1, s2, e2, hk2⟩ := this
   exact ⟨s2, by simp only [execOps, e1]; exact e2, hk2⟩
  ·simp at h
theorem all_ren {args : List AVal} {r : Nat} (h : (args.all fun v => !isItr v) = true) : args.map (ren r) = args := by
 rw [List.map_congr_left (g := id)]
 ·simp
 ·intro v hv
  exact ren_id (by simpa using List.all_eq_true.1 h v hv)
theorem evs_ren {T : List AVal} {r : Nat} {args : List Opd} (h : (args.map (St.ev T)).all (fun v => !isItr v) = true) : args.map (St.ev (T.map (ren r))) = args.map (St.ev T) :=
 List.map_congr_left fun x hx => ev_ren (by simpa using List.all_eq_true.1 h _ (List.mem_map_of_mem hx))
theorem callA_sound (hR : SoundA RA RP) {o : AOper} {f : FuncId} {args args' : List AVal} {s s' : PSt} {outs : List PSt} {K : PSt → Prop} (h : callA RA lim o f args s = some outs) (hargs : args.all (fun v => !isItr v) = true → args' = args) (ha : Alike s s') (hk : ∀ t ∈ outs, ∀ t', Alike t t' → K t') : callP RP lim0 lim o f args' s' K := by
 obtain ⟨T', H', it'⟩ := s'
 obtain ⟨hH, r, hT, hit⟩ := ha
 simp only at hH hT
 subst hH hT
 unfold callA at h
 split at h
 ·rename_i hc
  simp only [Bool.and_eq_true, Option.isNone_iff_eq_none] at hc
  obtain ⟨⟨hg, hs⟩, hargs0⟩ := hc
  split at h
  ·rename_i l h1
   split at h
   ·rename_i hl
    simp at h; subst h
    rw [hs] at hit
    have hit' : it' = none := by cases it' with | none => rfl | some _ => exact hit.elim
    subst hit'
    rw [hargs hargs0]
    refine ⟨hg, rfl, hR _ _ _ _ _ _ h1 _ fun p hp => ?_⟩
    refine hk _ (List.mem_map.2 ⟨p, hp, rfl⟩) _ ⟨rfl, r, ?_, trivial⟩
    have : isItr p.1 = false := by simpa using List.all_eq_true.1 hl p hp
    exact (putT_ren fun _ => this).symm
   ·simp at h
  ·simp at h
 ·simp at h
theorem isItr_inv {v : AVal} (h : isItr v = true) : ∃ r, v = .itr r := by
 cases v <;> simp [isItr] at h
 exact ⟨_, rfl⟩
theorem ev_itr {T : List AVal} {r : Nat} {x : Opd} {q : Nat} (hx : ∃ t, x = .tmp t) (h : St.ev T x = .itr q) : St.ev (T.map (ren r)) x = .itr r := by
 obtain ⟨t, rfl⟩ := hx
 simp only [St.ev, map_getD] at *
 rw [h]; rfl
theorem opA_sound (hR : SoundA RA RP) {o : AOper} {s s' : PSt} {outs : List PSt} {K : PSt → Prop} (h : opA dr R RA lim o s = some outs) (ha : Alike s s') (hk : ∀ t ∈ outs, ∀ t', Alike t t' → K t') : opP R RP lim0 lim o s' K := by
 have hdet : detA R lim o s = some outs → detP R lim o s' K := fun h => detA_sound h ha hk
 have ha0 := ha
 obtain ⟨T', H', it'⟩ := s'
 obtain ⟨hH, r, hT, hit⟩ := ha
 simp only at hH hT
 subst hH hT
 unfold opA at h
 unfold opP
 split at h
 ·-- a range begins
  rename_i x hop
  simp only [hop]
  split at h
  ·rename_i hc
   simp only [Bool.and_eq_true, Option.isNone_iff_eq_none] at hc
   obtain ⟨⟨hg, hs⟩, hT⟩ := hc
   rw [hs] at hit
   have hit' : it' = none := by cases it' with | none => rfl | some _ => exact hit.elim
   subst hit'
   rw [all_ren hT]
   refine ⟨hg, rfl, ?_⟩
   have put : ∀ q, (putT s.tmps o.dst (.itr 0)).map (ren q) = putT s.tmps o.dst (.itr q) := by
    intro q
    cases o.dst with
    | none => exact all_ren hT
    | some d => simp only [putT, List.map_set, all_ren hT]; rfl
   split at h
   ·rename_i hm
    simp at h; subst h
    simp only [hm]
    exact fun q => hk _ (List.mem_singleton_self _) _ ⟨rfl, q, (put q).symm, rfl, rfl, .refl _, rfl⟩
   ·rename_i b hm
    simp only [hm]
    split at h
    ·rename_i es clock hb
     split at h
     ·rename_i hl
      simp at h; subst h
      exact ⟨es, clock, hb, hl, fun q => hk _ (List.mem_singleton_self _) _ ⟨rfl, q, (put q).symm, rfl, rfl, .refl _, rfl⟩⟩
     ·simp at h
    ·simp at h
   ·simp at h
  ·simp at h
 ·-- the next one
  rename_i x hop
  simp only [hop]
  split at h
  ·rename_i hc
   simp only [Bool.and_eq_true, Option.isNone_iff_eq_none] at hc
   obtain ⟨⟨hg, hx⟩, htmp⟩ := hc
   obtain ⟨q, hq⟩ := isItr_inv hx
   have htmp' : ∃ t, x = .tmp t := by cases x with | val v => simp [Opd.isTmp] at htmp | tmp t => exact ⟨t, rfl⟩
   split at h
   ·rename_i it hs
    rw [hs] at hit
    cases it' with
    | none => exact hit.elim
    | some b =>
     obtain ⟨hr, hm, hl, hcur⟩ := hit
     refine ⟨hg, b, rfl, by rw [ev_itr htmp' hq, hr], ?_, ?_⟩
     ·intro hb
      rw [hb] at hl
      have hnil : it.left = [] := List.Perm.eq_nil hl
      rw [hnil] at h
      simp at h; subst h
      exact hk _ (List.mem_singleton_self _) _ ⟨rfl, r, (putT_ren fun _ => rfl).symm, hr, hm, by rw [hnil, hb], hcur⟩
     ·intro k v rest hb
      have hmem : (k, v) ∈ it.left := (hl.trans hb).mem_iff.2 (by simp)
      obtain ⟨rest', h1, h2⟩ := picks_mem hmem
      have h' : outs = (picks it.left).map fun p => ⟨putT s.tmps o.dst (.tup [.bool true, p.1.1, p.1.2]), s.H, some { it with left := p.2, cur := some p.1 }⟩ := by
       cases hleft : it.left with
       | nil => rw [hleft] at hmem; simp at hmem
       | cons e es => rw [hleft] at h; simp at h; exact h.symm
      subst h'
      refine hk _ (List.mem_map.2 ⟨((k, v), rest'), h1, rfl⟩) _ ⟨rfl, r, (putT_ren fun _ => rfl).symm, hr, hm, ?_, rfl⟩
      exact List.Perm.cons_inv (h2.symm.trans (hl.trans hb))
   ·simp at h
  ·simp at h
 ·-- what came last
  rename_i x hop
  simp only [hop]
  split at h
  ·rename_i hc
   simp only [Bool.and_eq_true, Option.isNone_iff_eq_none] at hc
   obtain ⟨⟨hg, hx⟩, htmp⟩ := hc
   obtain ⟨q, hq⟩ := isItr_inv hx
   have htmp' : ∃ t, x = .tmp t := by cases x with | val v => simp [Opd.isTmp] at htmp | tmp t => exact ⟨t, rfl⟩
   split at h
   ·rename_i it hs
    rw [hs] at hit
    cases it' with
    | none => exact hit.elim
    | some b =>
     obtain ⟨hr, hm, hl, hcur⟩ := hit
     split at h
     ·rename_i k v hc
      simp at h; subst h
      refine ⟨hg, b, k, v, rfl, by rw [ev_itr htmp' hq, hr], by rw [hcur, hc], ?_⟩
      refine hk _ (List.mem_singleton_self _) _ ⟨rfl, r, (putT_ren fun _ => rfl).symm, ?_⟩
      rw [hs]; exact ⟨hr, hm, hl, hcur⟩
     ·simp at h
   ·simp at h
  ·simp at h
 ·-- a call
  rename_i f args hop
  simp only [hop]
  split at h
  ·exact .inr (callA_sound hR h (fun hc => evs_ren hc) ha0 hk)
  ·exact .inl (hdet h)
 ·-- a call of a value
  rename_i x args hop
  simp only [hop]
  split at h
  ·rename_i f first captured hx
   split at h
   ·refine .inr ?_
    have hx' : St.ev (s.tmps.map (ren r)) x = .fn f first captured := by rw [ev_ren (by rw [hx]; rfl)]; exact hx
    rw [hx']
    refine callA_sound hR h (fun hc => ?_) ha0 hk
    simp only [List.all_append, Bool.and_eq_true] at hc
    rw [evs_ren hc.1.2]
   ·exact .inl (hdet h)
  ·exact .inl (hdet h)
 ·rename_i g ls m k hop
  simp only [hop]
  exact .inl (hdet h)
 ·split
  all_goals first | exact hdet h | (exfalso; simp_all; done) | (rename_i e; exact .inl (hdet h))
theorem opsA_sound (hR : SoundA RA RP) : ∀ (os : List AOper) {s s' : PSt} {outs : List PSt} {K : PSt → Prop}, opsA dr R RA lim os s = some outs → Alike s s' → (∀ t ∈ outs, ∀ t', Alike t t' → K t') → opsP R RP lim0 lim os s' K
 | [], s, s', outs, K, h, ha, hk => by
  simp [opsA] at h; subst h
  exact hk s (by simp) s' ha
 | o :: os, s, s', outs, K, h, ha, hk => by
  unfold opsA at h
  split at h
  ·rename_i l h1
   refine opA_sound hR h1 ha fun t ht t' hat => ?_
   obtain ⟨out, h2, h3⟩ := bindA_mem h t ht
   exact opsA_sound hR os h2 hat fun u hu u' hau => hk u (h3 u hu) u' hau
  ·simp at h
theorem loopA_sound {body : PSt → Option (List (Ex × PSt))} {bodyP : PSt → KP → Prop} (hb : ∀ {s s' outs} {K : KP}, body s = some outs → Alike s s' → (∀ t ∈ outs, ∀ t', Alike t.2 t' → K t.1 t') → bodyP s' K) : ∀ (m : Nat) {s s' : PSt} {outs : List (Ex × PSt)} {K : KP},
  loopA body m s = some outs → Alike s s' → (∀ t ∈ outs, ∀ t', Alike t.2 t' → K t.1 t') → loopP bodyP m s' K
 | 0, s, s', outs, K, h, _, _ => by simp [loopA] at h
 | m + 1, s, s', outs, K, h, ha, hk => by
  unfold loopA at h
  split at h
  ·rename_i l h1
   unfold loopP
   refine hb h1 ha fun t ht t' hat => ?_
   obtain ⟨out, h2, h3⟩ := bindA_mem h t ht
   obtain ⟨ex, t⟩ := t
   cases ex with
   | norm => exact loopA_sound hb m h2 hat fun u hu u' hau => hk u (h3 u hu) u' hau
   | exit id => simp at h2; subst h2; exact hk _ (h3 _ (List.mem_singleton_self _)) t' hat
   | ret => simp at h2; subst h2; exact hk _ (h3 _ (List.mem_singleton_self _)) t' hat
  ·simp at h
theorem execA_sound (hR : SoundA RA RP) (n : Nat) : ∀ (c : ACode) {s s' : PSt} {outs : List (Ex × PSt)} {K : KP}, execA dr R RA lim n c s = some outs → Alike s s' → (∀ t ∈ outs, ∀ t', Alike t.2 t' → K t.1 t') → execP R RP lim0 lim n c s' K
 | .skip, s, s', outs, K, h, ha, hk => by
  simp [execA] at h; subst h
  exact hk _ (List.mem_singleton_self _) s' ha
 | .region ops, s, s', outs, K, h, ha, hk => by
  simp only [execA, Option.map_eq_some_iff] at h
  obtain ⟨l, h1, rfl⟩ := h
  split at h1
  ·exact .inl (detsA_sound ops h1 ha fun t ht t' hat => hk _ (List.mem_map.2 ⟨t, ht, rfl⟩) t' hat)
  ·rename_i hh
   exact .inr ⟨by simpa using hh, opsA_sound hR ops h1 ha fun t ht t' hat => hk _ (List.mem_map.2 ⟨t, ht, rfl⟩) t' hat⟩
 | .seq a b, s, s', outs, K, h, ha, hk => by
  unfold execA at h
  split at h
  ·rename_i l h1
   refine execA_sound hR n a h1 ha fun t ht t' hat => ?_
   obtain ⟨out, h2, h3⟩ := bindA_mem h t ht
   obtain ⟨ex, t⟩ := t
   cases ex with
   | norm => exact execA_sound hR n b h2 hat fun u hu u' hau => hk u (h3 u hu) u' hau
   | exit id => simp at h2; subst h2; exact hk _ (h3 _ (List.mem_singleton_self _)) t' hat
   | ret => simp at h2; subst h2; exact hk _ (h3 _ (List.mem_singleton_self _)) t' hat
  ·simp at h
 | .cond c a b, s, s', outs, K, h, ha, hk => by
  have ha0 := ha
  obtain ⟨T', H', it'⟩ := s'
  obtain ⟨hH, r, hT, hit⟩ := ha
  simp only at hH hT
  subst hH hT
  unfold execA at h
  split at h
  ·rename_i t hc
   refine ⟨t, by rw [ev_ren (by rw [hc]; rfl)]; exact hc, fun e => ?_, fun e => ?_⟩
   ·subst e; exact execA_sound hR n a h ha0 hk
   ·subst e; exact execA_sound hR n b h ha0 hk
  ·simp at h
 | .block id body, s, s', outs, K, h, ha, hk => by
  unfold execA at h
  split at h
  ·rename_i l h1
   simp at h; subst h
   refine execA_sound hR n body h1 ha fun t ht t' hat => ?_
   have := hk _ (List.mem_map.2 ⟨t, ht, rfl⟩)
   obtain ⟨ex, t⟩ := t
   cases ex with
   | norm => exact this t' hat
   | ret => exact this t' hat
   | exit i =>
    simp only at this ⊢
    by_cases e : i = id
    ·rw [if_pos e] at this ⊢; exact this t' hat
    ·rw [if_neg e] at this ⊢; exact this t' hat
  ·simp at h
 | .loop body, s, s', outs, K, h, ha, hk => loopA_sound (fun h ha hk => execA_sound hR n body h ha hk) n h ha hk
 | .exit id, s, s', outs, K, h, ha, hk => by
  simp [execA] at h; subst h
  exact hk _ (List.mem_singleton_self _) s' ha
 | .ret, s, s', outs, K, h, ha, hk => by
  simp [execA] at h; subst h
  exact hk _ (List.mem_singleton_self _) s' ha
 | .ranges g ps asg body, s, s', outs, K, h, ha, hk => by
  obtain ⟨T', H', it'⟩ := s'
  obtain ⟨hH, r, hT, hit⟩ := ha
  simp only at hH hT
  subst hH hT
  unfold execA at h
  split at h
  ·rename_i hc
   simp only [Bool.and_eq_true, Option.isNone_iff_eq_none] at hc
   obtain ⟨⟨⟨p1, p2⟩, hs⟩, hcl⟩ := hc
   rw [hs] at hit
   have hit' : it' = none := by cases it' with | none => rfl | some _ => exact hit.elim
   subst hit'
   rw [all_ren hcl]
   refine ⟨by simp [p1, p2], rfl, ?_⟩
   split at h
   ·rename_i f first captured hg
    simp only [hg]
    split at h
    ·rename_i l h1
     refine hR _ _ _ _ _ _ h1 _ fun p hp => ?_
     obtain ⟨out, h2, h3⟩ := bindA_mem h p hp
     have al : ∀ H2 : Heap, Alike ⟨s.tmps, H2, none⟩ ⟨s.tmps, H2, none⟩ := fun H2 => ⟨rfl, 0, (all_ren hcl).symm, trivial⟩
     split at h2
     ·rename_i e
      simp at h2; subst h2
      simp only [e]
      exact hk _ (h3 _ (List.mem_singleton_self _)) _ (al _)
     ·rename_i e
      simp at h2; subst h2
      simp only [e]
      exact hk _ (h3 _ (List.mem_singleton_self _)) _ (al _)
     ·simp at h2
    ·simp at h
   ·simp at h
  ·simp at h
theorem res_ren {s : PSt} {r : Nat} {x : ARes} (h : resClean s x = true) : resOf ⟨s.tmps.map (ren r), s.H⟩ x = resOf ⟨s.tmps, s.H⟩ x := by
 cases x with
 | tmp t =>
  simp only [resClean, Bool.not_eq_true'] at h
  simp only [resOf, map_getD, ren_id h]
 | cell t g =>
  simp only [resClean, Bool.not_eq_true'] at h
  simp only [resOf, map_getD, ren_id h]
theorem leave_ren {s : PSt} {r : Nat} {af : AFunc} (h : af.results.all (resClean s) = true) : leaveF af ⟨s.tmps.map (ren r), s.H⟩ = leaveF af ⟨s.tmps, s.H⟩ := by
 have : ∀ rs : List ARes, rs.all (resClean s) = true → resAll ⟨s.tmps.map (ren r), s.H⟩ rs = resAll ⟨s.tmps, s.H⟩ rs := by
  intro rs
  induction rs with
  | nil => intro _; rfl
  | cons x rs ih =>
   intro h
   simp only [List.all_cons, Bool.and_eq_true] at h
   simp only [resAll, res_ren h.1, ih h.2]
 unfold leaveF
 rw [this _ h]
theorem funA_sound (hR : SoundA RA RP) {af : AFunc} {args : List AVal} {H : Heap} {outs : List (AVal × Heap)} {K : AVal → Heap → Prop} (h : funA dr R RA lim n af args H = some outs) (hk : ∀ p ∈ outs, K p.1 p.2) : funP R RP lim0 lim n af args H K := by
 unfold funA at h
 split at h
 ·rename_i hargs
  split at h
  ·rename_i l h1
   have hcl : ((enterF af args).all fun v => !isItr v) = true := by
    unfold enterF
    rw [List.all_append, hargs]
    simp [isItr]
   refine execA_sound hR n af.body h1 ⟨rfl, 0, (all_ren hcl).symm, trivial⟩ fun t ht t' hat => ?_
   obtain ⟨out, h2, h3⟩ := bindA_mem h t ht
   obtain ⟨ex, t⟩ := t
   obtain ⟨T', H', it'⟩ := t'
   obtain ⟨hH, r, hT, _⟩ := hat
   simp only at hH hT
   subst hH hT
   have fin : (if af.results.all (resClean t) then (leaveF af ⟨t.tmps, t.H⟩).map fun r => [r] else none) = some out → ∃ v, leaveF af ⟨t.tmps.map (ren r), t.H⟩ = some (v, t.H) ∧ K v t.H := by
    intro h2
    split at h2
    ·rename_i hc
     rw [Option.map_eq_some_iff] at h2
     obtain ⟨⟨v, H2⟩, q1, q2⟩ := h2
     subst q2
     have hH2 : H2 = t.H := by
      unfold leaveF at q1
      rw [Option.map_eq_some_iff] at q1
      obtain ⟨_, _, q⟩ := q1
      simp at q; exact q.2.symm
     subst hH2
     rw [leave_ren hc]
     exact ⟨v, q1, hk _ (h3 _ (List.mem_singleton_self _))⟩
    ·simp at h2
   cases ex with
   | exit id => simp at h2
   | norm => exact ⟨fun id e => by simp at e, fin h2⟩
   | ret => exact ⟨fun id e => by simp at e, fin h2⟩
  ·simp at h
 ·simp at h
end
theorem runA_sound (ap : FuncId → Option AFn) (dp : FuncId → Option AFunc) : ∀ n, SoundA (runA ap dp n) (runP ap dp n)
 | 0 => fun lim0 lim tg args H outs h => by simp [runA] at h
 | n + 1 => fun lim0 lim tg args H outs h K hk => by
  have det : (runT ap (n + 1) lim tg args H).map (fun p => [p]) = some outs → runP ap dp (n + 1) lim0 lim tg args H K := by
   intro h
   rw [Option.map_eq_some_iff] at h
   obtain ⟨p, h1, h2⟩ := h
   subst h2
   exact .inl ⟨p.1, p.2, h1, hk _ (List.mem_singleton_self _)⟩
  cases tg with
  | yl b => exact det h
  | fn f =>
   unfold runA at h
   split at h
   ·rename_i af haf
    exact .inr ⟨f, af, rfl, haf, funA_sound (runA_sound ap dp n) h hk⟩
   ·exact det h
def KeepsA (RA : CallerA) : Prop := ∀ lim tg args H outs, lim ≤ H.next → RA lim tg args H = some outs → ∀ p ∈ outs, H.next ≤ p.2.next ∧ ∀ b, b < lim → p.2.get b = H.get b
def KeepS (lim : Nat) (H : Heap) (s : PSt) : Prop := H.next ≤ s.H.next ∧ ∀ b, b < lim → s.H.get b = H.get b
section
variable {dr : FuncId → Bool} {R : Caller} {RA : CallerA} {lim n : Nat}
theorem KeepS.refl (H : Heap) {s : PSt} (h : s.H = H) : KeepS lim H s := ⟨by rw [h]; exact Nat.le_refl _, fun b _ => by rw [h]⟩
theorem KeepS.trans {H : Heap} {s t : PSt} (h : KeepS lim H s) (h' : KeepS lim s.H t) : KeepS lim H t := ⟨Nat.le_trans h.1 h'.1, fun b hb => (h'.2 b hb).trans (h.2 b hb)⟩
theorem detA_keep (hRk : Keeps R) {o : AOper} {s : PSt} {outs : List PSt} (hl : lim ≤ s.H.next) (h : detA R lim o s = some outs) : ∀ t ∈ outs, KeepS lim s.H t := by
 intro t ht
 unfold detA at h
 split at h
 ·split at h
  ·rename_i s1 h1
   split at h
   ·simp at h; subst h
    simp at ht; subst ht
    obtain ⟨v, hs, _⟩ := execOp_inv h1
    have hk := hs.keep hRk hl
    exact ⟨hk.1, fun b hb => hk.2 b (by unfold effLim; split <;> (try dsimp only) <;> omega)⟩
   ·simp at h
  ·simp at h
 ·simp at h
theorem detsA_keep (hRk : Keeps R) : ∀ (os : List AOper) {s : PSt} {outs : List PSt}, lim ≤ s.H.next → detsA R lim os s = some outs → ∀ t ∈ outs, KeepS lim s.H t
 | [], s, outs, _, h => by
  simp [detsA] at h; subst h
  intro t ht; simp at ht; subst ht; exact .refl _ rfl
 | o :: os, s, outs, hl, h => by
  unfold detsA at h
  split at h
  ·rename_i l h1
   intro t ht
   obtain ⟨x, hx, out, h2, h3⟩ := bindA_back h t ht
   have k1 := detA_keep hRk hl h1 x hx
   exact k1.trans (detsA_keep hRk os (Nat.le_trans hl k1.1) h2 t h3)
  ·simp at h
theorem callA_keep (hRA : KeepsA RA) {o : AOper} {f : FuncId} {args : List AVal} {s : PSt} {outs : List PSt} (hl : lim ≤ s.H.next) (h : callA RA lim o f args s = some outs) : ∀ t ∈ outs, KeepS lim s.H t := by
 intro t ht
 unfold callA at h
 split at h
 ·split at h
  ·rename_i l h1
   split at h
   ·simp at h; subst h
    obtain ⟨p, hp, rfl⟩ := List.mem_map.1 ht
    exact hRA _ _ _ _ _ hl h1 p hp
   ·simp at h
  ·simp at h
 ·simp at h
theorem opA_keep (hRk : Keeps R) (hRA : KeepsA RA) {o : AOper} {s : PSt} {outs : List PSt} (hl : lim ≤ s.H.next) (h : opA dr R RA lim o s = some outs) : ∀ t ∈ outs, KeepS lim s.H t := by
 have one : ∀ {x : PSt}, outs = [x] → x.H = s.H → ∀ t ∈ outs, KeepS lim s.H t := by
  intro x e hx t ht
  subst e; simp at ht; subst ht
  exact .refl _ hx
 unfold opA at h
 split at h
 ·split at h
  ·split at h
   ·simp at h; exact one h.symm rfl
   ·split at h
    ·split at h
     ·simp at h; exact one h.symm rfl
     ·simp at h
    ·simp at h
   ·simp at h
  ·simp at h
 ·split at h
  ·split at h
   ·split at h
    ·simp at h; exact one h.symm rfl
    ·simp at h; subst h
     intro t ht
     obtain ⟨p, _, rfl⟩ := List.mem_map.1 ht
     exact .refl _ rfl
   ·simp at h
  ·simp at h
 ·split at h
  ·split at h
   ·split at h
    ·simp at h; exact one h.symm rfl
    ·simp at h
   ·simp at h
  ·simp at h
 ·split at h
  ·exact callA_keep hRA hl h
  ·exact detA_keep hRk hl h
 ·split at h
  ·split at h
   ·exact callA_keep hRA hl h
   ·exact detA_keep hRk hl h
  ·exact detA_keep hRk hl h
 ·exact detA_keep hRk hl h
 ·exact detA_keep hRk hl h
theorem opsA_keep (hRk : Keeps R) (hRA : KeepsA RA) : ∀ (os : List AOper) {s : PSt} {outs : List PSt}, lim ≤ s.H.next → opsA dr R RA lim os s = some outs → ∀ t ∈ outs, KeepS lim s.H t
 | [], s, outs, _, h => by
  simp [opsA] at h; subst h
  intro t ht; simp at ht; subst ht; exact .refl _ rfl
 | o :: os, s, outs, hl, h => by
  unfold opsA at h
  split at h
  ·rename_i l h1
   intro t ht
   obtain ⟨x, hx, out, h2, h3⟩ := bindA_back h t ht
   have k1 := opA_keep hRk hRA hl h1 x hx
   exact k1.trans (opsA_keep hRk hRA os (Nat.le_trans hl k1.1) h2 t h3)
  ·simp at h
theorem loopA_keep {body : PSt → Option (List (Ex × PSt))} (hb : ∀ {s outs}, lim ≤ s.H.next → body s = some outs → ∀ t ∈ outs, KeepS lim s.H t.2) : ∀ (m : Nat) {s : PSt} {outs : List (Ex × PSt)}, lim ≤ s.H.next → loopA body m s = some outs → ∀ t ∈ outs, KeepS lim s.H t.2
 | 0, s, outs, _, h => by simp [loopA] at h
 | m + 1, s, outs, hl, h => by
  unfold loopA at h
  split at h
  ·rename_i l h1
   intro t ht
   obtain ⟨⟨ex, x⟩, hx, out, h2, h3⟩ := bindA_back h t ht
   have k1 := hb hl h1 _ hx
   cases ex with
   | norm => exact k1.trans (loopA_keep hb m (Nat.le_trans hl k1.1) h2 t h3)
   | exit id => simp at h2; subst h2; simp at h3; subst h3; exact k1
   | ret => simp at h2; subst h2; simp at h3; subst h3; exact k1
  ·simp at h
theorem execA_keep (hRk : Keeps R) (hRA : KeepsA RA) (n : Nat) : ∀ (c : ACode) {s : PSt} {outs : List (Ex × PSt)}, lim ≤ s.H.next → execA dr R RA lim n c s = some outs → ∀ t ∈ outs, KeepS lim s.H t.2
 | .skip, s, outs, _, h => by
  simp [execA] at h; subst h
  intro t ht; simp at ht; subst ht; exact .refl _ rfl
 | .exit id, s, outs, _, h => by
  simp [execA] at h; subst h
  intro t ht; simp at ht; subst ht; exact .refl _ rfl
 | .ret, s, outs, _, h => by
  simp [execA] at h; subst h
  intro t ht; simp at ht; subst ht; exact .refl _ rfl
 | .region ops, s, outs, hl, h => by
  simp only [execA, Option.map_eq_some_iff] at h
  obtain ⟨l, h1, rfl⟩ := h
  intro t ht
  obtain ⟨x, hx, rfl⟩ := List.mem_map.1 ht
  split at h1
  ·exact detsA_keep hRk ops hl h1 x hx
  ·exact opsA_keep hRk hRA ops hl h1 x hx
 | .seq a b, s, outs, hl, h => by
  unfold execA at h
  split at h
  ·rename_i l h1
   intro t ht
   obtain ⟨⟨ex, x⟩, hx, out, h2, h3⟩ := bindA_back h t ht
   have k1 := execA_keep hRk hRA n a hl h1 _ hx
   cases ex with
   | norm => exact k1.trans (execA_keep hRk hRA n b (Nat.le_trans hl k1.1) h2 t h3)
   | exit id => simp at h2; subst h2; simp at h3; subst h3; exact k1
   | ret => simp at h2; subst h2; simp at h3; subst h3; exact k1
  ·simp at h
 | .cond c a b, s, outs, hl, h => by
  unfold execA at h
  split at h
  ·split at h
   ·exact execA_keep hRk hRA n a hl h
   ·exact execA_keep hRk hRA n b hl h
  ·simp at h
 | .block id body, s, outs, hl, h => by
  unfold execA at h
  split at h
  ·rename_i l h1
   simp at h; subst h
   intro t ht
   obtain ⟨⟨ex, x⟩, hx, rfl⟩ := List.mem_map.1 ht
   have k1 := execA_keep hRk hRA n body hl h1 _ hx
   cases ex with
   | norm => exact k1
   | ret => exact k1
   | exit i =>
    simp only
    split <;> exact k1
  ·simp at h
 | .loop body, s, outs, hl, h => loopA_keep (fun hl h => execA_keep hRk hRA n body hl h) n hl h
 | .ranges g ps asg body, s, outs, hl, h => by
  unfold execA at h
  split at h
  ·split at h
   ·split at h
    ·rename_i l h1
     intro t ht
     obtain ⟨p, hp, out, h2, h3⟩ := bindA_back h t ht
     obtain ⟨k1, k2⟩ := hRA _ _ _ _ _ (by rw [Heap.next_push]; omega) h1 p hp
     rw [Heap.next_push] at k1
     have fin : KeepS lim s.H ⟨s.tmps, p.2.set s.H.next .dead, none⟩ := by
      refine ⟨by show s.H.next ≤ (p.2.set s.H.next .dead).next; rw [Heap.next_set]; omega, fun b hb => ?_⟩
      show (p.2.set s.H.next .dead).get b = _
      rw [Heap.get_set_other _ _ _ _ (by omega), k2 b hb, Heap.get_push_old _ _ _ (by omega)]
     split at h2
     ·simp at h2; subst h2; simp at h3; subst h3; exact fin
     ·simp at h2; subst h2; simp at h3; subst h3; exact fin
     ·simp at h2
    ·simp at h
   ·simp at h
  ·simp at h
theorem funA_keep (hRk : Keeps R) (hRA : KeepsA RA) {af : AFunc} {args : List AVal} {H : Heap} {outs : List (AVal × Heap)} (hl : lim ≤ H.next) (h : funA dr R RA lim n af args H = some outs) : ∀ p ∈ outs, H.next ≤ p.2.next ∧ ∀ b, b < lim → p.2.get b = H.get b := by
 intro p hp
 unfold funA at h
 split at h
 ·split at h
  ·rename_i l h1
   obtain ⟨⟨ex, s⟩, hx, out, h2, h3⟩ := bindA_back h p hp
   have k1 := execA_keep hRk hRA n af.body hl h1 _ hx
   have fin : (if af.results.all (resClean s) then (leaveF af ⟨s.tmps, s.H⟩).map fun r => [r] else none) = some out → H.next ≤ p.2.next ∧ ∀ b, b < lim → p.2.get b = H.get b := by
    intro h2
    split at h2
    ·rw [Option.map_eq_some_iff] at h2
     obtain ⟨q, q1, q2⟩ := h2
     subst q2
     simp at h3; subst h3
     unfold leaveF at q1
     rw [Option.map_eq_some_iff] at q1
     obtain ⟨_, _, q⟩ := q1
     subst q
     exact k1
    ·simp at h2
   cases ex with
   | exit id => simp at h2
   | norm => exact fin h2
   | ret => exact fin h2
  ·simp at h
 ·simp at h
theorem runA_keep {P : Program} {ap : FuncId → Option AFn} (hap : ∀ f af, ap f = some af → FnOK P f af) (dp : FuncId → Option AFunc) : ∀ n, KeepsA (runA ap dp n)
 | 0 => fun lim tg args H outs hl h => by simp [runA] at h
 | n + 1 => fun lim tg args H outs hl h p hp => by
  have det : (runT ap (n + 1) lim tg args H).map (fun p => [p]) = some outs → H.next ≤ p.2.next ∧ ∀ b, b < lim → p.2.get b = H.get b := by
   intro h
   rw [Option.map_eq_some_iff] at h
   obtain ⟨q, h1, h2⟩ := h
   subst h2
   simp at hp; subst hp
   exact run_keeps hap (n + 1) _ _ _ _ _ _ hl h1
  cases tg with
  | yl b => exact det h
  | fn f =>
   unfold runA at h
   split at h
   ·rename_i af haf
    exact funA_keep (run_keeps hap n) (runA_keep hap dp n) hl h p hp
   ·exact det h
end
def eqV : AVal → AVal → Bool
 | .tup as, .tup bs => sameL as bs
 | .agg as, .agg bs => sameL as bs
 | a, b => sameV a b
def addAll (pick : Nat → Blk) : Nat → Heap → Heap
 | 0, H => H
 | k + 1, H => addAll pick k (H.push (pick H.next))
def maxNext : List (AVal × Heap) → Nat
 | [] => 0
 | p :: l => max p.2.next (maxNext l)
def pickB (H1 : Heap) (l : List (AVal × Heap)) (b : Nat) : Blk :=
 match H1.get b with
 | some (.cells cs) => if l.all fun p => sameB (some (.cells cs)) (p.2.get b) then .cells cs else .dead
 | _ => .dead
def joinA (H : Heap) : List (AVal × Heap) → Option (AVal × Heap)
 | [] => none
 | p :: l => if l.all fun q => eqV p.1 q.1 then
   let N := maxNext (p :: l)
   some (p.1, addAll (pickB p.2 (p :: l)) (N - H.next) H)
  else none
def primA (ap : FuncId → Option AFn) (dp : FuncId → Option AFunc) (n : Nat) (f : FuncId) : Nat → List AVal → Heap → Option (AVal × Heap) :=
 fun _ args H => match runA ap dp n H.next (.fn f) args H with
  | some l => joinA H l
  | none => none
theorem eqV_eq {a b : AVal} (h : eqV a b = true) : a = b := by
 unfold eqV at h
 split at h
 ·rw [sameL_eq h]
 ·rw [sameL_eq h]
 ·exact sameV_eq h
theorem addAll_next (pick : Nat → Blk) : ∀ (k : Nat) (H : Heap), (addAll pick k H).next = H.next + k
 | 0, H => rfl
 | k + 1, H => by
  unfold addAll
  rw [addAll_next pick k, Heap.next_push]; omega
theorem addAll_get (pick : Nat → Blk) (b : Nat) : ∀ (k : Nat) (H : Heap), (addAll pick k H).get b = if b < H.next then H.get b else if b < H.next + k then some (pick b) else none
 | 0, H => by
  unfold addAll
  by_cases h : b < H.next
  ·rw [if_pos h]
  ·rw [if_neg h, if_neg (by omega), Heap.get_ge _ _ (by omega)]
 | k + 1, H => by
  unfold addAll
  rw [addAll_get pick b k, Heap.next_push]
  by_cases h : b < H.next
  ·rw [if_pos (by omega), if_pos h, Heap.get_push_old _ _ _ (by omega)]
  ·rw [if_neg h]
   by_cases e : b = H.next
   ·subst e
    rw [if_pos (by omega), if_pos (by omega), Heap.get_push_new]
   ·rw [if_neg (by omega)]
    by_cases h2 : b < H.next + (k + 1)
    ·rw [if_pos (by omega), if_pos h2]
    ·rw [if_neg (by omega), if_neg h2]
theorem maxNext_le : ∀ {l : List (AVal × Heap)} {p : AVal × Heap}, p ∈ l → p.2.next ≤ maxNext l
 | [], _, h => by simp at h
 | q :: l, p, h => by
  simp only [List.mem_cons] at h
  unfold maxNext
  rcases h with rfl | h
  ·omega
  ·have := maxNext_le h
   omega
theorem joinA_ok {H : Heap} {l : List (AVal × Heap)} {v : AVal} {H' : Heap} (hkeep : ∀ p ∈ l, H.next ≤ p.2.next ∧ ∀ b, b < H.next → p.2.get b = H.get b) (h : joinA H l = some (v, H')) :
  (∀ b, b < H.next → H'.get b = H.get b) ∧ H.next ≤ H'.next ∧ ∀ p ∈ l, p.1 = v ∧ Forget H.next p.2 H' := by
 match l, h with
 | [], h => simp [joinA] at h
 | p0 :: l, h =>
  simp only [joinA] at h
  by_cases hall : l.all (fun q => eqV p0.1 q.1) = true
  case neg => rw [if_neg hall] at h; simp at h
  rw [if_pos hall] at h
  simp only [Option.some.injEq, Prod.mk.injEq] at h
  obtain ⟨rfl, rfl⟩ := h
  have hN : H.next ≤ maxNext (p0 :: l) := Nat.le_trans (hkeep p0 (by simp)).1 (maxNext_le (by simp))
  refine ⟨fun b hb => by rw [addAll_get, if_pos hb], by rw [addAll_next]; omega, fun p hp => ⟨?_, ?_, fun b => ?_⟩⟩
  ·simp only [List.mem_cons] at hp
   rcases hp with rfl | hp
   ·rfl
   ·exact (eqV_eq (List.all_eq_true.1 hall p hp)).symm
  ·rw [addAll_next]
   have := maxNext_le hp
   omega
  ·rw [addAll_get]
   by_cases hb : b < H.next
   ·rw [if_pos hb]
    exact .inl ((hkeep p hp).2 b hb).symm
   ·rw [if_neg hb]
    by_cases hb2 : b < H.next + (maxNext (p0 :: l) - H.next)
    ·rw [if_pos hb2]
     unfold pickB
     split
     ·rename_i cs hcs
      split
      ·rename_i hsame
       exact .inl (sameB_eq (List.all_eq_true.1 hsame p hp))
      ·exact .inr ⟨by omega, rfl⟩
     ·exact .inr ⟨by omega, rfl⟩
    ·rw [if_neg hb2]
     have := maxNext_le hp
     exact .inl (Heap.get_ge _ _ (by omega)).symm
theorem primA_ok {P : Program} {ap : FuncId → Option AFn} {dp : FuncId → Option AFunc} (hP : P.follows .mixedOrders = true) (hap : ∀ f af, ap f = some af → FnOK P f af) (hdp : DpOK P dp) (n : Nat) {f : FuncId} {af : AFunc} (hf : dp f = some af) : PrimOK P f (primA ap dp n f) := by
 have key : ∀ {args : List AVal} {H : Heap} {v : AVal} {H' : Heap} {lim : Nat}, primA ap dp n f lim args H = some (v, H') → ∃ l, runA ap dp n H.next (.fn f) args H = some l ∧ (∀ b, b < H.next → H'.get b = H.get b) ∧ H.next ≤ H'.next ∧ ∀ p ∈ l, p.1 = v ∧ Forget H.next p.2 H' := by
  intro args H v H' lim h
  unfold primA at h
  split at h
  case h_2 => simp at h
  rename_i l hl
  exact ⟨l, hl, joinA_ok (runA_keep hap dp n _ _ _ _ _ (Nat.le_refl _) hl) h⟩
 refine PrimOK.drawn hP hap hdp hf (fun lim args H v H' hl h => ?_) fun lim args H v H' hl h => ?_
 ·obtain ⟨l, _, h1, h2, _⟩ := key h
  exact ⟨h2, fun b hb => h1 b (by omega)⟩
 ·obtain ⟨l, h1, _, _, h3⟩ := key h
  exact ⟨n, runA_sound ap dp n lim H.next (.fn f) args H l h1 _ h3⟩
end Go.Ahs
