/- Parts of the proof. -/
import Derived.Test.YtfigbgjbaohglaaGreatDoorY5
import Derived.RangeFuncLeaves
import Derived.RangeFuncRecord
import Derived.Below
section
set_option linter.unusedSimpArgs false
set_option linter.unusedVariables false
set_option linter.unusedSectionVars false
namespace Go.au
variable [Gl]
def cnt (S:Nat→Bool):Nat→Nat
 | 0=>0
 | n+1=>cnt S n+(if S n then 0 else 1)
theorem JL (S:Nat→Bool) (k:Nat):∀n,n≤k→cnt (ins S k) n=cnt S n
 | 0,_=>rfl
 | n+1,h=>by
  simp only [cnt,JL S k n (by omega)]
  have:ins S k n=S n:=by unfold ins;rw [if_neg (by omega)]
  rw [this]
theorem JM (S:Nat→Bool) (k:Nat) (hk:S k=false):∀n,k <n→cnt (ins S k) n+1=cnt S n
 | 0,h=>by omega
 | n+1,h=>by
  simp only [cnt]
  by_cases e:k=n
  ·subst e
   rw [JL S k k (Nat.le_refl _),hk]
   have:ins S k k=true:=by simp [ins]
   simp [this]
  ·have:ins S k n=S n:=by unfold ins;rw [if_neg (by omega)]
   have ih:=JM S k hk n (by omega)
   rw [this];omega
theorem JN (S:Nat→Bool):∀n,cnt S n=0→ ∀i,i <n→S i=true
 | 0,_,i,h=>by omega
 | n+1,h,i,hi=>by
  simp only [cnt] at h
  by_cases e:i=n
  ·subst e
   cases hs:S i with
   | true=>rfl
   | false=>rw [hs] at h;simp at h
  ·exact JN S n (by omega) i (by omega)
theorem JO:∀n,cnt (fun _=>false) n=n
 | 0=>rfl
 | n+1=>by simp [cnt,JO n]
section
variable {P:Program} {n0 lim:Nat} {R:aq} {ops:Array Oper} {l0 l:List aY} {st:Nat→St} {vs:Nat→aa}
theorem mem_ready {listed:Array Bool} {i:Nat}:i∈Region.ready .any ops listed↔i <ops.size∧listed.getD i true=false∧ ∀(o:Oper) (e:Edge),ops[i]? =some o→e∈o.after→Region.binds .any e=true→listed.getD e.on false=true:=by
 unfold Region.ready
 rw [List.mem_filter,List.mem_range]
 constructor
 ·rintro ⟨h1,h2⟩
  simp only [Bool.and_eq_true,Bool.not_eq_true'] at h2
  refine ⟨h1,h2.1,fun o e ho he hb=> ?_⟩
  have h3:=h2.2
  rw [ho] at h3
  simp only [Option.map_some,Option.getD_some] at h3
  rw [Array.all_eq_true_iff_forall_mem] at h3
  have:=h3 e he
  simpa [hb] using this
 ·rintro ⟨h1,h2,h3⟩
  refine ⟨h1,?_⟩
  simp only [Bool.and_eq_true,Bool.not_eq_true']
  refine ⟨h2,?_⟩
  rw [Array.getElem?_eq_getElem h1]
  simp only [Option.map_some,Option.getD_some]
  rw [Array.all_eq_true_iff_forall_mem]
  intro e he
  cases hb:Region.binds .any e with
  | false=>simp
  | true=>simpa using h3 ops[i] e (by simp [h1]) he hb
theorem jd.any {F:Fence} {m:Nat} (hF:gY F) (h:jd P R lim ops l0 l st vs) (hl:n0≤lim) {j0:Mp} {a0:Act} {w0:World} (jt:∀b,(st 0).H.next≤b→b <(st ops.size).H.next→j0 b=none) {Q:Exit→Act→World→Prop}
  (hQ:∀ρ a w,az ρ (st ops.size).tmps a.tmps.toList→a.defers=a0.defers→Rel P n0 ρ (st ops.size).H w→Fr lim j0 (st 0).H.next (st ops.size).H.next w0 ρ w→Q .normal a w):
  ∀(fuel:Nat) (listed:Array Bool) (S:Nat→Bool) (ρ:Mp) (a:Act) (w:World),listed.size=ops.size→(∀i,i <ops.size→listed.getD i true=S i∧listed.getD i false=S i)→cnt S ops.size≤fuel→
   Inv P n0 lim ops l st vs j0 a0 w0 S ρ a w→wpAnyIn F m P .any ops Q fuel listed a w:=by
 have fin:∀(S:Nat→Bool) ρ a w,(∀i,i <ops.size→S i=true)→Inv P n0 lim ops l st vs j0 a0 w0 S ρ a w→Q .normal a w:=by
  intro S ρ a w hall I
  obtain ⟨q,hq,_,mo,X,hX⟩:=I.heap
  have:q=ops.size:=by
   rcases Nat.lt_or_ge q ops.size with g | g
   ·have:=(mo g).2;rw [hall q g] at this;simp at this
   ·omega
  subst this
  have bU:Rel P n0 ρ (st ops.size).H w:=hX.rel.sub fun b L x _ hx _=>by rw [hX.low b (ah.jm hx)];exact hx
  refine hQ ρ a w ?_ I.df bU I.fr
  have e:dY l vs (st 0).tmps S ops.size=(st ops.size).tmps:=by
   have full:∀n,n≤ops.size→dY l vs (st 0).tmps (fun _=>true) n=(st n).tmps:=by
    intro n
    induction n with
    | zero=>intro _;rfl
    | succ n ih=>
     intro hn
     obtain ⟨on,wh⟩:∃on,l[n]? =some on:=⟨l[n]'(by rw [h.ok.len];omega),List.getElem?_eq_getElem _⟩
     simp only [dY,if_true,wh]
     rw [ih (by omega),(h.one n on wh).2.1]
   rw [←full ops.size (Nat.le_refl _)]
   apply List.ext_getElem?
   intro t
   exact rT l vs (st 0).tmps t S (fun _=>true) ops.size fun j hj _ _ _=>hall j hj
  rw [←e];exact I.tm
 have empty:∀(listed:Array Bool) (S:Nat→Bool),(∀i,i <ops.size→listed.getD i true=S i∧listed.getD i false=S i)→Region.ready .any ops listed=[]→ ∀i,i <ops.size→S i=true:=by
  intro listed S hls hr i
  induction i using Nat.strongRecOn with
  | _ i ih=>
   intro hi
   cases hs:S i with
   | true=>rfl
   | false=>
    exfalso
    have:i∈Region.ready .any ops listed:=by
     rw [mem_ready]
     refine ⟨hi,by rw [(hls i hi).1];exact hs,fun o e ho he hb=> ?_⟩
     have hlt:=h.ok.Jy i o e ho he hb
     rw [(hls e.on (by omega)).2]
     exact ih e.on hlt (by omega)
    rw [hr] at this;simp at this
 intro fuel
 induction fuel with
 | zero=>
  intro listed S ρ a w hsz hls hc I
  have hall:=JN S ops.size (by omega)
  refine ⟨?_,fin S ρ a w hall I⟩
  apply List.eq_nil_iff_forall_not_mem.2
  intro i hi
  rw [mem_ready] at hi
  rw [(hls i hi.1).1,hall i hi.1] at hi
  simp at hi
 | succ fuel ih=>
  intro listed S ρ a w hsz hls hc I
  refine ⟨fun hr=>fin S ρ a w (empty listed S hls hr) I,?_⟩
  intro k hk
  rw [mem_ready] at hk
  obtain ⟨hk1,hk2,Dx⟩:=hk
  have hS:S k=false:=by rw [←(hls k hk1).1];exact hk2
  refine h.step hF hl jt I hk1 hS (fun o e ho he hb=> ?_) ?_
  ·have hlt:=h.ok.Jy k o e ho he hb
   rw [←(hls e.on (by omega)).2]
   exact Dx o e ho he hb
  ·intro ρ' a' w' I'
   refine ih (listed.setIfInBounds k true) (ins S k) ρ' a' w' (by simp [hsz]) (fun i hi=> ?_) ?_ I'
   ·simp only [Array.getD_eq_getD_getElem?,Array.getElem?_setIfInBounds]
    unfold ins
    by_cases e:k=i
    ·subst e;simp [hsz,hi]
    ·rw [if_neg e,if_neg (Ne.symm e)]
     have:=hls i hi
     simpa [Array.getD_eq_getD_getElem?] using this
   ·have:=JM S k hS ops.size hk1;omega
theorem Tz {F:Fence} {m:Nat} (hF:gY F) (hP:P.follows .mixedOrders=true) (hR:qw P R) (dr:nE R) (hl:n0≤lim) {id:Nat} {draw:Bool} {l:List aY} (hc:vC P ops draw=some l) {s s':St} (h:ep R lim l s=some s')
  {ρ:Mp} {a:Act} {w:World} (hlim:lim≤s.H.next) (hfr:∀b,s.H.next≤b→b <s'.H.next→ρ b=none) (hr:Rel P n0 ρ s.H w) (ht:az ρ s.tmps a.tmps.toList) {Q:Exit→Act→World→Prop}
  (hQ:∀ρ' a' w',Post P n0 lim ρ s.H w ρ' s'.H w'→az ρ' s'.tmps a'.tmps.toList→a'.defers=a.defers→Q .normal a' w'):(Code.region id ops draw).wpIn F m P Q a w:=by
 cases draw with
 | false=>
  have fm:fF (qa P ops) ops.toList=some l:=by
   unfold vC at hc
   split at hc
   ·rename_i l' hl'
    simp at hc;subst hc;exact hl'
   ·simp at hc
  refine wpIn_region ?_
  rw [List.range_eq_range']
  exact Jv hF hR dr hl fm ops.size 0 s s' ρ a w (by omega) (by simpa using h) hlim hfr hr ht hQ
 | true=>
  obtain ⟨l0,ok⟩:=zW.of hc
  obtain ⟨st,vs,e0,e1,hone⟩:=trace l s s' h
  rw [ok.len] at e1
  subst e0
  have hrun:jd P R lim ops l0 l st vs:=⟨ok,hone,dr,hR,hlim⟩
  refine wpIn_region_any hP ?_
  have hr':Rel P n0 ρ (st 0).H {w with drawn:=w.drawn+1}:=hr.heap_eq rfl
  have vV:∀b,(st 0).H.next≤b→b <(st ops.size).H.next→ρ b=none:=fun b g1 g2=>hfr b g1 (by rw [←e1];exact g2)
  refine hrun.any hF hl vV ?_ ops.size _ (fun _=>false) ρ a _ (by simp) (fun i hi=>by simp [Array.getD_eq_getD_getElem?,hi]) (by rw [JO];exact Nat.le_refl _) (hrun.start hr' ht vV)
  intro ρ' a' w' t1 t2 t3 t4
  have hk:=zS dr l (st 0) s' hlim h
  refine hQ ρ' a' w' ?_ (by rw [←e1];exact t1) t2
  rw [←e1] at hk ⊢
  exact ⟨t3,t4.ext,t4.new,t4.frame,t4.size,hk.2,hk.1,t4.rest⟩
def toExit:Ex→Exit
 | .norm=> .normal
 | .exit id=> .exit id
 | .ret=> .ret
theorem Dy {body:St→Option (Ex × St)} (hb:∀s ex s',lim≤s.H.next→body s=some (ex,s')→s.H.next≤s'.H.next∧ ∀b,b <lim→s'.H.get b=s.H.get b):
  ∀n s ex s',lim≤s.H.next→dy body n s=some (ex,s')→s.H.next≤s'.H.next∧ ∀b,b <lim→s'.H.get b=s.H.get b
 | 0,s,ex,s',_,h=>by simp [dy] at h
 | n+1,s,ex,s',hl,h=>by
  unfold dy at h
  split at h
  ·rename_i s1 h1
   obtain ⟨k1,k2⟩:=hb s _ s1 hl h1
   obtain ⟨r1,r2⟩:=Dy hb n s1 ex s' (by omega) h
   exact ⟨by omega,fun b hb'=>(r2 b hb').trans (k2 b hb')⟩
  ·exact hb s ex s' hl h
theorem jI (dr:nE R) (n:Nat):∀(c:aT) (s:St) (ex:Ex) (s':St),lim≤s.H.next→exec R lim n c s=some (ex,s')→s.H.next≤s'.H.next∧ ∀b,b <lim→s'.H.get b=s.H.get b
 | .skip,s,ex,s',_,h=>by simp [exec] at h;obtain ⟨rfl,rfl⟩:=h;exact ⟨Nat.le_refl _,fun _ _=>rfl⟩
 | .region ops,s,ex,s',hl,h=>by
  simp only [exec,Option.map_eq_some_iff] at h
  obtain ⟨s1,h1,h2⟩:=h
  simp at h2;obtain ⟨rfl,rfl⟩:=h2
  exact zS dr ops s s1 hl h1
 | .seq a b,s,ex,s',hl,h=>by
  simp only [exec] at h
  split at h
  ·rename_i s1 h1
   obtain ⟨k1,k2⟩:=jI dr n a s _ s1 hl h1
   obtain ⟨r1,r2⟩:=jI dr n b s1 ex s' (by omega) h
   exact ⟨by omega,fun x hx=>(r2 x hx).trans (k2 x hx)⟩
  ·exact jI dr n a s ex s' hl h
 | .cond c a b,s,ex,s',hl,h=>by
  simp only [exec] at h
  split at h
  ·split at h
   ·exact jI dr n a s ex s' hl h
   ·exact jI dr n b s ex s' hl h
  ·simp at h
 | .block id c,s,ex,s',hl,h=>by
  simp only [exec] at h
  split at h
  ·rename_i id' s1 h1
   have:=jI dr n c s _ s1 hl h1
   split at h <;>simp at h <;>obtain ⟨rfl,rfl⟩:=h <;>exact this
  ·exact jI dr n c s ex s' hl h
 | .loop c,s,ex,s',hl,h=>by
  simp only [exec] at h
  exact Dy (fun s ex s'=>jI dr n c s ex s') n s ex s' hl h
 | .exit id,s,ex,s',_,h=>by simp [exec] at h;obtain ⟨rfl,rfl⟩:=h;exact ⟨Nat.le_refl _,fun _ _=>rfl⟩
 | .ret,s,ex,s',_,h=>by simp [exec] at h;obtain ⟨rfl,rfl⟩:=h;exact ⟨Nat.le_refl _,fun _ _=>rfl⟩
 | .ranges g ps iX c,s,ex,s',hl,h=>by
  simp only [exec] at h
  split at h
  case isFalse=>simp at h
  split at h
  case h_2=>simp at h
  rename_i f first captured hg
  split at h
  case h_2=>simp at h
  rename_i v H' hc
  obtain ⟨k1,k2⟩:=dr _ _ _ _ _ _ (by rw [ah.bK];omega) hc
  rw [ah.bK] at k1
  have fin:s.H.next≤(H'.set s.H.next .dead).next∧ ∀b,b <lim→(H'.set s.H.next .dead).get b=s.H.get b:=
   ⟨by rw [ah.gh];omega,fun b hb=>by rw [ah.eD _ _ _ _ (by omega),k2 b hb,ah.gi _ _ _ (by omega)]⟩
  split at h
  ·simp at h;obtain ⟨rfl,rfl⟩:=h;exact fin
  ·simp at h;obtain ⟨rfl,rfl⟩:=h;exact fin
  ·simp at h
structure Marks (base:Nat) (ρ:Mp) (w:World) (ds:List Deferred):Prop where
 le:base≤w.heap.size
 each:∀d∈ds,∃r,d.target= .collected r∧base≤r∧w.heap[r]? =some (.deferred (some []))∧ ∀b L,ρ b=some L→L.blk≠r
 apart:ds.Pairwise fun d e=>d.target≠e.target
theorem tW {w:World} {r:Nat} {o:Obj} (h:w.heap[r]? =some o):r <w.heap.size:=(Array.getElem?_eq_some_iff.1 h).1
theorem Marks.post {base:Nat} {ρ ρ':Mp} {H H':ah} {w w':World} {ds:List Deferred} (h:Marks base ρ w ds) (hp:Post P n0 lim ρ H w ρ' H' w'):Marks base ρ' w' ds:=by
 refine ⟨Nat.le_trans h.le hp.size,fun d hd=> ?_,h.apart⟩
 obtain ⟨r,h1,h2,h3,h4⟩:=h.each d hd
 have hlt:=tW h3
 refine ⟨r,h1,h2,by rw [hp.frame r hlt fun b L _ _ e=>h4 b L e];exact h3,fun b L e=> ?_⟩
 cases hb:ρ b with
 | some L0=>
  have:=hp.ext b L0 hb
  rw [e] at this;simp at this;subst this
  exact h4 b L hb
 | none=>
  rcases (hp.new b L hb e).2.2 with q | ⟨b0,L0,_,_,q3,q4⟩
  ·omega
  ·rw [←q4];exact h4 b0 L0 q3
structure lF (base:Nat) (ρ:Mp) (w w':World):Prop where
 size:w'.heap.size=w.heap.size
 old:∀r,r <base→w'.heap[r]? =w.heap[r]?
 mine:∀b L,ρ b=some L→w'.heap[L.blk]? =w.heap[L.blk]?
 rest:iY w w'
theorem lF.refl {base:Nat} {ρ:Mp} {w:World}:lF base ρ w w:=⟨rfl,fun _ _=>rfl,fun _ _ _=>rfl,.refl w⟩
theorem lF.trans {base:Nat} {ρ:Mp} {w w1 w2:World} (h:lF base ρ w w1) (h':lF base ρ w1 w2):lF base ρ w w2:=
 ⟨h'.size.trans h.size,fun r e=>(h'.old r e).trans (h.old r e),fun b L e=>(h'.mine b L e).trans (h.mine b L e),h.rest.trans h'.rest⟩
theorem lF.rel {base:Nat} {ρ:Mp} {H:ah} {w w':World} (hr:Rel P n0 ρ H w) (h:lF base ρ w w'):Rel P n0 ρ H w':=
 ⟨fun b L cs e e'=>by
   obtain ⟨c,⟨t,fr,q1,q2,q3⟩,q4,q5⟩:=hr.row b L cs e e'
   exact ⟨c,⟨t,fr,by rw [h.mine b L e];exact q1,q2,q3⟩,q4,q5⟩,
  fun b L es cl e e'=>by obtain ⟨es',q1,q2⟩:=hr.map b L es cl e e';exact ⟨es',by rw [h.mine b L e];exact q1,q2⟩,
  fun b L r e e'=>by obtain ⟨r',q1,q2⟩:=hr.loop b L r e e';exact ⟨r',by rw [h.mine b L e];exact q1,q2⟩,
  fun b L e=>by rw [h.size];exact hr.dom b L e,hr.excl,hr.jY⟩
theorem lF.post {ρ ρ':Mp} {H H':ah} {w w1 w2:World} (h:lF w.heap.size ρ' w1 w2) (hp:Post P n0 lim ρ H w ρ' H' w1):Post P n0 lim ρ H w ρ' H' w2:=
 ⟨h.rel hp.rel,hp.ext,hp.new,fun r h1 h2=>(h.old r h1).trans (hp.frame r h1 h2),by rw [h.size];exact hp.size,hp.keep,hp.next,hp.rest.trans h.rest⟩
theorem Ac (w:World) (r:Nat) (o:Obj):iY w (w.putObj r o):=⟨rfl,rfl,rfl⟩
theorem JP {F:Fence} {m:Nat} {fn:Func} {tmps:Array Value} {R:Ending→World→Prop} {base:Nat} {ρ:Mp}:∀(ds:List Deferred) (w:World),Marks base ρ w ds→
  (∀w',lF base ρ w w'→ ∃v,(results fn tmps).run P w'= .ok v w'∧R (.returned v) w')→LeavesInM F m P fn tmps R ds .returning w
 | [],w,_,h=>h w .refl
 | d::ds,w,hm,h=>by
  obtain ⟨r,h1,h2,h3,h4⟩:=hm.each d (by simp)
  have hlt:=tW h3
  have hoff:lF base ρ w (w.putObj r (.deferred none)):=
   ⟨by simp,fun k hk=>World.putObj_heap_other (by omega),fun b L e=>World.putObj_heap_other (h4 b L e),Ac w r _⟩
  refine ⟨by simp,.inl ⟨r,_,h1,run_takeDeferred h3,?_⟩⟩
  refine JP ds _ ⟨by rw [hoff.size];exact hm.le,fun d' hd'=> ?_,(List.pairwise_cons.1 hm.apart).2⟩ fun w' hw'=>h w' (hoff.trans hw')
  obtain ⟨r',g1,g2,g3,g4⟩:=hm.each d' (by simp [hd'])
  have hne:r'≠r:=fun e=>(List.pairwise_cons.1 hm.apart).1 d' hd' (by rw [h1,g1,e])
  exact ⟨r',g1,g2,by rw [World.putObj_heap_other hne];exact g3,g4⟩
def JQ (F:Fence) (m:Nat) (P:Program) (n0 lim:Nat) (c:Code) (f:St→Option (Ex × St)):Prop:=
 ∀(s:St) (ex:Ex) (s':St),f s=some (ex,s')→ ∀(base:Nat) (ρ:Mp) (a:Act) (w:World),lim≤s.H.next→(∀b,s.H.next≤b→b <s'.H.next→ρ b=none)→Rel P n0 ρ s.H w→az ρ s.tmps a.tmps.toList→Marks base ρ w a.defers→
  ∀(Q:Exit→Act→World→Prop),(∀ρ' a' w',Post P n0 lim ρ s.H w ρ' s'.H w'→az ρ' s'.tmps a'.tmps.toList→Marks base ρ' w' a'.defers→Q (toExit ex) a' w')→c.wpIn F m P Q a w
theorem Post.fresh {ρ dH:Mp} {H H1:ah} {w w1:World} {nx:Nat} (hp:Post P n0 lim ρ H w dH H1 w1) (hfr:∀b,H.next≤b→b <nx→ρ b=none):∀b,H1.next≤b→b <nx→dH b=none:=by
 intro b g1 g2
 cases hb:dH b with
 | none=>rfl
 | some L=>
  exfalso
  have:=hp.next
  have hn:=hfr b (by omega) g2
  have:=hp.new b L hn hb
  omega
theorem JR {F:Fence} {m:Nat} (hl:n0≤lim) {c:Code} {body:St→Option (Ex × St)} (hb:JQ F m P n0 lim c body) (hk:∀s ex s',lim≤s.H.next→body s=some (ex,s')→s.H.next≤s'.H.next∧ ∀b,b <lim→s'.H.get b=s.H.get b):
  ∀(n:Nat) (s:St) (ex:Ex) (s':St),dy body n s=some (ex,s')→ ∀(base:Nat) (ρ:Mp) (a:Act) (w:World),lim≤s.H.next→(∀b,s.H.next≤b→b <s'.H.next→ρ b=none)→Rel P n0 ρ s.H w→az ρ s.tmps a.tmps.toList→Marks base ρ w a.defers→
   ∀(Q:Exit→Act→World→Prop),(∀ρ' a' w',Post P n0 lim ρ s.H w ρ' s'.H w'→az ρ' s'.tmps a'.tmps.toList→Marks base ρ' w' a'.defers→Q (toExit ex) a' w')→Code.roundsIn F m P c Q n a w
 | 0,s,ex,s',h=>by simp [dy] at h
 | n+1,s,ex,s',h=>by
  intro base ρ a w hlim hfr hr ht hm Q hQ
  unfold dy at h
  rw [roundsIn_succ]
  split at h
  ·rename_i s1 h1
   obtain ⟨k1,_⟩:=hk s _ s1 hlim h1
   have k2:=(Dy hk n s1 ex s' (by omega) h).1
   refine hb s .norm s1 h1 base ρ a w hlim (fun b g1 g2=>hfr b g1 (by omega)) hr ht hm _ ?_
   intro dH a1 w1 hp1 ht1 kT
   show Code.roundsIn F m P c Q n a1 w1
   refine JR hl hb hk n s1 ex s' h base dH a1 w1 (by omega) (hp1.fresh hfr) hp1.rel ht1 kT Q ?_
   intro dQ a2 w2 hp2 ht2 hd2
   exact hQ dQ a2 w2 (hp1.trans (Nat.le_refl _) hfr hp2) ht2 hd2
  ·rename_i hne
   refine hb s ex s' h base ρ a w hlim hfr hr ht hm _ ?_
   intro dH a1 w1 hp1 ht1 kT
   have hq:=hQ dH a1 w1 hp1 ht1 kT
   cases ex with
   | norm=>exact absurd h (hne s')
   | exit id=>exact hq
   | ret=>exact hq
theorem lG {F:Fence} {m:Nat} (hF:gY F) (hP:P.follows .mixedOrders=true) (hR:qw P R) (dr:nE R) (hl:n0≤lim) (n:Nat):∀(c:Code) (ac:aT),fH P c=some ac→(F=Fence.wide∨ac.plain=true)→JQ F m P n0 lim c (exec R lim n ac)
 | .skip,ac,hc=>fun dU=>by
  simp [fH] at hc;subst hc
  intro s ex s' h base ρ a w hlim hfr hr ht hm Q hQ
  simp [exec] at h;obtain ⟨rfl,rfl⟩:=h
  exact wpIn_skip (hQ ρ a w (.refl hr) ht hm)
 | .region id ops draw,ac,hc=>fun dU=>by
  simp only [fH,Option.map_eq_some_iff] at hc
  obtain ⟨l,hl',rfl⟩:=hc
  intro s ex s' h base ρ a w hlim hfr hr ht hm Q hQ
  simp only [exec,Option.map_eq_some_iff] at h
  obtain ⟨s1,h1,h2⟩:=h
  simp at h2;obtain ⟨rfl,rfl⟩:=h2
  exact Tz hF hP hR dr hl hl' h1 hlim hfr hr ht fun ρ' a' w' hp ht' hd=>hQ ρ' a' w' hp ht' (by rw [hd];exact hm.post hp)
 | .seq x y,ac,hc=>fun dU=>by
  simp only [fH] at hc
  split at hc <;>simp at hc
  rename_i x' y' hx hy
  subst hc
  intro s ex s' h base ρ a w hlim hfr hr ht hm Q hQ
  simp only [exec] at h
  refine wpIn_seq ?_
  split at h
  ·rename_i s1 h1
   obtain ⟨k1,_⟩:=jI dr n x' s _ s1 hlim h1
   obtain ⟨k2,_⟩:=jI dr n y' s1 ex s' (by omega) h
   refine lG hF hP hR dr hl n x x' hx (dU.imp (fun e=>e) fun e=>by simp [aT.plain] at e;exact e.1) s .norm s1 h1 base ρ a w hlim (fun b g1 g2=>hfr b g1 (by omega)) hr ht hm _ ?_
   intro dH a1 w1 hp1 ht1 kT
   show y.wpIn F m P Q a1 w1
   refine lG hF hP hR dr hl n y y' hy (dU.imp (fun e=>e) fun e=>by simp [aT.plain] at e;exact e.2) s1 ex s' h base dH a1 w1 (by omega) (hp1.fresh hfr) hp1.rel ht1 kT Q ?_
   intro dQ a2 w2 hp2 ht2 hd2
   exact hQ dQ a2 w2 (hp1.trans (Nat.le_refl _) hfr hp2) ht2 hd2
  ·rename_i hne
   refine lG hF hP hR dr hl n x x' hx (dU.imp (fun e=>e) fun e=>by simp [aT.plain] at e;exact e.1) s ex s' h base ρ a w hlim hfr hr ht hm _ ?_
   intro dH a1 w1 hp1 ht1 kT
   have hq:=hQ dH a1 w1 hp1 ht1 kT
   cases ex with
   | norm=>exact absurd h (hne s')
   | exit id=>exact hq
   | ret=>exact hq
 | .cond c x y,ac,hc=>fun dU=>by
  simp only [fH] at hc
  split at hc <;>simp at hc
  rename_i c' x' y' nI hx hy
  subst hc
  intro s ex s' h base ρ a w hlim hfr hr ht hm Q hQ
  simp only [exec] at h
  split at h
  ·rename_i t rQ
   have hv:=C5 hr.jY ht _ _ nI
   rw [rQ] at hv
   have kM:=(Sx hv t).1 rfl
   refine wpIn_cond kM ?_
   cases t with
   | true=>exact lG hF hP hR dr hl n x x' hx (dU.imp (fun e=>e) fun e=>by simp [aT.plain] at e;exact e.1) s ex s' (by simpa using h) base ρ a w hlim hfr hr ht hm Q hQ
   | false=>exact lG hF hP hR dr hl n y y' hy (dU.imp (fun e=>e) fun e=>by simp [aT.plain] at e;exact e.2) s ex s' (by simpa using h) base ρ a w hlim hfr hr ht hm Q hQ
  ·simp at h
 | .block id c,ac,hc=>fun dU=>by
  simp only [fH,Option.map_eq_some_iff] at hc
  obtain ⟨c',fm,rfl⟩:=hc
  intro s ex s' h base ρ a w hlim hfr hr ht hm Q hQ
  simp only [exec] at h
  refine wpIn_block ?_
  split at h
  ·rename_i id' s1 h1
   split at h
   ·rename_i hid
    simp at h;obtain ⟨rfl,rfl⟩:=h
    refine lG hF hP hR dr hl n c c' fm (dU.imp (fun e=>e) fun e=>by simpa [aT.plain] using e) s _ _ h1 base ρ a w hlim hfr hr ht hm _ ?_
    intro dH a1 w1 hp1 ht1 kT
    show (if id'=id then Q .normal a1 w1 else Q (.exit id') a1 w1)
    rw [if_pos hid]
    exact hQ dH a1 w1 hp1 ht1 kT
   ·rename_i hid
    simp at h;obtain ⟨rfl,rfl⟩:=h
    refine lG hF hP hR dr hl n c c' fm (dU.imp (fun e=>e) fun e=>by simpa [aT.plain] using e) s _ _ h1 base ρ a w hlim hfr hr ht hm _ ?_
    intro dH a1 w1 hp1 ht1 kT
    show (if id'=id then Q .normal a1 w1 else Q (.exit id') a1 w1)
    rw [if_neg hid]
    exact hQ dH a1 w1 hp1 ht1 kT
  ·rename_i hne
   refine lG hF hP hR dr hl n c c' fm (dU.imp (fun e=>e) fun e=>by simpa [aT.plain] using e) s ex s' h base ρ a w hlim hfr hr ht hm _ ?_
   intro dH a1 w1 hp1 ht1 kT
   have hq:=hQ dH a1 w1 hp1 ht1 kT
   cases ex with
   | norm=>exact hq
   | exit id'=>exact absurd h (hne id' s')
   | ret=>exact hq
 | .loop c,ac,hc=>fun dU=>by
  simp only [fH,Option.map_eq_some_iff] at hc
  obtain ⟨c',fm,rfl⟩:=hc
  intro s ex s' h base ρ a w hlim hfr hr ht hm Q hQ
  simp only [exec] at h
  refine wpIn_loop_rounds n ?_
  exact JR hl (lG hF hP hR dr hl n c c' fm (dU.imp (fun e=>e) fun e=>by simpa [aT.plain] using e)) (fun s ex s'=>jI dr n c' s ex s') n s ex s' h base ρ a w hlim hfr hr ht hm Q hQ
 | .exit id,ac,hc=>fun dU=>by
  simp [fH] at hc;subst hc
  intro s ex s' h base ρ a w hlim hfr hr ht hm Q hQ
  simp [exec] at h;obtain ⟨rfl,rfl⟩:=h
  exact wpIn_exit (hQ ρ a w (.refl hr) ht hm)
 | .label l,ac,hc=>fun dU=>by
  simp [fH] at hc;subst hc
  intro s ex s' h base ρ a w hlim hfr hr ht hm Q hQ
  simp [exec] at h;obtain ⟨rfl,rfl⟩:=h
  exact wpIn_label (hQ ρ a w (.refl hr) ht hm)
 | .ret,ac,hc=>fun dU=>by
  simp [fH] at hc;subst hc
  intro s ex s' h base ρ a w hlim hfr hr ht hm Q hQ
  simp [exec] at h;obtain ⟨rfl,rfl⟩:=h
  exact wpIn_ret (hQ ρ a w (.refl hr) ht hm)
 | .rangeFunc g ps iX body,ac,hc=>fun dU=>by
  simp only [fH] at hc
  split at hc <;>simp at hc
  rename_i g' TA body' hg TB hbody
  subst hc
  obtain rfl:F=Fence.wide:=dU.resolve_right (by simp [aT.plain])
  intro s ex s' h base ρ a w hlim hfr hr ht hm Q hQ
  simp only [exec] at h
  split at h
  case isFalse=>simp at h
  rename_i JS
  simp only [Bool.and_eq_true] at JS
  split at h
  case h_2=>simp at h
  rename_i f first captured TC
  split at h
  case h_2=>simp at h
  rename_i v H' iC
  have tX:=C5 hr.jY ht _ _ hg
  rw [TC] at tX
  obtain ⟨a9as,bs,e1,l1,l2⟩:=tX.Iv
  have hkeep:=dr _ _ _ _ _ _ (by rw [ah.bK];omega) iC
  rw [ah.bK] at hkeep
  have hn':s'.H.next=H'.next:=by
   split at h
   ·simp at h;obtain ⟨_,rfl⟩:=h;rfl
   ·simp at h;obtain ⟨_,rfl⟩:=h;rfl
   ·simp at h
  have jt:ρ s.H.next=none:=hfr _ (Nat.le_refl _) (by omega)
  refine wpIn_rangeFunc fun JT _=> ?_
  let Ad:Loop:={state:= .ready,pending:=none,fn:=JT,tmps:=a.tmps,params:=ps,assign:=iX,body:=body,defers:=w.heap.size}
  let w1:World:=(w.alloc (.deferred (some []))).alloc (.loop Ad)
  let L1:Loc:=⟨w.heap.size+1,0,0⟩
  have TD:w1.heap.size=w.heap.size+2:=by simp [w1]
  have TE:w1.heap[w.heap.size+1]? =some (.loop Ad):=by
   have:=World.alloc_heap_new (w.alloc (.deferred (some []))) (.loop Ad)
   rw [World.size_alloc] at this;exact this
  have TG:w1.heap[w.heap.size]? =some (.deferred (some [])):=by
   show ((w.heap.push _).push _)[w.heap.size]? =_
   rw [Array.getElem?_push,if_neg (by simp),Array.getElem?_push,if_pos rfl]
  have TH:∀r,r <w.heap.size→w1.heap[r]? =w.heap[r]? :=fun r hr'=>by
   show ((w.heap.push _).push _)[r]? =_
   rw [Array.getElem?_push,if_neg (by simp;omega),Array.getElem?_push,if_neg (by omega)]
  have dR:=vK (ρ:=ρ) L1 jt
  have hp1:Post P n0 lim ρ s.H w (upd ρ s.H.next L1) (s.H.push (.loop ⟨.ready,none,s.tmps,ps.toList,TA,body'⟩)) w1:=by
   refine hr.grow hlim jt L1 _ (by simp [L1]) (by simp [L1,TD]) TH ⟨fun _ h=>by simp at h,fun _ _ h=>by simp at h,fun r h=> ?_⟩ ⟨rfl,rfl,rfl⟩
   simp at h;subst h
   exact ⟨Ad,TE,⟨rfl,rfl,rfl,ht.ext dR,TB,hbody,JS⟩⟩
  obtain ⟨⟨fn0,TI,hb0,TJ⟩,hcs⟩:=hR n0 lim (.fn f) _ _ v H' iC
  have hargs:az (upd ρ s.H.next L1) (first++[.yl s.H.next]++captured) (a9as++ #[Value.func (.yield (w.heap.size+1)) #[] #[]]++bs).toList:=by
   simp only [Array.toList_append]
   exact az.append (az.append (l1.ext dR) (az.cons (.yl (L:=L1) (eG _ _ _)) (az.nil _))) (l2.ext dR)
  have TK:=hcs _ w1 _ hl (by rw [ah.bK];omega) (fun b g1 g2=>by
   rw [ah.bK] at g1
   rw [fI _ _ (by omega)];exact hfr b (by omega) (by omega)) hp1.rel hargs
  refine ⟨w.heap.size+1,[{target:= .collected w.heap.size,args:= #[]}],w1,{target:= .fn (.func f) bs,args:=a9as++ #[Value.func (.yield (w.heap.size+1)) #[] #[]]},w1,f,a9as++ #[Value.func (.yield (w.heap.size+1)) #[] #[]]++bs,w1,
   run_enterLoop_outer JT a.tmps ps iX body,?_,fun _ _=>trivial,?_,fun hd=>by simp [Fence.wide] at hd,?_⟩
  ·have e2:Act.eval a g= .func (.func f) a9as bs:=e1
   have e3:Act.eval a (.const (.func (.yield (w.heap.size+1)) #[] #[]))=Value.func (.yield (w.heap.size+1)) #[] #[]:=rfl
   simp only [resolve,rangeCall,e2,Deferred.ofValue,Sem.run_pure,List.map_toArray,List.map_cons,List.map_nil,e3]
  ·have hb':fn0.body.isNone=false:=by cases h0:fn0.body <;>simp [h0] at hb0 ⊢
   simp only [invoke,callFunc,Sem.run_bind,run_program,Result.andThen_ok,TI,TJ,hb',Bool.false_eq_true,if_false,Sem.run_pure]
  ·refine hF.calls (TK.mono ?_)
   rintro e w3 ⟨v',dQ,rfl,hv,hp2⟩
   have hm1:Marks base (upd ρ s.H.next L1) w1 ([{target:= .collected w.heap.size,args:= #[]}]++a.defers):=by
    have hmo:=hm.post hp1
    refine ⟨hmo.le,fun d hd=> ?_,?_⟩
    ·simp only [List.singleton_append,List.mem_cons] at hd
     rcases hd with rfl | hd
     ·refine ⟨w.heap.size,rfl,hm.le,TG,fun b L e=> ?_⟩
      by_cases hb:b=s.H.next
      ·subst hb;rw [eG] at e;simp at e;subst e;simp [L1]
      ·rw [fI _ _ hb] at e;have:=hr.dom b L e;omega
     ·exact hmo.each d hd
    ·simp only [List.singleton_append,List.pairwise_cons]
     refine ⟨fun d hd=> ?_,hm.apart⟩
     obtain ⟨r,g1,_,g3,_⟩:=hm.each d hd
     have:=tW g3
     rw [g1];simp;omega
   have hm2:=hm1.post hp2
   have JU:dQ s.H.next=some L1:=hp2.ext _ _ (eG _ _ _)
   have shut:∀(r:zm),H'.get s.H.next=some (.loop r)→r.state≠ .busy→s'.H=H'.set s.H.next .dead→s'.tmps=s.tmps→
     ∃(r':Loop) (w4:World),(Instr.endLoop (w.heap.size+1)).run P w3= .ok r'.pending w4∧r'.pending=r.pending.map zy∧Post P n0 lim ρ s.H w dQ s'.H w4∧Marks base dQ w4 ([{target:= .collected w.heap.size,args:= #[]}]++a.defers):=by
    intro r dX hnb hH hT
    obtain ⟨r',q1,q2⟩:=hp2.rel.loop _ L1 r JU dX
    have hlt3:=tW q1
    refine ⟨r',_,run_endLoop q1 (by rw [q2.state];exact hnb),q2.pend,?_⟩
    have qC:Post P n0 lim dQ H' w3 dQ (H'.set s.H.next .dead) (w3.putObj (w.heap.size+1) (.loop {r' with state:= .exhausted})):=
     hp2.rel.rJ hl hlim JU dX (by simp) (by simp) (fun r _ hne=>World.putObj_heap_other hne) .dead (Ac _ _ _)
    rw [hH]
    refine ⟨(hp1.trans (Nat.le_refl _) (fun b g1 g2=>hfr b g1 (by omega)) hp2).trans (Nat.le_refl _) (fun b g1 g2=>hfr b g1 (by rw [ah.gh] at g2;omega)) qC,hm2.post qC⟩
   have nF:az dQ s.tmps a.tmps.toList:=ht.ext (dR.trans hp2.ext)
   split at h
   ·rename_i t0 p0 a0 c0 dX
    simp at h;obtain ⟨rfl,rfl⟩:=h
    obtain ⟨r',w4,s1,s2,s3,s4⟩:=shut _ dX (by simp) rfl rfl
    refine ⟨r'.pending,w4,s1,?_⟩
    rw [s2]
    exact hQ dQ _ w4 s3 nF s4
   ·rename_i e0 t0 p0 a0 c0 dX
    simp at h;obtain ⟨rfl,rfl⟩:=h
    obtain ⟨r',w4,s1,s2,s3,s4⟩:=shut _ dX (by simp) rfl rfl
    refine ⟨r'.pending,w4,s1,?_⟩
    rw [s2]
    have hq:=hQ dQ {a with defers:=[{target:= .collected w.heap.size,args:= #[]}]++a.defers} w4 s3 nF s4
    cases e0 with
    | norm=>exact wpIn_skip hq
    | exit id=>exact wpIn_exit hq
    | ret=>exact wpIn_ret hq
   ·simp at h
 | .scope _,ac,hc=>fun _=>by simp [fH] at hc
 | .goto _,ac,hc=>fun _=>by simp [fH] at hc
 | .refuse _,ac,hc=>fun _=>by
  simp [fH] at hc;subst hc
  intro s ex s' h
  simp [exec,ep,execOp,eF,aY.clear,step] at h
theorem TL {rs:List ResultVar} {wC:List gD} (hc:fF (zx P) rs=some wC) {s:St} {ρ:Mp} {a:Act} {w:World} (hr:Rel P n0 ρ s.H w) (ht:az ρ s.tmps a.tmps.toList) {vs:List aa} (h:fT s wC=some vs):
  ∃vs':List Value,(rs.mapM (fun r=>(match r with
   | .tmp t=>Pure.pure (a.tmps.getD t undef)
   | .cell ad t=>do loadVar t (←asAddr (a.tmps.getD ad undef)):Sem Value))).run P w= .ok vs' w∧az ρ vs vs':=by
 induction rs generalizing wC vs with
 | nil=>
  simp [fF] at hc;subst hc
  simp [fT] at h;subst h
  exact ⟨[],rfl,az.nil ρ⟩
 | cons r rs ih=>
  unfold fF at hc
  split at hc <;>simp at hc
  rename_i y ys hy hys
  subst hc
  unfold fT at h
  split at h <;>simp at h
  rename_i v vs1 hv hvs
  subst h
  obtain ⟨vs',q1,q2⟩:=ih hys hvs
  have one:∃v',(match r with
   | .tmp t=>Pure.pure (a.tmps.getD t undef)
   | .cell ad t=>do loadVar t (←asAddr (a.tmps.getD ad undef)):Sem Value).run P w= .ok v' w∧aJ ρ v v':=by
   cases r with
   | tmp t=>
    simp [zx] at hy;subst hy
    simp [p8] at hv;subst hv
    exact ⟨_,rfl,C4 ht t⟩
   | cell ad t=>
    simp [zx] at hy
    obtain ⟨g,hg,rfl⟩:=hy
    simp only [p8] at hv
    obtain ⟨p,v',e1,e2,e3⟩:=IF (P:=P) hr hg (C4 ht ad) hv
    exact ⟨v',by simp only [e1,asAddr,Sem.run_bind,Sem.run_pure,Result.andThen_ok,e2],e3⟩
  obtain ⟨v',o1,o2⟩:=one
  refine ⟨v'::vs',?_,az.cons o2 q2⟩
  rw [List.mapM_cons]
  simp only [Sem.run_bind,o1,Result.andThen_ok,q1,Sem.run_pure]
theorem TM {ρ:Mp} {vs:List aa} {vs':List Value} (h:az ρ vs vs'):aJ ρ (gV vs) (if h:vs'.toArray.size=1 then vs'.toArray[0] else .tuple vs'.toArray):=by
 match vs,vs' with
 | [],[]=>exact aJ.qb (az.nil ρ)
 | [v],[v']=>exact h.head
 | a::b::vs,a'::b'::vs'=>simpa [gV] using aJ.qb (vs:=(a'::b'::vs').toArray) (by simpa using h)
 | [],_::_=>have:=h.1;simp at this
 | _::_,[]=>have:=h.1;simp at this
 | [_],_::_::_=>have:=h.1;simp at this
 | _::_::_,[_]=>have:=h.1;simp at this
end
end Go.au
end
section
set_option linter.unusedSimpArgs false
set_option linter.unusedVariables false
set_option linter.unusedSectionVars false
namespace Go.au
variable [Gl]
section
variable {P:Program} {n0 lim:Nat} {R:aq}
theorem JV {ρ:Mp}:∀(ps:List Nat) (args:List aa) (args':List Value) (ts:List aa) (ts':Array Value),az ρ args args'→az ρ ts ts'.toList→
  az ρ (tE ts ps args) ((ps.zip args').foldl (fun (tmps:Array Value) (p:Nat × Value)=>tmps.setIfInBounds p.1 p.2) ts').toList
 | [],args,args',ts,ts',_,ht=>by simpa [tE] using ht
 | p::ps,[],[],ts,ts',_,ht=>by simpa [tE] using ht
 | p::ps,[],_::_,ts,ts',h,_=>by have:=h.1;simp at this
 | p::ps,_::_,[],ts,ts',h,_=>by have:=h.1;simp at this
 | p::ps,x::args,x'::args',ts,ts',h,ht=>by
  have:=JV ps args args' (ts.set p x) (ts'.setIfInBounds p x') h.tail (by
   have:=C6 (a:={tmps:=ts',defers:=[]}) ht h.head (some p)
   simpa [dc,Act.put] using this)
  simpa [tE] using this
theorem TN {ex:aT→St→Option (Ex × St)} (hx:∀c s e s',lim≤s.H.next→ex c s=some (e,s')→s.H.next≤s'.H.next∧ ∀b,b <lim→s'.H.get b=s.H.get b)
  {b:Nat} {args:List aa} {H H':ah} {v:aa} (hl:lim≤H.next) (h:og ex lim b args H=some (v,H')):H.next≤H'.next∧ ∀c,c <lim→H'.get c=H.get c:=by
 unfold og at h
 split at h
 case h_2=>simp at h
 rename_i r dX
 split at h
 case isFalse=>simp at h
 rename_i hb
 split at h
 case h_2=>simp at h
 rename_i s1 h1
 obtain ⟨k1,k2⟩:=hx _ _ _ _ hl h1
 simp only at k1 k2
 split at h
 case h_2=>simp at h
 rename_i q t ps a c wD
 split at h
 case h_2=>simp at h
 rename_i e s2 h2
 obtain ⟨r1,r2⟩:=hx _ _ _ _ (by simp only [ah.gh];omega) h2
 simp only [ah.gh] at r1 r2
 split at h
 case h_2=>simp at h
 rename_i Ae Dz
 have fin:∀x,H.next≤(s2.H.set b x).next∧ ∀c,c <lim→(s2.H.set b x).get c=H.get c:=fun x=>
  ⟨by rw [ah.gh];omega,fun c hc=>by
   rw [ah.eD _ _ _ _ (by omega),r2 c hc,ah.eD _ _ _ _ (by omega),k2 c hc]⟩
 split at h
 ·simp at h;obtain ⟨_,rfl⟩:=h;exact fin _
 ·simp at h;obtain ⟨_,rfl⟩:=h;exact fin _
theorem Marks.nil {ρ:Mp} {w:World}:Marks 0 ρ w []:=⟨Nat.zero_le _,fun d hd=>by simp at hd,.nil⟩
theorem TO (hP:P.follows .mixedOrders=true) (hR:qw P R) (dr:nE R) {n:Nat} {b:Nat} {args:List aa} {H H':ah} {v:aa} (h:og (exec R lim n) lim b args H=some (v,H'))
  {ρ:Mp} {w:World} {args':Array Value} {L:Loc} (hL:ρ b=some L) (hl:n0≤lim) (hlim:lim≤H.next) (hfr:∀b,H.next≤b→b <H'.next→ρ b=none) (hr:Rel P n0 ρ H w) (ha:az ρ args args'.toList):
  ∃f tmps assign body,(Instr.yield L.blk args').run P w= .ok (.round L.blk f tmps assign body) w∧RoundIn Fence.wide 0 P L.blk f tmps assign body w (oG P n0 lim ρ H w v H'):=by
 unfold og at h
 split at h
 case h_2=>simp at h
 rename_i r dX
 split at h
 case isFalse=>simp at h
 rename_i hb
 obtain ⟨hlb,hlen⟩:=hb
 split at h
 case h_2=>simp at h
 rename_i s1 h1
 obtain ⟨k1,k2⟩:=jI dr n r.assign _ _ s1 hlim h1
 simp only at k1 k2
 split at h
 case h_2=>simp at h
 rename_i q t ps a c wD
 split at h
 case h_2=>simp at h
 rename_i e s2 h2
 obtain ⟨j1,j2⟩:=jI dr n r.body _ _ s2 (by simp only [ah.gh];omega) h2
 simp only [ah.gh] at j1 j2
 split at h
 case h_2=>simp at h
 rename_i r2 Dz
 have nr:H'.next=s2.H.next:=by
  split at h
  ·simp at h;obtain ⟨_,rfl⟩:=h;rfl
  ·simp at h;obtain ⟨_,rfl⟩:=h;rfl
 obtain ⟨r',q1,q2⟩:=hr.loop b L r hL dX
 have bQ:args.length=args'.size:=by simpa using ha.1
 refine ⟨_,_,_,_,run_yield q1 (by rw [←bQ,hlen,←q2.ps];simp),?_⟩
 refine roundIn_of_wpIn trivial ?_
 have hw:gY (Fence.wide.inRound L.blk):= .round _
 have nF:az ρ (tE r.tmps r.ps args) ((r'.params.zip args').foldl (fun tmps (t,a)=>tmps.setIfInBounds t a) r'.tmps).toList:=by
  have:=JV r.ps args args'.toList r.tmps r'.tmps ha q2.tmps
  rw [←q2.ps] at this ⊢
  rw [←Array.foldl_toList,Array.toList_zip]
  exact this
 refine lG hw hP hR dr hl n _ _ q2.iX (.inr q2.plain.1) _ _ _ h1 0 ρ _ w hlim (fun b g1 g2=>hfr b g1 (by omega)) hr nF .nil _ ?_
 intro dH a1 w1 hp1 ht1 hm1
 have wE:dH b=some L:=hp1.ext _ _ hL
 obtain ⟨r1,p1,p2⟩:=hp1.rel.loop b L _ wE wD
 have hst:r1.state= .ready:=p2.state
 refine ⟨_,run_beginRound p1 hst,?_⟩
 have TP:=tW p1
 have hp2:Post P n0 lim dH s1.H w1 dH (s1.H.set b (.loop ⟨.busy,q,t,ps,a,c⟩)) (w1.putObj L.blk (.loop {r1 with state:= .busy})):=by
  refine hp1.rel.rJ hl hlb wE wD (by simp) (by simp) (fun r _ hne=>World.putObj_heap_other hne) ⟨fun _ h=>by simp at h,fun _ _ h=>by simp at h,fun r h=> ?_⟩ (Ac _ _ _)
  simp at h;subst h
  exact ⟨_,World.putObj_heap_same TP,⟨rfl,p2.pend,p2.ps,p2.tmps,p2.iX,p2.body,p2.plain⟩⟩
 have TQ:∀b',s1.H.next≤b'→b' <s2.H.next→dH b'=none:=hp1.fresh (nx:=s2.H.next) (fun b' g1 g2=>hfr b' g1 (by omega))
 refine lG hw hP hR dr hl n _ _ q2.body (.inr q2.plain.2) _ _ _ h2 0 dH a1 _ (by simp only [ah.gh];omega) (by simp only [ah.gh];exact TQ) hp2.rel ht1 (hm1.post hp2) _ ?_
 intro wF a3 w3 qC ht3 hm3
 have JW:wF b=some L:=qC.ext _ _ wE
 obtain ⟨r3,p3,p4⟩:=qC.rel.loop b L _ JW Dz
 have hlt3:=tW p3
 have TR:Post P n0 lim ρ H w wF s2.H w3:=
  (hp1.trans (Nat.le_refl _) (fun b' g1 g2=>hfr b' g1 (by rw [ah.gh] at g2;omega)) hp2).trans (Nat.le_refl _) (fun b' g1 g2=>hfr b' g1 (by omega)) qC
 have last:∀(st:LoopState) (pd:Option Ex),Post P n0 lim wF s2.H w3 wF (s2.H.set b (.loop {r2 with state:=st,pending:=pd})) (w3.putObj L.blk (.loop {r3 with state:=st,pending:=pd.map zy})):=by
  intro st pd
  refine qC.rel.rJ hl hlb JW Dz (by simp) (by simp) (fun r _ hne=>World.putObj_heap_other hne) ⟨fun _ h=>by simp at h,fun _ _ h=>by simp at h,fun r h=> ?_⟩ (Ac _ _ _)
  simp at h;subst h
  exact ⟨_,World.putObj_heap_same hlt3,⟨rfl,rfl,p4.ps,p4.tmps,p4.iX,p4.body,p4.plain⟩⟩
 have fin:∀(st:LoopState) (pd:Option Ex) (bv:Bool),(v,H')=(aa.bool bv,s2.H.set b (.loop {r2 with state:=st,pending:=pd}))→
   oG P n0 lim ρ H w v H' (.returned (.bool bv)) (w3.putObj L.blk (.loop {r3 with state:=st,pending:=pd.map zy})):=by
  intro st pd bv he
  simp at he;obtain ⟨rfl,rfl⟩:=he
  exact ⟨_,wF,rfl,.bool bv,TR.trans (Nat.le_refl _) (fun b' g1 g2=>hfr b' g1 (by rw [ah.gh] at g2;omega)) (last st pd)⟩
 cases e with
 | norm=>
  simp only [Option.some.injEq] at h
  exact ⟨_,_,run_endRound none p3,fin .ready none true h.symm⟩
 | exit id=>
  simp only [Option.some.injEq] at h
  exact ⟨_,_,run_endRound (some (.exit id)) p3,fin .done (some (.exit id)) false h.symm⟩
 | ret=>
  simp only [Option.some.injEq] at h
  exact ⟨_,_,run_endRound (some .ret) p3,fin .done (some .ret) false h.symm⟩
structure eN (P:Program) (f:FuncId) (g:Nat→List aa→ah→Option (aa × ah)):Prop where
 keeps:∀lim args H v H',lim≤H.next→g lim args H=some (v,H')→H.next≤H'.next∧ ∀b,b <lim→H'.get b=H.get b
 fn:∃fn,P.funcs[f]? =some fn∧fn.body.isSome=true∧(fn.name== "runtime.NumGoroutine")=false
 calls:∀(n0 lim:Nat) (args:List aa) (H:ah) (v:aa) (H':ah),g lim args H=some (v,H')→
  ∀(ρ:Mp) (w:World) (args':Array Value),n0≤lim→lim≤H.next→(∀b,H.next≤b→b <H'.next→ρ b=none)→Rel P n0 ρ H w→az ρ args args'.toList→Calls P f args' w (oG P n0 lim ρ H w v H')
def gZ (P:Program) (f:FuncId):bg→Prop
 | .code af=>aZ P f=some af
 | .gW g=>eN P f g
theorem wG {P:Program} {ap:FuncId→Option bg} (hap:∀f af,ap f=some af→gZ P f af):∀n,nE (runT ap n)
 | 0=>fun lim f args H v H' _ h=>by cases f <;>simp [runT] at h
 | n+1=>fun lim f args H v H' hl h=>by
  cases f with
  | fn f=>
   simp only [runT] at h
   split at h
   ·rename_i af mA
    split at h
    ·simp at h
    ·rename_i ex s hne hex
     unfold lY at h
     rw [Option.map_eq_some_iff] at h
     obtain ⟨vs,_,h2⟩:=h
     simp at h2;obtain ⟨rfl,rfl⟩:=h2
     exact jI (wG hap n) n af.body _ ex s hl hex
    ·simp at h
   ·rename_i g hg
    exact (hap f _ hg:eN P f g).keeps _ _ _ _ _ hl h
   ·simp at h
  | yl b=>
   simp only [runT] at h
   exact TN (fun c s e s' hl' hx=>jI (wG hap n) n c s e s' hl' hx) hl h
theorem rY {ap:FuncId→Option bg} (hP:P.follows .mixedOrders=true) (hap:∀f af,ap f=some af→gZ P f af):∀n,qw P (runT ap n)
 | 0=>fun n0 lim tg args H v H' h=>by cases tg <;>simp [runT] at h
 | n+1=>fun n0 lim tg args H v H' h=>by
  cases tg with
  | yl b=>
   simp only [runT] at h
   intro ρ w args' L hL hl hlim hfr hr ha
   exact TO hP (rY hP hap n) (wG hap n) h hL hl hlim hfr hr ha
  | fn f=>
   simp only [runT] at h
   split at h
   case h_3=>simp at h
   case h_2 g hg=>
    have hp:eN P f g:=hap f _ hg
    exact ⟨hp.fn,fun ρ w args'=>hp.calls n0 lim args H v H' h ρ w args'⟩
   rename_i af mA
   have hO:aZ P f=some af:=hap f _ mA
   unfold aZ at hO
   split at hO
   case h_2=>simp at hO
   rename_i fn hfn
   split at hO
   case h_2=>simp at hO
   rename_i c hbody
   split at hO
   case h_2=>simp at hO
   rename_i ac wC hac TS
   split at hO <;>simp at hO
   rename_i hname
   subst hO
   refine ⟨⟨fn,hfn,by rw [hbody];rfl,by simpa using hname⟩,?_⟩
   intro ρ w args' hl hlim hfr hr hargs
   refine (callsIn_wide (n:=0)).1 (callsIn_of_wp_marks hfn hbody trivial ?_)
   have TT:az ρ (args++List.replicate (fn.ntmps - args.length) bA) (args'++Array.replicate (fn.ntmps - args'.size) undef).toList:=by
    have hl:args.length=args'.size:=by simpa using hargs.1
    simp only [Array.toList_append,Array.toList_replicate,hl]
    exact az.append hargs (az.replicate _ (aJ.bA ρ))
   split at h
   ·simp at h
   ·rename_i ex s hne hex
    unfold lY at h
    rw [Option.map_eq_some_iff] at h
    obtain ⟨vs,hvs,h2⟩:=h
    simp at h2;obtain ⟨rfl,rfl⟩:=h2
    refine lG .wide hP (rY hP hap n) (wG hap n) hl n c ac hac (.inl rfl) ⟨m9 {ntmps:=fn.ntmps,results:=wC,body:=ac} args,H⟩ ex s hex w.heap.size ρ {tmps:=args'++Array.replicate (fn.ntmps - args'.size) undef,defers:=[]} w hlim hfr hr TT
     ⟨Nat.le_refl _,fun d hd=>by simp at hd,.nil⟩ _ ?_
    intro ρ' a' w' hp ht hm
    have fin:LeavesInM Fence.wide 0 P fn a'.tmps (oG P n0 lim ρ H w (gV vs) s.H) a'.defers .returning w':=by
     refine JP a'.defers w' hm fun w'' hoff=> ?_
     have hp':=hoff.post hp
     obtain ⟨vs',q1,q2⟩:=TL (P:=P) TS hp'.rel ht hvs
     refine ⟨_,?_,_,ρ',rfl,TM q2,hp'⟩
     unfold results
     rw [Array.mapM_eq_mapM_toList]
     simp only [Sem.run_bind,Sem.run_map,Sem.run_pure]
     exact Eq.trans (congrArg (fun z=>Result.andThen (Result.andThen z _) _) q1) rfl
    cases ex with
    | norm=>exact fin
    | ret=>exact fin
    | exit id=>exact (hne id rfl).elim
   ·simp at h
theorem eN.Af {ap:FuncId→Option bg} (hP:P.follows .mixedOrders=true) (hap:∀f af,ap f=some af→gZ P f af) {f:FuncId} {af:bg} (hf:ap f=some af) {g:Nat→List aa→ah→Option (aa × ah)}
  (h:∀lim args H v H',g lim args H=some (v,H')→ ∃n,run ap n lim f args H=some (v,H')):eN P f g where
 keeps:=fun lim args H v H' hl hg=>by
  obtain ⟨n,hn⟩:=h lim args H v H' hg
  exact wG hap n _ _ _ _ _ _ hl hn
 fn:=by
  cases af with
  | gW g'=>exact (hap f _ hf:eN P f g').fn
  | code af=>
   have hO:aZ P f=some af:=hap f _ hf
   unfold aZ at hO
   split at hO
   case h_2=>simp at hO
   rename_i fn hfn
   split at hO
   case h_2=>simp at hO
   rename_i c hbody
   split at hO
   case h_2=>simp at hO
   split at hO <;>simp at hO
   rename_i hname
   exact ⟨fn,hfn,by rw [hbody];rfl,by simpa using hname⟩
 calls:=fun n0 lim args H v H' hg=>by
  obtain ⟨n,hn⟩:=h lim args H v H' hg
  exact (rY hP hap n n0 lim (.fn f) args H v H' hn).2
def aa.bare:aa→Bool
 | .int _ _ | .bool _ | .str _=>true
 | _=>false
theorem aJ.bare {ρ ρ':Mp} {v:aa} {v':Value} (h:aJ ρ v v') (hb:v.bare=true):aJ ρ' v v':=by
 cases h <;>simp [aa.bare] at hb
 ·exact .int _ _
 ·exact .bool _
 ·rename_i e;exact .str e
theorem ah.wH (b:Nat):ah.empty.get b=none:=by
 unfold ah.get ah.empty
 split <;>rfl
theorem Rel.empty {P:Program} (n0:Nat) {ρ:Mp} {w:World} (hd:∀b L,ρ b=some L→L.blk <w.heap.size) (hg:∀g,Gl.gs.contains g=true→ ∃n,ρ g=some ⟨g,0,n⟩):Rel P n0 ρ ah.empty w:=
 ⟨fun b L cs _ h=>by rw [ah.wH] at h;simp at h,fun b L es cl _ h=>by rw [ah.wH] at h;simp at h,fun b L r _ h=>by rw [ah.wH] at h;simp at h,hd,fun b b' L L' _ _ _ _ h=>by rw [ah.wH] at h;simp at h,hg⟩
def tY (ρ:Mp):Mp:=fun b=>if b <Gl.n then ρ b else none
theorem TU {ρ:Mp} {b:Nat} (h:Gl.n≤b):tY ρ b=none:=if_neg (by omega)
theorem TW {ρ:Mp} {b:Nat} {L:Loc} (h:tY ρ b=some L):b <Gl.n∧ρ b=some L:=by
 unfold tY at h
 split at h
 ·exact ⟨by assumption,h⟩
 ·simp at h
theorem Rel.TX {P:Program} {n0:Nat} {ρ:Mp} {H:ah} {w:World} (hr:Rel P n0 ρ H w) (n1:Nat):Rel P n1 (tY ρ) ah.empty w:=
 .empty n1 (fun b L h=>hr.dom b L (TW h).2) fun g hg=>by
  obtain ⟨n,e⟩:=hr.jY g hg
  exact ⟨n,by unfold tY;rw [if_pos (Gl.lt g hg)];exact e⟩
theorem eN.closed {ap:FuncId→Option bg} (hP:P.follows .mixedOrders=true) (hap:∀f af,ap f=some af→gZ P f af) {f:FuncId} {n:Nat} {v0:aa} {H0:ah} (h:run ap n ah.empty.next f [] ah.empty=some (v0,H0)) (hb:v0.bare=true):
  eN P f (fun _ args H=>match args with | []=>some (v0,H) | _=>none) where
 keeps:=fun lim args H v H' hl hg=>by
  split at hg <;>simp at hg
  obtain ⟨_,rfl⟩:=hg
  exact ⟨Nat.le_refl _,fun _ _=>rfl⟩
 fn:=(rY hP hap n ah.empty.next ah.empty.next (.fn f) [] ah.empty v0 H0 h).1
 calls:=fun n0 lim args H v H' hg ρ w args' hl hlim hfr hr ha=>by
  split at hg <;>simp at hg
  obtain ⟨rfl,rfl⟩:=hg
  have:=(rY hP hap n ah.empty.next ah.empty.next (.fn f) [] ah.empty v0 H0 h).2 (tY ρ) w args' (Nat.le_refl _) (Nat.le_refl _) (fun _ hb _=>TU hb) (hr.TX _) ⟨ha.1,fun i v v' e=>by simp at e⟩
  refine this.mono ?_
  rintro e w' ⟨v',ρ',rfl,hv,hp⟩
  have hold:∀r,r <w.heap.size→w'.heap[r]? =w.heap[r]? :=fun r hr'=>hp.frame r hr' fun b L g1 g2 _=>by omega
  refine ⟨v',ρ,rfl,hv.bare hb,⟨⟨?_,?_,?_,?_,hr.excl,hr.jY⟩,.refl ρ,fun b L e e'=>by rw [e] at e';simp at e',fun r h1 _=>hold r h1,hp.size,fun _ _=>rfl,Nat.le_refl _,hp.rest⟩⟩
  ·intro b L cs e1 e2
   obtain ⟨c0,⟨t0,ow,q1,q2,q3⟩,q4,q5⟩:=hr.row b L cs e1 e2
   exact ⟨c0,⟨t0,ow,by rw [hold _ (hr.dom _ _ e1)];exact q1,q2,q3⟩,q4,q5⟩
  ·intro b L es cl e1 e2
   obtain ⟨es',q1,q2⟩:=hr.map b L es cl e1 e2
   exact ⟨es',by rw [hold _ (hr.dom _ _ e1)];exact q1,q2⟩
  ·intro b L r e1 e2
   obtain ⟨r',q1,q2⟩:=hr.loop b L r e1 e2
   exact ⟨r',by rw [hold _ (hr.dom _ _ e1)];exact q1,q2⟩
  ·intro b L e1
   exact Nat.lt_of_lt_of_le (hr.dom b L e1) hp.size
#print axioms rY
end
end Go.au
end
section
set_option linter.unusedSimpArgs false
set_option linter.unusedVariables false
set_option linter.unusedSectionVars false
namespace Go.au
variable [Gl]
open Go.RowKit
def isTrue:Option (aa × ah)→Bool
 | some (.bool true,_)=>true
 | _=>false
theorem DA {r:Option (aa × ah)} (h:isTrue r=true):∃H',r=some (.bool true,H'):=by
 unfold isTrue at h
 split at h
 ·exact ⟨_,rfl⟩
 ·simp at h
theorem DB {P:Program} {ap:FuncId→Option bg} (hP:P.follows .mixedOrders=true) (hap:∀f af,ap f=some af→gZ P f af) {n f:Nat} {args:List aa} {H:ah}
  (h:isTrue (run ap n H.next f args H)=true) {w:World} {args':Array Value} {ρ:Mp} (hr:Rel P H.next ρ H w) (hd:∀b,H.next≤b→ρ b=none) (ha:az ρ args args'.toList):
  Calls P f args' w fun e w'=>e= .returned (.bool true)∧Below w.heap.size w w':=by
 obtain ⟨H',h⟩:=DA h
 obtain ⟨_,hc⟩:=rY hP hap n H.next H.next (.fn f) args H _ _ h
 refine (hc ρ w args' (Nat.le_refl _) (Nat.le_refl _) (fun b hb _=>hd b hb) hr ha).mono ?_
 rintro e w' ⟨v',ρ',rfl,hv,hp⟩
 cases hv
 exact ⟨rfl,hp.rest.1,hp.rest.2.1,hp.rest.2.2,hp.size,fun k hk=>hp.frame k hk fun b L g1 g2=>by omega⟩
theorem aeC {P:Program} {ap:FuncId→Option bg} (hP:P.follows .mixedOrders=true) (hap:∀f af,ap f=some af→gZ P f af) {n f:Nat}
  (h:isTrue (run ap n ah.empty.next f [] ah.empty)=true) {w:World} {ρ:Mp} (hr:Rel P ah.empty.next ρ ah.empty w) (hd:∀b,ah.empty.next≤b→ρ b=none):Calls P f #[] w fun e w'=>e= .returned (.bool true)∧Below w.heap.size w w':=
 DB (H:=ah.empty) hP hap h hr hd (az.nil _)
def tab (l:List (Nat × bg)):FuncId→Option bg:=fun f=>l.lookup f
def wI (P:Program):List (Nat × bg)→Prop
 | []=>True
 | p::l=>gZ P p.1 p.2∧wI P l
theorem Ag {P:Program}:∀{l:List (Nat × bg)},wI P l→ ∀f af,tab l f=some af→gZ P f af
 | [],_,f,af,h=>by simp [tab] at h
 | p::l,⟨h1,h2⟩,f,af,h=>by
  unfold tab at h
  rw [List.lookup_cons] at h
  split at h
  ·rename_i e
   simp at h e
   subst e h;exact h1
  ·exact Ag h2 f af h
end Go.au
end
section
set_option linter.unusedSimpArgs false
set_option linter.unusedVariables false
set_option linter.unusedSectionVars false
namespace Go.au
variable [Gl]
section
variable (k:IntKind) (a b:Int)
theorem DC:av .add (.int k a) (.int k b)=some (.int k (k.wrap (a+b))):=by simp [av,binOp,Op.intArith,gE,pure,gU]
theorem DD:av .sub (.int k a) (.int k b)=some (.int k (k.wrap (a - b))):=by simp [av,binOp,Op.intArith,gE,pure,gU]
theorem JX:av .mul (.int k a) (.int k b)=some (.int k (k.wrap (a * b))):=by simp [av,binOp,Op.intArith,gE,pure,gU]
theorem DE:av .eql (.int k a) (.int k b)=some (.bool (a==b)):=by simp [av,binOp,Op.intCmp,gE,pure,gU]
theorem DF:av .neq (.int k a) (.int k b)=some (.bool (a !=b)):=by simp [av,binOp,Op.intCmp,gE,pure,gU]
theorem DG:av .lss (.int k a) (.int k b)=some (.bool (decide (a <b))):=by simp [av,binOp,Op.intCmp,gE,pure,gU]
theorem DH:av .leq (.int k a) (.int k b)=some (.bool (decide (a≤b))):=by simp [av,binOp,Op.intCmp,gE,pure,gU]
theorem DI:av .gtr (.int k a) (.int k b)=some (.bool (decide (b <a))):=by simp [av,binOp,Op.intCmp,gE,pure,gU]
theorem DJ:av .geq (.int k a) (.int k b)=some (.bool (decide (b≤a))):=by simp [av,binOp,Op.intCmp,gE,pure,gU]
def ju (f:(n:Nat)→BitVec n→BitVec n→BitVec n) (k:IntKind) (a b:Int):Int:=k.wrap (f k.bits (BitVec.ofInt k.bits a) (BitVec.ofInt k.bits b)).toNat
def kU:=ju fun _ a b=>a &&& b
def mB:=ju fun _ a b=>a ||| b
def gq:=ju fun _ a b=>a ^^^ b
def JY:=ju fun _ a b=>a &&& ~~~b
theorem rZ:av .and (.int k a) (.int k b)=some (.int k (kU k a b)):=by simp [av,binOp,Op.intBits,gE,pure,gU,kU,ju]
theorem tZ:av .or (.int k a) (.int k b)=some (.int k (mB k a b)):=by simp [av,binOp,Op.intBits,gE,pure,gU,mB,ju]
theorem DK:av .xor (.int k a) (.int k b)=some (.int k (gq k a b)):=by simp [av,binOp,Op.intBits,gE,pure,gU,gq,ju]
theorem aeD:av .andNot (.int k a) (.int k b)=some (.int k (JY k a b)):=by simp [av,binOp,Op.intBits,gE,pure,gU,JY,ju]
theorem JZ (k':IntKind) (h:0≤b):av .shl (.int k a) (.int k' b)=some (.int k (k.wrap (a * 2 ^ (min b.toNat k.bits)))):=by
 have:¬b <0:=by omega
 simp [av,binOp,Op.shift,this,gE,pure,gU]
theorem wJ (k':IntKind) (h:0≤b):av .shr (.int k a) (.int k' b)=some (.int k (a.fdiv (2 ^ (min b.toNat k.bits)))):=by
 have:¬b <0:=by omega
 simp [av,binOp,Op.shift,this,gE,pure,gU]
theorem TY (h:b≠0):av .quo (.int k a) (.int k b)=some (.int k (k.wrap (a.tdiv b))):=by simp [av,binOp,Op.intDiv,h,gE,pure,gU]
theorem J0 (h:b≠0):av .rem (.int k a) (.int k b)=some (.int k (a.tmod b)):=by simp [av,binOp,Op.intDiv,h,gE,pure,gU]
end
theorem Ah {k:IntKind} {n:Int} (h:k.min≤n) (h':n≤k.max):k.wrap n=n:=by
 unfold IntKind.wrap IntKind.bits IntKind.signed
 unfold IntKind.min IntKind.max IntKind.bits IntKind.signed at *
 cases k <;>simp at h h' ⊢ <;>omega
def jv (r:Option (Ex × St)) (k:St→Option (Ex × St)):Option (Ex × St):=
 match r with
 | some (.norm,s)=>k s
 | r=>r
theorem aeE (s:St) (k:St→Option (Ex × St)):jv (some (.norm,s)) k=k s:=rfl
theorem aeF (id:Nat) (s:St) (k:St→Option (Ex × St)):jv (some (.exit id,s)) k=some (.exit id,s):=rfl
theorem aeG (s:St) (k:St→Option (Ex × St)):jv (some (.ret,s)) k=some (.ret,s):=rfl
theorem aeH (k:St→Option (Ex × St)):jv none k=none:=rfl
theorem aeI (c:Prop) [Decidable c] (a b:Option (Ex × St)) (k:St→Option (Ex × St)):jv (if c then a else b) k=if c then jv a k else jv b k:=by split <;>rfl
theorem TZ {α:Type} (a:Option α) (f:α→Option (Ex × St)) (k:St→Option (Ex × St)):jv (a.bind f) k=a.bind fun x=>jv (f x) k:=by cases a <;>rfl
def je (id:Nat) (r:Option (Ex × St)):Option (Ex × St):=
 match r with
 | some (.exit id',s)=>if id'=id then some (.norm,s) else some (.exit id',s)
 | r=>r
theorem aeJ (id:Nat) (s:St):je id (some (.norm,s))=some (.norm,s):=rfl
theorem aeK (id:Nat) (s:St):je id (some (.ret,s))=some (.ret,s):=rfl
theorem J1 (id id':Nat) (s:St):je id (some (.exit id',s))=if id'=id then some (.norm,s) else some (.exit id',s):=rfl
theorem aeL (id:Nat):je id none=none:=rfl
theorem aeM (id:Nat) (c:Prop) [Decidable c] (a b:Option (Ex × St)):je id (if c then a else b)=if c then je id a else je id b:=by split <;>rfl
theorem T3 {α:Type} (id:Nat) (a:Option α) (f:α→Option (Ex × St)):je id (a.bind f)=a.bind fun x=>je id (f x):=by cases a <;>rfl
section
variable (R:aq) (lim n:Nat) (T:List aa) (H:ah)
theorem aeN (s:St):exec R lim n .skip s=some (.norm,s):=rfl
theorem aeO (s:St):exec R lim n .ret s=some (.ret,s):=rfl
theorem aeP (id:Nat) (s:St):exec R lim n (.exit id) s=some (.exit id,s):=rfl
theorem T4 (a b:aT) (s:St):exec R lim n (.seq a b) s=jv (exec R lim n a s) fun s=>exec R lim n b s:=by
 simp only [exec,jv]
 cases exec R lim n a s with
 | none=>rfl
 | some p=>obtain ⟨ex,s1⟩:=p;cases ex <;>rfl
theorem aeQ (id:Nat) (c:aT) (s:St):exec R lim n (.block id c) s=je id (exec R lim n c s):=rfl
theorem aeR (c:aT) (s:St):exec R lim n (.loop c) s=dy (exec R lim n c) n s:=rfl
def J2 (v:aa) (a b:Option (Ex × St)):Option (Ex × St):=
 match v with
 | .bool t=>if t=true then a else b
 | _=>none
theorem T5 (t:Bool) (a b:Option (Ex × St)):J2 (.bool t) a b=if t=true then a else b:=rfl
theorem T6 (c:aP) (a b:aT) (s:St):exec R lim n (.cond c a b) s=J2 (St.ev s.tmps c) (exec R lim n a s) (exec R lim n b s):=rfl
def ops (os:List aY) (s:St) (k:St→Option (Ex × St)):Option (Ex × St):=(ep R lim os s).bind k
theorem T7 (os:List aY) (s:St):exec R lim n (.region os) s=ops R lim os s fun s=>some (.norm,s):=by
 simp only [exec,ops];cases ep R lim os s <;>rfl
theorem aeS (os:List aY) (s:St) (k k':St→Option (Ex × St)):jv (ops R lim os s k) k'=ops R lim os s fun s=>jv (k s) k':=TZ _ _ _
theorem aeT (id:Nat) (os:List aY) (s:St) (k:St→Option (Ex × St)):je id (ops R lim os s k)=ops R lim os s fun s=>je id (k s):=T3 _ _ _
theorem aeU (s:St) (k:St→Option (Ex × St)):ops R lim [] s k=k s:=rfl
def oN (d:Option Nat) (r:Option (aa × ah)) (k:St→Option (Ex × St)):Option (Ex × St):=r.bind fun p=>k ⟨dc T d p.1,p.2⟩
theorem J3 (d:Option Nat) (op:bG) (b:Bool) (os:List aY) (k:St→Option (Ex × St)):
  ops R lim (⟨d,op,none,b,[]⟩::os) ⟨T,H⟩ k=oN T d (step R (if b then H.next else lim) (St.ev T) H op) fun s=>ops R lim os s k:=by
 simp only [ops,ep,execOp,eF,if_true,oN,aY.clear,Bool.not_true,Bool.false_eq_true,if_false]
 cases step R (if b=true then H.next else lim) (St.ev T) H op with
 | none=>rfl
 | some p=>rfl
theorem T8 (d:Option Nat) (op:bG) (b:Bool) (t:Nat) (want:Bool) (os:List aY) (k:St→Option (Ex × St)):
  ops R lim (⟨d,op,some (t,want),b,[]⟩::os) ⟨T,H⟩ k=
   if eF T (some (t,want))=true then oN T d (step R (if b then H.next else lim) (St.ev T) H op) fun s=>ops R lim os s k else ops R lim os ⟨dc T d bA,H⟩ k:=by
 simp only [ops,ep,execOp,oN,aY.clear,Bool.not_true,Bool.false_eq_true,if_false]
 by_cases hw:eF T (some (t,want))=true
 ·simp only [hw,if_true]
  cases step R (if b=true then H.next else lim) (St.ev T) H op with
  | none=>rfl
  | some p=>rfl
 ·simp only [hw,if_false,Bool.false_eq_true]
theorem T9 (d:Option Nat) (v:aa) (H':ah) (k:St→Option (Ex × St)):oN T d (some (v,H')) k=k ⟨dc T d v,H'⟩:=rfl
theorem aeV (d:Option Nat) (k:St→Option (Ex × St)):oN T d none k=none:=rfl
theorem aeW (d:Option Nat) (c:Prop) [Decidable c] (a b:Option (aa × ah)) (k:St→Option (Ex × St)):oN T d (if c then a else b) k=if c then oN T d a k else oN T d b k:=by split <;>rfl
theorem aeX (t:Nat) (want:Bool):eF T (some (t,want))=(match T[t]? with | some (.bool b)=>b==want | _=>false):=rfl
theorem aeY (v:aa):val H (some v)=some (v,H):=rfl
theorem aeZ:val H none=none:=rfl
theorem ae0 (d:Nat) (v:aa):dc T (some d) v=T.set d v:=rfl
theorem ae1 (v:aa):dc T none v=T:=rfl
theorem ae2 (t:Nat):St.ev T (.tmp t)=T.getD t bA:=rfl
theorem ae3 (v:aa):St.ev T (.val v)=v:=rfl
def r7 (rs:List gD) (r:Option (Ex × St)):Option (aa × ah):=
 match r with
 | some (.exit _,_)=>none
 | some (_,s)=>(fT s rs).map fun vs=>(gV vs,s.H)
 | none=>none
theorem Ua (rs:List gD) (s:St):r7 rs (some (.ret,s))=(fT s rs).map fun vs=>(gV vs,s.H):=rfl
theorem Ub (rs:List gD) (s:St):r7 rs (some (.norm,s))=(fT s rs).map fun vs=>(gV vs,s.H):=rfl
theorem ae4 (rs:List gD) (c:Prop) [Decidable c] (a b:Option (Ex × St)):r7 rs (if c then a else b)=if c then r7 rs a else r7 rs b:=by split <;>rfl
theorem run_eq {ap:FuncId→Option bg} {f:FuncId} {af:aW} (h:ap f=some (.code af)) (args:List aa):
  run ap (n+1) lim f args H=r7 af.results (exec (runT ap n) lim n af.body ⟨args++List.replicate (af.ntmps - args.length) bA,H⟩):=by
 simp only [run,runT,h,r7,m9,lY]
 cases exec (runT ap n) lim n af.body ⟨args++List.replicate (af.ntmps - args.length) bA,H⟩ with
 | none=>rfl
 | some p=>obtain ⟨ex,s1⟩:=p;cases ex <;>rfl
theorem ae5 (ap:FuncId→Option bg) (n:Nat) (f:FuncId) (args:List aa):runT ap n lim (.fn f) args H=run ap n lim f args H:=rfl
theorem ae6 {ap:FuncId→Option bg} {f:FuncId} {g:Nat→List aa→ah→Option (aa × ah)} (h:ap f=some (.gW g)) (args:List aa):run ap (n+1) lim f args H=g lim args H:=by
 simp only [run,runT,h]
theorem ae7 (s:St):fT s []=some []:=rfl
theorem ae8 (s:St) (t:Nat) (rs:List gD):fT s (.tmp t::rs)=(fT s rs).map fun vs=>s.tmps.getD t bA::vs:=by
 simp only [fT,p8]
 cases fT s rs <;>rfl
theorem ae9 (v:aa):gV [v]=v:=rfl
theorem afa (v u:aa) (vs:List aa):gV (v::u::vs)= .bq (v::u::vs):=rfl
theorem afb (ev:aP→aa) (x:aP):step R lim ev H (.an x)=some (ev x,H):=rfl
theorem afc (ev:aP→aa) (op:BinOp) (x y:aP):step R lim ev H (.bin op x y)=val H (av op (ev x) (ev y)):=rfl
theorem afd (ev:aP→aa) (f:FuncId) (xs:List aP):step R lim ev H (.call f xs)=R lim (.fn f) (xs.map ev) H:=rfl
theorem afe (ev:aP→aa) (x:aP) (i:Nat):step R lim ev H (.extract x i)=(match ev x with | .bq vs=>val H vs[i]? | _=>none):=rfl
def J4 (c a b:aa) (H:ah):Option (aa × ah):=
 match c with
 | .bool t=>some (if t=true then a else b,H)
 | _=>none
theorem aff (t:Bool) (a b:aa):J4 (.bool t) a b H=some (if t=true then a else b,H):=rfl
theorem afg (ev:aP→aa) (c a b:aP):step R lim ev H (.pick c a b)=J4 (ev c) (ev a) (ev b) H:=rfl
end
end Go.au
end
section
set_option linter.unusedSimpArgs false
set_option linter.unusedVariables false
set_option linter.unusedSectionVars false
namespace Go.au
variable [Gl]
def bG.free (S:FuncId→Bool):bG→Bool
 | .call f _=>S f
 | op=>op.pure
def aT.free (S:FuncId→Bool):aT→Bool
 | .region ops=>ops.all fun o=>o.op.free S && o.apart.isEmpty
 | .seq a b=>a.free S && b.free S
 | .cond _ a b=>a.free S && b.free S
 | .block _ a | .loop a=>a.free S
 | .ranges _ _ _ _=>false
 | _=>true
def aW.free (S:FuncId→Bool) (af:aW):Bool:=af.body.free S && af.results.all fun | .tmp _=>true | .cell _ _=>false
def qD (g:Nat→ah→Option (aa × ah)):Prop:= ∀lim H v H',g lim H=some (v,H')→H'=H∧ ∀dm H2,g dm H2=some (v,H2)
def uc (S:FuncId→Bool):bg→Prop
 | .code af=>af.free S=true
 | .gW g=> ∀args,qD fun lim H=>g lim args H
section
variable {S:FuncId→Bool} {R:aq}
theorem Uc (hR:∀f args,S f=true→qD fun lim H=>R lim (.fn f) args H) {lim:Nat} {ev:aP→aa} {H H':ah} {v:aa} {op:bG} (hf:op.free S=true) (h:step R lim ev H op=some (v,H')):
  H'=H∧ ∀dm H2,step R dm ev H2 op=some (v,H2):=by
 have key:∀f xs,op= .call f xs→H'=H∧ ∀dm H2,step R dm ev H2 op=some (v,H2):=by
  rintro f xs rfl
  exact hR f (xs.map ev) hf lim H v H' h
 cases op
 case call f xs=>exact key f xs rfl
 all_goals exact Jq (by simpa [bG.free] using hf) h
theorem J5 (hR:∀f args,S f=true→qD fun lim H=>R lim (.fn f) args H) {lim:Nat}:∀(os:List aY) (T:List aa) (H:ah) (s':St),(os.all fun o=>o.op.free S && o.apart.isEmpty)=true→ep R lim os ⟨T,H⟩=some s'→
  s'.H=H∧ ∀dm H2,ep R dm os ⟨T,H2⟩=some ⟨s'.tmps,H2⟩
 | [],T,H,s',_,h=>by simp [ep] at h;subst h;exact ⟨rfl,fun _ _=>rfl⟩
 | o::os,T,H,s',hf,h=>by
  rw [List.all_cons,Bool.and_eq_true,Bool.and_eq_true] at hf
  obtain ⟨⟨Ud,Ue⟩,Uf⟩:=hf
  have cR:o.clear T=true:=by
   have:o.apart=[]:=by simpa using Ue
   unfold aY.clear;rw [this]
  unfold ep at h
  split at h
  case h_2=>simp at h
  rename_i s1 h1
  have one:s1.H=H∧ ∀dm H2,execOp R dm o ⟨T,H2⟩=some ⟨s1.tmps,H2⟩:=by
   unfold execOp at h1 ⊢
   split at h1
   ·rename_i hw
    rw [cR] at h1
    simp only [Bool.not_true,Bool.false_eq_true,if_false] at h1
    split at h1
    ·rename_i v H1 hs
     simp at h1;subst h1
     obtain ⟨e,hall⟩:=Uc hR Ud hs
     refine ⟨e,fun dm H2=> ?_⟩
     simp only at hw
     simp only [hw,cR,if_true,Bool.not_true,Bool.false_eq_true,if_false]
     rw [hall]
    ·simp at h1
   ·rename_i hw
    simp at h1;subst h1
    refine ⟨rfl,fun dm H2=> ?_⟩
    simp only at hw
    simp only [hw,if_false,Bool.false_eq_true]
  obtain ⟨e1,a1⟩:=one
  obtain ⟨T1,H1⟩:=s1
  simp only at e1 a1
  subst e1
  obtain ⟨e2,a2⟩:=J5 hR os T1 H1 s' Uf h
  refine ⟨e2,fun dm H2=> ?_⟩
  unfold ep
  rw [a1]
  exact a2 dm H2
theorem J6 {f:Nat→St→Option (Ex × St)} (hf:∀lim T H ex s',f lim ⟨T,H⟩=some (ex,s')→s'.H=H∧ ∀dm H2,f dm ⟨T,H2⟩=some (ex,⟨s'.tmps,H2⟩)) {lim:Nat}:∀(n:Nat) (T:List aa) (H:ah) (ex:Ex) (s':St),
  dy (f lim) n ⟨T,H⟩=some (ex,s')→s'.H=H∧ ∀dm H2,dy (f dm) n ⟨T,H2⟩=some (ex,⟨s'.tmps,H2⟩)
 | 0,T,H,ex,s',h=>by simp [dy] at h
 | n+1,T,H,ex,s',h=>by
  unfold dy at h
  split at h
  ·rename_i s1 h1
   obtain ⟨T1,H1⟩:=s1
   obtain ⟨e1,a1⟩:=hf _ _ _ _ _ h1
   simp only at e1 a1
   subst e1
   obtain ⟨e2,a2⟩:=J6 hf n T1 H1 ex s' h
   refine ⟨e2,fun dm H2=> ?_⟩
   unfold dy
   rw [a1]
   exact a2 dm H2
  ·rename_i hne
   obtain ⟨e1,a1⟩:=hf _ _ _ _ _ h
   refine ⟨e1,fun dm H2=> ?_⟩
   unfold dy
   rw [a1]
   split
   ·rename_i s2 h2
    simp at h2;obtain ⟨rfl,rfl⟩:=h2
    exact absurd h (hne s')
   ·rfl
theorem oO (hR:∀f args,S f=true→qD fun lim H=>R lim (.fn f) args H) (n:Nat):∀(c:aT),c.free S=true→ ∀(lim:Nat) (T:List aa) (H:ah) (ex:Ex) (s':St),exec R lim n c ⟨T,H⟩=some (ex,s')→
  s'.H=H∧ ∀dm H2,exec R dm n c ⟨T,H2⟩=some (ex,⟨s'.tmps,H2⟩)
 | .skip,_,lim,T,H,ex,s',h=>by simp [exec] at h;obtain ⟨rfl,rfl⟩:=h;exact ⟨rfl,fun _ _=>rfl⟩
 | .exit id,_,lim,T,H,ex,s',h=>by simp [exec] at h;obtain ⟨rfl,rfl⟩:=h;exact ⟨rfl,fun _ _=>rfl⟩
 | .ret,_,lim,T,H,ex,s',h=>by simp [exec] at h;obtain ⟨rfl,rfl⟩:=h;exact ⟨rfl,fun _ _=>rfl⟩
 | .ranges _ _ _ _,hf,_,_,_,_,_,_=>by simp [aT.free] at hf
 | .region os,hf,lim,T,H,ex,s',h=>by
  simp only [exec,Option.map_eq_some_iff] at h
  obtain ⟨s1,h1,h2⟩:=h
  simp at h2;obtain ⟨rfl,rfl⟩:=h2
  obtain ⟨e,a⟩:=J5 hR os T H s1 (by simpa only [aT.free] using hf) h1
  exact ⟨e,fun dm H2=>by simp only [exec,a,Option.map_some]⟩
 | .seq a b,hf,lim,T,H,ex,s',h=>by
  simp only [aT.free,Bool.and_eq_true] at hf
  simp only [exec] at h
  split at h
  ·rename_i s1 h1
   obtain ⟨T1,H1⟩:=s1
   obtain ⟨e1,a1⟩:=oO hR n a hf.1 _ _ _ _ _ h1
   simp only at e1 a1
   subst e1
   obtain ⟨e2,a2⟩:=oO hR n b hf.2 _ _ _ _ _ h
   exact ⟨e2,fun dm H2=>by simp only [exec,a1,a2]⟩
  ·rename_i hne
   obtain ⟨e1,a1⟩:=oO hR n a hf.1 _ _ _ _ _ h
   refine ⟨e1,fun dm H2=> ?_⟩
   simp only [exec,a1]
   split
   ·rename_i s2 h2
    simp at h2;obtain ⟨rfl,rfl⟩:=h2
    exact absurd h (hne s')
   ·rfl
 | .cond c a b,hf,lim,T,H,ex,s',h=>by
  simp only [aT.free,Bool.and_eq_true] at hf
  simp only [exec] at h ⊢
  split at h
  ·rename_i t ht
   split at h
   ·rename_i ud
    obtain ⟨e1,a1⟩:=oO hR n a hf.1 _ _ _ _ _ h
    exact ⟨e1,fun dm H2=>by simp only [ud,if_true,a1]⟩
   ·rename_i ud
    obtain ⟨e1,a1⟩:=oO hR n b hf.2 _ _ _ _ _ h
    exact ⟨e1,fun dm H2=>by simp only [ud,if_false,a1];rfl⟩
  ·simp at h
 | .block id c,hf,lim,T,H,ex,s',h=>by
  simp only [exec] at h ⊢
  split at h
  ·rename_i id' s1 h1
   obtain ⟨e1,a1⟩:=oO hR n c (by simpa only [aT.free] using hf) _ _ _ _ _ h1
   split at h
   ·rename_i hid
    simp at h;obtain ⟨rfl,rfl⟩:=h
    exact ⟨e1,fun dm H2=>by simp only [a1,hid,if_true]⟩
   ·rename_i hid
    simp at h;obtain ⟨rfl,rfl⟩:=h
    exact ⟨e1,fun dm H2=>by simp only [a1,hid,if_false]⟩
  ·rename_i hne
   obtain ⟨e1,a1⟩:=oO hR n c (by simpa only [aT.free] using hf) _ _ _ _ _ h
   refine ⟨e1,fun dm H2=> ?_⟩
   rw [a1]
   split
   ·rename_i id' s2 h2
    simp at h2;obtain ⟨rfl,rfl⟩:=h2
    exact absurd h (hne _ _)
   ·rfl
 | .loop c,hf,lim,T,H,ex,s',h=>by
  simp only [exec] at h ⊢
  exact J6 (f:=fun lim=>exec R lim n c) (fun lim T H ex s'=>oO hR n c (by simpa only [aT.free] using hf) lim T H ex s') n T H ex s' h
theorem J7:∀(rs:List gD) (T:List aa) (H:ah) (vs:List aa),(rs.all fun | .tmp _=>true | .cell _ _=>false)=true→fT ⟨T,H⟩ rs=some vs→ ∀H2,fT ⟨T,H2⟩ rs=some vs
 | [],T,H,vs,_,h,H2=>by simpa [fT] using h
 | .tmp t::rs,T,H,vs,hf,h,H2=>by
  simp only [List.all_cons,Bool.true_and] at hf
  simp only [fT,p8] at h ⊢
  split at h <;>simp at h
  rename_i v vs1 hv hvs
  simp at hv;subst hv
  rw [J7 rs T H vs1 hf hvs H2]
  simp [h]
 | .cell _ _::rs,T,H,vs,hf,h,H2=>by simp at hf
theorem DL {ap:FuncId→Option bg} (hS:∀f,S f=true→ ∃af,ap f=some af∧uc S af):∀(n:Nat) (f:FuncId) (args:List aa),S f=true→qD fun lim H=>runT ap n lim (.fn f) args H
 | 0,f,args,_=>fun lim H v H' h=>by simp [runT] at h
 | n+1,f,args,hf=>fun lim H v H' h=>by
  obtain ⟨af,mA,hfree⟩:=hS f hf
  simp only [runT,mA] at h ⊢
  cases af with
  | gW g=>exact hfree args lim H v H' h
  | code af=>
   simp only [uc,aW.free,Bool.and_eq_true] at hfree
   simp only at h ⊢
   split at h
   ·simp at h
   ·rename_i ex s hne hex
    obtain ⟨e1,a1⟩:=oO (fun f args hf=>DL hS n f args hf) n af.body hfree.1 _ _ _ _ _ hex
    unfold lY at h
    rw [Option.map_eq_some_iff] at h
    obtain ⟨vs,hvs,h2⟩:=h
    simp at h2;obtain ⟨rfl,rfl⟩:=h2
    refine ⟨e1,fun dm H2=> ?_⟩
    rw [a1]
    have hr:lY af ⟨s.tmps,H2⟩=some (gV vs,H2):=by
     unfold lY
     rw [J7 af.results s.tmps s.H vs hfree.2 hvs H2]
     rfl
    cases ex with
    | norm=>exact hr
    | ret=>exact hr
    | exit id=>exact (hne id rfl).elim
   ·simp at h
end
end Go.au
end
section
set_option linter.unusedSimpArgs false
set_option linter.unusedVariables false
set_option linter.unusedSectionVars false
namespace Go.au
variable [Gl]
def Ai:aa→aa→Bool
 | .int k a,.int k' b=>decide (k=k') && a==b
 | .bool a,.bool b=>a==b
 | _,_=>false
def ue:List aa→List aa→Bool
 | [],[]=>true
 | a::a9as,b::bs=>Ai a b && ue a9as bs
 | _,_=>false
def DM:aa→aa→Bool
 | .bq a9as,.bq bs=>ue a9as bs
 | a,b=>Ai a b
theorem J8 {a b:aa} (h:Ai a b=true):a=b:=by
 cases a <;>cases b <;>simp [Ai] at h
 ·obtain ⟨rfl,rfl⟩:=h;rfl
 ·subst h;rfl
theorem J9:∀{a9as bs:List aa},ue a9as bs=true→a9as=bs
 | [],[],_=>rfl
 | a::a9as,b::bs,h=>by
  simp only [ue,Bool.and_eq_true] at h
  rw [J8 h.1,J9 h.2]
 | [],_::_,h=>by simp [ue] at h
 | _::_,[],h=>by simp [ue] at h
theorem Ug {a b:aa} (h:DM a b=true):a=b:=by
 unfold DM at h
 split at h
 ·rw [J9 h]
 ·exact J8 h
def Aj (r:Option (aa × ah)) (v:aa):Bool:=
 match r with
 | some (u,_)=>DM u v
 | none=>false
theorem Ka {r:Option (aa × ah)} {v:aa} (h:Aj r v=true):∃H,r=some (v,H):=by
 unfold Aj at h
 split at h
 ·rename_i u H
  exact ⟨H,by rw [Ug h]⟩
 ·simp at h
def uf (p:Nat→Bool):Nat→Bool
 | 0=>true
 | n+1=>p n && uf p n
theorem Ak {p:Nat→Bool}:∀{n:Nat},uf p n=true→ ∀i,i <n→p i=true
 | 0,_,i,hi=>by omega
 | n+1,h,i,hi=>by
  simp only [uf,Bool.and_eq_true] at h
  by_cases e:i=n
  ·subst e;exact h.1
  ·exact Ak h.2 i (by omega)
def byte:aa→Option Nat
 | .int .u8 x=>if 0≤x∧x <256 then some x.toNat else none
 | _=>none
theorem ug {v:aa} {n:Nat} (h:byte v=some n):v= .int .u8 n∧n <256:=by
 unfold byte at h
 split at h
 ·split at h <;>simp at h
  rename_i x hx
  obtain ⟨h1,h2⟩:=hx
  refine ⟨?_,by omega⟩
  congr 1
  omega
 ·simp at h
theorem DN {n:Nat} (h:n <256):byte (.int .u8 n)=some n:=by
 have:(0:Int)≤(n:Int)∧(n:Int) <256:=⟨by omega,by omega⟩
 simp only [byte,this,and_self,if_true,Int.toNat_natCast]
def qE (g:Nat→aa):Nat→List aa→ah→Option (aa × ah):=fun _ args H=>
 match args with
 | [a]=>(byte a).map fun x=>(g x,H)
 | _=>none
def qF (g:Nat→Nat→aa):Nat→List aa→ah→Option (aa × ah):=fun _ args H=>
 match args with
 | [a,b]=>(byte a).bind fun x=>(byte b).map fun y=>(g x y,H)
 | _=>none
theorem afh (g:Nat→aa) (args:List aa):qD fun lim H=>qE g lim args H:=by
 intro lim H v H' h
 unfold qE at h ⊢
 split at h
 ·simp only [Option.map_eq_some_iff] at h
  obtain ⟨x,hx,h2⟩:=h
  simp at h2;obtain ⟨rfl,rfl⟩:=h2
  exact ⟨rfl,fun _ _=>by simp [hx]⟩
 ·simp at h
theorem afi (g:Nat→Nat→aa) (args:List aa):qD fun lim H=>qF g lim args H:=by
 intro lim H v H' h
 unfold qF at h ⊢
 split at h
 ·simp only [Option.bind_eq_some_iff,Option.map_eq_some_iff] at h
  obtain ⟨x,hx,y,hy,h2⟩:=h
  simp at h2;obtain ⟨rfl,rfl⟩:=h2
  exact ⟨rfl,fun _ _=>by simp [hx,hy]⟩
 ·simp at h
theorem afj (v0:aa) (args:List aa):qD fun (_:Nat) H=>(match args with | []=>some (v0,H) | _=>none:Option (aa × ah)):=by
 intro lim H v H' h
 simp only at h ⊢
 split at h <;>simp at h
 obtain ⟨rfl,rfl⟩:=h
 exact ⟨rfl,fun _ _=>rfl⟩
section
variable {P:Program} {ap:FuncId→Option bg} {S:FuncId→Bool}
theorem eN.afk (hP:P.follows .mixedOrders=true) (hap:∀f af,ap f=some af→gZ P f af) (hS:∀f,S f=true→ ∃af,ap f=some af∧uc S af) {f:FuncId} (hf:S f=true) (n:Nat) (g:Nat→aa)
  (h:uf (fun x=>Aj (run ap n 0 f [.int .u8 x] ah.empty) (g x)) 256=true):eN P f (qE g):=by
 obtain ⟨af,mA,_⟩:=hS f hf
 refine eN.Af hP hap mA fun lim args H v H' hg=>⟨n,?_⟩
 unfold qE at hg
 split at hg
 ·simp only [Option.map_eq_some_iff] at hg
  obtain ⟨x,hx,h2⟩:=hg
  simp at h2;obtain ⟨rfl,rfl⟩:=h2
  obtain ⟨rfl,hx'⟩:=ug hx
  obtain ⟨H0,h0⟩:=Ka (Ak h x hx')
  exact (DL hS n f _ hf 0 ah.empty _ H0 h0).2 lim H
 ·simp at hg
theorem eN.afl (hP:P.follows .mixedOrders=true) (hap:∀f af,ap f=some af→gZ P f af) (hS:∀f,S f=true→ ∃af,ap f=some af∧uc S af) {f:FuncId} (hf:S f=true) (n:Nat) (g:Nat→Nat→aa)
  (h:uf (fun x=>uf (fun y=>Aj (run ap n 0 f [.int .u8 x,.int .u8 y] ah.empty) (g x y)) 256) 256=true):eN P f (qF g):=by
 obtain ⟨af,mA,_⟩:=hS f hf
 refine eN.Af hP hap mA fun lim args H v H' hg=>⟨n,?_⟩
 unfold qF at hg
 split at hg
 ·simp only [Option.bind_eq_some_iff,Option.map_eq_some_iff] at hg
  obtain ⟨x,hx,y,hy,h2⟩:=hg
  simp at h2;obtain ⟨rfl,rfl⟩:=h2
  obtain ⟨rfl,hx'⟩:=ug hx
  obtain ⟨rfl,hy'⟩:=ug hy
  obtain ⟨H0,h0⟩:=Ka (Ak (Ak h x hx') y hy')
  exact (DL hS n f _ hf 0 ah.empty _ H0 h0).2 lim H
 ·simp at hg
def over (l:List (Nat × bg)) (ap:FuncId→Option bg):FuncId→Option bg:=fun f=>match l.lookup f with
 | some x=>some x
 | none=>ap f
theorem Kb {l:List (Nat × bg)} (hl:wI P l) (hap:∀f af,ap f=some af→gZ P f af):∀f af,over l ap f=some af→gZ P f af:=by
 intro f af h
 unfold over at h
 split at h
 ·rename_i x hx
  simp at h;subst h
  exact Ag hl f x hx
 ·exact hap f af h
theorem afm {L:List Nat} (h:∀f∈L,∃af,ap f=some af∧uc (fun f=>L.contains f) af):∀f,L.contains f=true→ ∃af,ap f=some af∧uc (fun f=>L.contains f) af:=
 fun f hf=>h f (by simpa using hf)
end
end Go.au
end
section
set_option linter.unusedSimpArgs false
set_option linter.unusedVariables false
set_option linter.unusedSectionVars false
namespace Go.au
variable [Gl]
theorem wrap_u8 {n:Nat} (h:n <256):IntKind.u8.wrap (n:Int)=n:=Ah (by show (0:Int)≤n;omega) (by show (n:Int)≤255;omega)
theorem uh (w n:Nat):BitVec.ofInt w (n:Int)=BitVec.ofNat w n:=by simp
theorem afn {a b:Nat} (ha:a <256) (hb:b <256):kU .u8 (a:Int) (b:Int)=((a &&& b:Nat):Int):=by
 unfold kU ju
 show IntKind.u8.wrap ((BitVec.ofInt 8 (a:Int) &&& BitVec.ofInt 8 (b:Int)).toNat:Int)=_
 rw [uh,uh,BitVec.toNat_and,BitVec.toNat_ofNat,BitVec.toNat_ofNat,Nat.mod_eq_of_lt ha,Nat.mod_eq_of_lt hb]
 exact wrap_u8 (Nat.lt_of_le_of_lt Nat.and_le_left ha)
theorem afo {a b:Nat} (ha:a <256) (hb:b <256):mB .u8 (a:Int) (b:Int)=((a ||| b:Nat):Int):=by
 unfold mB ju
 show IntKind.u8.wrap ((BitVec.ofInt 8 (a:Int) ||| BitVec.ofInt 8 (b:Int)).toNat:Int)=_
 rw [uh,uh,BitVec.toNat_or,BitVec.toNat_ofNat,BitVec.toNat_ofNat,Nat.mod_eq_of_lt ha,Nat.mod_eq_of_lt hb]
 exact wrap_u8 (Nat.or_lt_two_pow (n:=8) ha hb)
theorem Ke {a b:Nat} (ha:a <256) (hb:b <256):gq .u8 (a:Int) (b:Int)=((a ^^^ b:Nat):Int):=by
 unfold gq ju
 show IntKind.u8.wrap ((BitVec.ofInt 8 (a:Int) ^^^ BitVec.ofInt 8 (b:Int)).toNat:Int)=_
 rw [uh,uh,BitVec.toNat_xor,BitVec.toNat_ofNat,BitVec.toNat_ofNat,Nat.mod_eq_of_lt ha,Nat.mod_eq_of_lt hb]
 exact wrap_u8 (Nat.xor_lt_two_pow (n:=8) ha hb)
theorem afp (g:Nat→aa) (lim:Nat) (H:ah) {x:Nat} (hx:x <256):qE g lim [.int .u8 (x:Int)] H=some (g x,H):=by
 simp only [qE,DN hx,Option.map_some]
theorem afq (g:Nat→Nat→aa) (lim:Nat) (H:ah) {x y:Nat} (hx:x <256) (hy:y <256):qF g lim [.int .u8 (x:Int),.int .u8 (y:Int)] H=some (g x y,H):=by
 simp only [qF,DN hx,DN hy,Option.bind_some,Option.map_some]
section
variable {P:Program} {ap:FuncId→Option bg}
theorem eN.afr (hP:P.follows .mixedOrders=true) (hap:∀f af,ap f=some af→gZ P f af) {f:FuncId} {af:bg} (hf:ap f=some af) (n:Nat) (g:Nat→aa)
  (h:∀lim H (x:Nat),x <256→run ap n lim f [.int .u8 (x:Int)] H=some (g x,H)):eN P f (qE g):=
 eN.Af hP hap hf fun lim args H v H' hg=>⟨n,by
  unfold qE at hg
  split at hg
  ·simp only [Option.map_eq_some_iff] at hg
   obtain ⟨x,hx,h2⟩:=hg
   simp at h2;obtain ⟨rfl,rfl⟩:=h2
   obtain ⟨rfl,hx'⟩:=ug hx
   exact h lim H x hx'
  ·simp at hg⟩
theorem eN.afs (hP:P.follows .mixedOrders=true) (hap:∀f af,ap f=some af→gZ P f af) {f:FuncId} {af:bg} (hf:ap f=some af) (n:Nat) (g:Nat→Nat→aa)
  (h:∀lim H (x y:Nat),x <256→y <256→run ap n lim f [.int .u8 (x:Int),.int .u8 (y:Int)] H=some (g x y,H)):eN P f (qF g):=
 eN.Af hP hap hf fun lim args H v H' hg=>⟨n,by
  unfold qF at hg
  split at hg
  ·simp only [Option.bind_eq_some_iff,Option.map_eq_some_iff] at hg
   obtain ⟨x,hx,y,hy,h2⟩:=hg
   simp at h2;obtain ⟨rfl,rfl⟩:=h2
   obtain ⟨rfl,hx'⟩:=ug hx
   obtain ⟨rfl,hy'⟩:=ug hy
   exact h lim H x y hx' hy'
  ·simp at hg⟩
end
end Go.au
end
section
set_option linter.unusedSimpArgs false
set_option linter.unusedVariables false
set_option linter.unusedSectionVars false
namespace Go.au
variable [Gl]
theorem Uh (T:List aa) (i j:Nat) (v:aa) (h:i <T.length):(T.set i v).getD j bA=if i=j then v else T.getD j bA:=by
 rw [List.getD_eq_getElem?_getD,List.getD_eq_getElem?_getD,List.getElem?_set]
 by_cases e:i=j
 ·subst e;simp [h]
 ·simp [e]
def mC (v:aa) (want:Bool):Bool:=
 match v with
 | .bool b=>b==want
 | _=>false
theorem aft (b want:Bool):mC (.bool b) want=(b==want):=rfl
theorem DO (T:List aa) (t:Nat) (want:Bool):eF T (some (t,want))=mC (T.getD t bA) want:=by
 unfold eF mC
 simp only
 rw [List.getD_eq_getElem?_getD]
 cases T[t]? with
 | none=>rfl
 | some v=>cases v <;>rfl
theorem afu (b:Bool):(b==true)=b:=by cases b <;>rfl
theorem afv (b:Bool):(b==false)= !b:=by cases b <;>rfl
theorem Ui (b:Bool):fE .not (.bool b)=some (.bool !b):=by cases b <;>rfl
theorem afw (R:aq) (lim:Nat) (ev:aP→aa) (H:ah) (op:UnOp) (x:aP):step R lim ev H (.un op x)=val H (fE op (ev x)):=rfl
theorem afx {body:St→Option (Ex × St)} {s s':St} (n:Nat) (h:body s=some (.norm,s')):dy body (n+1) s=dy body n s':=by
 rw [dy,h]
theorem afy {body:St→Option (Ex × St)} {s s':St} (n:Nat) (h:body s=some (.ret,s')):dy body (n+1) s=some (.ret,s'):=by
 rw [dy,h]
theorem afz {body:St→Option (Ex × St)} {s s':St} (n id:Nat) (h:body s=some (.exit id,s')):dy body (n+1) s=some (.exit id,s'):=by
 rw [dy,h]
def wK (r:Option (Ex × St)) (Q:Ex→St→Prop):Prop:= ∃ex s,r=some (ex,s)∧Q ex s
theorem afA (ex:Ex) (s:St) (Q:Ex→St→Prop):wK (some (ex,s)) Q=Q ex s:=by
 apply propext
 constructor
 ·rintro ⟨ex',s',h,hq⟩;simp at h;obtain ⟨rfl,rfl⟩:=h;exact hq
 ·exact fun h=>⟨ex,s,rfl,h⟩
end Go.au
end
section
set_option linter.unusedSimpArgs false
set_option linter.unusedVariables false
set_option linter.unusedSectionVars false
namespace Go.au
variable [Gl]
inductive DP where
 | seq (c:aT)
 | block (id:Nat)
 | loop (c:aT) (m:Nat)
section
variable (R:aq) (lim n:Nat)
def runK:List DP→Option (Ex × St)→Option (Ex × St)
 | [],r=>r
 | .seq c::ks,r=>runK ks (jv r fun s=>exec R lim n c s)
 | .block id::ks,r=>runK ks (je id r)
 | .loop c m::ks,r=>runK ks (jv r fun s=>dy (exec R lim n c) m s)
def At (ks:List DP) (r:Option (Ex × St)) (Q:Ex→St→Prop):Prop:=wK (runK R lim n ks r) Q
end
section
variable {R:aq} {lim n:Nat} {ks:List DP} {T T':List aa} {H H':ah} {Q:Ex→St→Prop}
theorem afB {c:aT} {s:St} (h:At R lim n [] (exec R lim n c s) Q):wK (exec R lim n c s) Q:=h
theorem afC {a b:aT} {s:St} (h:At R lim n (.seq b::ks) (exec R lim n a s) Q):At R lim n ks (exec R lim n (.seq a b) s) Q:=by
 rw [T4];exact h
theorem afD {id:Nat} {c:aT} {s:St} (h:At R lim n (.block id::ks) (exec R lim n c s) Q):At R lim n ks (exec R lim n (.block id c) s) Q:=h
theorem afE {c:aT} {s:St} (h:At R lim n ks (dy (exec R lim n c) n s) Q):At R lim n ks (exec R lim n (.loop c) s) Q:=h
theorem afF {c:aT} {m:Nat} {s:St} (h:At R lim n (.loop c m::ks) (exec R lim n c s) Q):At R lim n ks (dy (exec R lim n c) (m+1) s) Q:=by
 have e:dy (exec R lim n c) (m+1) s=jv (exec R lim n c s) fun s=>dy (exec R lim n c) m s:=by
  rw [dy]
  cases exec R lim n c s with
  | none=>rfl
  | some p=>obtain ⟨ex,s1⟩:=p;cases ex <;>rfl
 rw [e];exact h
theorem afG {s:St} (h:At R lim n ks (some (.norm,s)) Q):At R lim n ks (exec R lim n .skip s) Q:=h
theorem afH {s:St} (h:At R lim n ks (some (.ret,s)) Q):At R lim n ks (exec R lim n .ret s) Q:=h
theorem afI {id:Nat} {s:St} (h:At R lim n ks (some (.exit id,s)) Q):At R lim n ks (exec R lim n (.exit id) s) Q:=h
theorem afJ {c:aP} {a b:aT} {t:Bool} (hc:St.ev T c= .bool t) (h1:t=true→At R lim n ks (exec R lim n a ⟨T,H⟩) Q) (h2:t=false→At R lim n ks (exec R lim n b ⟨T,H⟩) Q):At R lim n ks (exec R lim n (.cond c a b) ⟨T,H⟩) Q:=by
 rw [T6]
 simp only [hc,T5]
 cases t with
 | true=>exact h1 rfl
 | false=>exact h2 rfl
theorem afK {os:List aY} {s:St} (h:At R lim n ks (ops R lim os s fun s=>some (.norm,s)) Q):At R lim n ks (exec R lim n (.region os) s) Q:=by
 rw [T7];exact h
theorem afL {s:St} (h:At R lim n ks (some (.norm,s)) Q):At R lim n ks (ops R lim [] s fun s=>some (.norm,s)) Q:=h
theorem afM {d:Option Nat} {op:bG} {b:Bool} {os:List aY} {v:aa} (h1:step R (if b then H.next else lim) (St.ev T) H op=some (v,H')) (h2:dc T d v=T')
  (h:At R lim n ks (ops R lim os ⟨T',H'⟩ fun s=>some (.norm,s)) Q):At R lim n ks (ops R lim (⟨d,op,none,b,[]⟩::os) ⟨T,H⟩ fun s=>some (.norm,s)) Q:=by
 rw [J3,h1,T9,h2];exact h
theorem afN {d:Option Nat} {op:bG} {b:Bool} {os:List aY} {t:Nat} {want w:Bool} (hw:mC (T.getD t bA) want=w)
  (h1:w=true→At R lim n ks (ops R lim (⟨d,op,none,b,[]⟩::os) ⟨T,H⟩ fun s=>some (.norm,s)) Q)
  (h2:w=false→At R lim n ks (ops R lim os ⟨dc T d bA,H⟩ fun s=>some (.norm,s)) Q):At R lim n ks (ops R lim (⟨d,op,some (t,want),b,[]⟩::os) ⟨T,H⟩ fun s=>some (.norm,s)) Q:=by
 rw [T8,DO,hw]
 cases w with
 | true=>
  have:=h1 rfl
  rw [J3] at this
  rw [if_pos rfl];exact this
 | false=>
  rw [if_neg (by simp)];exact h2 rfl
theorem afO {os:List aY} (h2:T=T') (h:At R lim n ks (ops R lim os ⟨T',H⟩ fun s=>some (.norm,s)) Q):At R lim n ks (ops R lim os ⟨T,H⟩ fun s=>some (.norm,s)) Q:=by
 rw [h2];exact h
theorem afP {c:aT} {s:St} (h:At R lim n ks (exec R lim n c s) Q):At R lim n (.seq c::ks) (some (.norm,s)) Q:=h
theorem afQ {id:Nat} {s:St} (h:At R lim n ks (some (.norm,s)) Q):At R lim n (.block id::ks) (some (.norm,s)) Q:=h
theorem afR {c:aT} {m:Nat} {s:St} (h:At R lim n ks (dy (exec R lim n c) m s) Q):At R lim n (.loop c m::ks) (some (.norm,s)) Q:=h
theorem afS {c:aT} {s:St} (h:At R lim n ks (some (.ret,s)) Q):At R lim n (.seq c::ks) (some (.ret,s)) Q:=h
theorem afT {id:Nat} {s:St} (h:At R lim n ks (some (.ret,s)) Q):At R lim n (.block id::ks) (some (.ret,s)) Q:=h
theorem afU {c:aT} {m:Nat} {s:St} (h:At R lim n ks (some (.ret,s)) Q):At R lim n (.loop c m::ks) (some (.ret,s)) Q:=h
theorem afV {c:aT} {id:Nat} {s:St} (h:At R lim n ks (some (.exit id,s)) Q):At R lim n (.seq c::ks) (some (.exit id,s)) Q:=h
theorem afW {c:aT} {m id:Nat} {s:St} (h:At R lim n ks (some (.exit id,s)) Q):At R lim n (.loop c m::ks) (some (.exit id,s)) Q:=h
theorem afX {id:Nat} {s:St} (h:At R lim n ks (some (.norm,s)) Q):At R lim n (.block id::ks) (some (.exit id,s)) Q:=by
 have e:je id (some (.exit id,s))=some (.norm,s):=by rw [J1,if_pos rfl]
 show wK (runK R lim n ks (je id (some (.exit id,s)))) Q
 rw [e];exact h
theorem afY {id id':Nat} {s:St} (hne:(id'==id)=false) (h:At R lim n ks (some (.exit id',s)) Q):At R lim n (.block id::ks) (some (.exit id',s)) Q:=by
 have e:je id (some (.exit id',s))=some (.exit id',s):=by rw [J1,if_neg (by simpa using hne)]
 show wK (runK R lim n ks (je id (some (.exit id',s)))) Q
 rw [e];exact h
theorem afZ {ex:Ex} {s:St} (h:Q ex s):At R lim n [] (some (ex,s)) Q:=⟨ex,s,rfl,h⟩
theorem af0 {ap:FuncId→Option bg} {f:FuncId} {af:aW} (hf:ap f=some (.code af)) {args:List aa} {T:List aa} (hT:args++List.replicate (af.ntmps - args.length) bA=T) {v:aa} {H':ah}
  (h:At (runT ap n) lim n [] (exec (runT ap n) lim n af.body ⟨T,H⟩) fun ex s=>(ex= .ret∨ex= .norm)∧ ∃vs,fT s af.results=some vs∧gV vs=v∧s.H=H'):run ap (n+1) lim f args H=some (v,H'):=by
 obtain ⟨ex,s,h1,h2,vs,h3,h4,h5⟩:=h
 rw [run_eq _ _ _ hf,hT]
 have h1':exec (runT ap n) lim n af.body ⟨T,H⟩=some (ex,s):=h1
 rw [h1']
 rcases h2 with rfl | rfl
 ·rw [Ua,h3,Option.map_some,h4,h5]
 ·rw [Ub,h3,Option.map_some,h4,h5]
end
end Go.au
end
