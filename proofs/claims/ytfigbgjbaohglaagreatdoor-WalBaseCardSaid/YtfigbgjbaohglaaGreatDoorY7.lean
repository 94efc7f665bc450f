/- Parts of the proof. -/
import Derived.Test.YtfigbgjbaohglaaGreatDoorY6
import Derived.ChangeArms
import Derived.OpenShut
import Derived.ChangeShapes
import Derived.Carry
import Derived.Test.YtfigbgjbaohglaaGreatDoorY1
import Derived.Test.YtfigbgjbaohglaaGreatDoorProg
import Derived.Test.YtfigbgjbaohglaaGreatDoorRows
import Derived.Lib.LaidU8
import Derived.KernelRfl
section
set_option linter.unusedSimpArgs false
set_option linter.unusedVariables false
set_option linter.unusedSectionVars false
namespace Go.au
variable [Gl]
abbrev Tm:=Nat→aa
def Kf (T:Tm) (d:Nat) (v:aa):Tm:=fun i=>bif Nat.beq i d then v else T i
def uj (T:Tm):Option Nat→aa→Tm
 | some d,v=>Kf T d v
 | none,_=>T
def mD (T:Tm):aP→aa
 | .tmp t=>T t
 | .val v=>v
def ak {α:Type} (o:Option α) (k:α→Prop):Prop:= ∃a,o=some a∧k a
def aK (o:Option (aa × ah)) (k:aa→ah→Prop):Prop:= ∃v H,o=some (v,H)∧k v H
theorem aF {α:Type} {o:Option α} {k:α→Prop} {a:α} (h:o=some a) (hk:k a):ak o k:=⟨a,h,hk⟩
theorem aG {o:Option (aa × ah)} {k:aa→ah→Prop} {v:aa} {H:ah} (h:o=some (v,H)) (hk:k v H):aK o k:=⟨v,H,h,hk⟩
def gd (g:Option (aa × Bool)) (o:Option aa):Option aa:=
 match g with
 | none=>o
 | some (v,w)=>if mC v w=true then o else some bA
def eA (g:Option (aa × Bool)) (H:ah) (o:Option (aa × ah)):Option (aa × ah):=
 match g with
 | none=>o
 | some (v,w)=>if mC v w=true then o else some (bA,H)
def aV:aa→Option Bool
 | .bool b=>some b
 | _=>none
def bH (c a b:aa):Option aa:=
 match c with
 | .bool t=>some (if t=true then a else b)
 | _=>none
def dI:aa→Option aa
 | .ptr (some a)=>some (.ptr (some a))
 | _=>none
def dZ (neg:Bool) (k:rC) (x y:aa):Option aa:=(aeq k x y).map fun b=> .bool (if neg then !b else b)
def fo (k:IntKind):aa→Option aa
 | .int _ n=>some (.int k (k.wrap n))
 | _=>none
def Kg:aa→Option aa
 | .str s=>some (.str s)
 | _=>none
def aU (off:Nat):aa→Option aa
 | .ptr (some (b,o))=>some (.ptr (some (b,o+off)))
 | _=>none
def DQ (off:Nat) (agg:Option Nat):aa→Option aa
 | .agg cs=>partOf cs off agg
 | _=>none
def bF (i:Nat):aa→Option aa
 | .bq vs=>vs[i]?
 | _=>none
def cU:List aa→List (Nat × Nat × aa)→Option (List aa)
 | cs,[]=>some cs
 | cs,(off,size,x)::rest=>if x.cells.length=size∧off+size≤cs.length then cU (put cs off x.cells) rest else none
def fW (zero:List aa) (parts:List (Nat × Nat × aa)):Option aa:=(cU zero parts).map .agg
def Al (ev:aP→aa) (H:ah):bG→Option (Option aa)
 | .an x=>some (some (ev x))
 | .pick c a b=>some (bH (ev c) (ev a) (ev b))
 | .build z ps=>some (fW z (ps.map fun p=>(p.1,p.2.1,ev p.2.2)))
 | .load g a=>some (aB H g (ev a))
 | .nilCheck x=>some (dI (ev x))
 | .bin op x y=>some (av op (ev x) (ev y))
 | .eqv neg k x y=>some (dZ neg k (ev x) (ev y))
 | .un op x=>some (fE op (ev x))
 | .bY k x=>some (fo k (ev x))
 | .rD x=>some (Kg (ev x))
 | .iU x=>some (e8 H (ev x))
 | .eT t x=>some (some (.iface t (ev x)))
 | .rE f first captured=>some (some (.fn f (first.map ev) (captured.map ev)))
 | .slice sz x lo hi mx=>some (fN sz (ev x) (lo.map ev) (hi.map ev) (mx.map ev))
 | .dP x lo hi=>some (dS (ev x) (lo.map ev) (hi.map ev))
 | .iV n sz x lo hi mx=>some (kD n sz (ev x) (lo.map ev) (hi.map ev) (mx.map ev))
 | .fieldAddr x off=>some (aU off (ev x))
 | .field x off agg=>some (DQ off agg (ev x))
 | .indexAddr arr sz x i=>some (cD arr sz (ev x) (ev i))
 | .index len sz agg x i=>some (zn len sz agg (ev x) (ev i))
 | .cr x i=>some (e7 (ev x) (ev i))
 | .extract x i=>some (bF i (ev x))
 | .len str x=>some (bh str (ev x))
 | .cap x=>some (Cu (ev x))
 | .kr isMax args=>some (iL isMax (args.map ev))
 | .lookup g ls z ok m k=>some (jV H g ls z ok (ev m) (ev k))
 | .vi m=>some (tD H (ev m))
 | .stop=>some none
 | _=>none
theorem Uj {R:aq} {lim:Nat} {ev:aP→aa} {H:ah} {op:bG} {o:Option aa} (h:Al ev H op=some o):step R lim ev H op=o.map fun v=>(v,H):=by
 have DR:∀(ps:List (Nat × Nat × aP)) (z:List aa),cU z (ps.map fun p=>(p.1,p.2.1,ev p.2.2))=jo ev z ps:=by
  intro ps
  induction ps with
  | nil=>intro z;rfl
  | cons p ps ih=>
   intro z
   obtain ⟨off,size,x⟩:=p
   simp only [List.map_cons,cU,jo]
   split <;>simp_all
 cases op <;>simp only [Al,Option.some.injEq,reduceCtorEq] at h <;>subst h
 case build z ps=>simp only [step,val,fW,DR]
 case pick c a b=>simp only [step,bH];generalize ev c=y;cases y <;>rfl
 case nilCheck x=>simp only [step,dI];generalize ev x=y;rcases y with _ | _ | _ | (_ | _) | _ | _ | _ | _ | _ | _ | _ | _ | _ <;>rfl
 case eqv neg k x y=>simp only [step,val,dZ]
 case bY k x=>simp only [step,fo];generalize ev x=y;cases y <;>rfl
 case rD x=>simp only [step,Kg];generalize ev x=y;cases y <;>rfl
 case fieldAddr x off=>simp only [step,aU];generalize ev x=y;rcases y with _ | _ | _ | (_ | _) | _ | _ | _ | _ | _ | _ | _ | _ | _ <;>rfl
 case field x off agg=>simp only [step,DQ];generalize ev x=y;cases y <;>rfl
 case extract x i=>simp only [step,bF];generalize ev x=y;cases y <;>rfl
 all_goals rfl
def Am (R:aq) (lim:Nat) (x:aa) (args:List aa) (H:ah):Option (aa × ah):=
 match x with
 | .fn f first captured=>R lim (.fn f) (first++args++captured) H
 | .yl b=>R lim (.yl b) args H
 | _=>none
def An (R:aq) (lim:Nat) (ev:aP→aa) (H:ah):bG→Option (aa × ah)
 | .call f args=>R lim (.fn f) (args.map ev) H
 | .m6 x args=>Am R lim (ev x) (args.map ev) H
 | .append z bytes zs s x=>fO lim H z bytes zs (ev s) (ev x)
 | .copy sz d s=>nW lim H sz (ev d) (ev s)
 | .store n a x=>(bp lim H n (ev a) (ev x)).map fun H=>(bA,H)
 | .makeSlice z bytes l c=>pW H z bytes (ev l) (ev c)
 | .jT x=>jT H (ev x)
 | .alloc z=>some (.ptr (some (H.next,0)),H.push (.cells z))
 | .box x=>if (ev x).cells.all (·.one) then some (.ptr (some (H.next,0)),H.push (.cells (ev x).cells)) else none
 | .buildSlice z len ps=>(cU z (ps.map fun p=>(p.1,p.2.1,ev p.2.2))).map fun cs=>(.sl (some (H.next,0)) len (.ex len),H.push (.cells cs))
 | op=>step R lim ev H op
theorem Uk {R:aq} {lim:Nat} {ev:aP→aa} {H:ah} {op:bG}:An R lim ev H op=step R lim ev H op:=by
 have DR:∀(ps:List (Nat × Nat × aP)) (z:List aa),cU z (ps.map fun p=>(p.1,p.2.1,ev p.2.2))=jo ev z ps:=by
  intro ps
  induction ps with
  | nil=>intro z;rfl
  | cons p ps ih=>
   intro z
   obtain ⟨off,size,x⟩:=p
   simp only [List.map_cons,cU,jo]
   split <;>simp_all
 cases op <;>simp only [An,step,Am,DR]
 all_goals rfl
def oP (R:aq) (lim:Nat) (ev:aP→aa) (H:ah) (g:Option (aa × Bool)) (op:bG) (k:aa→ah→Prop):Prop:=
 match g,op with
 | none,.an x=>k (ev x) H
 | none,.alloc z=>k (.ptr (some (H.next,0))) (H.push (.cells z))
 | none,.store n a x=>ak (bp lim H n (ev a) (ev x)) fun H'=>k bA H'
 | g,op=>match Al ev H op with
  | some o=>ak (gd g o) fun v=>k v H
  | none=>aK (eA g H (An R lim ev H op)) k
theorem Kh {R:aq} {lim:Nat} {ev:aP→aa} {H:ah} {g:Option (aa × Bool)} {op:bG} {k:aa→ah→Prop} (h:oP R lim ev H g op k):
  ∃v H',eA g H (step R lim ev H op)=some (v,H')∧k v H':=by
 have gen:(match Al ev H op with
  | some o=>ak (gd g o) fun v=>k v H
  | none=>aK (eA g H (An R lim ev H op)) k)→ ∃v H',eA g H (step R lim ev H op)=some (v,H')∧k v H':=by
  intro h
  split at h
  ·rename_i o ho
   obtain ⟨v,h1,h2⟩:=h
   refine ⟨v,H,?_,h2⟩
   rw [Uj ho]
   unfold gd at h1
   unfold eA
   split at h1
   ·simp [h1]
   ·split at h1
    ·rename_i hw;simp only [hw,if_true];simp [h1]
    ·rename_i hw;simp only [hw];simp at h1;simp [h1]
  ·rw [Uk] at h
   exact h
 unfold oP at h
 split at h
 ·exact ⟨_,_,rfl,h⟩
 ·exact ⟨_,_,rfl,h⟩
 ·obtain ⟨H',h1,h2⟩:=h
  exact ⟨bA,H',by simp [eA,step,h1],h2⟩
 ·exact gen h
def oQ (T:Tm):Option (Nat × Bool)→Option (aa × Bool)
 | none=>none
 | some (t,w)=>some (T t,w)
def wL (T:Tm) (o:aY):Bool:=
 match o.apart,o.op with
 | [],_=>true
 | ys,.load _ a=>ys.all fun y=>vv (mD T a) (mD T y)
 | _,_=>false
def qG (g:Option (aa × Bool)) (H H':ah) (l:List aa):Prop:=
 match g with
 | none=>(l.all fun v=>match lq v with
  | some b=>pZ (H.get b) (H'.get b)
  | none=>true)=true
 | some (v,w)=>mC v w=true→(l.all fun v=>match lq v with
  | some b=>pZ (H.get b) (H'.get b)
  | none=>true)=true
def mE (R:aq) (lim:Nat):List aY→Tm→ah→(Tm→ah→Prop)→Prop
 | [],T,H,k=>k T H
 | o::os,T,H,k=>
  match o.apart with
  | []=>oP R (bif o.cQ then H.next else lim) (mD T) H (oQ T o.guard) o.op fun v H'=>mE R lim os (uj T o.dst v) H' k
  | ys=>match o.op.jF with
   | true=>oP R (bif o.cQ then H.next else lim) (mD T) H (oQ T o.guard) o.op fun v H'=>qG (oQ T o.guard) H H' (ys.map (mD T))∧mE R lim os (uj T o.dst v) H' k
   | false=>wL T o=true∧oP R (bif o.cQ then H.next else lim) (mD T) H (oQ T o.guard) o.op fun v H'=>mE R lim os (uj T o.dst v) H' k
abbrev Kt:=Ex→Tm→ah→Prop
def cH (body:Tm→ah→Kt→Prop):Nat→Tm→ah→Kt→Prop
 | 0,_,_,_=>False
 | m+1,T,H,k=>body T H fun ex T H=>match ex with
  | .norm=>cH body m T H k
  | ex=>k ex T H
def cE (w:Tm→ah→Kt→Prop) (k:Kt):Kt:=fun ex T H=>match ex with
 | .norm=>w T H k
 | ex=>k ex T H
def bZ (id:Nat) (k:Kt):Kt:=fun ex T H=>match ex with
 | .exit i=>bif Nat.beq i id then k .norm T H else k (.exit i) T H
 | ex=>k ex T H
def wM (N:Nat) (T:Tm):List aa:=(List.range N).map T
def aS (R:aq) (lim n N:Nat) (Lp:Nat→Tm→ah→Prop):aT→Tm→ah→Kt→Prop
 | .skip,T,H,k=>k .norm T H
 | .region os,T,H,k=>mE R lim os T H fun T H=>k .norm T H
 | .seq a b,T,H,k=>aS R lim n N Lp a T H (cE (aS R lim n N Lp b) k)
 | .cond c a b,T,H,k=>ak (aV (mD T c)) fun t=>(t=true→aS R lim n N Lp a T H k)∧(t=false→aS R lim n N Lp b T H k)
 | .block id body,T,H,k=>match body with
  | .loop _=>Lp id T H
  | body=>aS R lim n N Lp body T H (bZ id k)
 | .loop _,_,_,_=>False
 | .exit id,T,H,k=>k (.exit id) T H
 | .ret,T,H,k=>k .ret T H
 | .ranges g ps a b,T,H,k=> ∃ex l H',exec R lim n (.ranges g ps a b) ⟨wM N T,H⟩=some (ex,⟨l,H'⟩)∧l.length=N∧k ex (fun i=>l.getD i bA) H'
def cg (R:aq) (lim n N:Nat):aT→Tm→ah→Kt→Prop
 | .skip,T,H,k=>k .norm T H
 | .region os,T,H,k=>mE R lim os T H fun T H=>k .norm T H
 | .seq a b,T,H,k=>cg R lim n N a T H (cE (cg R lim n N b) k)
 | .cond c a b,T,H,k=>ak (aV (mD T c)) fun t=>(t=true→cg R lim n N a T H k)∧(t=false→cg R lim n N b T H k)
 | .block id body,T,H,k=>cg R lim n N body T H (bZ id k)
 | .loop body,T,H,k=>cH (cg R lim n N body) n T H k
 | .exit id,T,H,k=>k (.exit id) T H
 | .ret,T,H,k=>k .ret T H
 | .ranges g ps a b,T,H,k=> ∃ex l H',exec R lim n (.ranges g ps a b) ⟨wM N T,H⟩=some (ex,⟨l,H'⟩)∧l.length=N∧k ex (fun i=>l.getD i bA) H'
theorem DS {R:aq} {lim:Nat} {ev:aP→aa} {H:ah} {g:Option (aa × Bool)} {op:bG} {k k':aa→ah→Prop} (hk:∀v H,k v H→k' v H) (h:oP R lim ev H g op k):oP R lim ev H g op k':=by
 unfold oP at *
 split at h
 ·exact hk _ _ h
 ·exact hk _ _ h
 ·obtain ⟨H',h1,h2⟩:=h;exact ⟨H',h1,hk _ _ h2⟩
 ·split at h
  ·rename_i o ho
   obtain ⟨v,h1,h2⟩:=h;exact ⟨v,h1,hk _ _ h2⟩
  ·rename_i ho
   obtain ⟨v,H',h1,h2⟩:=h;exact ⟨v,H',h1,hk _ _ h2⟩
theorem wN {R:aq} {lim:Nat}:∀(os:List aY) (T:Tm) (H:ah) (k k':Tm→ah→Prop),(∀T H,k T H→k' T H)→mE R lim os T H k→mE R lim os T H k'
 | [],T,H,k,k',hk,h=>hk _ _ h
 | o::os,T,H,k,k',hk,h=>by
  unfold mE at *
  split at h
  ·exact DS (fun v H' h'=>wN os _ _ k k' hk h') h
  split at *
  ·exact DS (fun v H' h'=>⟨h'.1,wN os _ _ k k' hk h'.2⟩) h
  ·exact ⟨h.1,DS (fun v H' h'=>wN os _ _ k k' hk h') h.2⟩
theorem Ul {w:Tm→ah→Kt→Prop} (hw:∀T H (k k':Kt),(∀ex T H,k ex T H→k' ex T H)→w T H k→w T H k') {k k':Kt} (hk:∀ex T H,k ex T H→k' ex T H):∀ex T H,cE w k ex T H→cE w k' ex T H:=by
 intro ex T H h
 cases ex with
 | norm=>exact hw _ _ _ _ hk h
 | exit i=>exact hk _ _ _ h
 | ret=>exact hk _ _ _ h
theorem eV {id:Nat} {k k':Kt} (hk:∀ex T H,k ex T H→k' ex T H):∀ex T H,bZ id k ex T H→bZ id k' ex T H:=by
 intro ex T H h
 cases ex with
 | norm=>exact hk _ _ _ h
 | exit i=>
  simp only [bZ] at *
  cases hb:Nat.beq i id with
  | true=>rw [hb] at h;exact hk _ _ _ h
  | false=>rw [hb] at h;exact hk _ _ _ h
 | ret=>exact hk _ _ _ h
theorem Ki {body:Tm→ah→Kt→Prop} (hb:∀T H (k k':Kt),(∀ex T H,k ex T H→k' ex T H)→body T H k→body T H k'):∀(m:Nat) (T:Tm) (H:ah) (k k':Kt),(∀ex T H,k ex T H→k' ex T H)→cH body m T H k→cH body m T H k'
 | 0,_,_,_,_,_,h=>h
 | m+1,T,H,k,k',hk,h=>by
  unfold cH at *
  refine hb _ _ _ _ ?_ h
  intro ex T H h'
  cases ex with
  | norm=>exact Ki hb m _ _ _ _ hk h'
  | exit i=>exact hk _ _ _ h'
  | ret=>exact hk _ _ _ h'
theorem uk {R:aq} {lim n N:Nat}:∀(c:aT) (T:Tm) (H:ah) (k k':Kt),(∀ex T H,k ex T H→k' ex T H)→cg R lim n N c T H k→cg R lim n N c T H k'
 | .skip,T,H,k,k',hk,h=>hk _ _ _ h
 | .region os,T,H,k,k',hk,h=>wN os _ _ _ _ (fun _ _ h=>hk _ _ _ h) h
 | .seq a b,T,H,k,k',hk,h=>uk a _ _ _ _ (Ul (fun T H k k'=>uk b T H k k') hk) h
 | .cond c a b,T,H,k,k',hk,h=>by
  obtain ⟨t,h1,h2,h3⟩:=h
  exact ⟨t,h1,fun e=>uk a _ _ _ _ hk (h2 e),fun e=>uk b _ _ _ _ hk (h3 e)⟩
 | .block id body,T,H,k,k',hk,h=>uk body _ _ _ _ (eV hk) h
 | .loop body,T,H,k,k',hk,h=>Ki (fun T H k k'=>uk body T H k k') n _ _ _ _ hk h
 | .exit id,T,H,k,k',hk,h=>hk _ _ _ h
 | .ret,T,H,k,k',hk,h=>hk _ _ _ h
 | .ranges _ _ _ _,T,H,k,k',hk,h=>by
  obtain ⟨ex,l,H',h1,h2,h3⟩:=h
  exact ⟨ex,l,H',h1,h2,hk _ _ _ h3⟩
def bO (R:aq) (lim n N:Nat) (Lp:Nat→Tm→ah→Prop):aT→Kt→Prop
 | .seq a b,k=>bO R lim n N Lp a (cE (cg R lim n N b) k)∧bO R lim n N Lp b k
 | .cond _ a b,k=>bO R lim n N Lp a k∧bO R lim n N Lp b k
 | .block id body,k=>match body with
  | .loop c=> ∀T H,Lp id T H→cH (cg R lim n N c) n T H (bZ id k)
  | body=>bO R lim n N Lp body (bZ id k)
 | _,_=>True
theorem bw {R:aq} {lim n N:Nat} {Lp:Nat→Tm→ah→Prop}:∀(c:aT) (T:Tm) (H:ah) (k k':Kt),bO R lim n N Lp c k'→(∀ex T H,k ex T H→k' ex T H)→aS R lim n N Lp c T H k→cg R lim n N c T H k'
 | .skip,T,H,k,k',_,hk,h=>hk _ _ _ h
 | .region os,T,H,k,k',_,hk,h=>wN os _ _ _ _ (fun _ _ h=>hk _ _ _ h) h
 | .seq a b,T,H,k,k',ho,hk,h=>by
  refine bw a _ _ _ _ ho.1 ?_ h
  intro ex T H h'
  cases ex with
  | norm=>exact bw b _ _ _ _ ho.2 hk h'
  | exit i=>exact hk _ _ _ h'
  | ret=>exact hk _ _ _ h'
 | .cond c a b,T,H,k,k',ho,hk,h=>by
  obtain ⟨t,h1,h2,h3⟩:=h
  exact ⟨t,h1,fun e=>bw a _ _ _ _ ho.1 hk (h2 e),fun e=>bw b _ _ _ _ ho.2 hk (h3 e)⟩
 | .block id body,T,H,k,k',ho,hk,h=>by
  unfold aS at h
  unfold bO at ho
  split at h
  ·rename_i c
   simp only at ho
   exact ho T H h
  ·rename_i c hne
   split at ho
   ·rename_i c';exact absurd rfl (hne c')
   ·exact bw body _ _ _ _ ho (eV hk) h
 | .loop body,T,H,k,k',_,hk,h=>False.elim h
 | .exit id,T,H,k,k',_,hk,h=>hk _ _ _ h
 | .ret,T,H,k,k',_,hk,h=>hk _ _ _ h
 | .ranges _ _ _ _,T,H,k,k',_,hk,h=>by
  obtain ⟨ex,l,H',h1,h2,h3⟩:=h
  exact ⟨ex,l,H',h1,h2,hk _ _ _ h3⟩
def aT.mF:aT→Bool
 | .seq a b=>a.mF && b.mF
 | .cond _ a b=>a.mF && b.mF
 | .block _ c=>c.mF
 | .loop _=>false
 | _=>true
theorem aL {R:aq} {lim n N:Nat} {Lp:Nat→Tm→ah→Prop}:∀{c:aT} {k:Kt},c.mF=true→bO R lim n N Lp c k
 | .skip,_,_=>trivial
 | .region _,_,_=>trivial
 | .seq a b,k,h=>by
  simp only [aT.mF,Bool.and_eq_true] at h
  exact ⟨aL h.1,aL h.2⟩
 | .cond _ a b,k,h=>by
  simp only [aT.mF,Bool.and_eq_true] at h
  exact ⟨aL h.1,aL h.2⟩
 | .block id c,k,h=>by
  unfold bO
  split
  ·simp [aT.mF] at h
  ·exact aL (by simpa only [aT.mF] using h)
 | .loop _,_,h=>by simp [aT.mF] at h
 | .exit _,_,_=>trivial
 | .ret,_,_=>trivial
 | .ranges _ _ _ _,_,_=>trivial
theorem fX {R:aq} {lim n N:Nat} {Lp:Nat→Tm→ah→Prop} {c:aT} {kI k:Kt} (ho:bO R lim n N Lp c k) (hk:∀ex T H,kI ex T H→k ex T H):
  ∀ex T H,cE (aS R lim n N Lp c) kI ex T H→cE (cg R lim n N c) k ex T H:=by
 intro ex T H h
 cases ex with
 | norm=>exact bw c T H _ _ ho hk h
 | exit i=>exact hk _ _ _ h
 | ret=>exact hk _ _ _ h
def Ao (N:Nat) (o:aY):Bool:=match o.dst with
 | some d=>Nat.blt d N
 | none=>true
def aT.bound (N:Nat):aT→Bool
 | .region os=>os.all (Ao N)
 | .seq a b=>a.bound N && b.bound N
 | .cond _ a b=>a.bound N && b.bound N
 | .block _ a | .loop a=>a.bound N
 | _=>true
def eB (l:List aa):Tm:=fun i=>l.getD i bA
theorem Kj {l:List aa} {d:Option Nat} {v:aa} (h:∀i,d=some i→i <l.length):eB (dc l d v)=uj (eB l) d v:=by
 cases d with
 | none=>rfl
 | some d=>
  have hd:=h d rfl
  funext i
  simp only [eB,dc,uj,Kf]
  rw [Uh _ _ _ _ hd]
  by_cases e:d=i
  ·subst e;simp
  ·have:Nat.beq i d=false:=by
    cases hb:Nat.beq i d with
    | false=>rfl
    | true=>exact absurd (Nat.eq_of_beq_eq_true hb).symm e
   rw [this,if_neg e];rfl
theorem wO (l:List aa):St.ev l=mD (eB l):=by
 funext x;cases x <;>rfl
theorem Um (l:List aa):wM l.length (eB l)=l:=by
 apply List.ext_getElem
 ·simp [wM]
 ·intro i h1 h2
  simp only [wM,List.getElem_map,List.getElem_range,eB]
  rw [List.getD_eq_getElem?_getD,List.getElem?_eq_getElem h2];rfl
theorem um (l:List aa) (d:Option Nat) (v:aa):(dc l d v).length=l.length:=by
 cases d <;>simp [dc]
theorem DT {R:aq} {lim:Nat}:∀(os:List aY) (l:List aa) (H:ah) (k:Tm→ah→Prop),os.all (Ao l.length)=true→mE R lim os (eB l) H k→
  ∃l' H',ep R lim os ⟨l,H⟩=some ⟨l',H'⟩∧l'.length=l.length∧k (eB l') H'
 | [],l,H,k,_,h=>⟨l,H,rfl,rfl,h⟩
 | o::os,l,H,k,hb,h=>by
  rw [List.all_cons,Bool.and_eq_true] at hb
  have cR:o.clear l=wL (eB l) o:=by
   unfold aY.clear wL
   rw [wO]
   rfl
  have main:wL (eB l) o=true→oP R (bif o.cQ then H.next else lim) (mD (eB l)) H (oQ (eB l) o.guard) o.op (fun v H'=>mE R lim os (uj (eB l) o.dst v) H' k)→
    ∃l' H',ep R lim (o::os) ⟨l,H⟩=some ⟨l',H'⟩∧l'.length=l.length∧k (eB l') H':=by
   intro hc h
   obtain ⟨v,H1,h1,h2⟩:=Kh h
   have hd:∀i,o.dst=some i→i <l.length:=by
    intro i hi
    have:=hb.1
    unfold Ao at this
    rw [hi] at this
    simpa [Nat.blt_eq] using this
   have DU:=Kj (v:=v) hd
   rw [←DU] at h2
   have hlen:=um l o.dst v
   obtain ⟨l',H',e1,e2,e3⟩:=DT os (dc l o.dst v) H1 k (by rw [hlen];exact hb.2) h2
   refine ⟨l',H',?_,by rw [e2,hlen],e3⟩
   have one:execOp R lim o ⟨l,H⟩=some ⟨dc l o.dst v,H1⟩:=by
    have hlim:(if o.cQ=true then H.next else lim)=(bif o.cQ then H.next else lim):=by cases o.cQ <;>rfl
    unfold execOp
    simp only [cR,hc,Bool.not_true,Bool.false_eq_true,if_false]
    rw [wO,hlim]
    cases hg:o.guard with
    | none=>
     rw [hg] at h1
     simp only [oQ,eA] at h1
     simp only [eF,if_true,h1]
    | some g=>
     obtain ⟨t,w⟩:=g
     rw [hg] at h1
     simp only [oQ,eA] at h1
     have hw:eF l (some (t,w))=mC (eB l t) w:=DO l t w
     rw [hw]
     by_cases hc:mC (eB l t) w=true
     ·rw [if_pos hc] at h1 ⊢
      simp only [h1]
     ·rw [if_neg hc] at h1 ⊢
      simp at h1
      obtain ⟨rfl,rfl⟩:=h1
      rfl
   unfold ep
   rw [one]
   exact e1
  unfold mE at h
  split at h
  ·rename_i ha
   refine main ?_ h
   unfold wL;rw [ha]
  rename_i ys hne
  split at h
  ·rename_i iC
   obtain ⟨v,H1,h1,hk,h2⟩:=Kh h
   have hd:∀i,o.dst=some i→i <l.length:=by
    intro i hi
    have:=hb.1
    unfold Ao at this
    rw [hi] at this
    simpa [Nat.blt_eq] using this
   rw [←Kj (v:=v) hd] at h2
   have hlen:=um l o.dst v
   obtain ⟨l',H',e1,e2,e3⟩:=DT os (dc l o.dst v) H1 k (by rw [hlen];exact hb.2) h2
   refine ⟨l',H',?_,by rw [e2,hlen],e3⟩
   have Un:o.op.lu=true:=by
    generalize o.op=op at iC
    cases op <;>simp_all [bG.lu,bG.jF]
   have Uo:o.clear l=false:=by
    unfold aY.clear
    generalize o.op=op at iC
    generalize o.apart=ap at hne
    cases ap with
    | nil=>exact absurd rfl hne
    | cons y ys=>cases op <;>simp_all [bG.jF]
   have one:execOp R lim o ⟨l,H⟩=some ⟨dc l o.dst v,H1⟩:=by
    have hlim:(if o.cQ=true then H.next else lim)=(bif o.cQ then H.next else lim):=by cases o.cQ <;>rfl
    have Ap:∀q:qG none H H1 (o.apart.map (mD (eB l))),o.kept l H H1=true:=by
     intro q
     unfold qG at q
     unfold aY.kept
     rw [List.all_map] at q
     rw [wO]
     exact q
    unfold execOp vA
    simp only [Uo,Bool.not_false,if_true,Un]
    rw [wO,hlim]
    cases hg:o.guard with
    | none=>
     rw [hg] at h1 hk
     simp only [oQ,eA] at h1
     simp only [eF,if_true,h1]
     rw [if_pos (Ap hk)]
    | some g=>
     obtain ⟨t,w⟩:=g
     rw [hg] at h1 hk
     simp only [oQ,eA] at h1
     have hw:eF l (some (t,w))=mC (eB l t) w:=DO l t w
     rw [hw]
     by_cases hc:mC (eB l t) w=true
     ·rw [if_pos hc] at h1 ⊢
      simp only [h1]
      rw [if_pos (Ap (hk hc))]
     ·rw [if_neg hc] at h1 ⊢
      simp at h1
      obtain ⟨rfl,rfl⟩:=h1
      rfl
   unfold ep
   rw [one]
   exact e1
  ·exact main h.1 h.2
theorem Kk {body:Tm→ah→Kt→Prop} {f:St→Option (Ex × St)} {N:Nat} (hb:∀(l:List aa) (H:ah) (k:Kt),l.length=N→body (eB l) H k→ ∃ex l' H',f ⟨l,H⟩=some (ex,⟨l',H'⟩)∧l'.length=N∧k ex (eB l') H'):
  ∀(m:Nat) (l:List aa) (H:ah) (k:Kt),l.length=N→cH body m (eB l) H k→ ∃ex l' H',dy f m ⟨l,H⟩=some (ex,⟨l',H'⟩)∧l'.length=N∧k ex (eB l') H'
 | 0,_,_,_,_,h=>False.elim h
 | m+1,l,H,k,hl,h=>by
  unfold cH at h
  obtain ⟨ex,l1,H1,h1,h2,h3⟩:=hb l H _ hl h
  cases ex with
  | norm=>
   obtain ⟨ex,l2,H2,g1,g2,g3⟩:=Kk hb m l1 H1 k h2 h3
   exact ⟨ex,l2,H2,by rw [dy,h1];exact g1,g2,g3⟩
  | exit i=>exact ⟨_,l1,H1,by rw [dy,h1],h2,h3⟩
  | ret=>exact ⟨_,l1,H1,by rw [dy,h1],h2,h3⟩
theorem r8 {R:aq} {lim n N:Nat}:∀(c:aT) (l:List aa) (H:ah) (k:Kt),c.bound N=true→l.length=N→cg R lim n N c (eB l) H k→
  ∃ex l' H',exec R lim n c ⟨l,H⟩=some (ex,⟨l',H'⟩)∧l'.length=N∧k ex (eB l') H'
 | .skip,l,H,k,_,hl,h=>⟨_,l,H,rfl,hl,h⟩
 | .exit id,l,H,k,_,hl,h=>⟨_,l,H,rfl,hl,h⟩
 | .ret,l,H,k,_,hl,h=>⟨_,l,H,rfl,hl,h⟩
 | .region os,l,H,k,hb,hl,h=>by
  subst hl
  obtain ⟨l',H',e1,e2,e3⟩:=DT os l H _ hb h
  exact ⟨_,l',H',by simp only [exec,e1,Option.map_some],e2,e3⟩
 | .seq a b,l,H,k,hb,hl,h=>by
  simp only [aT.bound,Bool.and_eq_true] at hb
  obtain ⟨ex,l1,H1,e1,e2,e3⟩:=r8 a l H _ hb.1 hl h
  cases ex with
  | norm=>
   obtain ⟨ex,l2,H2,g1,g2,g3⟩:=r8 b l1 H1 k hb.2 e2 e3
   exact ⟨ex,l2,H2,by simp only [exec,e1,g1],g2,g3⟩
  | exit i=>exact ⟨_,l1,H1,by simp only [exec,e1],e2,e3⟩
  | ret=>exact ⟨_,l1,H1,by simp only [exec,e1],e2,e3⟩
 | .cond c a b,l,H,k,hb,hl,h=>by
  simp only [aT.bound,Bool.and_eq_true] at hb
  obtain ⟨t,h1,h2,h3⟩:=h
  have hc:St.ev l c= .bool t:=by
   rw [wO]
   unfold aV at h1
   split at h1 <;>simp at h1
   rename_i b hb'
   rw [hb',h1]
  cases t with
  | true=>
   obtain ⟨ex,l1,H1,e1,e2,e3⟩:=r8 a l H k hb.1 hl (h2 rfl)
   exact ⟨ex,l1,H1,by simp only [exec,hc,e1,if_true],e2,e3⟩
  | false=>
   obtain ⟨ex,l1,H1,e1,e2,e3⟩:=r8 b l H k hb.2 hl (h3 rfl)
   exact ⟨ex,l1,H1,by simp only [exec,hc,e1,if_false,Bool.false_eq_true],e2,e3⟩
 | .block id body,l,H,k,hb,hl,h=>by
  obtain ⟨ex,l1,H1,e1,e2,e3⟩:=r8 body l H _ hb hl h
  cases ex with
  | norm=>exact ⟨_,l1,H1,by simp only [exec,e1],e2,e3⟩
  | exit i=>
   simp only [bZ] at e3
   by_cases he:i=id
   ·subst he
    have:Nat.beq i i=true:=by simp
    rw [this] at e3
    exact ⟨_,l1,H1,by simp only [exec,e1,if_true],e2,e3⟩
   ·have:Nat.beq i id=false:=by
     cases hq:Nat.beq i id with
     | false=>rfl
     | true=>exact absurd (Nat.eq_of_beq_eq_true hq) he
    rw [this] at e3
    exact ⟨_,l1,H1,by simp only [exec,e1,if_neg he],e2,e3⟩
  | ret=>exact ⟨_,l1,H1,by simp only [exec,e1],e2,e3⟩
 | .loop body,l,H,k,hb,hl,h=>by
  have:=Kk (N:=N) (f:=exec R lim n body) (fun l H k hl h=>r8 body l H k hb hl h) n l H k hl h
  exact this
 | .ranges g ps a b,l,H,k,hb,hl,h=>by
  obtain ⟨ex,l',H',h1,h2,h3⟩:=h
  rw [←hl,Um] at h1
  exact ⟨ex,l',H',h1,h2,h3⟩
def wP (T:Tm) (H:ah):List gD→(List aa→Prop)→Prop
 | [],k=>k []
 | .tmp t::rs,k=>wP T H rs fun vs=>k (T t::vs)
 | .cell t g::rs,k=>ak (aB H g (T t)) fun v=>wP T H rs fun vs=>k (v::vs)
def aM (rs:List gD) (K:aa→ah→Prop):Kt:=fun ex T H=>match ex with
 | .exit _=>False
 | _=>wP T H rs fun vs=>K (gV vs) H
theorem DV {l:List aa} {H:ah}:∀(rs:List gD) (k:List aa→Prop),wP (eB l) H rs k→ ∃vs,fT ⟨l,H⟩ rs=some vs∧k vs
 | [],k,h=>⟨[],rfl,h⟩
 | .tmp t::rs,k,h=>by
  obtain ⟨vs,h1,h2⟩:=DV rs _ h
  exact ⟨_,by simp only [fT,p8,h1];rfl,h2⟩
 | .cell t g::rs,k,h=>by
  obtain ⟨v,h0,h⟩:=h
  obtain ⟨vs,h1,h2⟩:=DV rs _ h
  exact ⟨v::vs,by simp only [fT,p8];simp only [eB] at h0;rw [h0,h1],h2⟩
def bS (args:List aa):Tm:=fun i=>args.getD i bA
theorem bX {ap:FuncId→Option bg} {n lim f:Nat} {af:aW} (hf:ap f=some (.code af)) {args:List aa} {H:ah} {K:aa→ah→Prop} (hb:af.body.bound af.ntmps=true) (ha:Nat.ble args.length af.ntmps=true)
  (h:cg (runT ap n) lim n af.ntmps af.body (bS args) H (aM af.results K)):∃v H',runT ap (n+1) lim (.fn f) args H=some (v,H')∧K v H':=by
 have ha':args.length≤af.ntmps:=Nat.le_of_ble_eq_true ha
 have hT:bS args=eB (m9 af args):=by
  funext i
  simp only [bS,eB,m9]
  rw [List.getD_eq_getElem?_getD,List.getD_eq_getElem?_getD,List.getElem?_append]
  split
  ·rfl
  ·rename_i hi
   rw [List.getElem?_eq_none (by omega),List.getElem?_replicate]
   split <;>rfl
 rw [hT] at h
 obtain ⟨ex,l,H',h1,h2,h3⟩:=r8 af.body (m9 af args) H _ hb (by simp [m9];omega) h
 have fin:∀(h3:wP (eB l) H' af.results fun vs=>K (gV vs) H'),∃v uo,lY af ⟨l,H'⟩=some (v,uo)∧K v uo:=by
  intro h3
  obtain ⟨vs,g1,g2⟩:=DV _ _ h3
  exact ⟨gV vs,H',by simp only [lY,g1,Option.map_some],g2⟩
 cases ex with
 | norm=>
  obtain ⟨v,uo,g1,g2⟩:=fin h3
  exact ⟨v,uo,by simp only [runT,hf,h1];exact g1,g2⟩
 | exit i=>exact False.elim h3
 | ret=>
  obtain ⟨v,uo,g1,g2⟩:=fin h3
  exact ⟨v,uo,by simp only [runT,hf,h1];exact g1,g2⟩
end Go.au
end
section
set_option linter.unusedSimpArgs false
set_option linter.unusedVariables false
set_option linter.unusedSectionVars false
namespace Go.au
variable [Gl]
theorem aH {A B:Prop} (h:A):(true=true→A)∧(true=false→B):=⟨fun _=>h,fun e=>by simp at e⟩
theorem aI {A B:Prop} (h:B):(false=true→A)∧(false=false→B):=⟨fun e=>by simp at e,fun _=>h⟩
theorem af1 {p:Prop} [Decidable p] {A B:Prop} (h1:p→A) (h2:¬p→B):(decide p=true→A)∧(decide p=false→B):=
 ⟨fun e=>h1 (of_decide_eq_true e),fun e=>h2 (of_decide_eq_false e)⟩
theorem af2 {b:Bool} {A B:Prop} (h1:b=true→A) (h2:b=false→B):(b=true→A)∧(b=false→B):=⟨h1,h2⟩
theorem af3 {α:Type} {o:Option α} {k:α→Prop} {Φ:α→Prop} (h:∃a,o=some a∧Φ a) (hk:∀a,Φ a→k a):ak o k:=by
 obtain ⟨a,h1,h2⟩:=h;exact ⟨a,h1,hk a h2⟩
theorem af4 {o:Option (aa × ah)} {k:aa→ah→Prop} {Φ:aa→ah→Prop} (h:∃v H,o=some (v,H)∧Φ v H) (hk:∀v H,Φ v H→k v H):aK o k:=by
 obtain ⟨v,H,h1,h2⟩:=h;exact ⟨v,H,h1,hk v H h2⟩
theorem Kl (o:Option aa):gd (some (.bool true,true)) o=o:=rfl
theorem Km (o:Option aa):gd (some (.bool true,false)) o=some bA:=rfl
theorem Kn (o:Option aa):gd (some (.bool false,true)) o=some bA:=rfl
theorem Ko (o:Option aa):gd (some (.bool false,false)) o=o:=rfl
theorem Kp (H:ah) (o:Option (aa × ah)):eA (some (.bool true,true)) H o=o:=rfl
theorem Kq (H:ah) (o:Option (aa × ah)):eA (some (.bool true,false)) H o=some (bA,H):=rfl
theorem Kr (H:ah) (o:Option (aa × ah)):eA (some (.bool false,true)) H o=some (bA,H):=rfl
theorem Ks (H:ah) (o:Option (aa × ah)):eA (some (.bool false,false)) H o=o:=rfl
theorem Ku (w:Bool) (o:Option aa):gd (some (bA,w)) o=some bA:=rfl
theorem Kv (w:Bool) (H:ah) (o:Option (aa × ah)):eA (some (bA,w)) H o=some (bA,H):=rfl
theorem Kw (a b:aa):bH (.bool true) a b=some a:=rfl
theorem Kx (a b:aa):bH (.bool false) a b=some b:=rfl
theorem Aq (b:Bool):aV (.bool b)=some b:=rfl
theorem Ky (a:Nat × Nat):dI (.ptr (some a))=some (.ptr (some a)):=rfl
theorem DW (off b o:Nat):aU off (.ptr (some (b,o)))=some (.ptr (some (b,o+off))):=rfl
theorem Kz (i:Nat) (vs:List aa):bF i (.bq vs)=vs[i]? :=rfl
theorem KA (k k':IntKind) (n:Int):fo k (.int k' n)=some (.int k (k.wrap n)):=rfl
theorem KB (a:Option (Nat × Nat)) (n:Nat) (c:Cap):bh false (.sl a n c)=some (.int .i64 n):=rfl
theorem KC:((0:Nat):Int)=0:=rfl
theorem fq:((0:Int) !=0)=false:=rfl
theorem KD (cs:List aa):(aa.agg cs).cells=cs:=rfl
theorem KE (s:List UInt8):bh true (.str s)=some (.int .i64 s.length):=rfl
theorem KF (off:Nat) (cs:List aa):DQ off none (.agg cs)=cs[off]? :=rfl
theorem KG (b:Bool):fE .not (.bool b)=some (.bool !b):=Ui b
theorem wQ (neg:Bool) (ls:List bE) (xs ys:List aa):dZ neg (.cells ls) (.agg xs) (.agg ys)=(cm ls xs ys).map fun b=> .bool (if neg then !b else b):=rfl
theorem KH (neg:Bool):dZ neg .ptr (.ptr none) (.ptr none)=some (.bool (if neg then !true else true)):=rfl
theorem KI (neg:Bool) (a:Nat × Nat):dZ neg .ptr (.ptr (some a)) (.ptr none)=some (.bool (if neg then !false else false)):=rfl
theorem KJ (neg:Bool) (a b:Bool):dZ neg .bool (.bool a) (.bool b)=some (.bool (if neg then !(a==b) else (a==b))):=rfl
theorem KK {α β:Type} (f:α→β) (a:α):Option.map f (some a)=some (f a):=rfl
theorem af5 (H:ah):(some H).map (fun H=>(bA,H))=some (bA,H):=rfl
theorem KL (b:Bool):(if false=true then !b else b)=b:=rfl
theorem KM (b:Bool):(if true=true then !b else b)= !b:=rfl
theorem aC {α:Type} (a:α) (l:List α):(a::l)[0]? =some a:=rfl
theorem aD {α:Type} (a:α) (l:List α) (n:Nat):(a::l)[n+1]? =l[n]? :=rfl
theorem KN (a b:List UInt8):av .eql (.str a) (.str b)=some (.bool (a==b)):=rfl
theorem KO (a b:List UInt8):av .neq (.str a) (.str b)=some (.bool !(a==b)):=rfl
theorem iE {o:Option (aa × ah)} {v0:aa} {H0:ah} (h:∃v H,o=some (v,H)∧v=v0∧H=H0):o=some (v0,H0):=by
 obtain ⟨v,H,h1,rfl,rfl⟩:=h;exact h1
theorem ah.jf {H:ah} {b:Nat} {cs:List aa} (h:H.cells b=some cs):b <H.next:=ah.jm (ah.cells_eq.1 h)
theorem bJ {H:ah} {b:Nat} {cs:List aa} (h:H.cells b=some cs) (o:Nat):aB H none (.ptr (some (b,o)))=cs[o]? :=by
 simp only [aB,h]
theorem uq {H:ah} {b:Nat} {cs:List aa} (h:H.cells b=some cs) (n o:Nat):aB H (some n) (.ptr (some (b,o)))=(cut cs o n).map .agg:=by
 simp only [aB,h]
theorem ct (H:ah) (cs:List aa):(H.push (.cells cs)).cells H.next=some cs:=ah.cells_eq.2 (ah.jU H _)
theorem Ar {H:ah} {x:dB} {b:Nat} {cs:List aa} (h:H.cells b=some cs):(H.push x).cells b=some cs:=by
 have:=ah.jf h
 exact ah.cells_eq.2 (by rw [ah.gi _ _ _ (by omega)];exact ah.cells_eq.1 h)
theorem jJ {H:ah} {b:Nat} {cs:List aa} (h:b <H.next):(H.set b (.cells cs)).cells b=some cs:=ah.cells_eq.2 (ah.lX _ _ _ h)
theorem qH {H:ah} {b c:Nat} {x:dB} {cs:List aa} (h:H.cells c=some cs) (hne:c≠b):(H.set b x).cells c=some cs:=
 ah.cells_eq.2 (by rw [ah.eD _ _ _ _ hne];exact ah.cells_eq.1 h)
theorem r9 {lim:Nat} {H:ah} {b:Nat} {cs:List aa} (h:H.cells b=some cs) (hl:lim≤b) {n o:Nat} {x:aa} (hn:x.cells.length=n) (ho:o+n≤cs.length) (h1:x.cells.all (·.one)=true):
  bp lim H n (.ptr (some (b,o))) x=some (H.set b (.cells (put cs o x.cells))):=by
 simp only [bp,h]
 rw [if_pos ⟨hl,hn,ho,h1⟩]
theorem Tr.set_set (x y:dB):∀(f:Nat) (t:Tr) (n:Nat),Tr.set y f (Tr.set x f t n) n=Tr.set y f t n
 | 0,_,_=>rfl
 | f+1,t,n=>by
  by_cases h0:n=0
  ·subst h0;simp only [Tr.set,if_true,Tr.left,Tr.right]
  ·by_cases h1:n % 2=1
   ·simp only [Tr.set,h0,h1,if_true,if_false,Tr.left,Tr.right,Tr.val,Tr.set_set x y f]
   ·simp only [Tr.set,h0,h1,if_false,Tr.left,Tr.right,Tr.val,Tr.set_set x y f]
theorem set_push (H:ah) (x y:dB):(H.push x).set H.next y=H.push y:=by
 simp only [ah.push,ah.set,Tr.set_set]
theorem DX {cs xs:List aa} (h:xs.length=cs.length):put cs 0 xs=xs:=by
 unfold put
 rw [List.take_zero,List.nil_append,List.drop_eq_nil_of_le (by omega),List.append_nil]
theorem wR {lim:Nat} {H:ah} {cs:List aa} (hl:lim≤H.next) {n:Nat} {x:aa} (hn:x.cells.length=n) (ho:cs.length=n) (h1:x.cells.all (·.one)=true):
  bp lim (H.push (.cells cs)) n (.ptr (some (H.next,0))) x=some (H.push (.cells x.cells)):=by
 rw [r9 (ct H cs) hl hn (by omega) h1,DX (by omega),set_push]
theorem wS {lim:Nat} {H:ah} {cs:List aa} (hl:lim≤H.next) {o:Nat} {x:aa} (hn:x.cells=[x]) (ho:o <cs.length) (h1:x.one=true):
  bp lim (H.push (.cells cs)) 1 (.ptr (some (H.next,o))) x=some (H.push (.cells (cs.set o x))):=by
 have hp:put cs o [x]=cs.set o x:=by
  unfold put
  rw [List.set_eq_take_append_cons_drop,if_pos ho]
  simp
 rw [r9 (ct H cs) hl (by rw [hn];rfl) (by omega) (by rw [hn];simp [h1]),hn,hp,set_push]
theorem oS (H:ah) (cs:List aa) (o:Nat):aB (H.push (.cells cs)) none (.ptr (some (H.next,o)))=cs[o]? :=bJ (ct H cs) o
theorem Up (H:ah) {cs:List aa} {n:Nat} (hn:cs.length=n):aB (H.push (.cells cs)) (some n) (.ptr (some (H.next,0)))=some (.agg cs):=by
 rw [uq (ct H cs)]
 simp only [au.cut,Nat.zero_add,hn,Nat.le_refl,if_true,List.drop_zero,Option.map_some]
 rw [List.take_of_length_le (by omega)]
structure aO (H H':ah):Prop where
 next:H.next≤H'.next
 get:∀b,b <H.next→H'.get b=H.get b
theorem aO.refl (H:ah):aO H H:=⟨Nat.le_refl _,fun _ _=>rfl⟩
theorem aO.trans {H H1 H2:ah} (h:aO H H1) (h':aO H1 H2):aO H H2:=
 ⟨Nat.le_trans h.next h'.next,fun b hb=>(h'.get b (by have:=h.next;omega)).trans (h.get b hb)⟩
theorem aO.push (H:ah) (x:dB):aO H (H.push x):=⟨by rw [ah.bK];omega,fun b hb=>ah.gi _ _ _ (by omega)⟩
theorem aO.lH {H H1:ah} (h:aO H H1) {b:Nat} (hb:H.next≤b) (x:dB):aO H (H1.set b x):=
 ⟨h.next,fun c hc=>by rw [ah.eD _ _ _ _ (by omega)];exact h.get c hc⟩
theorem aO.cells {H H':ah} (h:aO H H') {b:Nat} {cs:List aa} (hc:H.cells b=some cs):H'.cells b=some cs:=
 ah.cells_eq.2 (by rw [h.get b (ah.jf hc)];exact ah.cells_eq.1 hc)
def mG (c:Cap) (n sz:Nat):Prop:=
 match c with
 | .ex k=>n≤k
 | .op e _=>e=sz
 | .un=>True
structure Sl (H:ah) (sz:Nat) (v:aa) (xs:List (List aa)):Prop where
 at':(∃a c,v= .sl a 0 c∧mG c 0 sz∧xs=[])∨ ∃b o c cs,v= .sl (some (b,o)) xs.length c∧mG c xs.length sz∧H.cells b=some cs∧o+xs.length * sz≤cs.length∧(cs.drop o).take (xs.length * sz)=xs.flatten
 each:∀x∈xs,x.length=sz
def slot (v:aa) (k:Nat):aa:=
 match v with
 | .sl (some (b,o)) _ _=> .ptr (some (b,o+k))
 | _=> .ptr none
theorem Sl.zero (H:ah) (sz:Nat) (a:Option (Nat × Nat)) (c:Cap) (hc:mG c 0 sz):Sl H sz (.sl a 0 c) []:=⟨.inl ⟨a,c,rfl,hc,rfl⟩,fun _ h=>by simp at h⟩
theorem Sl.nil (H:ah) (sz:Nat):Sl H sz (.sl none 0 (.ex 0)) []:=Sl.zero H sz _ _ (Nat.le_refl 0)
theorem Sl.keep {H H':ah} (hk:aO H H') {sz:Nat} {v:aa} {xs:List (List aa)} (h:Sl H sz v xs):Sl H' sz v xs:=by
 refine ⟨?_,h.each⟩
 rcases h.at' with h1 | ⟨b,o,c,cs,h1,hc,h2,h3,h4⟩
 ·exact .inl h1
 ·exact .inr ⟨b,o,c,cs,h1,hc,hk.cells h2,h3,h4⟩
theorem Sl.len {H:ah} {sz:Nat} {v:aa} {xs:List (List aa)} (h:Sl H sz v xs):bh false v=some (.int .i64 (xs.length:Nat)):=by
 rcases h.at' with ⟨_,_,rfl,_,rfl⟩ | ⟨b,o,c,cs,rfl,_,_⟩ <;>rfl
theorem jw (k:IntKind) (i:Nat):kA (.int k (i:Int))=some i:=by
 show (if (0:Int)≤(i:Int) then some (i:Int).toNat else none)=some i
 rw [if_pos (by omega),Int.toNat_natCast]
theorem Sl.addr {H:ah} {sz:Nat} {v:aa} {xs:List (List aa)} (h:Sl H sz v xs) {k:IntKind} {i:Nat} (hi:i <xs.length):cD none sz v (.int k (i:Int))=some (slot v (i * sz)):=by
 rcases h.at' with ⟨_,_,rfl,_,rfl⟩ | ⟨b,o,c,cs,rfl,_,_⟩
 ·simp at hi
 ·simp only [cD,jw,hi,if_true,slot]
theorem KP {H:ah} {sz:Nat} {v:aa} {xs:List (List aa)} (h:Sl H sz v xs) (hn:0 <xs.length) (k off:Nat):aU off (slot v k)=some (slot v (k+off)):=by
 rcases h.at' with ⟨_,_,rfl,_,rfl⟩ | ⟨b,o,c,cs,rfl,_,_⟩
 ·simp at hn
 ·simp only [slot,DW,Nat.add_assoc]
theorem KQ {sz:Nat}:∀{xs:List (List aa)},(∀x∈xs,x.length=sz)→ ∀(i:Nat) (x:List aa),xs[i]? =some x→(xs.flatten.drop (i * sz)).take sz=x
 | [],_,i,x,h=>by simp at h
 | y::ys,he,0,x,h=>by
  simp at h;subst h
  have:=he y (by simp)
  simp [←this]
 | y::ys,he,i+1,x,h=>by
  simp at h
  have hy:=he y (by simp)
  have ih:=KQ (fun x hx=>he x (by simp [hx])) i x h
  rw [List.flatten_cons,Nat.succ_mul,Nat.add_comm,←hy,←List.drop_drop,List.drop_left,hy]
  exact ih
theorem qI {sz:Nat}:∀{xs:List (List aa)},(∀x∈xs,x.length=sz)→xs.flatten.length=xs.length * sz
 | [],_=>by simp
 | y::ys,he=>by
  rw [List.flatten_cons,List.length_append,qI (fun x hx=>he x (by simp [hx])),he y (by simp),List.length_cons,Nat.succ_mul]
  omega
theorem Sl.cut {H:ah} {sz:Nat} {v:aa} {xs:List (List aa)} (h:Sl H sz v xs) {i:Nat} {x:List aa} (hx:xs[i]? =some x):
  ∃b o cs,slot v (i * sz)= .ptr (some (b,o))∧(∀k,slot v (i * sz+k)= .ptr (some (b,o+k)))∧H.cells b=some cs∧o+sz≤cs.length∧(cs.drop o).take sz=x:=by
 have hi:i <xs.length:=by
  rcases Nat.lt_or_ge i xs.length with h | h
  ·exact h
  ·rw [List.getElem?_eq_none h] at hx;simp at hx
 rcases h.at' with ⟨_,_,rfl,_,rfl⟩ | ⟨b,o,c,cs,rfl,_,h2,h3,h4⟩
 ·simp at hi
 ·have hle:(i+1) * sz≤xs.length * sz:=Nat.mul_le_mul_right _ hi
  rw [Nat.succ_mul] at hle
  refine ⟨b,o+i * sz,cs,rfl,fun k=>by simp only [slot,Nat.add_assoc],h2,by omega,?_⟩
  rw [←KQ h.each i x hx,←h4,List.drop_take,List.take_take,List.drop_drop,Nat.min_eq_left (by omega)]
theorem Sl.load {H:ah} {sz:Nat} {v:aa} {xs:List (List aa)} (h:Sl H sz v xs) {i:Nat} {x:List aa} (hx:xs[i]? =some x):aB H (some sz) (slot v (i * sz))=some (.agg x):=by
 obtain ⟨b,o,cs,h1,_,h2,h3,h4⟩:=h.cut hx
 rw [h1,uq h2]
 simp only [au.cut,h3,if_true,h4,Option.map_some]
theorem Sl.KR {H:ah} {sz:Nat} {v:aa} {xs:List (List aa)} (h:Sl H sz v xs) {i:Nat} {x:List aa} (hx:xs[i]? =some x) {f:Nat} (hf:f <sz):aB H none (slot v (i * sz+f))=x[f]? :=by
 obtain ⟨b,o,cs,_,h1,h2,h3,h4⟩:=h.cut hx
 rw [h1,bJ h2,←h4,List.getElem?_take,if_pos hf,List.getElem?_drop]
theorem Sl.KS {H:ah} {v:aa} {xs:List (List aa)} (h:Sl H 1 v xs) {i:Nat} {x:aa} (hx:xs[i]? =some [x]):aB H none (slot v (i * 1))=some x:=by
 have:=h.KR hx (f:=0) (by omega)
 simpa using this
theorem aE:(type_of% @DC)∧(type_of% @DD)∧(type_of% @JX)∧(type_of% @DE)∧(type_of% @DF)∧(type_of% @DG)∧(type_of% @DH)∧(type_of% @DI)∧(type_of% @DJ)∧(type_of% @KN)∧(type_of% @KO)∧(type_of% @Kl)∧(type_of% @Km)∧(type_of% @Kn)∧(type_of% @Ko)∧(type_of% @Kp)∧(type_of% @Kq)∧(type_of% @Kr)∧(type_of% @Ks)∧(type_of% @Ku)∧(type_of% @Kv)∧(type_of% @Kw)∧(type_of% @Kx)∧(type_of% @Aq)∧(type_of% @Ky)∧(type_of% @DW)∧(type_of% @Kz)∧(type_of% @KA)∧(type_of% @KC)∧(type_of% @KB)∧(type_of% @KE)∧(type_of% @KD)∧(type_of% @fq)∧(type_of% @KF)∧(type_of% @KG)∧(type_of% @wQ)∧(type_of% @KH)∧(type_of% @KI)∧(type_of% @KJ)∧(type_of% @KK)∧(type_of% @KL)∧(type_of% @KM):=⟨@DC,@DD,@JX,@DE,@DF,@DG,@DH,@DI,@DJ,@KN,@KO,@Kl,@Km,@Kn,@Ko,@Kp,@Kq,@Kr,@Ks,@Ku,@Kv,@Kw,@Kx,@Aq,@Ky,@DW,@Kz,@KA,@KC,@KB,@KE,@KD,@fq,@KF,@KG,@wQ,@KH,@KI,@KJ,@KK,@KL,@KM⟩
end Go.au
end
section
set_option linter.unusedSimpArgs false
set_option linter.unusedVariables false
set_option linter.unusedSectionVars false
namespace Go.au
variable [Gl]
inductive Ty where
 | nil
 | int (k:IntKind) (rest:Ty)
 | bool (rest:Ty)
 | str (rest:Ty)
 | slice (e rest:Ty)
def Ty.size:Ty→Nat
 | .nil=>0
 | .int _ r | .bool r | .str r | .slice _ r=>r.size+1
def Ty.app:Ty→Ty→Ty
 | .nil,u=>u
 | .int k r,u=> .int k (r.app u)
 | .bool r,u=> .bool (r.app u)
 | .str r,u=> .str (r.app u)
 | .slice e r,u=> .slice e (r.app u)
def Ty.rep (u:Ty):Nat→Ty
 | 0=> .nil
 | n+1=>u.app (u.rep n)
theorem Ty.KT:∀(t u:Ty),(t.app u).size=t.size+u.size
 | .nil,u=>by simp [Ty.app,Ty.size]
 | .int _ r,u | .bool r,u | .str r,u | .slice _ r,u=>by simp [Ty.app,Ty.size,Ty.KT r u];omega
def wT (P:Program) (f:TypeId→Option Ty):Nat→List Field→Option Ty
 | _,[]=>some .nil
 | off,fd::fs=>
  match f fd.type,wT P f (off+P.cellsOf fd.type) fs with
  | some t,some r=>if fd.offset=off∧P.cellsOf fd.type=t.size then some (t.app r) else none
  | _,_=>none
def lI (P:Program):Nat→TypeId→Option Ty
 | 0,_=>none
 | n+1,t=>
  match P.underlying t with
  | some (.int k)=>some (.int k .nil)
  | some .bool=>some (.bool .nil)
  | some .string=>some (.str .nil)
  | some (.slice e)=>match lI P n e with
   | some u=>if P.cellsOf e=u.size∧0 <u.size then some (.slice u .nil) else none
   | none=>none
  | some (.struct fs)=>match wT P (lI P n) 0 fs.toList with
   | some u=>if P.cellsOf t=u.size then some u else none
   | none=>none
  | some (.array m e)=>match lI P n e with
   | some u=>if P.cellsOf e=u.size∧P.cellsOf t=m * u.size then some (u.rep m) else none
   | none=>none
  | _=>none
def Wf (H:ah):Ty→List aa→Prop
 | .nil,vs=>vs=[]
 | .int k r,vs=> ∃n vs',vs= .int k n::vs'∧(Lit.int k n).wf=true∧Wf H r vs'
 | .bool r,vs=> ∃b vs',vs= .bool b::vs'∧Wf H r vs'
 | .str r,vs=> ∃s vs',vs= .str s::vs'∧s.length≤maxLen∧Wf H r vs'
 | .slice e r,vs=> ∃v vs',vs=v::vs'∧v.one=true∧(∃xs,Sl H e.size v xs∧xs.length≤maxLen∧ ∀x∈xs,Wf H e x)∧Wf H r vs'
theorem Wf.keep {H H':ah} (hk:aO H H'):∀{t:Ty} {vs:List aa},Wf H t vs→Wf H' t vs
 | .nil,vs,h=>h
 | .int k r,vs,⟨n,vs',h1,h2,h3⟩=>⟨n,vs',h1,h2,Wf.keep hk h3⟩
 | .bool r,vs,⟨b,vs',h1,h3⟩=>⟨b,vs',h1,Wf.keep hk h3⟩
 | .str r,vs,⟨s,vs',h1,h2,h3⟩=>⟨s,vs',h1,h2,Wf.keep hk h3⟩
 | .slice e r,vs,⟨v,vs',h1,h2,⟨xs,h3,h4,h5⟩,h6⟩=>⟨v,vs',h1,h2,⟨xs,h3.keep hk,h4,fun x hx=>Wf.keep hk (h5 x hx)⟩,Wf.keep hk h6⟩
theorem Wf.len {H:ah}:∀{t:Ty} {vs:List aa},Wf H t vs→vs.length=t.size
 | .nil,vs,h=>by cases h;rfl
 | .int k r,vs,⟨n,vs',h1,h2,h3⟩=>by rw [h1,List.length_cons,Wf.len h3];rfl
 | .bool r,vs,⟨b,vs',h1,h3⟩=>by rw [h1,List.length_cons,Wf.len h3];rfl
 | .str r,vs,⟨s,vs',h1,h2,h3⟩=>by rw [h1,List.length_cons,Wf.len h3];rfl
 | .slice e r,vs,⟨v,vs',h1,h2,h3,h6⟩=>by rw [h1,List.length_cons,Wf.len h6];rfl
theorem Wf.app {H:ah}:∀{t u:Ty} {vs us:List aa},Wf H t vs→Wf H u us→Wf H (t.app u) (vs++us)
 | .nil,u,vs,us,h,h'=>by cases h;exact h'
 | .int k r,u,vs,us,⟨n,vs',h1,h2,h3⟩,h'=>⟨n,vs'++us,by rw [h1];rfl,h2,Wf.app h3 h'⟩
 | .bool r,u,vs,us,⟨b,vs',h1,h3⟩,h'=>⟨b,vs'++us,by rw [h1];rfl,Wf.app h3 h'⟩
 | .str r,u,vs,us,⟨s,vs',h1,h2,h3⟩,h'=>⟨s,vs'++us,by rw [h1];rfl,h2,Wf.app h3 h'⟩
 | .slice e r,u,vs,us,⟨v,vs',h1,h2,h3,h6⟩,h'=>⟨v,vs'++us,by rw [h1];rfl,h2,h3,Wf.app h6 h'⟩
def ur:aa→Bool
 | .int _ _ | .bool _ | .str _ | .ptr _ | .sl _ _ _ | .map _ | .nilFn | .nilIface=>true
 | _=>false
theorem Wf.flat {H:ah}:∀{t:Ty} {vs:List aa},Wf H t vs→vs.all ur=true
 | .nil,vs,h=>by cases h;rfl
 | .int k r,vs,⟨n,vs',h1,h2,h3⟩=>by rw [h1,List.all_cons,Wf.flat h3];rfl
 | .bool r,vs,⟨b,vs',h1,h3⟩=>by rw [h1,List.all_cons,Wf.flat h3];rfl
 | .str r,vs,⟨s,vs',h1,h2,h3⟩=>by rw [h1,List.all_cons,Wf.flat h3];rfl
 | .slice e r,vs,⟨v,vs',h1,h2,⟨xs,h3,_⟩,h6⟩=>by
  rw [h1,List.all_cons,Wf.flat h6]
  rcases h3.at' with ⟨_,_,rfl,_⟩ | ⟨_,_,_,_,rfl,_⟩ <;>rfl
theorem Uq {xs:List (List aa)} (h:∀x∈xs,x.all ur=true):xs.flatten.all ur=true:=by
 induction xs with
 | nil=>rfl
 | cons x xs ih=>rw [List.flatten_cons,List.all_append,h x (by simp),ih fun y hy=>h y (by simp [hy])];rfl
def Ur (H:ah):Prop:= ∀b cs,Gl.n≤b→H.get b=some (.cells cs)→cs.all ur=true
structure gK (P:Program) (ρ:Mp) (H:ah) (w:World):Prop where
 rel:∀n0,H.next≤n0→Rel P n0 ρ H w
 fresh:∀b,H.next≤b→ρ b=none
 flat:∀b cs,Gl.n≤b→H.get b=some (.cells cs)→cs.all ur=true
theorem gK.empty {P:Program} {ρ:Mp} {w:World} (hd:∀b L,ρ b=some L→L.blk <w.heap.size) (hn:∀b,Gl.n≤b→ρ b=none) (hg:∀g,Gl.gs.contains g=true→ ∃n,ρ g=some ⟨g,0,n⟩):gK P ρ ah.empty w:=
 ⟨fun n0 _=> .empty n0 hd hg,hn,fun b cs _ hb=>by rw [ah.wH] at hb;simp at hb⟩
section
variable {P:Program} {ρ:Mp} {H:ah} {w:World}
theorem gK.DY (h:gK P ρ H w) {L:Loc} {x:dB} (hfl:∀cs,x= .cells cs→cs.all ur=true) (hlt:L.blk <w.heap.size) (hm:∀es cl,x≠ .map es cl) (hl:∀r,x≠ .loop r)
  (hx:∀cs,x= .cells cs→ ∃c e fr,w.heap[L.blk]? =some (.cells c e fr)∧c.size=L.rI∧L.d+cs.length≤c.size∧az ρ cs ((c.toList.drop L.d).take cs.length)):
  gK P (upd ρ H.next L) (H.push x) w∧Ext ρ (upd ρ H.next L):=by
 have hf:ρ H.next=none:=h.fresh _ (Nat.le_refl _)
 have dR:=vK (ρ:=ρ) L hf
 refine ⟨⟨fun n0 hn0=> ?_,fun b hb=> ?_,fun b cs hge hb=> ?_⟩,dR⟩
 ·rw [ah.bK] at hn0
  have hr:=h.rel n0 (by omega)
  refine ⟨?_,?_,?_,?_,?_,fun g hg=>by obtain ⟨n,e⟩:=hr.jY g hg;exact ⟨n,dR _ _ e⟩⟩
  ·intro b L1 cs e1 e2
   by_cases e:b=H.next
   ·subst e
    rw [eG] at e1;simp at e1;subst e1
    rw [ah.jU] at e2;simp at e2;subst e2
    obtain ⟨c,e,fr,h1,h2,h3,h4⟩:=hx cs rfl
    exact ⟨c,⟨e,fr,h1,h2,fun hn=>by omega⟩,h3,h4.ext dR⟩
   ·rw [fI _ _ e] at e1
    rw [ah.gi _ _ _ e] at e2
    obtain ⟨c,h1,h2,h3⟩:=hr.row b L1 cs e1 e2
    exact ⟨c,h1,h2,h3.ext dR⟩
  ·intro b L1 es cl e1 e2
   by_cases e:b=H.next
   ·subst e
    rw [ah.jU] at e2;simp at e2;exact absurd e2 (hm _ _)
   ·rw [fI _ _ e] at e1
    rw [ah.gi _ _ _ e] at e2
    obtain ⟨es',q1,q2⟩:=hr.map b L1 es cl e1 e2
    exact ⟨es',q1,q2.ext dR⟩
  ·intro b L1 r e1 e2
   by_cases e:b=H.next
   ·subst e
    rw [ah.jU] at e2;simp at e2;exact absurd e2 (hl _)
   ·rw [fI _ _ e] at e1
    rw [ah.gi _ _ _ e] at e2
    obtain ⟨r',q1,q2⟩:=hr.loop b L1 r e1 e2
    exact ⟨r',q1,q2.ext dR⟩
  ·intro b L1 e1
   by_cases e:b=H.next
   ·subst e;rw [eG] at e1;simp at e1;subst e1;exact hlt
   ·rw [fI _ _ e] at e1;exact hr.dom b L1 e1
  ·intro b b' L1 L2 g1 g2 g3
   by_cases e:b=H.next
   ·omega
   ·rw [fI _ _ e,h.fresh b (by omega)] at g3;simp at g3
 ·rw [ah.bK] at hb
  rw [fI _ _ (by omega)];exact h.fresh b (by omega)
 ·by_cases e:b=H.next
  ·subst e
   rw [ah.jU] at hb;simp at hb
   exact hfl cs hb
  ·rw [ah.gi _ _ _ e] at hb
   exact h.flat b cs hge hb
theorem DZ {r:Nat} {o:Obj} (h:w.heap[r]? =some o):r <w.heap.size:=(Array.getElem?_eq_some_iff.1 h).1
def D2 (P:Program) (w:World) (ρ:Mp) (H:ah) (ty:Ty) (cs:List Value):Prop:=
 ∃ρ' H' j3,aO H H'∧Ext ρ ρ'∧gK P ρ' H' w∧az ρ' j3 cs∧Wf H' ty j3
theorem KU (a:Addr) (n:Nat):(a.add n).block=a.block:=by unfold Addr.add;split <;>rfl
theorem KV (a:Addr) (n:Nat):(a.add n).off=a.off+n:=by
 unfold Addr.add;split
 ·rename_i h;subst h;rfl
 ·rfl
theorem Us {a:Addr} (h:¬a.spot.isSome=true) (n:Nat):¬(a.add n).spot.isSome=true:=by
 unfold Addr.add;split
 ·exact h
 ·simp
theorem D3 {base:Nat} {a:Addr} {n:Nat} {cs:List Value} (h:w.cells? base a n=some cs) (hn:0 <n):
  ∃c e fr,w.heap[a.block]? =some (.cells c e fr)∧a.spot=none∧a.off+n≤c.size∧cs=(c.toList.drop a.off).take n:=by
 unfold World.cells? at h
 split at h
 case isFalse=>simp at h
 have hlen:cs.length=n:=by simpa using mapM_some_length h
 have dX:∀i,i <n→w.cell? (a.add i)=cs[i]? :=fun i hi=>mapM_some_get h i i (by simp [hi])
 have h0:=dX 0 hn
 rw [List.getElem?_eq_getElem (by omega)] at h0
 have e0:a.add 0=a:=by simp [Addr.add]
 rw [e0] at h0
 unfold World.cell? at h0
 split at h0
 case h_2=>simp at h0
 rename_i c e fr hc
 split at h0
 ·simp at h0
 rename_i hsp
 have KW:∀i,i <n→c[a.off+i]? =cs[i]? :=by
  intro i hi
  have h1:=dX i hi
  unfold World.cell? at h1
  rw [KU,hc] at h1
  simp only [KV] at h1
  rw [if_neg (Us hsp i)] at h1
  exact h1
 refine ⟨c,e,fr,hc,by simpa using hsp,?_,?_⟩
 ·have h1:=KW (n - 1) (by omega)
  rw [List.getElem?_eq_getElem (by omega)] at h1
  have:=(Array.getElem?_eq_some_iff.1 h1).1
  omega
 ·apply List.ext_getElem?
  intro i
  rcases Nat.lt_or_ge i n with hi | hi
  ·rw [←KW i hi,List.getElem?_take,if_pos hi,List.getElem?_drop];simp
  ·rw [List.getElem?_eq_none (by omega),List.getElem?_take,if_neg (by omega)]
variable {D:Type} {enc:TypeId × Value→D} {base:Nat} {sp:Nat→Bool} {held:Bool}
theorem take_add (l:List Value) (m k d:Nat):(l.drop d).take (m+k)=(l.drop d).take m++(l.drop (d+m)).take k:=by
 rw [List.take_add,List.drop_drop]
theorem wU (hsp:∀b,sp b=true):∀(fuel:Nat) (t:TypeId) (cs:List Value) (x:DataW D × List MemPlace) (m:Nat) (ty:Ty),lI P m t=some ty→DataW.trod enc P w base sp held fuel t cs=some x→
  (∀a l c,Value.slice (some a) l c∈cs→0 <w.heap.size)→ ∀(ρ:Mp) (H:ah),gK P ρ H w→D2 P w ρ H ty cs
 | 0,t,cs,x,m,ty,_,h,_=>by simp [DataW.trod] at h
 | fuel+1,t,cs,x,0,ty,hty,_,_=>by simp [lI] at hty
 | fuel+1,t,cs,x,m+1,ty,hty,h,hz=>by
  intro ρ H hr
  unfold lI at hty
  split at hty
  ·rename_i k hu
   simp at hty;subst hty
   obtain ⟨n,rfl,_,hw⟩:=DataW.trod_int hu h
   exact ⟨ρ,H,[.int k n],.refl H,.refl ρ,hr,az.cons (.int _ _) (az.nil ρ),n,[],rfl,hw,rfl⟩
  ·rename_i hu
   simp at hty;subst hty
   obtain ⟨b,rfl,_⟩:=DataW.trod_bool hu h
   exact ⟨ρ,H,[.bool b],.refl H,.refl ρ,hr,az.cons (.bool _) (az.nil ρ),b,[],rfl,rfl⟩
  ·rename_i hu
   simp at hty;subst hty
   obtain ⟨s,rfl,_,hs⟩:=DataW.trod_string hu h
   exact ⟨ρ,H,[.str s.data.toList],.refl H,.refl ρ,hr,az.cons (.str rfl) (az.nil ρ),s.data.toList,[],rfl,by rw [←qg rfl];exact hs,rfl⟩
  ·rename_i e hu
   split at hty
   case h_2=>simp at hty
   rename_i u rL
   split at hty
   case isFalse=>simp at hty
   rename_i hsz
   simp at hty;subst hty
   rcases DataW.trod_slice hu h with ⟨rfl,_⟩ | ⟨a,len,cap,elems,rest,n,lJ,rfl,_,_,hlc,hcap,hlen,hel,jG,_⟩
   ·exact ⟨ρ,H,[.sl none 0 (.ex 0)],.refl H,.refl ρ,hr,az.cons .lB (az.nil ρ),_,[],rfl,rfl,⟨[],Sl.nil H _,by simp,fun _ hx=>by simp at hx⟩,rfl⟩
   ·simp at lJ;subst lJ
    have each:∀i,i <len→ ∃ci y,w.cells? base (a.add (i * P.cellsOf e)) (P.cellsOf e)=some ci∧DataW.trod enc P w base sp held fuel e ci=some y:=by
     intro i hi
     have h1:=hel i hi
     rw [List.getElem?_eq_getElem (by omega)] at h1
     simp only [Option.bind_eq_some_iff] at h1
     obtain ⟨ci,q1,q2⟩:=h1
     exact ⟨ci,_,q1,q2⟩
    have hpos:0 <P.cellsOf e:=by rw [hsz.1];exact hsz.2
    have hzero:0 <w.heap.size:=hz a len cap (by simp)
    rcases Nat.eq_zero_or_pos len with h0 | h0
    ·subst h0
     rcases Nat.eq_zero_or_pos cap with hc0 | hc0
     ·subst hc0
      obtain ⟨hr',dR⟩:=hr.DY (L:=⟨0,0,0⟩) (x:= .dead) (by simp) hzero (by simp) (by simp) (by simp)
      exact ⟨_,_,[.sl (some (H.next,0)) 0 .un],.push _ _,dR,hr',az.cons (.lC (eG ρ H.next _)) (az.nil _),_,[],rfl,rfl,⟨[],Sl.zero _ _ _ _ trivial,by simp,fun _ hx=>by simp at hx⟩,rfl⟩
     ·
      ·obtain ⟨hrl,dO⟩:=jG (hsp a.block)
       have h1:=dO 0 (by omega)
       rw [List.getElem?_eq_getElem (by omega)] at h1
       simp only [Option.bind_eq_some_iff] at h1
       obtain ⟨ci,q1,q2⟩:=h1
       obtain ⟨c,e',fr,g1,g2,g3,g4⟩:=D3 q1 hpos
       have e0:a.add ((0+0) * P.cellsOf e)=a:=by simp [Addr.add]
       rw [e0] at g1 g2
       have qq:w.heap[a.block]? =some (.cells c e' fr):=g1
       have KX:a.spot=none:=g2
       obtain ⟨hr',dR⟩:=hr.DY (L:=⟨a.block,a.off,c.size⟩) (x:= .dead) (by simp) (DZ qq) (by simp) (by simp) (by simp)
       have ha:a=⟨a.block,a.off+0,none⟩:=by cases a;simp at KX;simp [KX]
       refine ⟨_,_,[.sl (some (H.next,0)) 0 .un],.push _ _,dR,hr',az.cons ?_ (az.nil _),_,[],rfl,rfl,⟨[],Sl.zero _ _ _ _ trivial,by simp,fun _ hx=>by simp at hx⟩,rfl⟩
       rw [ha]
       exact .kH (L:=⟨a.block,a.off,c.size⟩) (eG ρ H.next _) (Nat.zero_le _)
    ·have rows:∀k,k≤len→ ∃(ρ':Mp) (H':ah) (lK:List (List aa)),aO H H'∧Ext ρ ρ'∧gK P ρ' H' w∧lK.length=k∧(∀x∈lK,Wf H' u x)∧
       ∀i ci,i <k→w.cells? base (a.add (i * P.cellsOf e)) (P.cellsOf e)=some ci→ ∃x,lK[i]? =some x∧az ρ' x ci:=by
      intro k
      induction k with
      | zero=>intro _;exact ⟨ρ,H,[],.refl H,.refl ρ,hr,rfl,fun _ hx=>by simp at hx,fun i ci hi=>by omega⟩
      | succ k ih=>
       intro hk
       obtain ⟨dH,H1,lK,k1,e1,r1,l1,w1,g1⟩:=ih (by omega)
       obtain ⟨ck,y,q1,q2⟩:=each k (by omega)
       obtain ⟨dQ,H2,j3,k2,e2,r2,l2,w2⟩:=wU hsp fuel e ck y m u rL q2 (fun _ _ _ _=>hzero) dH H1 r1
       refine ⟨dQ,H2,lK++[j3],k1.trans k2,e1.trans e2,r2,by simp [l1],fun x hx=> ?_,fun i ci hi As=> ?_⟩
       ·rcases List.mem_append.1 hx with hx | hx
        ·exact Wf.keep k2 (w1 x hx)
        ·simp at hx;subst hx;exact w2
       ·rcases Nat.lt_or_ge i k with hik | hik
        ·obtain ⟨x,p1,p2⟩:=g1 i ci hik As
         exact ⟨x,by rw [List.getElem?_append_left (by omega)];exact p1,p2.ext e2⟩
        ·have:i=k:=by omega
         subst this
         rw [q1] at As;simp at As;subst As
         exact ⟨j3,by rw [List.getElem?_append_right (by omega)];simp [l1],l2⟩
     obtain ⟨dH,H1,lK,k1,e1,r1,l1,w1,g1⟩:=rows len (Nat.le_refl _)
     obtain ⟨c0,y0,q0,_⟩:=each 0 h0
     obtain ⟨c,e',fr,a1,a2,a3,a4⟩:=D3 q0 hpos
     have e0:a.add (0 * P.cellsOf e)=a:=by simp [Addr.add]
     rw [e0] at a1 a2
     have wV:w.heap[a.block]? =some (.cells c e' fr):=a1
     have Au:a.spot=none:=a2
     have hw:∀x∈lK,x.length=u.size:=fun x hx=>Wf.len (w1 x hx)
     have rowAt:∀i,i <len→w.cells? base (a.add (i * P.cellsOf e)) (P.cellsOf e)=some ((c.toList.drop (a.off+i * u.size)).take u.size)∧a.off+(i+1) * u.size≤c.size:=by
      intro i hi
      obtain ⟨ci,y,q1,_⟩:=each i hi
      obtain ⟨c',e2,Ut,b1,b2,b3,b4⟩:=D3 q1 hpos
      rw [KU] at b1
      rw [KV] at b3 b4
      have D4:w.heap[a.block]? =some (.cells c' e2 Ut):=b1
      rw [wV] at D4;simp at D4;obtain ⟨rfl,rfl,rfl⟩:=D4
      have Uu:a.off+i * P.cellsOf e+P.cellsOf e≤c.size:=b3
      have Uv:ci=(c.toList.drop (a.off+i * P.cellsOf e)).take (P.cellsOf e):=b4
      rw [q1,Uv,hsz.1]
      rw [hsz.1] at Uu
      exact ⟨rfl,by rw [Nat.succ_mul];omega⟩
     have flat:∀k,k≤len→az dH (lK.take k).flatten ((c.toList.drop a.off).take (k * u.size)):=by
      intro k
      induction k with
      | zero=>intro _;simpa using az.nil dH
      | succ k ih=>
       intro hk
       obtain ⟨x,p1,p2⟩:=g1 k _ (by omega) (rowAt k (by omega)).1
       rw [List.take_add_one,p1,Nat.succ_mul,take_add]
       simp only [Option.toList_some,List.flatten_append,List.flatten_cons,List.flatten_nil,List.append_nil]
       exact az.append (ih (by omega)) p2
     have hfl:=flat len (Nat.le_refl _)
     rw [←l1,List.take_length] at hfl
     have D5:=qI hw
     obtain ⟨hr',dR⟩:=r1.DY (L:=⟨a.block,a.off,c.size⟩) (x:= .cells lK.flatten) (fun cs hcs=>by simp at hcs;subst hcs;exact Uq fun x hx=>Wf.flat (w1 x hx)) (DZ wV) (by simp) (by simp) (fun cs hcs=>by
      simp at hcs;subst hcs
      refine ⟨c,e',fr,wV,rfl,?_,by rw [D5];exact hfl⟩
      have:=(rowAt (len - 1) (by omega)).2
      rw [show len - 1+1=len by omega] at this
      rw [D5,l1];exact this)
     have kk:aO H1 (H1.push (.cells lK.flatten)):= .push _ _
     have ha:a=⟨a.block,a.off+0,none⟩:=by cases a;simp at Au;simp [Au]
     refine ⟨_,_,[.sl (some (H1.next,0)) len .un],k1.trans kk,e1.trans dR,hr',az.cons ?_ (az.nil _),_,[],rfl,rfl,⟨lK,?_,by omega,fun x hx=>Wf.keep kk (w1 x hx)⟩,rfl⟩
     ·rw [ha]
      exact .kH (L:=⟨a.block,a.off,c.size⟩) (eG dH H1.next _) hlc
     ·refine ⟨.inr ⟨H1.next,0,.un,lK.flatten,by rw [l1],trivial,ct _ _,by rw [D5];omega,?_⟩,hw⟩
      rw [List.drop_zero,List.take_of_length_le (by omega)]
  ·rename_i fs hu
   split at hty
   case h_2=>simp at hty
   rename_i u hfs
   split at hty
   case isFalse=>simp at hty
   rename_i hsz
   simp at hty;subst hty
   obtain ⟨xs,n,lJ,_,cR,hxl,dX⟩:=DataW.trod_struct hu h
   simp at lJ;subst lJ
   have go:∀(l:List Field) (k off:Nat) (ty:Ty),fs.toList.drop k=l→wT P (lI P m) off l=some ty→off+ty.size=cs.length→ ∀(ρ:Mp) (H:ah),gK P ρ H w→D2 P w ρ H ty (cs.drop off):=by
    intro l
    induction l with
    | nil=>
     intro k off ty _ ht hl ρ H hr
     simp [wT] at ht;subst ht
     have:off=cs.length:=by simpa [Ty.size] using hl
     subst this
     exact ⟨ρ,H,[],.refl H,.refl ρ,hr,by rw [List.drop_length];exact az.nil ρ,rfl⟩
    | cons fd l ih=>
     intro k off ty hd ht hl ρ H hr
     unfold wT at ht
     split at ht
     case h_2=>simp at ht
     rename_i t1 r1 ht1 vP
     split at ht
     case isFalse=>simp at ht
     rename_i hoff
     simp at ht;subst ht
     rw [Ty.KT] at hl
     have hk:fs[k]? =some fd:=by
      have:(fs.toList.drop k)[0]? =some fd:=by rw [hd];rfl
      rw [List.getElem?_drop] at this
      simpa using this
     have hg:=dX k fd hk
     have sj:k <xs.length:=by
      rw [hxl]
      exact (Array.getElem?_eq_some_iff.1 hk).1
     rw [List.getElem?_eq_getElem sj,hoff.1] at hg
     obtain ⟨dH,H1,j3,k1,e1,D6,l1,w1⟩:=wU hsp fuel fd.type _ _ m t1 ht1 hg (fun a l c hm=>hz a l c (List.mem_of_mem_drop (List.mem_of_mem_take hm))) ρ H hr
     have hd':fs.toList.drop (k+1)=l:=by
      rw [←List.drop_drop,hd];rfl
     obtain ⟨dQ,H2,D7,k2,e2,Ae,l2,w2⟩:=ih (k+1) (off+P.cellsOf fd.type) r1 hd' vP (by rw [hoff.2];omega) dH H1 D6
     refine ⟨dQ,H2,j3++D7,k1.trans k2,e1.trans e2,Ae,?_,Wf.app (Wf.keep k2 w1) w2⟩
     have hsplit:cs.drop off=(cs.drop off).take (P.cellsOf fd.type)++cs.drop (off+P.cellsOf fd.type):=by
      rw [←List.drop_drop,List.take_append_drop]
     rw [hsplit]
     exact az.append (l1.ext e2) l2
   have:=go fs.toList 0 0 u (by simp) hfs (by omega) ρ H hr
   simpa using this
  ·rename_i k e hu
   split at hty
   case h_2=>simp at hty
   rename_i u rL
   split at hty
   case isFalse=>simp at hty
   rename_i hsz
   simp at hty;subst hty
   obtain ⟨xs,n,lJ,_,cR,hxl,dX⟩:=DataW.trod_array hu h
   simp at lJ;subst lJ
   have go:∀(j:Nat),j≤k→ ∀(ρ:Mp) (H:ah),gK P ρ H w→D2 P w ρ H (u.rep j) (cs.drop ((k - j) * u.size)):=by
    intro j
    induction j with
    | zero=>
     intro _ ρ H hr
     refine ⟨ρ,H,[],.refl H,.refl ρ,hr,?_,rfl⟩
     rw [List.drop_eq_nil_of_le (by rw [cR,hsz.2];exact Nat.le_refl _)]
     exact az.nil ρ
    | succ j ih=>
     intro hj ρ H hr
     have hg:=dX (k - (j+1)) (by omega)
     rw [List.getElem?_eq_getElem (by omega),hsz.1] at hg
     obtain ⟨dH,H1,j3,k1,e1,D6,l1,w1⟩:=wU hsp fuel e _ _ m u rL hg (fun a l c hm=>hz a l c (List.mem_of_mem_drop (List.mem_of_mem_take hm))) ρ H hr
     obtain ⟨dQ,H2,D7,k2,e2,Ae,l2,w2⟩:=ih (by omega) dH H1 D6
     refine ⟨dQ,H2,j3++D7,k1.trans k2,e1.trans e2,Ae,?_,Wf.app (Wf.keep k2 w1) w2⟩
     have he:(k - j) * u.size=(k - (j+1)) * u.size+u.size:=by
      rw [←Nat.succ_mul];congr 1;omega
     have hsplit:cs.drop ((k - (j+1)) * u.size)=(cs.drop ((k - (j+1)) * u.size)).take u.size++cs.drop ((k - j) * u.size):=by
      rw [he,←List.drop_drop,List.take_append_drop]
     rw [hsplit]
     exact az.append (l1.ext e2) l2
   have:=go k (Nat.le_refl _) ρ H hr
   simpa using this
  ·simp at hty
end
end Go.au
end
section
set_option linter.unusedSimpArgs false
set_option linter.unusedVariables false
set_option linter.unusedSectionVars false
namespace Go.au
variable [Gl]
def sk (P:Program) (t:TypeId):Bool:=
 match P.underlying t with
 | some (.struct _) | some (.array _ _)=>true
 | _=>false
def uu (P:Program):List TypeId→Option (List (Bool × Ty))
 | []=>some []
 | t::ts=>match lI P 20 t,uu P ts with
  | some u,some us=>some ((sk P t,u)::us)
  | _,_=>none
def oU (H:ah):List (Bool × Ty)→List aa→Prop
 | [],a9as=>a9as=[]
 | (g,u)::us,a9as=> ∃a as',a9as=a::as'∧(if g=true then ∃cs,a= .agg cs∧Wf H u cs else Wf H u [a])∧oU H us as'
theorem oU.keep {H H':ah} (hk:aO H H'):∀{us:List (Bool × Ty)} {a9as:List aa},oU H us a9as→oU H' us a9as
 | [],a9as,h=>h
 | (g,u)::us,a9as,⟨a,as',h1,h2,h3⟩=>by
  refine ⟨a,as',h1,?_,oU.keep hk h3⟩
  cases g with
  | true=>
   rw [if_pos rfl] at h2 ⊢
   obtain ⟨cs,h4,h5⟩:=h2
   exact ⟨cs,h4,h5.keep hk⟩
  | false=>exact h2.keep hk
section
variable {P:Program} {w:World} {D:Type} {enc:TypeId × Value→D} {base base':Nat} {sp:Nat→Bool} {held:Bool} {r:Reach}
theorem KY {u:TypeId} {a:Addr} {l c:Nat} (h:Cell.okWide P w r base u (.slice (some a) l c)):0 <w.heap.size:=by
 have fin:∀e,w.has P r base a e c→0 <w.heap.size:=by
  rintro e ⟨_,_,row,cells,hs,_⟩
  unfold World.shape? at hs
  split at hs
  ·rename_i c' e' fr hh
   have:=DZ hh
   omega
  ·simp at hs
 unfold Cell.okWide at h
 split at h
 ·rename_i heq;simp at heq
 ·rename_i heq;simp at heq
 ·rename_i heq;simp at heq
 ·rename_i heq;simp at heq
 ·rename_i heq;simp at heq
 ·rename_i heq;simp at heq
 ·rename_i heq;simp at heq
 ·unfold Cell.ok at h
  split at h
  ·rename_i heq;simp at heq
  ·rename_i heq;simp at heq
  ·rename_i heq;simp at heq
  ·rename_i heq;simp at heq
  ·rename_i heq;simp at heq
  ·rename_i heq;simp at heq
  ·rename_i heq;simp at heq
  ·rename_i heq;simp at heq
  ·rename_i heq
   simp at heq
   obtain ⟨rfl,rfl,rfl⟩:=heq
   exact fin _ h.2.2
  ·exact h.elim
theorem Uw {t:TypeId} {m:Nat} {u:Ty} {v:Value} (hu:lI P m t=some u) (hg:sk P t=false) (h:Value.okWide P w r base t v):v.cells.toList=[v]∧Cell.okWide P w r base t v:=by
 have key:∀d,P.underlying t=some d→(∀fs,d≠ .struct fs)→(∀n e,d≠ .array n e)→Cell.okWide P w r base t v:=by
  intro d hd h1 h2
  unfold Value.okWide at h
  rw [hd] at h
  split at h
  ·rename_i heq;simp at heq;exact absurd heq (h1 _)
  ·rename_i heq;simp at heq;exact absurd heq (h2 _ _)
  ·exact h
 cases m with
 | zero=>simp [lI] at hu
 | succ m=>
  unfold lI at hu
  unfold sk at hg
  have fin:∀d,P.underlying t=some d→(d= .bool∨d= .string∨(∃k,d= .int k)∨ ∃e,d= .slice e)→v.cells.toList=[v]∧Cell.okWide P w r base t v:=by
   intro d hd hc
   have hk:=key d hd (by rcases hc with rfl | rfl | ⟨_,rfl⟩ | ⟨_,rfl⟩ <;>simp) (by rcases hc with rfl | rfl | ⟨_,rfl⟩ | ⟨_,rfl⟩ <;>simp)
   refine ⟨?_,hk⟩
   cases v with
   | agg cs=>
    exfalso
    unfold Cell.okWide Cell.ok at hk
    rw [hd] at hk
    rcases hc with rfl | rfl | ⟨_,rfl⟩ | ⟨_,rfl⟩ <;>simp at hk
   | _=>rfl
  split at hu
  ·rename_i k hk;exact fin _ hk (.inr (.inr (.inl ⟨_,rfl⟩)))
  ·rename_i hk;exact fin _ hk (.inl rfl)
  ·rename_i hk;exact fin _ hk (.inr (.inl rfl))
  ·rename_i e hk;exact fin _ hk (.inr (.inr (.inr ⟨_,rfl⟩)))
  ·rename_i fs hk;rw [hk] at hg;simp at hg
  ·rename_i n e hk;rw [hk] at hg;simp at hg
  ·simp at hu
theorem Ux (hsp:∀b,sp b=true) {t:TypeId} {u:Ty} {v:Value} {d:DataW D} {ps:List MemPlace} (hu:lI P 20 t=some u) (hval:Value.okWide P w r base t v) (hd:DataW.Trod enc P w base' sp held t v d ps)
  {ρ:Mp} {H:ah} (hr:gK P ρ H w):∃ρ' H' a,aO H H'∧Ext ρ ρ'∧gK P ρ' H' w∧aJ ρ' a v∧(if sk P t=true then ∃cs,a= .agg cs∧Wf H' u cs else Wf H' u [a]):=by
 obtain ⟨fuel,hf⟩:=hd
 cases hg:sk P t with
 | false=>
  obtain ⟨hc,hk⟩:=Uw hu hg hval
  rw [hc] at hf
  obtain ⟨ρ',H',j3,k1,e1,r1,l1,w1⟩:=wU hsp fuel t _ _ 20 u hu hf (fun a l c hm=>by
   simp at hm;subst hm;exact KY hk) ρ H hr
  have hl:=l1.1
  match j3,hl,l1,w1 with
  | [a],_,l1,w1=>exact ⟨ρ',H',a,k1,e1,r1,l1.head,by rw [if_neg (by simp)];exact w1⟩
  | [],hl,_,_=>simp at hl
  | _::_::_,hl,_,_=>simp at hl
 | true=>
  have hex:∃cs,v= .agg cs∧Row.okWide P w r base t cs:=by
   unfold sk at hg
   unfold Value.okWide at hval
   split at hg
   ·rename_i fs hs;rw [hs] at hval;obtain ⟨cs,h1,_,h2⟩:=hval;exact ⟨cs,h1,h2⟩
   ·rename_i n e hs;rw [hs] at hval;obtain ⟨cs,h1,_,h2⟩:=hval;exact ⟨cs,h1,h2⟩
   ·simp at hg
  obtain ⟨cs,rfl,ts,_,_,hrow⟩:=hex
  obtain ⟨ρ',H',j3,k1,e1,r1,l1,w1⟩:=wU hsp fuel t _ _ 20 u hu hf (fun a l c hm=>by
   simp only [Value.cells] at hm
   obtain ⟨i,hi,hx⟩:=List.getElem_of_mem hm
   have:cs[i]? =some (.slice (some a) l c):=by rw [Array.getElem?_eq_getElem (by simpa using hi)];simpa using hx
   obtain ⟨u',_,hcell⟩:=hrow i _ this
   exact KY hcell) ρ H hr
  exact ⟨ρ',H',.agg j3,k1,e1,r1,aJ.tG l1,by rw [if_pos rfl];exact ⟨j3,rfl,w1⟩⟩
theorem D8 (hsp:∀b,sp b=true):∀(ts:List TypeId) (us:List (Bool × Ty)) (vs:List Value) (ds:List (DataW D)) (ps:List MemPlace),uu P ts=some us→(∀(j:Nat) t v,ts[j]? =some t→vs[j]? =some v→Value.okWide P w r base t v)→
  DataW.TrodAll enc P w base' sp held ts vs ds ps→ ∀(ρ:Mp) (H:ah),gK P ρ H w→ ∃ρ' H' a9as,aO H H'∧Ext ρ ρ'∧gK P ρ' H' w∧az ρ' a9as vs∧oU H' us a9as
 | [],us,vs,ds,ps,hu,_,hA,ρ,H,hr=>by
  simp [uu] at hu;subst hu
  cases vs <;>cases ds <;>simp [DataW.TrodAll] at hA
  exact ⟨ρ,H,[],.refl H,.refl ρ,hr,az.nil ρ,rfl⟩
 | t::ts,us,vs,ds,ps,hu,hval,hA,ρ,H,hr=>by
  obtain ⟨v,vs',d,ds',p,q,rfl,rfl,rfl,h1,h2⟩:=Go.ChangeShapes.trodAll_cons hA
  unfold uu at hu
  split at hu
  case h_2=>simp at hu
  rename_i u us' rM CE
  simp at hu;subst hu
  obtain ⟨dH,H1,a,k1,e1,r1,v1,w1⟩:=Ux hsp rM (hval 0 t v rfl rfl) h1 hr
  obtain ⟨dQ,H2,a9as,k2,e2,r2,l2,w2⟩:=D8 hsp ts us' vs' ds' q CE (fun j t v h h'=>hval (j+1) t v (by simpa using h) (by simpa using h')) h2 dH H1 r1
  refine ⟨dQ,H2,a::a9as,k1.trans k2,e1.trans e2,r2,az.cons (v1.ext e2) l2,a,a9as,rfl,?_,w2⟩
  cases hg:sk P t with
  | true=>
   rw [hg,if_pos rfl] at w1
   rw [if_pos rfl]
   obtain ⟨cs,h4,h5⟩:=w1
   exact ⟨cs,h4,h5.keep k2⟩
  | false=>
   rw [hg] at w1
   exact Wf.keep k2 w1
open Go.RowKit in
theorem af6 {ap:FuncId→Option bg} (hP:P.follows .mixedOrders=true) (hap:∀f af,ap f=some af→gZ P f af) {f:Nat} {ts:List TypeId} {us:List (Bool × Ty)} {args:Array Value} {ds:List (DataW D)} {ps:List MemPlace}
  (hu:uu P ts=some us) (hval:∀(j:Nat) t v,ts[j]? =some t→args[j]? =some v→Value.okWide P w r base t v) (hA:DataW.TrodAll enc P w 0 (fun _=>true) true ts args.toList ds ps)
  {j0:Mp} {H0:ah} (h0:gK P j0 H0 w)
  (walk:∀(H:ah) (a9as:List aa),aO H0 H→oU H us a9as→Ur H→ ∃n,isTrue (run ap n H.next f a9as H)=true):
  Calls P f args w fun e w'=>e= .returned (.bool true)∧Below w.heap.size w w':=by
 obtain ⟨ρ,H,a9as,k,_,hr,hl,hw⟩:=D8 (fun _=>rfl) ts us args.toList ds ps hu (fun j t v h h'=>hval j t v h (by simpa using h')) hA _ _ h0
 obtain ⟨n,hn⟩:=walk H a9as k hw hr.flat
 exact DB hP hap hn (hr.rel _ (Nat.le_refl _)) hr.fresh hl
def KZ (P:Program) (ts:List TypeId):Bool:=ts.all fun t=>P.readableRec t && decide (t <P.types.size)
open Go.RowKit in
theorem Below.trodAll (hl:laidOutB P=true) {W W':World} (hb:Below W.heap.size W W'):∀{ts:List TypeId} {vs:List Value} {ds:List (DataW D)} {ps:List MemPlace},KZ P ts=true→DataW.TrodAll enc P W 0 (fun _=>true) true ts vs ds ps→
  (∀x∈ps,x.block <W.heap.size)→DataW.TrodAll enc P W' 0 (fun b=>decide (b <W.heap.size)) true ts vs ds ps
 | [],[],[],_,_,h,_=>h
 | [],_::_,_,_,_,h,_=>h.elim
 | [],[],_::_,_,_,h,_=>h.elim
 | _::_,[],_,_,_,h,_=>h.elim
 | _::_,_::_,[],_,_,h,_=>h.elim
 | t::ts,v::vs,d::ds,ps,hr,h,hlt=>by
  obtain ⟨p,q,h1,h2,rfl⟩:=h
  simp only [KZ,List.all_cons,Bool.and_eq_true,decide_eq_true_eq] at hr
  exact ⟨p,q,Below.trod hl hr.1.1 hr.1.2 h1 hb (fun x hx=>hlt x (by simp [hx])),Below.trodAll hl hb hr.2 h2 (fun x hx=>hlt x (by simp [hx])),rfl⟩
end
end Go.au
end
section
namespace Go.Proofs.YtfigbgjbaohglaaGreatDoor.bP
instance glI:Go.au.Gl:=⟨6,[2],fun g h=>by simp at h;omega⟩
end Go.Proofs.YtfigbgjbaohglaaGreatDoor.bP
end
section
set_option linter.unusedSimpArgs false
set_option linter.unusedVariables false
namespace Go.Proofs.YtfigbgjbaohglaaGreatDoor.bP
open Go.au
def base:ah:=ah.empty
theorem D9 {W:World} (h:Go.Lib.VarReads Tryz.prog W "internal/strconv.uint64pow10" Rows.laid_internal_strconv_uint64pow10):∃ρ,gK Tryz.prog ρ base W:=by
 obtain ⟨g,t,cs,_,_,h1,_,h3,_⟩:=h
 have e:Tryz.prog.globalNamed "internal/strconv.uint64pow10" =some 2:=by kernel_rfl
 have hl:2 <W.heap.size:=by
  unfold World.var? at h3
  rw [e] at h3
  simp only [Option.bind_some] at h3
  split at h3
  ·rename_i hh;exact (Array.getElem?_eq_some_iff.1 hh).1
  ·simp at h3
 refine ⟨fun b=>if b=2 then some ⟨2,0,0⟩ else none,gK.empty (fun b L hb=> ?_) (fun b hb=> ?_) (fun g hg=> ?_)⟩
 ·split at hb
  ·simp at hb;subst hb;exact hl
  ·simp at hb
 ·have:(6:Nat)≤b:=hb
  rw [if_neg (by omega)]
 ·have hg:([2]:List Nat).contains g=true:=hg
  simp at hg
  subst hg
  exact ⟨0,rfl⟩
theorem af7 {W:World} (h:laidMetH Tryz.prog Rows.walLastsRow.laid W):∃ρ,gK Tryz.prog ρ base W:=
 D9 (Go.Lib.laidMet.reads (show laidMet Tryz.prog Rows.walLastsRow.laid W from h) (by simp [Rows.walLastsRow]))
theorem af8 {W:World} (h:laidMetH Tryz.prog Rows.walCountsRow.laid W):∃ρ,gK Tryz.prog ρ base W:=
 D9 (Go.Lib.laidMet.reads (show laidMet Tryz.prog Rows.walCountsRow.laid W from h) (by simp [Rows.walCountsRow]))
theorem af9 {W:World} (h:laidMetH Tryz.prog Rows.walBaseRow.laid W):∃ρ,gK Tryz.prog ρ base W:=
 D9 (Go.Lib.laidMet.reads (show laidMet Tryz.prog Rows.walBaseRow.laid W from h) (by simp [Rows.walBaseRow]))
end Go.Proofs.YtfigbgjbaohglaaGreatDoor.bP
end
section
namespace Go.au.T
open Go.au
def t (n:Nat):aP:= .tmp n
def i (n:Int):aP:= .val (.int .i64 n)
def u (n:Int):aP:= .val (.int .u8 n)
def w (n:Int):aP:= .val (.int .u64 n)
def tt:aP:= .val (.bool true)
def ff:aP:= .val (.bool false)
def o (d:Nat) (p:bG):aY:=⟨some d,p,none,false,[]⟩
def l (d:Nat) (p:bG):aY:=⟨some d,p,none,true,[]⟩
def s (p:bG):aY:=⟨none,p,none,false,[]⟩
def m (d x:Nat):aY:=⟨some d,.an (.tmp x),none,false,[]⟩
def gt (g d:Nat) (p:bG):aY:=⟨some d,p,some (g,true),false,[]⟩
def gf (g d:Nat) (p:bG):aY:=⟨some d,p,some (g,false),false,[]⟩
def ht (g d:Nat) (p:bG):aY:=⟨some d,p,some (g,true),true,[]⟩
def hf (g d:Nat) (p:bG):aY:=⟨some d,p,some (g,false),true,[]⟩
end Go.au.T
end
