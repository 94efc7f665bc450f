/- Parts of the proof. -/
import Derived.Test.YtfigbgjbaohglaaGreatDoorY3
import Derived.OrdersIn
import Derived.LoopNIn
import Derived.RangeFuncRecord
section
set_option linter.unusedSimpArgs false
set_option linter.unusedVariables false
set_option linter.unusedSectionVars false
namespace Go.au
variable [Gl]
inductive gY:Fence→Prop where
 | wide:gY Fence.wide
 | round (l:Nat):gY (Fence.wide.inRound l)
theorem gY.fn {F:Fence} (h:gY F) (f:FuncId):F.fn f:=by cases h <;>trivial
theorem gY.depth {F:Fence} (h:gY F):F.depth=none:=by cases h <;>rfl
theorem gY.deep {F:Fence} (h:gY F) {m:Nat}:F.depth.isSome=true→1≤m:=fun e=>by rw [h.depth] at e;simp at e
theorem gY.calls {F:Fence} (h:gY F) {m:Nat} {P:Program} {f:FuncId} {args:Array Value} {w:World} {R:Ending→World→Prop} (hc:Calls P f args w R):CallsIn F m P f args w R:=by
 cases h with
 | wide=>exact callsIn_wide.2 hc
 | round l=>exact (callsIn_wide.2 hc:CallsIn Fence.wide m P f args w R)
theorem gY.rounds {F:Fence} (h:gY F) {m:Nat} {P:Program} {l:Nat} {f:FuncId} {tmps:Array Value} {assign body:Code} {w:World} {R:Ending→World→Prop}
  (hc:RoundIn Fence.wide 0 P l f tmps assign body w R):RoundIn F m P l f tmps assign body w R:=by
 cases h with
 | wide=>exact ⟨trivial,fun c cs _=>hc.2 c cs (room_wide _)⟩
 | round l'=>exact ⟨trivial,fun c cs _=>hc.2 c cs (room_wide _)⟩
def oG (P:Program) (n0 lim:Nat) (ρ:Mp) (H:ah) (w:World) (v:aa) (H':ah) (e:Ending) (w':World):Prop:=
 ∃v' ρ',e= .returned v'∧aJ ρ' v v'∧Post P n0 lim ρ H w ρ' H' w'
def qw (P:Program) (R:aq):Prop:=
 ∀(n0 lim:Nat) (tg:Iq) (args:List aa) (H:ah) (v:aa) (H':ah),R lim tg args H=some (v,H')→
  match tg with
  | .fn f=>
   (∃fn,P.funcs[f]? =some fn∧fn.body.isSome=true∧(fn.name== "runtime.NumGoroutine")=false)∧
   ∀(ρ:Mp) (w:World) (args':Array Value),n0≤lim→lim≤H.next→(∀b,H.next≤b→b <H'.next→ρ b=none)→Rel P n0 ρ H w→az ρ args args'.toList→
    Calls P f args' w (oG P n0 lim ρ H w v H')
  | .yl b=>
   ∀(ρ:Mp) (w:World) (args':Array Value) (L:Loc),ρ b=some L→n0≤lim→lim≤H.next→(∀b,H.next≤b→b <H'.next→ρ b=none)→Rel P n0 ρ H w→az ρ args args'.toList→
    ∃f tmps assign body,(Instr.yield L.blk args').run P w= .ok (.round L.blk f tmps assign body) w∧RoundIn Fence.wide 0 P L.blk f tmps assign body w (oG P n0 lim ρ H w v H')
section
variable {P:Program} {n0 lim:Nat} {ρ:Mp} {H H':ah} {w:World} {R:aq} {v:aa}
theorem Post.weaken {lim':Nat} {ρ':Mp} {w':World} (hl:lim≤lim') (h:Post P n0 lim' ρ H w ρ' H' w'):Post P n0 lim ρ H w ρ' H' w':=
 ⟨h.rel,h.ext,fun b L a c=>by
   obtain ⟨g1,g2,g3⟩:=h.new b L a c
   refine ⟨g1,g2,g3.imp id ?_⟩
   rintro ⟨b0,L0,q1,q2,q3,q4⟩
   exact ⟨b0,L0,Nat.le_trans hl q1,q2,q3,q4⟩,
  fun r h1 h2=>h.frame r h1 fun b L a c d=>h2 b L (Nat.le_trans hl a) c d,h.size,fun b hb=>h.keep b (Nat.lt_of_lt_of_le hb hl),h.next,h.rest⟩
theorem C4 {xs:List aa} {a9as:Array Value} (h:az ρ xs a9as.toList) (t:Nat):aJ ρ (xs.getD t bA) (a9as.getD t undef):=by
 have hl:xs.length=a9as.size:=by simpa using h.1
 rw [List.getD_eq_getElem?_getD,Array.getD_eq_getD_getElem?]
 by_cases ht:t <xs.length
 ·have ht':t <a9as.size:=by omega
  rw [List.getElem?_eq_getElem ht,Array.getElem?_eq_getElem ht']
  exact h.2 t _ _ (List.getElem?_eq_getElem ht) (by simp [ht'])
 ·have ht':¬t <a9as.size:=by omega
  rw [List.getElem?_eq_none (by omega),Array.getElem?_eq_none (by omega)]
  exact aJ.bA ρ
theorem C5 {tmps:List aa} {a:Act} (Jr:∀g,Gl.gs.contains g=true→ ∃n,ρ g=some ⟨g,0,n⟩) (h:az ρ tmps a.tmps.toList):oy ρ (St.ev tmps) a.eval:=by
 intro x x' hx
 cases x with
 | tmp t=>simp [bR] at hx;subst hx;exact C4 h t
 | const c=>
  simp [bR] at hx
  obtain ⟨y,hy,rfl⟩:=hx
  exact IB ρ hy
 | global g=>
  simp only [bR] at hx
  split at hx
  ·rename_i hg
   simp at hx;subst hx
   obtain ⟨n,e⟩:=Jr g hg
   exact aJ.ptr e
  ·simp at hx
 | func f=>simp [bR] at hx;subst hx;exact aJ.Iw (az.nil ρ) (az.nil ρ)
theorem C6 {tmps:List aa} {a:Act} (h:az ρ tmps a.tmps.toList) {v':Value} (hv:aJ ρ v v') (dst:Option Nat):az ρ (dc tmps dst v) (a.put dst v').tmps.toList:=by
 cases dst with
 | none=>exact h
 | some d=>
  simp only [dc,Act.put,Array.toList_setIfInBounds]
  refine ⟨by simpa using h.1,fun i u u' e e'=> ?_⟩
  rw [List.getElem?_set] at e e'
  by_cases hd:d=i
  ·subst hd
   simp only [if_true] at e e'
   split at e
   ·split at e'
    ·simp at e e';subst e e';exact hv
    ·simp at e'
   ·simp at e
  ·rw [if_neg hd] at e e'
   exact h.2 i u u' e e'
theorem Sx {x:aa} {x':Value} (h:aJ ρ x x') (b:Bool):x= .bool b↔x'= .bool b:=by
 cases h <;>simp
theorem Sy {tmps:List aa} {a:Act} (h:az ρ tmps a.tmps.toList) (t:Nat) (want:Bool):
  ((match a.tmps[t]? with | some (.bool b)=>some b | _=>none:Option Bool)==some want)=(match tmps[t]? with | some (.bool b)=>b==want | _=>false):=by
 have hl:tmps.length=a.tmps.size:=by simpa using h.1
 by_cases hlt:t <tmps.length
 ·have hlt':t <a.tmps.size:=by omega
  rw [List.getElem?_eq_getElem hlt,Array.getElem?_eq_getElem hlt']
  have hv:=h.2 t tmps[t] a.tmps[t] (List.getElem?_eq_getElem hlt) (by simp [hlt'])
  generalize tmps[t]=x at hv
  generalize a.tmps[t]=x' at hv
  cases hv <;>simp
 ·rw [List.getElem?_eq_none (by omega),Array.getElem?_eq_none (by omega)]
  rfl
theorem Sz {ops:Array Oper} {tmps:List aa} {a:Act} (h:az ρ tmps a.tmps.toList) {o:Oper} {g:Option (Nat × Bool)} (hg:Cy ops o.guard=some g):
  Region.wanted o (yielded ops a.tmps)=eF tmps g:=by
 unfold Cy at hg
 unfold Region.wanted
 split at hg
 ·rename_i e;simp at hg;subst hg;rw [e];rfl
 ·rename_i j want e
  split at hg
  ·rename_i t ht
   simp at hg;subst hg
   rw [e]
   simp only [eF,yielded,ht,Option.bind_some]
   exact Sy h t want
  ·simp at hg
theorem SA {b:Builtin} {ts:Array TypeId} {ys:List aP} {cI:bG} (hc:vB P b ts ys=some cI):cI.jF=false:=by
 unfold vB at hc
 repeat' (split at hc)
 all_goals first
  | (simp at hc;done)
  | (simp at hc;subst hc;rfl)
  | (rw [Option.map_eq_some_iff] at hc;obtain ⟨_,_,rfl⟩:=hc;rfl)
  | (simp at hc;obtain ⟨_,_,rfl⟩:=hc;rfl)
  | (simp at hc;obtain ⟨_,rfl⟩:=hc;rfl)
theorem SB {α:Type} (x:α) (xs:Array α):(#[x]++xs).extract 1 (#[x]++xs).size=xs:=by
 apply Array.ext'
 rw [Array.toList_extract,List.extract_eq_take_drop]
 simp
 rw [←Array.length_toList,List.take_length]
theorem SC {ty:TypeId} {op:Op} {cI:bG} (hc:dg P ty op=some cI) (iC:cI.jF=true):∃c,op= .call c:=by
 have no:cI.jF=false→ ∃c,op= .call c:=fun h=>by rw [h] at iC;simp at iC
 cases op
 case call c=>exact ⟨c,rfl⟩
 case binOp o t x y yt=>
  simp only [dg] at hc
  split at hc
  ·rcases IJ hc with rfl | ⟨_,k,_,rfl⟩ <;>exact no rfl
  ·simp at hc
 case makeFunc fn first captured=>
  cases fn <;>simp only [dg] at hc <;>try (simp at hc;done)
  ·split at hc <;>simp at hc
   subst hc;exact no rfl
  ·split at hc <;>simp at hc
   obtain ⟨_,_,rfl⟩:=hc;exact no rfl
 case mapUpdate t m k v=>
  simp only [dg] at hc
  split at hc
  ·rw [Option.map_eq_some_iff] at hc
   obtain ⟨_,_,rfl⟩:=hc;exact no rfl
  ·simp at hc
 case entryStore t m k v=>
  simp only [dg] at hc
  split at hc
  ·rw [Option.map_eq_some_iff] at hc
   obtain ⟨_,_,rfl⟩:=hc;exact no rfl
  ·simp at hc
 case range t m=>
  simp only [dg] at hc
  split at hc
  ·rw [Option.map_eq_some_iff] at hc
   obtain ⟨_,_,rfl⟩:=hc;exact no rfl
  ·simp at hc
 case next it s=>
  simp only [dg] at hc
  split at hc
  ·simp at hc
  ·rw [Option.map_eq_some_iff] at hc
   obtain ⟨_,_,rfl⟩:=hc;exact no rfl
 all_goals
  simp only [dg] at hc
  (try simp at hc)
  first
   | (subst hc;exact no rfl)
   | (obtain ⟨_,_,rfl⟩:=hc;exact no rfl)
   | skip
 all_goals
  (repeat' (split at hc))
  all_goals first
   | (simp at hc;done)
   | (simp at hc;subst hc;exact no rfl)
   | (simp at hc;obtain ⟨_,_,rfl⟩:=hc;exact no rfl)
   | (simp at hc;obtain ⟨_,rfl⟩:=hc;exact no rfl)
   | (simp at hc;obtain ⟨_,_,_,rfl⟩:=hc;exact no rfl)
theorem SD {ty:TypeId} {op:Op} {cI:bG} (hc:dg P ty op=some cI):∀c,op≠ .defer c:=by
 rintro c rfl
 simp [dg] at hc
theorem aJ.SE {ρ:Mp} {b:Nat} {v':Value} (h:aJ ρ (.yl b) v'):∃L,ρ b=some L∧v'= .func (.yield L.blk) #[] #[]:=by
 cases h with | yl h=>exact ⟨_,h,rfl⟩
theorem SF {F:Fence} {m:Nat} (hF:gY F) (hR:qw P R) (hr:Rel P n0 ρ H w) (hl:n0≤lim) (hlim:lim≤H.next) (hfr:∀b,H.next≤b→b <H'.next→ρ b=none) {tmps:List aa} {a:Act} (ht:az ρ tmps a.tmps.toList)
  {ev:aP→aa} (rQ:ev=St.ev tmps) {o:Oper} {cI:bG} (hc:dg P o.type o.op=some cI) (h:step R lim ev H cI=some (v,H')) {K:Act→World→Prop} {Q:Exit→Act→World→Prop}
  (hK:∀ρ' v' w',Post P n0 lim ρ H w ρ' H' w'→aJ ρ' v v'→K (a.put o.dst v') w'):o.wpIn F m P a w K Q:=by
 subst rQ
 have he:=C5 hr.jY ht
 refine ⟨fun f _=>hF.fn f,?_⟩
 rw [Oper.semAt_eq _ _ _ (SD hc)]
 cases iC:cI.jF with
 | false=>
  obtain ⟨x,w',ρ',q1,q2,q3⟩:=Si hr hl hlim (fun hlt=>hfr _ (Nat.le_refl _) hlt) he hc iC h
  rw [q1]
  rcases q3 with ⟨v',rfl,hv⟩ | ⟨rfl,rfl⟩
  ·exact hK ρ' v' w' q2 hv
  ·exact hK ρ' undef w' q2 (aJ.bA ρ')
 | true=>
  obtain ⟨dst,op,type,pos,after,guard⟩:=o
  simp only at hc
  have main:∀(c:Call) (f:FuncId) (a9as:List aa) (as':Array Value),op= .call c→R lim (.fn f) a9as H=some (v,H')→az ρ a9as as'.toList→
    (do let d ←resolve a.eval c type;invoke d.target d.args:Sem Next).run P w=(callFunc f as').run P w→Oper.uponIn F m P ⟨dst,op,type,pos,after,guard⟩ a K Q ((Go.execOp a.eval ⟨dst,op,type,pos,after,guard⟩).run P w):=by
   rintro c f a9as as' rfl C7 hargs hrun
   obtain ⟨⟨fn,hf,hb,hn⟩,SG⟩:=hR n0 lim (.fn f) a9as H v H' C7
   simp only [Go.execOp]
   rw [hrun]
   have hb':fn.body.isNone=false:=by cases h0:fn.body <;>simp [h0] at hb ⊢
   have:(callFunc f as').run P w= .ok (.enter f as') w:=by
    simp only [callFunc,Sem.run_bind,run_program,Result.andThen_ok,hf,hn,hb',Bool.false_eq_true,if_false,Sem.run_pure]
   rw [this]
   simp only [Oper.uponIn]
   refine ⟨hF.deep,hF.calls ((SG ρ w as' hl hlim hfr hr hargs).mono ?_)⟩
   rintro e w' ⟨v',ρ',rfl,hv,hp⟩
   exact hK ρ' v' w' hp hv
  have Js:∀(c:Call) (x:Operand) (y:aP) (ys:List aP),op= .call c→c.callee= .value x→bR x=some y→fF bR c.args.toList=some ys→
    (∃f first captured,St.ev tmps y= .fn f first captured∧R lim (.fn f) (first++ys.map (St.ev tmps)++captured) H=some (v,H'))→Oper.uponIn F m P ⟨dst,op,type,pos,after,guard⟩ a K Q ((Go.execOp a.eval ⟨dst,op,type,pos,after,guard⟩).run P w):=by
   rintro c x y ys hop qx hx hys ⟨f,first,captured,hfn,C7⟩
   have vV:=he _ _ hx
   rw [hfn] at vV
   obtain ⟨a9as,bs,e1,l1,l2⟩:=vV.Iv
   have hargs:=tN he hys
   refine main c f _ (a9as++c.args.map a.eval++bs) hop C7 (by simpa using az.append (az.append l1 hargs) l2) ?_
   simp only [resolve,qx,Deferred.ofValue,e1,Sem.run_bind,Sem.run_pure,Result.andThen_ok,invoke]
  obtain ⟨c,rfl⟩:=SC hc iC
  simp only [dg] at hc
  split at hc
  ·rename_i ys hys
   split at hc
   ·rename_i f qx
    simp at hc;subst hc
    exact Js c (.func f) (.val (.fn f [] [])) ys rfl qx rfl hys ⟨f,[],[],rfl,by simpa [step] using h⟩
   ·rename_i x hnf qx
    simp at hc
    obtain ⟨y,hy,rfl⟩:=hc
    simp only [step] at h
    split at h
    ·rename_i f first captured hfn
     exact Js c x y ys rfl qx hy hys ⟨f,first,captured,hfn,h⟩
    ·rename_i b jZ
     have hy':=he _ _ hy
     rw [jZ] at hy'
     obtain ⟨L,hL,e1⟩:=hy'.SE
     have hargs:=tN he hys
     obtain ⟨f,rt,iX,body,hrun,SH⟩:=hR n0 lim (.yl b) _ H v H' h ρ w (c.args.map a.eval) L hL hl hlim hfr hr (by simpa using hargs)
     simp only [Go.execOp,resolve,qx,Deferred.ofValue,e1,Sem.run_bind,Sem.run_pure,Result.andThen_ok,invoke,Array.empty_append,Array.append_empty]
     rw [hrun]
     simp only [Oper.uponIn]
     refine ⟨hF.deep,(hF.rounds SH).mono ?_⟩
     rintro e w' ⟨v',ρ',rfl,hv,hp⟩
     exact hK ρ' v' w' hp hv
    ·simp at h
   ·rename_i b hb
    rw [SA hc] at iC;simp at iC
   ·rename_i x name qx
    simp at hc
    obtain ⟨y,hy,rfl⟩:=hc
    simp only [step] at h
    split at h
    case h_2=>simp at h
    rename_i t v0 hif
    split at h
    case h_2=>simp at h
    rename_i f SI
    have hm:=Sh SI
    have hy':=he _ _ hy
    rw [hif] at hy'
    obtain ⟨x',e1,r2⟩:=hy'.Jp
    have hargs:=tN he hys
    refine main c f _ (#[x']++c.args.map a.eval) rfl h (by simpa using az.cons r2 hargs) ?_
    simp only [resolve,qx,Sem.run_bind,Sem.run_pure,Result.andThen_ok,invoke,e1,callMethod]
    have hx:(#[Value.iface t x']++c.args.map a.eval)[0]? =some (Value.iface t x'):=by rw [Array.getElem?_append_left (by simp)];rfl
    have jG:=SB (Value.iface t x') (c.args.map a.eval)
    rw [hx,jG]
    simp only [Sem.run_bind,run_program,Result.andThen_ok,show P.types.size+Made.depth=P.types.size+99+1 from rfl,Sf hm]
  ·simp at hc
end
end Go.au
end
section
set_option linter.unusedSimpArgs false
set_option linter.unusedVariables false
set_option linter.unusedSectionVars false
namespace Go.au
variable [Gl]
def iD (lim:Nat) (o:aY) (H:ah):Nat:=if o.cQ then H.next else lim
def gI (R:aq) (lim:Nat) (o:aY) (tmps:List aa) (H:ah) (v:aa) (H':ah):Prop:=
 (eF tmps o.guard=true∧step R (iD lim o H) (St.ev tmps) H o.op=some (v,H'))∨(eF tmps o.guard=false∧v=bA∧H'=H)
section
variable {P:Program} {n0 lim:Nat} {ρ:Mp} {H H':ah} {w:World} {R:aq} {v:aa}
theorem C8 {o:aY} {s s':St} (h:execOp R lim o s=some s'):∃v,gI R lim o s.tmps s.H v s'.H∧s'.tmps=dc s.tmps o.dst v∧(eF s.tmps o.guard=true→o.clear s.tmps=true∨(o.op.lu=true∧o.kept s.tmps s.H s'.H=true)):=by
 unfold execOp at h
 split at h
 ·rename_i hw
  split at h
  ·unfold vA at h
   split at h
   case isFalse=>simp at h
   rename_i hic
   split at h
   case h_2=>simp at h
   rename_i v H' hs
   split at h <;>simp at h
   rename_i hkp
   subst h
   exact ⟨v,.inl ⟨hw,hs⟩,rfl,fun _=> .inr ⟨hic,hkp⟩⟩
  rename_i cR
  split at h
  ·rename_i v H' hs
   simp at h;subst h
   exact ⟨v,.inl ⟨hw,hs⟩,rfl,fun _=> .inl (by simpa using cR)⟩
  ·simp at h
 ·rename_i hw
  simp at h;subst h
  exact ⟨bA,.inr ⟨by simpa using hw,rfl,rfl⟩,rfl,fun e=>absurd e (by simpa using hw)⟩
theorem zQ (hlim:lim≤H.next) (o:aY):lim≤iD lim o H∧iD lim o H≤H.next:=by
 unfold iD;split <;>constructor <;>omega
theorem gI.keep (hR:nE R) (hlim:lim≤H.next) {o:aY} {tmps:List aa} (h:gI R lim o tmps H v H'):H.next≤H'.next∧ ∀b,b <iD lim o H→H'.get b=H.get b:=by
 rcases h with ⟨_,h⟩ | ⟨_,_,rfl⟩
 ·exact Sv hR (zQ hlim o).2 h
 ·exact ⟨Nat.le_refl _,fun _ _=>rfl⟩
theorem zR {F:Fence} {m:Nat} (hF:gY F) (hR:qw P R) (hr:Rel P n0 ρ H w) (hl:n0≤lim) (hlim:lim≤H.next) (hfr:∀b,H.next≤b→b <H'.next→ρ b=none) {tmps:List aa} {a:Act} (ht:az ρ tmps a.tmps.toList)
  {ops:Array Oper} {i:Nat} {o:Oper} {ao:aY} {b:Bool} (hi:ops[i]? =some o) (hc:qa P ops o=some ao) (h:gI R lim {ao with cQ:=b} tmps H v H') {K:Act→World→Prop} {Q:Exit→Act→World→Prop}
  (hK:∀ρ' v' w',Post P n0 (iD lim {ao with cQ:=b} H) ρ H w ρ' H' w'→aJ ρ' v v'→K (a.put o.dst v') w'):wpOpIn F m P ops Q i K a w:=by
 unfold qa at hc
 split at hc <;>simp at hc
 rename_i op g hop hg
 subst hc
 have hwr:=Sz ht hg
 obtain ⟨l1,l2⟩:=zQ hlim {dst:=o.dst,op:=op,guard:=g,cQ:=b,apart:=[]}
 unfold wpOpIn
 simp only [hi]
 rcases h with ⟨hw,h⟩ | ⟨hw,rfl,rfl⟩
 ·simp only at hw
  rw [hwr,hw]
  simp only [if_true]
  exact (SF hF hR hr (Nat.le_trans hl l1) l2 hfr ht rfl hop h hK)
 ·simp only at hw
  rw [hwr,hw]
  simp only [Bool.false_eq_true,if_false]
  exact ⟨fun f _=>hF.fn f,hK ρ undef w (.refl hr) (aJ.bA ρ)⟩
theorem Jt (a:Act) (d:Option Tmp) (v:Value):(a.put d v).defers=a.defers:=by cases d <;>rfl
theorem Ju {ops:Array Oper} {o:Oper} {ao:aY} (h:qa P ops o=some ao):ao.dst=o.dst∧ao.cQ=false:=by
 unfold qa at h
 split at h <;>simp at h
 subst h;exact ⟨rfl,rfl⟩
theorem zS (dr:nE R):∀(l:List aY) (s s':St),lim≤s.H.next→ep R lim l s=some s'→s.H.next≤s'.H.next∧ ∀b,b <lim→s'.H.get b=s.H.get b
 | [],s,s',_,h=>by simp [ep] at h;subst h;exact ⟨Nat.le_refl _,fun _ _=>rfl⟩
 | o::l,s,s',hlim,h=>by
  unfold ep at h
  split at h
  ·rename_i s1 h1
   obtain ⟨v,hs,_⟩:=C8 h1
   obtain ⟨k1,k2⟩:=hs.keep dr hlim
   obtain ⟨r1,r2⟩:=zS dr l s1 s' (by omega) h
   exact ⟨Nat.le_trans k1 r1,fun b hb=>(r2 b hb).trans (k2 b (Nat.lt_of_lt_of_le hb (zQ hlim o).1))⟩
  ·simp at h
theorem Jv {F:Fence} {m:Nat} (hF:gY F) (hR:qw P R) (dr:nE R) (hl:n0≤lim) {ops:Array Oper} {l:List aY} (hc:fF (qa P ops) ops.toList=some l) {Q:Exit→Act→World→Prop}:∀(k i:Nat) (s s':St) (ρ:Mp) (a:Act) (w:World),
  i+k=ops.size→ep R lim (l.drop i) s=some s'→lim≤s.H.next→(∀b,s.H.next≤b→b <s'.H.next→ρ b=none)→Rel P n0 ρ s.H w→az ρ s.tmps a.tmps.toList→
  (∀ρ' a' w',Post P n0 lim ρ s.H w ρ' s'.H w'→az ρ' s'.tmps a'.tmps.toList→a'.defers=a.defers→Q .normal a' w')→wpOpsIn F m P ops Q (List.range' i k) a w
 | 0,i,s,s',ρ,a,w,hik,h,hlim,hfr,hr,ht,hQ=>by
  have:l.drop i=[]:=List.drop_eq_nil_of_le (by rw [nu hc];simp;omega)
  rw [this] at h
  simp [ep] at h;subst h
  exact hQ ρ a w (.refl hr) ht rfl
 | k+1,i,s,s',ρ,a,w,hik,h,hlim,hfr,hr,ht,hQ=>by
  have hlen:l.length=ops.size:=by rw [nu hc];simp
  have hi:i <ops.size:=by omega
  have hil:i <l.length:=by omega
  rw [List.drop_eq_getElem_cons hil] at h
  unfold ep at h
  split at h
  ·rename_i s1 h1
   obtain ⟨v,hs,hput,_⟩:=C8 h1
   obtain ⟨ao,q1,q2⟩:=qd hc i ops[i] (by simp [hi])
   rw [List.getElem?_eq_getElem hil] at q1;simp at q1
   rw [q1] at hs hput
   obtain ⟨hd,hb⟩:=Ju q2
   have hs':gI R lim {ao with cQ:=false} s.tmps s.H v s1.H:=by
    have:({ao with cQ:=false}:aY)=ao:=by cases ao;simp at hb;subst hb;rfl
    rw [this];exact hs
   obtain ⟨k1,k2⟩:=hs'.keep dr hlim
   obtain ⟨n1,_⟩:=zS dr _ s1 s' (by omega) h
   rw [List.range'_succ,wpOpsIn_cons]
   refine zR hF hR hr hl hlim (fun b g1 g2=>hfr b g1 (by omega)) ht (by simp [hi]) q2 hs' ?_
   intro dH v1 w1 hp hv
   have hp':Post P n0 lim ρ s.H w dH s1.H w1:=hp
   refine Jv hF hR dr hl hc k (i+1) s1 s' dH _ w1 (by omega) h (by omega) ?_ hp'.rel ?_ ?_
   ·intro b g1 g2
    cases hb:dH b with
    | none=>rfl
    | some L=>
     exfalso
     cases hb0:ρ b with
     | none=>have:=(hp'.new b L hb0 hb).2.1;omega
     | some L0=>rw [hfr b (by omega) g2] at hb0;simp at hb0
   ·rw [hput,hd]
    exact C6 (ht.ext hp'.ext) hv _
   ·intro dQ a2 w2 hp2 ht2 hd2
    exact hQ dQ a2 w2 (hp'.trans (Nat.le_refl _) hfr hp2) ht2 (by rw [hd2,Jt])
  ·simp at h
end
end Go.au
end
section
set_option linter.unusedSimpArgs false
set_option linter.unusedVariables false
set_option linter.unusedSectionVars false
namespace Go.au
variable [Gl]
structure Fr (lim:Nat) (ρ:Mp) (nx qy:Nat) (w:World) (ρ':Mp) (w':World):Prop where
 ext:Ext ρ ρ'
 new:∀b L,ρ b=none→ρ' b=some L→nx≤b∧b <qy∧(w.heap.size≤L.blk∨ ∃b0 L0,lim≤b0∧b0 <nx∧ρ b0=some L0∧L0.blk=L.blk)
 frame:∀r,r <w.heap.size→(∀b L,lim≤b→b <nx→ρ b=some L→L.blk≠r)→w'.heap[r]? =w.heap[r]?
 size:w.heap.size≤w'.heap.size
 rest:iY w w'
theorem Fr.refl {lim nx qy:Nat} {ρ:Mp} {w:World}:Fr lim ρ nx qy w ρ w:=
 ⟨.refl ρ,fun b L e e'=>by rw [e] at e';simp at e',fun _ _ _=>rfl,Nat.le_refl _,.refl w⟩
theorem Fr.step {P:Program} {n0 lim lim' nx qy:Nat} {ρ ot vI:Mp} {w w₁ w₂:World} {H H':ah} (h:Fr lim ρ nx qy w ot w₁) (hl:lim≤lim') (hf:∀b,nx≤b→b <qy→ρ b=none) (h1:nx≤H.next) (h3:H'.next≤qy)
  (h':Post P n0 lim' ot H w₁ vI H' w₂):Fr lim ρ nx qy w vI w₂:=by
 have old:∀b0 L0,lim'≤b0→b0 <H.next→ot b0=some L0→(w.heap.size≤L0.blk∨ ∃b1 L1,lim≤b1∧b1 <nx∧ρ b1=some L1∧L1.blk=L0.blk):=by
  intro b0 L0 g1 g2 g3
  cases hb:ρ b0 with
  | none=>exact (h.new b0 L0 hb g3).2.2
  | some L1=>
   have:=h.ext b0 L1 hb
   rw [g3] at this;simp at this;subst this
   rcases Nat.lt_or_ge b0 nx with g | g
   ·exact .inr ⟨b0,L0,by omega,g,hb,rfl⟩
   ·rw [hf b0 g (by have:=h'.next;omega)] at hb;simp at hb
 refine ⟨h.ext.trans h'.ext,?_,?_,Nat.le_trans h.size h'.size,h.rest.trans h'.rest⟩
 ·intro b L e e'
  cases hb:ot b with
  | some L1=>
   have:=h'.ext b L1 hb
   rw [e'] at this;simp at this;subst this
   exact h.new b L e hb
  | none=>
   obtain ⟨g1,g2,g3⟩:=h'.new b L hb e'
   refine ⟨by omega,by omega,?_⟩
   rcases g3 with g3 | ⟨b0,L0,q1,q2,q3,q4⟩
   ·exact .inl (Nat.le_trans h.size g3)
   ·rw [←q4];exact old b0 L0 q1 q2 q3
 ·intro r hr hn
  rw [h'.frame r (Nat.lt_of_lt_of_le hr h.size) ?_,h.frame r hr hn]
  intro b L g1 g2 g3
  rcases old b L g1 g2 g3 with q | ⟨b1,L1,q1,q2,q3,q4⟩
  ·omega
  ·rw [←q4];exact hn b1 L1 q1 q2 q3
inductive kR (ops:Array Oper):Nat→Nat→Prop where
 | C9 {i:Nat} {o:Oper} {e:Edge} (hi:ops[i]? =some o) (he:e∈o.after) (hb:Region.binds .any e=true):kR ops e.on i
 | trans {i j:Nat} {o:Oper} {e:Edge} (hi:ops[i]? =some o) (he:e∈o.after) (hb:Region.binds .any e=true) (h:kR ops j e.on):kR ops j i
theorem testBit_or (a b j:Nat):(a ||| b).testBit j=(a.testBit j || b.testBit j):=Nat.testBit_or ..
theorem Jw (ops:Array Oper) (acc:Array Nat) (i:Nat) (o:Oper) (hi:ops[i]? =some o) (hacc:∀k j,(acc.getD k 0).testBit j=true→kR ops j k):∀(es:List Edge) (s:Nat),(∀e∈es,e∈o.after)→
  (∀j,s.testBit j=true→kR ops j i)→ ∀j,(es.foldl (fun s e=>if Region.binds .any e then s ||| 2 ^ e.on ||| acc.getD e.on 0 else s) s).testBit j=true→kR ops j i
 | [],s,_,hs,j,h=>hs j h
 | e::es,s,lE,hs,j,h=>by
  simp only [List.foldl_cons] at h
  refine Jw ops acc i o hi hacc es _ (fun x hx=>lE x (by simp [hx])) ?_ j h
  intro j hj
  split at hj
  ·rename_i hb
   rw [testBit_or,testBit_or,Bool.or_eq_true,Bool.or_eq_true] at hj
   rcases hj with (hj | hj) | hj
   ·exact hs j hj
   ·rw [Nat.testBit_two_pow] at hj
    simp at hj
    subst hj
    exact .C9 hi (lE e (by simp)) hb
   ·exact .trans hi (lE e (by simp)) hb (hacc _ _ hj)
  ·exact hs j hj
theorem Jx (ops:Array Oper):∀k j,((Region.before ops).getD k 0).testBit j=true→kR ops j k:=by
 unfold Region.before
 have key:∀(n:Nat) (l:List Oper) (acc:Array Nat),acc.size=n→ops.toList.drop n=l→(∀k j,(acc.getD k 0).testBit j=true→kR ops j k)→
   ∀k j,((l.foldl (fun acc o=>acc.push (o.after.foldl (fun s e=>if Region.binds .any e then s ||| 2 ^ e.on ||| acc.getD e.on 0 else s) 0)) acc).getD k 0).testBit j=true→kR ops j k:=by
  intro n l
  induction l generalizing n with
  | nil=>intro acc _ _ h;exact h
  | cons o l ih=>
   intro acc hn hl hacc
   simp only [List.foldl_cons]
   have hlt:n <ops.toList.length:=by
    rcases Nat.lt_or_ge n ops.toList.length with q | q
    ·exact q
    ·rw [List.drop_eq_nil_of_le q] at hl;simp at hl
   rw [List.drop_eq_getElem_cons hlt] at hl
   simp only [List.cons.injEq] at hl
   obtain ⟨ho,hl'⟩:=hl
   have hi:ops[n]? =some o:=by
    have:n <ops.size:=by simpa using hlt
    rw [Array.getElem?_eq_getElem this];simpa using ho
   refine ih (n+1) _ (by simp [hn]) hl' ?_
   intro k j hk
   rw [Array.getD_eq_getD_getElem?,Array.getElem?_push] at hk
   by_cases hkn:k=acc.size
   ·rw [if_pos hkn] at hk
    subst hkn
    rw [←Array.foldl_toList] at hk
    rw [hn] at *
    exact Jw ops acc n o hi hacc o.after.toList 0 (fun e he=>by simpa using he) (fun j h=>by simp at h) j (by simpa using hk)
   ·rw [if_neg hkn] at hk
    exact hacc k j (by rw [Array.getD_eq_getD_getElem?];exact hk)
 rw [←Array.foldl_toList]
 exact key 0 ops.toList #[] rfl (by simp) (fun k j h=>by simp at h)
section fold
variable (l:List aY) (vs:Nat→aa) (T0:List aa)
def dY (S:Nat→Bool):Nat→List aa
 | 0=>T0
 | i+1=>if S i then (match l[i]? with | some o=>dc (dY S i) o.dst (vs i) | none=>dY S i) else dY S i
theorem SJ (T:List aa) (d:Option Nat) (v:aa):(dc T d v).length=T.length:=by cases d <;>simp [dc]
theorem rR (S:Nat→Bool):∀n,(dY l vs T0 S n).length=T0.length
 | 0=>rfl
 | n+1=>by
  unfold dY
  split
  ·split
   ·rw [SJ,rR S n]
   ·exact rR S n
  ·exact rR S n
theorem Da {T:List aa} {d:Option Nat} {v:aa} {t:Nat} (h:d≠some t):(dc T d v)[t]? =T[t]? :=by
 cases d with
 | none=>rfl
 | some d=>simp only [dc,List.getElem?_set];rw [if_neg (by rintro rfl;exact h rfl)]
theorem zT {T:List aa} {v:aa} {t:Nat}:(dc T (some t) v)[t]? =if t <T.length then some v else none:=by simp [dc,List.getElem?_set]
theorem rT (t:Nat) (S S':Nat→Bool):∀n,(∀j,j <n→ ∀o,l[j]? =some o→o.dst=some t→S j=S' j)→(dY l vs T0 S n)[t]? =(dY l vs T0 S' n)[t]?
 | 0,_=>rfl
 | n+1,h=>by
  have ih:=rT t S S' n fun j hj=>h j (by omega)
  simp only [dY]
  cases ho:l[n]? with
  | none=>simp [ih]
  | some o=>
   simp only
   by_cases hd:o.dst=some t
   ·have hs:=h n (by omega) o ho hd
    rw [hs,hd]
    split
    ·rw [zT,zT,rR,rR]
    ·exact ih
   ·have e1:∀T:List aa,(dc T o.dst (vs n))[t]? =T[t]? :=fun T=>Da hd
    by_cases a:S n=true <;>by_cases b:S' n=true <;>simp [a,b,e1,ih]
theorem zU (S:Nat→Bool) (k:Nat):∀n,k≤n→(∀j,k≤j→j <n→S j=false)→dY l vs T0 S n=dY l vs T0 S k
 | 0,h,_=>by
  have:k=0:=by omega
  subst this;rfl
 | n+1,h,hs=>by
  by_cases e:k=n+1
  ·subst e;rfl
  ·simp only [dY,hs n (by omega) (by omega),Bool.false_eq_true,if_false]
   exact zU S k n (by omega) fun j a b=>hs j a (by omega)
theorem SK (S S':Nat→Bool) (N k:Nat) (o:aY) (hk:k <N) (ho:l[k]? =some o) (hS:S k=false) (SL:S' k=true) (hsame:∀j,j≠k→S' j=S j)
  (SM:∀j,k <j→j <N→ ∀o',l[j]? =some o'→o'.dst.isSome→o'.dst=o.dst→S j=false):dY l vs T0 S' N=dc (dY l vs T0 S N) o.dst (vs k):=by
 apply List.ext_getElem?
 intro t
 by_cases hd:o.dst=some t
 ·rw [hd,zT,rR]
  have key:∀n,k+1≤n→n≤N→(dY l vs T0 S' n)[t]? =if t <T0.length then some (vs k) else none:=by
   intro n h1 h2
   induction n with
   | zero=>omega
   | succ n ih=>
    by_cases hn:n=k
    ·subst hn
     simp only [dY,SL,if_true,ho,hd]
     rw [zT,rR]
    ·have zV:=ih (by omega) (by omega)
     simp only [dY]
     cases ho':l[n]? with
     | none=>simp [zV]
     | some o'=>
      by_cases hd':o'.dst=some t
      ·have:S n=false:=SM n (by omega) (by omega) o' ho' (by rw [hd'];rfl) (by rw [hd',hd])
       rw [hsame n hn,this]
       simpa using zV
      ·split
       ·rw [Da hd'];exact zV
       ·exact zV
  exact key N (by omega) (Nat.le_refl _)
 ·rw [Da hd]
  refine (rT l vs T0 t S' S N ?_)
  intro j hj o' ho' hd'
  by_cases e:j=k
  ·subst e;rw [ho] at ho';simp at ho';subst ho';exact absurd hd' hd
  ·exact hsame j e
end fold
theorem Db (W:Nat→Prop) [DecidablePred W] (N:Nat):∀(m i:Nat),i+m=N→ ∃q,i≤q∧q≤N∧(∀j,i≤j→j <q→ ¬W j)∧(q <N→W q)
 | 0,i,h=>⟨i,Nat.le_refl _,by omega,fun j _ _=>by omega,fun _=>by omega⟩
 | m+1,i,h=>by
  by_cases hw:W i
  ·exact ⟨i,Nat.le_refl _,by omega,fun j _ _=>by omega,fun _=>hw⟩
  ·obtain ⟨q,h1,h2,h3,h4⟩:=Db W N m (i+1) (by omega)
   refine ⟨q,by omega,h2,fun j a b=> ?_,h4⟩
   by_cases e:j=i
   ·subst e;exact hw
   ·exact h3 j (by omega) b
theorem trace {R:aq} {lim:Nat}:∀(l:List aY) (s s':St),ep R lim l s=some s'→
  ∃(st:Nat→St) (vs:Nat→aa),st 0=s∧st l.length=s'∧ ∀(i:Nat) (o:aY),l[i]? =some o→gI R lim o (st i).tmps (st i).H (vs i) (st (i+1)).H∧(st (i+1)).tmps=dc (st i).tmps o.dst (vs i)∧(eF (st i).tmps o.guard=true→o.clear (st i).tmps=true∨(o.op.lu=true∧o.kept (st i).tmps (st i).H (st (i+1)).H=true))
 | [],s,s',h=>by
  simp [ep] at h;subst h
  exact ⟨fun _=>s,fun _=>bA,rfl,rfl,fun i o h=>by simp at h⟩
 | o::l,s,s',h=>by
  unfold ep at h
  split at h
  ·rename_i s1 h1
   obtain ⟨v,q1,q2,q3⟩:=C8 h1
   obtain ⟨st,vs,e0,e1,e2⟩:=trace l s1 s' h
   refine ⟨fun i=>match i with | 0=>s | i+1=>st i,fun i=>match i with | 0=>v | i+1=>vs i,rfl,e1,?_⟩
   intro i o' ho
   cases i with
   | zero=>simp at ho;subst ho;simp only [e0];exact ⟨q1,q2,q3⟩
   | succ i=>simp at ho;exact e2 i o' ho
  ·simp at h
end Go.au
end
