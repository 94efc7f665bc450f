/- Parts of the proof. -/
import Derived.Test.YtfigbgjbaohglaaGreatDoorY7
import Derived.Test.YtfigbgjbaohglaaGreatDoorY16
section
set_option maxRecDepth 100000
set_option linter.unusedVariables false
set_option linter.unusedSimpArgs false
namespace Go.Proofs.YtfigbgjbaohglaaGreatDoor.bP
open Go.au Go.au.Wl
theorem Cp:cj.length=256:=by unfold cj;simp
section
variable {H:ah} {b m tb lb x0 bl snap u:Nat} {ks ts:aa} {keep aA:List Int}
def md (b m lb c:Nat):Prop:=(c=b∨c=m)∨c=lb
structure Ib (H:ah) (ks ts:aa) (keep aA:List Int):Prop where
 s1:Sl H 1 ks (encI keep)
 s2:Sl H 1 ts (encI aA)
 o1:ks.one=true
 o2:ts.one=true
 i1:∀y∈keep,iw y
 i2:∀y∈aA,iw y
 l1:keep.length≤60
 l2:aA.length≤60
theorem QN {n lim N K:Nat} {tv wv:aa} {told whole pre:List bD} {s:Nat} {o:Bool} {G:ah} (hc:Ib H ks ts keep aA) (k0:aO H G) (hlim:lim≤H.next) (hb:H.next≤b) (hm:H.next≤m) (hn:2000000≤n)
  (hd:bN (md b m lb) G b m (one eL (dh (aX cj) bl snap pre) s o u)) (hD:bV K (one eL (dh (aX cj) bl snap pre) s o u)) (hK:K≤1500000) (cT:G.cells tb=some (cJ cj)) (cX:G.cells x0=some [ks,ts]) (nV:¬cM b m tb) (vc:¬cM b m x0)
  (hs:snap <18446744073709551616) (hg:∀r∈pre,gR r) (ht:told <+:pre) (hw:pre <+:whole) (h1:told.length+1≤s) (h2:s≤pre.length+1) (rX:bl≤told.length) (I0:whole.length≤1000000)
  (Cq:Sl G 16 tv (told.map aR)) (Ic:Sl G 16 wv (whole.map aR)) (b1:∀c,bC tv=some c→ ¬cM b m c) (b2:∀c,bC wv=some c→ ¬cM b m c):
  AT (au.runT ap (n+12)) lim N (fun v _=>v= .bool true) (.int .u64 (snap:Int)) (ptr x0) (ptr b) (ptr tb) tv wv G:=by
 unfold AT
 have dU:=ht.length_le
 have hpw:=hw.length_le
 have hl1:=hc.l1;have hl2:=hc.l2
 obtain ⟨_,LX,g1,h94,f94⟩:=adN (n:=n+9) (lim:=lim) hd hD (by omega) (.inl (.inl rfl)) (.inl (.inr rfl)) (by omega) (by omega) (by omega) hc.s1 hc.s2 hb hm k0 hc.o1 hc.o2 hc.i1 hc.i2 (by omega) (by omega)
 obtain ⟨_,Fh,g2,h96,f96⟩:=adA (n:=n+10) (lim:=lim) h94 (.inl (.inl rfl)) (by omega)
 have f2:=f94.trans f96 (fun c _ e=>e)
 have n2:=f2.next
 have n0:=k0.next
 have hDc:=PX (PZ hD keep aA)
 obtain ⟨r,uD,g3,QO,sv,bv,rfl,Cr,b98⟩:=adX (n:=n+2) (lim:=lim) (tb:=tb) (T:=cj) h96 hDc (by omega) HR (f2.cells cT nV) Cp (by omega) (by omega) (by omega)
 obtain ⟨aN,e,p1,p2⟩:=aea (S:=aX cj) (n:=eL) (u:=u) (o:=o) (by omega) hs hg ht hw h1 h2 rX keep aA
 rw [e] at g3 Cr
 dsimp only at g3 Cr
 have p1l:=p1.length_le
 have p2l:=p2.length_le
 have a9:aB G (some 2) (.ptr (some (x0,0)))=some (.agg [ks,ts]):=kX cX rfl
 have t98:=(Cq.frame f2 b1).keep QO
 have w98:=(Ic.frame f2 b2).keep QO
 have g4:=QH (n:=n+10) (lim:=lim) t98 Cr.sl (by omega) (by omega) (by omega)
 have g5:=QH (n:=n+10) (lim:=lim) Cr.sl w98 (by omega) (by omega) (by omega)
 rw [dT p1] at g4
 rw [dT p2] at g5
 have tu:sC lim [] uD=some (.bool true,uD):=rfl
 have g3:au.runT ap (n+12) lim (.fn 26) [ptr b,ptr tb,.int .u64 7] Fh=some (.bq [.int .u64 (snap:Int),sv,.bool true,.int .i64 0],uD):=g3
 have oz:((0:Int)==0)=true:=rfl
 have hss:((snap:Int)==(snap:Int))=true:=by simp
 (repeat (first | ((first | with_reducible apply aF | with_reducible apply aG);(focus (first | with_reducible rfl | (simp only [aE,aC,aD,Nat.zero_add,Nat.add_zero,Bool.not_true,Bool.not_false,decide_true,decide_false,reduceIte,and_self,Bool.false_eq_true,a9,g1,g2,g3,oz,hss,g4,g5,xQ,tu] <;>with_reducible rfl)))) | with_reducible apply aH | with_reducible apply aI))
 exact rfl
theorem aed {lim:Nat} {G:ah} {xv yv:aa} {xs ys:List bD} (hlim:lim≤G.next) (hx:Sl G 16 xv (xs.map aR)) (hy:Sl G 16 yv (ys.map aR)) (hl:xs.length+ys.length≤1000000):
  ∃v1 H1 v2 H2,fO lim (G.push (.cells [])) cV 72 false (.sl (some (G.next,0)) 0 (.ex 0)) xv=some (v1,H1)∧fO lim H1 cV 72 false v1 yv=some (v2,H2)∧aO G H2∧Sl H2 16 v2 ((xs++ys).map aR)∧ ∀c,bC v2=some c→G.next≤c:=by
 have k1:aO G (G.push (.cells [])):= .push _ _
 have n1:(G.push (.cells [])).next=G.next+1:=ah.bK _ _
 have aee:Own (G.push (.cells [])) 16 (.sl (some (G.next,0)) 0 (.ex 0)) (([]:List bD).map aR) G.next:=⟨fun _ h=>by simp at h,.inr (.inl ⟨0,[],rfl,rfl,ct _ _,Nat.le_refl _⟩)⟩
 have each:∀(xs:List bD),∀y∈xs.map aR,y.length=16∧y.all (·.one)=true:=fun xs y hy=>by
  obtain ⟨r,_,rfl⟩:=List.mem_map.1 hy
  exact ⟨rfl,rfl⟩
 obtain ⟨v1,H1,Ie,p1,p2,p3,p4,p5⟩:=uP (lim:=lim) (bytes:=72) (zero:=cV) aee rfl (by decide) (Sl.source (hx.keep k1)) (each _) (by simp only [List.length_map,List.length_nil,room];omega) (by simp only [List.length_map,List.length_nil,room];omega) (fun e=>by omega)
 have gl:bC v1=some Ie→G.next≤Ie:=fun _=>by
  rcases p4 with ⟨rfl,_⟩ | h
  ·exact Nat.le_refl _
  ·omega
 have k2:aO G H1:=bu.keeps k1 p3 fun c hc e=>by simp [bC] at e;omega
 have e1:([]:List bD).map aR++xs.map aR=xs.map aR:=rfl
 rw [e1] at p2
 obtain ⟨v2,H2,bv2,q1,q2,q3,q4,q5⟩:=uP (lim:=lim) (bytes:=72) (zero:=cV) p2 rfl (by decide) (Sl.source (hy.keep k2)) (each _) (by simp only [List.length_map,room];omega) (by simp only [List.length_map,room];omega) (fun e=>by have:=gl e;omega)
 refine ⟨v1,H1,v2,H2,p1,q1,bu.keeps k2 q3 fun c hc e=> ?_,by rw [List.map_append];exact q2.sl,fun c e=> ?_⟩
 ·have hb:=p2.blk c e
  subst hb
  have:=gl e
  omega
 ·have hb:=q2.blk c e
  subst hb
  rcases q4 with ⟨h,h' | h'⟩ | h
  ·rw [h']  at *
   have hne:c=Ie:=h
   subst hne
   rcases p4 with ⟨h,_⟩ | h <;>omega
  ·exact h'.elim
  ·have:=k2.next;omega
def zf (r:bD):Prop:=r.e.body.length≤200→r.ok
structure Ig (H:ah) (v:aa) (L:List (List bD)):Prop where
 ex:∃vs:List aa,Sl H 1 v (vs.map fun s=>[s])∧vs.length=L.length∧ ∀(i:Nat) s l,vs[i]? =some s→L[i]? =some l→Sl H 16 s (l.map aR)
 ok:∀l∈L,∀r∈l,zf r
set_option maxHeartbeats 4000000 in
theorem QS {n lim N:Nat} {v:aa} {L:List (List bD)} {Hs:ah} (hc:Ib H ks ts keep aA) (hA:Ig H v L) (hL:L.length≤20) (hlim:lim≤H.next) (hb:H.next≤b) (hm:H.next≤m) (hlb:H.next≤lb) (hn:2000000≤n) (Ih:aO H Hs)
  (QT:∀c,md b m lb c→c <Hs.next) (cT:Hs.cells tb=some (cJ cj)) (cX:Hs.cells x0=some [ks,ts]) (nV:¬md b m lb tb) (vc:¬md b m lb x0) (QU:¬cM b m lb) (hs:snap <18446744073709551616):
  ∀(j i:Nat) (G:ah) (told:List bD) (u K1:Nat) (fM:Int) (tv wv:aa),L.length <j+i→i≤L.length→bu (md b m lb) Hs G→
   bN (md b m lb) G b m (one eL (dh (aX cj) bl snap told) (told.length+1) false u)→bV K1 (one eL (dh (aX cj) bl snap told) (told.length+1) false u)→K1+(L.length - i) * 50000≤1500000→
   G.cells lb=some (jE b tb 7 fM)→(-100000≤fM∧fM+((L.length - i) * 41:Nat)≤100000)→(∀r∈told,gR r)→bl≤told.length→told.length+(L.length - i) * 41≤100000→
   Sl G 16 tv (told.map aR)→Sl G 16 wv (told.map aR)→(∀c,bC tv=some c→ ¬md b m lb c)→(∀c,bC wv=some c→ ¬md b m lb c)→
   mK (au.runT ap (n+12)) lim N (fun v _=>v= .bool true) j (.int .u64 (snap:Int)) v (ptr x0) (ptr b) (ptr tb) tv (ptr lb) wv (.int .i64 (i:Int)) G
 | 0,i,_,_,_,_,_,_,_,h,h',_,_,_,_,_,_,_,_,_,_,_,_,_=>by exfalso;omega
 | j+1,i,G,told,u,K1,fM,tv,wv,hj,hi,fr,hd,hD,zc,cL,HU,hg,rX,pS,Cq,Ic,b1,b2=>by
  show mJ _ _ _ _ (mK _ _ _ _ j) _ _ _ _ _ _ _ _ _ _
  have kG:aO H G:=bu.keeps Ih fr fun c fm e=>by rcases e with (e | e) | e <;>omega
  have nG:=kG.next
  obtain ⟨vs,hvs,hvl,tU⟩:=hA.ex
  have bQ:bh false v=some (.int .i64 (L.length:Int)):=by rw [hvs.len,List.length_map,hvl]
  have pV:∀c,¬md b m lb c→ ¬cM b m c:=fun c h e=>h (.inl e)
  by_cases hil:i <L.length
  rotate_left
  ·have jr:decide ((i:Int) <(L.length:Int))=false:=dF (by omega)
   unfold mJ
   (repeat (first | ((first | with_reducible apply aF | with_reducible apply aG);(focus (first | with_reducible rfl | (simp only [aE,aC,aD,Nat.zero_add,Nat.add_zero,Bool.not_true,Bool.not_false,decide_true,decide_false,reduceIte,and_self,Bool.false_eq_true,bQ,jr] <;>with_reducible rfl)))) | with_reducible apply aH | with_reducible apply aI))
   exact QN (bl:=bl) hc kG hlim hb hm hn hd hD (by omega) (fr.cells cT nV) (fr.cells cX vc) (pV _ nV) (pV _ vc) hs hg (List.prefix_refl _) (List.prefix_refl _) (Nat.le_refl _) (Nat.le_refl _) rX (by omega) Cq Ic (fun c e=>pV _ (b1 c e)) (fun c e=>pV _ (b2 c e))
  have jr:decide ((i:Int) <(L.length:Int))=true:=dT (by omega)
  have hl:L[i]? =some L[i]:=List.getElem?_eq_getElem hil
  have hv:vs[i]? =some (vs[i]'(by omega)):=List.getElem?_eq_getElem (by omega)
  have hlo:=hA.ok L[i] (List.getElem_mem hil)
  generalize L[i]=l at hl hlo
  generalize vs[i]'(by omega)=s at hv
  have eM:=tU i s l hv hl
  obtain ⟨p,hp,kS⟩:=uR hvs (i:=i) (x:=s) (by rw [List.getElem?_map,hv];rfl)
  have u7:=yD kG kS
  obtain ⟨_,AZ,g1,aef,gt,rfl,hgt⟩:=QJ (n:=n+11) (lim:=lim) (eM.keep kG) (by omega)
  rw [aef] at g1
  have tu:sC lim [] G=some (.bool true,G):=rfl
  cases gt with
  | true=>
   unfold mJ
   (repeat (first | ((first | with_reducible apply aF | with_reducible apply aG);(focus (first | with_reducible rfl | (simp only [aE,aC,aD,Nat.zero_add,Nat.add_zero,Bool.not_true,Bool.not_false,decide_true,decide_false,reduceIte,and_self,Bool.false_eq_true,bQ,jr,hp,u7,g1,xQ,tu] <;>with_reducible rfl)))) | with_reducible apply aH | with_reducible apply aI))
   exact rfl
  | false=>
   obtain ⟨Ii,tA⟩:=hgt rfl
   obtain ⟨mv,Fu,g2,zg,bv,om,bm⟩:=QD (n:=n+8) (lim:=lim) (eM.keep kG) (fun r hr=>hlo r hr (tA r hr)) (by omega) (by omega) (by omega) (by omega)
   have k9:∀r∈l.filter dJ,gR r:=fun r hr=>by
    obtain ⟨h1,h2⟩:=List.mem_filter.1 hr
    exact ⟨h2,hlo r h1 (tA r h1),tA r h1⟩
   have hml:(l.filter dJ).length≤40:=Nat.le_trans (List.length_filter_le _ _) Ii
   generalize l.filter dJ=more at om k9 hml
   have n136:=zg.next
   have ve:∀c,md b m lb c→c <G.next:=fun c e=>by have:=QT c e;have:=fr.next;omega
   have hbG:=ve b (.inl (.inl rfl))
   have hmG:=ve m (.inl (.inr rfl))
   have hlG:=ve lb (.inr rfl)
   have ahi:=HU
   have wE:(L.length - i)=(L.length - (i+1))+1:=by omega
   rw [wE,Nat.succ_mul] at zc pS HU
   have hk5:K1+50000≤1500000:=Nat.le_trans (Nat.add_le_add_left (Nat.le_add_left _ _) K1) zc
   have hk:K1≤1500000:=Nat.le_trans (Nat.le_add_right _ _) zc
   have c1:K1+more.length * 2000000≤1000000000000:=Nat.le_trans (Nat.add_le_add hk (Nat.mul_le_mul_right 2000000 hml)) (by decide)
   have c2:1000040≤n+2:=Nat.le_trans (by decide) (Nat.le_trans hn (Nat.le_add_right n 2))
   have c3:more.length <n+2:=by omega
   have c4: -1000000000≤fM∧fM≤1000000000:=by omega
   have c5:lim≤Fu.next:=by omega
   obtain ⟨_,uI,g3,rfl,aeg,f138,c138⟩:=adR (n:=n+2) (lim:=lim) (K:=K1) (tb:=tb) (T:=cj) (hd.keep zg) hD (.inl (.inl rfl)) (.inl (.inr rfl)) (.inr rfl) (by omega) (by omega) (by omega) (fun c e=>by have:=ve c e;omega) HR om.sl (fun r hr=>(k9 r hr).rA) (zg.cells (fr.cells cT nV)) Cp (zg.cells cL) (pV _ nV) QU (fun e=>nV (.inr e)) c1 c2 c3 c4 c5
   have n138:=f138.next
   have QV:bu (md b m lb) G uI:=(bu.of (S:=md b m lb) zg).trans f138 (fun c _ e=>e)
   have hmb:∀c,bC mv=some c→ ¬md b m lb c:=fun c fm e=>by
    have hb':=om.blk c fm
    subst hb'
    have:=(bm fm).1
    have:=ve _ e
    omega
   have aeh:Sl uI 16 mv (more.map aR):=om.sl.frame f138 hmb
   have t138:Sl uI 16 tv (told.map aR):=Cq.frame QV b1
   obtain ⟨v1,L6,v2,qK,a1,a2,zh,Ij,aei⟩:=aed (lim:=lim) (by omega) t138 aeh (by omega)
   have QW:cU [] []=some []:=rfl
   have n144:=zh.next
   have f144:bu (md b m lb) Hs qK:=(fr.trans QV (fun c _ e=>e)).keeps' zh
   have vf:=aeg.keep zh
   have Cs:=zh.cells c138
   have oM:∀c,bC v2=some c→ ¬md b m lb c:=fun c fm e=>by have:=aei c fm;have:=ve c e;omega
   have aej:=t138.keep zh
   have QX:∀r∈told++more,gR r:=fun r hr=>by
    rcases List.mem_append.1 hr with h | h
    ·exact hg r h
    ·exact k9 r h
   have tq:nT (aX cj) eL (one eL (dh (aX cj) bl snap told) (told.length+1) false u) more=if more=[] then (0,one eL (dh (aX cj) bl snap told) (told.length+1) false u) else laid eL (dh (aX cj) bl snap told) (told.length+1) u (more.map fun r=>cA (aX cj) (bM r)):=by
    unfold nT
    rw [if_neg (by simp [one]),Cn k9,if_neg (by simp)]
    split
    ·rfl
    ·exact HC Qo _ _ _ _ (QK _ _)
   have vg:bV (K1+50000) (nT (aX cj) eL (one eL (dh (aX cj) bl snap told) (told.length+1) false u) more).2:=by
    unfold nT
    rw [if_neg (by simp [one]),Cn k9,if_neg (by simp)]
    split
    ·exact hD.mono (by omega)
    ·refine (HZ (B:=500) _ K1 _ hD ?_).mono (by rw [List.length_map];omega)
     intro r hr
     obtain ⟨x,hx,rfl⟩:=List.mem_map.1 hr
     exact (k9 x hx).row _
   have Ik:∀u',nT (aX cj) eL (one eL (dh (aX cj) bl snap told) (told.length+1) false u) more=(0,one eL (dh (aX cj) bl snap (told++more)) ((told++more).length+1) false u')→
     mJ (au.runT ap (n+12)) lim N (fun v _=>v= .bool true) (mK (au.runT ap (n+12)) lim N (fun v _=>v= .bool true) j) (.int .u64 (snap:Int)) v (ptr x0) (ptr b) (ptr tb) tv (ptr lb) wv (.int .i64 (i:Int)) G:=by
    intro u' e
    rw [e] at g3 vf vg Cs
    dsimp only at g3 vf vg Cs
    rw [if_pos rfl] at Cs
    have q7:((0:Int)==7)=false:=rfl
    have hi1:IntKind.i64.wrap ((i:Int)+1)=((i+1:Nat):Int):=iR (by omega)
    unfold mJ
    (repeat (first | ((first | with_reducible apply aF | with_reducible apply aG);(focus (first | with_reducible rfl | (simp only [aE,aC,aD,Nat.zero_add,Nat.add_zero,Bool.not_true,Bool.not_false,decide_true,decide_false,reduceIte,and_self,Bool.false_eq_true,bQ,jr,hp,u7,g1,g2,g3,QW,a1,a2,q7,fq,hi1] <;>with_reducible rfl)))) | with_reducible apply aH | with_reducible apply aI))
    refine QS hc hA hL hlim hb hm hlb hn Ih QT cT cX nV vc QU hs j (i+1) qK (told++more) u' (K1+50000) _ v2 v2 (by omega) (by omega) f144 vf vg (by omega) Cs ⟨by omega,by omega⟩ QX (by rw [List.length_append];omega) (by rw [List.length_append];omega) Ij Ij oM oM
   have aek:∀k s' o',nT (aX cj) eL (one eL (dh (aX cj) bl snap told) (told.length+1) false u) more=(7,one eL (dh (aX cj) bl snap (told++more.take k)) (told.length+1) o' s')→
     mJ (au.runT ap (n+12)) lim N (fun v _=>v= .bool true) (mK (au.runT ap (n+12)) lim N (fun v _=>v= .bool true) j) (.int .u64 (snap:Int)) v (ptr x0) (ptr b) (ptr tb) tv (ptr lb) wv (.int .i64 (i:Int)) G:=by
    intro k u' o' e
    rw [e] at g3 vf vg
    dsimp only at g3 vf vg
    have q7:((7:Int)==7)=true:=rfl
    unfold mJ
    (repeat (first | ((first | with_reducible apply aF | with_reducible apply aG);(focus (first | with_reducible rfl | (simp only [aE,aC,aD,Nat.zero_add,Nat.add_zero,Bool.not_true,Bool.not_false,decide_true,decide_false,reduceIte,and_self,Bool.false_eq_true,bQ,jr,hp,u7,g1,g2,g3,QW,a1,a2,q7] <;>with_reducible rfl)))) | with_reducible apply aH | with_reducible apply aI))
    have hpre:told++more.take k <+:told++more:=(List.prefix_append_right_inj told).2 (List.take_prefix k more)
    exact QN (bl:=bl) (pre:=told++more.take k) (whole:=told++more) hc (bu.keeps Ih f144 fun c fm e=>by rcases e with (e | e) | e <;>omega) hlim hb hm hn vf vg hk5 (f144.cells cT nV) (f144.cells cX vc) (pV _ nV) (pV _ vc) hs (fun r hr=>QX r (hpre.subset hr)) (List.prefix_append _ _) hpre (Nat.le_refl _) (by rw [List.length_append];omega) rX (by rw [List.length_append];omega) (aej) Ij (fun c e=>pV _ (b1 c e)) (fun c e=>pV _ (oM c e))
   show mJ _ _ _ _ (mK _ _ _ _ j) _ _ _ _ _ _ _ _ _ _
   by_cases hme:more=[]
   ·subst hme
    refine Ik u ?_
    rw [tq,if_pos rfl];simp
   ·rw [if_neg hme] at tq
    by_cases Il:u=0
    ·refine Ik 0 ?_
     rw [tq];unfold laid
     rw [if_pos Il,Ia,u9]
    ·by_cases rM:(more.map fun r=>cA (aX cj) (bM r)).length+1 <u
     ·refine Ik (u - ((more.map fun r=>cA (aX cj) (bM r)).length+1)) ?_
      rw [tq];unfold laid
      rw [if_neg Il,if_pos rM,Ia,u9]
     ·refine aek (u - 1) 0 true ?_
      rw [tq];unfold laid
      rw [if_neg Il,if_neg rM,←List.map_take,Ia]
def ael:Ty:= .int .u64 (.int .u64 (.int .u8 (.int .u8 (.int .u8 (.int .u8 (.int .u8 (.int .u8 (.int .u8 (.int .u8 (.int .u8 (.int .u8 (.str .nil))))))))))))
def zi:Ty:= .int .u8 (.int .u64 (.int .u8 ael))
theorem aem {x:List aa} (h:Wf H zi x):∃r:bD,x=aR r∧zf r:=by
 obtain ⟨k,_,rfl,hk,t,_,rfl,ht,v,_,rfl,hv,i,_,rfl,hi,t2,_,rfl,ht2,k2,_,rfl,hk2,s,_,rfl,hs,a0,_,rfl,h0,a1,_,rfl,h1,a2,_,rfl,h2,a3,_,rfl,h3,a4,_,rfl,h4,a5,_,rfl,h5,a6,_,rfl,h6,a7,_,rfl,h7,bd,_,rfl,hbd,rfl⟩:=h
 have:=lV hk;have:=Cj ht;have:=lV hv;have:=Cj hi;have:=Cj ht2;have:=lV hk2;have:=lV hs
 have:=lV h0;have:=lV h1;have:=lV h2;have:=lV h3;have:=lV h4;have:=lV h5;have:=lV h6;have:=lV h7
 have g:∀a:Int,0≤a∧a≤255→(((UInt8.ofNat a.toNat).toNat:Nat):Int)=a:=fun a ha=>by
  rw [UInt8.toNat_ofNat',Nat.mod_eq_of_lt (by omega)];omega
 have z:∀a:Int,0≤a→((a.toNat:Nat):Int)=a:=fun a ha=>by omega
 refine ⟨⟨k.toNat,t.toNat,v.toNat,⟨i.toNat,t2.toNat,k2.toNat,s.toNat,UInt8.ofNat a0.toNat,UInt8.ofNat a1.toNat,UInt8.ofNat a2.toNat,UInt8.ofNat a3.toNat,UInt8.ofNat a4.toNat,UInt8.ofNat a5.toNat,UInt8.ofNat a6.toNat,UInt8.ofNat a7.toNat,bd⟩⟩,?_,?_⟩
 ·simp only [aR,br]
  rw [g a0 (by assumption),g a1 (by assumption),g a2 (by assumption),g a3 (by assumption),g a4 (by assumption),g a5 (by assumption),g a6 (by assumption),g a7 (by assumption),z k (by omega),z t (by omega),z v (by omega),z i (by omega),z t2 (by omega),z k2 (by omega),z s (by omega)]
 ·intro QY
  have QY:bd.length≤200:=QY
  exact ⟨by show k.toNat <256;omega,by show t.toNat <18446744073709551616;omega,by show v.toNat <256;omega,⟨by show i.toNat <18446744073709551616;omega,by show t2.toNat <18446744073709551616;omega,by show k2.toNat <256;omega,by show s.toNat <256;omega,by show bd.length≤140737488355328;omega⟩⟩
theorem QZ {v:aa} (h:∃xs,Sl H 16 v xs∧xs.length≤maxLen∧ ∀x∈xs,Wf H zi x):∃rs:List bD,Sl H 16 v (rs.map aR)∧ ∀r∈rs,zf r:=by
 obtain ⟨xs,h1,h2,h3⟩:=h
 obtain ⟨l,hl,hq⟩:=Ck (fun x hx=>aem hx) h3
 refine ⟨l,?_,fun r hr=> ?_⟩
 ·rw [←Cl hl fun i x a e1 e2=>(hq i x a e1 e2).1];exact h1
 ·obtain ⟨i,hi,rfl⟩:=List.getElem_of_mem hr
  exact (hq i xs[i] l[i] (List.getElem?_eq_getElem (by omega)) (List.getElem?_eq_getElem hi)).2
theorem aen {v:aa} (h:∃xs,Sl H 1 v xs∧xs.length≤maxLen∧ ∀x∈xs,Wf H (.slice zi .nil) x):∃L:List (List bD),Ig H v L:=by
 obtain ⟨xs,h1,h2,h3⟩:=h
 obtain ⟨l,hl,hq⟩:=Ck (α:=aa × List bD) (Q:=fun x a=>x=[a.1]∧Sl H 16 a.1 (a.2.map aR)∧ ∀r∈a.2,zf r) (fun x hx=>by
  obtain ⟨s,_,rfl,_,hs,rfl⟩:=hx
  obtain ⟨rs,g1,g2⟩:=QZ hs
  exact ⟨(s,rs),rfl,g1,g2⟩) h3
 have e:xs=(l.map (·.1)).map fun s=>[s]:=by
  rw [List.map_map]
  exact Cl (enc:=fun a:aa × List bD=>[a.1]) hl fun i x a e1 e2=>(hq i x a e1 e2).1
 refine ⟨l.map (·.2),⟨l.map (·.1),by rw [←e];exact h1,by simp,fun i s r e1 e2=> ?_⟩,fun r hr=> ?_⟩
 ·rw [List.getElem?_map] at e1 e2
  cases oB:l[i]? with
  | none=>rw [oB] at e1;simp at e1
  | some a=>
   rw [oB] at e1 e2
   simp at e1 e2
   subst e1 e2
   have hil:=(List.getElem?_eq_some_iff.1 oB).1
   exact (hq i xs[i] a (List.getElem?_eq_getElem (by omega)) oB).2.1
 ·obtain ⟨a,ha,rfl⟩:=List.mem_map.1 hr
  obtain ⟨i,hi,rfl⟩:=List.getElem_of_mem ha
  exact (hq i xs[i] l[i] (List.getElem?_eq_getElem (by omega)) (List.getElem?_eq_getElem hi)).2.2
set_option maxHeartbeats 4000000 in
theorem aeo {n:Nat} {a1 a2:aa} {base:List bD} {L:List (List bD)} {bI:Int} (hs:snap <18446744073709551616) (gl:Sl H 16 a1 (base.map aR)) (jQ:∀r∈base,zf r) (hA:Ig H a2 L) (hf:iw bI)
  (s1:Sl H 1 ks (encI keep)) (s2:Sl H 1 ts (encI aA)) (o1:ks.one=true) (o2:ts.one=true) (i1:∀y∈keep,iw y) (i2:∀y∈aA,iw y) (hn:2000000≤n):
  ∃v H',au.runT ap (n+13) H.next (.fn 3) [.int .u64 (snap:Int),a1,a2,.int .i64 bI,.agg [ks,ts]] H=some (v,H')∧v= .bool true:=by
 refine XQ a3 ?_
 unfold F3
 have hb:(([ks,ts]:List aa).all fun v=>v.one)=true:=by simp only [List.all_cons,List.all_nil,o1,o2,Bool.and_true]
 have kx:aO H (H.push (.cells [ks,ts])):= .push _ _
 have cx:(H.push (.cells [ks,ts])).cells H.next=some [ks,ts]:=ct _ _
 have nx:(H.push (.cells [ks,ts])).next=H.next+1:=ah.bK _ _
 obtain ⟨_,H4,g1,e4,t1,rfl,wD⟩:=QJ (n:=n+11) (lim:=H.next) (gl.keep kx) (by omega)
 rw [e4] at g1
 have tu:∀G,sC H.next [] G=some (.bool true,G):=fun G=>rfl
 obtain ⟨vs,hvs,hvl,tU⟩:=hA.ex
 have bQ:bh false a2=some (.int .i64 (L.length:Int)):=by rw [hvs.len,List.length_map,hvl]
 cases t1 with
 | true=>
  (repeat (first | ((first | with_reducible apply aF | with_reducible apply aG);(focus (first | with_reducible rfl | (simp only [aE,aC,aD,Nat.zero_add,Nat.add_zero,Bool.not_true,Bool.not_false,decide_true,decide_false,reduceIte,and_self,Bool.false_eq_true,hb,g1,xQ,tu] <;>with_reducible rfl)))) | with_reducible apply aH | with_reducible apply aI))
  exact rfl
 | false=>
  obtain ⟨Ii,tA⟩:=wD rfl
  by_cases hL:20 <L.length
  ·have hd:decide ((20:Int) <(L.length:Int))=true:=dT (by omega)
   (repeat (first | ((first | with_reducible apply aF | with_reducible apply aG);(focus (first | with_reducible rfl | (simp only [aE,aC,aD,Nat.zero_add,Nat.add_zero,Bool.not_true,Bool.not_false,decide_true,decide_false,reduceIte,and_self,Bool.false_eq_true,hb,g1,bQ,hd,xQ,tu] <;>with_reducible rfl)))) | with_reducible apply aH | with_reducible apply aI))
   exact rfl
  have hd:decide ((20:Int) <(L.length:Int))=false:=dF (by omega)
  have lx:aB (H.push (.cells [ks,ts])) (some 2) (.ptr (some (H.next,0)))=some (.agg [ks,ts]):=kX cx rfl
  obtain ⟨_,dV,g2,rfl,uU,_⟩:=aec (n:=n+11) (lim:=H.next) (s1.keep kx) (s2.keep kx) o1 o2
  cases sw:Co keep aA with
  | true=>
   rw [sw] at g2
   (repeat (first | ((first | with_reducible apply aF | with_reducible apply aG);(focus (first | with_reducible rfl | (simp only [aE,aC,aD,Nat.zero_add,Nat.add_zero,Bool.not_true,Bool.not_false,decide_true,decide_false,reduceIte,and_self,Bool.false_eq_true,hb,g1,bQ,hd,lx,g2,xQ,tu] <;>with_reducible rfl)))) | with_reducible apply aH | with_reducible apply aI))
   exact rfl
  | false=>
   rw [sw] at g2
   unfold Co at sw
   simp only [Bool.or_eq_false_iff,decide_eq_false_iff_not] at sw
   have hc:Ib H ks ts keep aA:=⟨s1,s2,o1,o2,i1,i2,by omega,by omega⟩
   have aep:=kx.trans uU
   have n11:=uU.next
   obtain ⟨b,m,j5,p1,p2,Im,p4,p5,p6,p7⟩:=adB (M:=fun _=>False) (n:=n+11) (lim:=H.next) (H:=dV) (by omega)
   have n17:=Im.next
   have p2:bN (fun c=>c=b∨c=m) j5 b m jC:=⟨p2.cells,p2.map.mono rfl fun _ _ _ h=>by simp [jC] at h⟩
   obtain ⟨_,gr,g3,rfl,Io⟩:=acY (n:=n+11) (lim:=H.next) (H:=j5) (by omega) (by omega)
   have n19:=Io.next
   have st:bp H.next (gr.push (.cells mI)) 256 (.ptr (some (gr.next,0))) (.agg (cJ cj))=some (gr.push (.cells (cJ cj))):=by
    have hl:(cJ cj).length=256:=by rw [B5,Cp]
    exact wR (cs:=mI) (x:= .agg (cJ cj)) (by omega) hl rfl (PF _)
   have pP:aO gr (gr.push (.cells (cJ cj))):= .push _ _
   have n20:(gr.push (.cells (cJ cj))).next=gr.next+1:=ah.bK _ _
   have c20:(gr.push (.cells (cJ cj))).cells gr.next=some (cJ cj):=ct _ _
   generalize gr.push (.cells (cJ cj))=eO at st pP n20 c20
   have Q0:=((aep.trans Im).trans Io).trans pP
   obtain ⟨sv,fu,g4,zj,bv,ov,bvb⟩:=QD (n:=n+8) (lim:=H.next) (gl.keep Q0) (fun r hr=>jQ r hr (tA r hr)) (by omega) (by omega) (by omega) (by omega)
   have n22:=zj.next
   have k9:∀r∈base.filter dJ,gR r:=fun r hr=>by
    obtain ⟨h1,h2⟩:=List.mem_filter.1 hr
    exact ⟨h2,jQ r h1 (tA r h1),tA r h1⟩
   have hml:(base.filter dJ).length≤40:=Nat.le_trans (List.length_filter_le _ _) Ii
   generalize base.filter dJ=told at ov k9 hml
   have Q1:=(Io.trans pP).trans zj
   have hK0:0+(told.length+1) * 2000000≤1000000000:=by omega
   have c2:1000040≤n+1:=Nat.le_trans (by decide) (Nat.le_trans hn (Nat.le_add_right n 1))
   obtain ⟨r,fJ,g5,f24,Q2⟩:=adS (n:=n+1) (lim:=H.next) (K:=0) (tb:=gr.next) (T:=cj) (p2.keep Q1) PO (.inl rfl) (.inr rfl) (by omega) (by omega) (fun c e=>by rcases e with rfl | rfl <;>omega) HR ov.sl (fun r hr=>(k9 r hr).rA) (zj.cells c20) Cp (fun e=>by rcases e with e | e <;>omega) hs hK0 c2 (by omega) (by omega) (by omega)
   have n24:=f24.next
   have Q3:nU (aX cj) eL snap jC told=(0,one eL (dh (aX cj) told.length snap told) (told.length+1) false 0):=by
    unfold nU
    rw [if_neg (by simp [jC]),if_neg (by simp [jC]),Cn k9,if_neg (by simp)]
    have h0:jC=bare false 0:=rfl
    rw [h0]
    unfold dh
    rw [adg Qo (uS _ _) (QK _ _),if_neg (by decide)]
    unfold laid
    rw [if_pos rfl]
    simp
   rw [Q3] at Q2
   rcases Q2 with ⟨h,_⟩ | ⟨_,lb,rfl,cL,hlb,aer⟩
   ·exact absurd rfl h
   have aes:bV 50000 (one eL (dh (aX cj) told.length snap told) (told.length+1) false 0):=by
    have h1:=HZ (n:=eL) (B:=500) (dh (aX cj) told.length snap told) 0 jC PO (fun r hr=>by
     rcases List.mem_cons.1 hr with rfl | hr
     ·have h2:=BW (b:=told.length) (n:=snap) (by omega) hs
      have h3:=ig (n:=(fB told.length snap).length) (by omega)
      rw [yK];omega
     ·obtain ⟨x,hx,rfl⟩:=List.mem_map.1 hr
      exact (k9 x hx).row _)
    have h2:fC eL jC (dh (aX cj) told.length snap told)=nU (aX cj) eL snap jC told:=by
     unfold nU
     rw [if_neg (by simp [jC]),if_neg (by simp [jC]),Cn k9,if_neg (by simp)]
    rw [h2,Q3] at h1
    exact h1.mono (by rw [u9];omega)
   have aet:∀c,md b m lb c→c <fJ.next:=fun c e=>by
    rcases e with (rfl | rfl) | rfl
    ·omega
    ·omega
    ·exact ah.jf cL
   obtain ⟨_,j7,g6,Q4,f33⟩:=adz (n:=n+10) (lim:=H.next) (M:=md b m lb) aer (.inl (.inl rfl)) (by omega) bI
   have n33:=f33.next
   have lJ:yW (one eL (dh (aX cj) told.length snap told) (told.length+1) false 0) bI=one eL (dh (aX cj) told.length snap told) (told.length+1) false bI.toNat:=rfl
   have Q5:=PW aes (n:=bI) (by unfold iw at hf;omega)
   rw [lJ] at Q4 Q5
   have Ct:bu (cM b m) fu j7:=f24.trans f33 (fun c _ e=>e)
   have hdl:∀c,c <j5.next→c≠b→c≠m→ ¬md b m lb c:=fun c h1 h2 h3 e=>by
    rcases e with (e | e) | e <;>omega
   have k0:aO H fu:=Q0.trans zj
   have k33:aO H j7:=bu.keeps k0 Ct fun c fm e=>by rcases e with e | e <;>omega
   have ctb:j7.cells gr.next=some (cJ cj):=Ct.cells (zj.cells c20) (fun e=>by rcases e with e | e <;>omega)
   have cxx:j7.cells H.next=some [ks,ts]:=Ct.cells ((uU.trans (Im.trans Q1)).cells cx) (fun e=>by rcases e with e | e <;>omega)
   have cLL:j7.cells lb=some (jE b gr.next 7 0):=f33.cells cL (fun e=>by rcases e with e | e <;>omega)
   have qJ:∀c,bC sv=some c→ ¬md b m lb c:=fun c fm e=>by
    have hb':=ov.blk c fm
    subst hb'
    have:=bvb fm
    rcases e with (e | e) | e <;>omega
   have Q6:=ov.sl.frame Ct (fun c e=>fun h=>qJ c e (.inl h))
   have g5:au.runT ap (n+12) H.next (.fn 21) [ptr b,ptr gr.next,.int .u64 7,.int .u64 (snap:Int),sv] fu=some (.bq [ptr lb,.int .i64 0],fJ):=g5
   have fin:=QS (n:=n) (lim:=H.next) (N:=n+12) (tb:=gr.next) (x0:=H.next) (bl:=told.length) (snap:=snap) (lb:=lb) (b:=b) (m:=m) hc hA (by omega) (Nat.le_refl _) (by omega) (by omega) (by omega) hn k33 (fun c e=>by have:=aet c e;omega) ctb cxx (fun e=>by rcases e with (e | e) | e <;>omega) (fun e=>by rcases e with (e | e) | e <;>omega) (fun e=>by rcases e with e | e <;>omega) hs (n+12) 0 j7 told bI.toNat 50000 0 sv sv (by omega) (Nat.zero_le _) (.refl _ _) Q4 Q5 (by omega) cLL ⟨by omega,by omega⟩ k9 (Nat.le_refl _) (by omega) Q6 Q6 qJ qJ
   (repeat (first | ((first | with_reducible apply aF | with_reducible apply aG);(focus (first | with_reducible rfl | (simp only [aE,aC,aD,Nat.zero_add,Nat.add_zero,Bool.not_true,Bool.not_false,decide_true,decide_false,reduceIte,and_self,Bool.false_eq_true,hb,g1,bQ,hd,lx,g2,p1,g3,st,g4,g5,fq,g6] <;>with_reducible rfl)))) | with_reducible apply aH | with_reducible apply aI))
   exact fin
theorem ahj (H:ah) (xs:List aa) (k:aO base H) (h:oU H [(false,.int .u64 .nil),(false,.slice zi .nil),(false,.slice (.slice zi .nil) .nil),(false,.int .i64 .nil),(true,QL)] xs):∃n,isTrue (run ap n H.next 3 xs H)=true:=by
 obtain ⟨a0,_,rfl,h0,a1,_,rfl,h1,a2,_,rfl,h2,a3,_,rfl,h3,a4,_,rfl,h4,rfl⟩:=h
 simp only [Bool.false_eq_true,if_false,if_true] at h0 h1 h2 h3 h4
 obtain ⟨x0,_,e0,w0,rfl⟩:=h0
 simp only [List.cons.injEq,and_true] at e0
 subst e0
 have hx:=Cj w0
 obtain ⟨x1,_,e1,_,w1,rfl⟩:=h1
 simp only [List.cons.injEq,and_true] at e1
 subst e1
 obtain ⟨bs,b1,b2⟩:=QZ w1
 obtain ⟨x2,_,e2,_,w2,rfl⟩:=h2
 simp only [List.cons.injEq,and_true] at e2
 subst e2
 obtain ⟨L,A2⟩:=aen w2
 obtain ⟨x3,_,e3,w3,rfl⟩:=h3
 simp only [List.cons.injEq,and_true] at e3
 subst e3
 have hx3:=QA w3
 obtain ⟨cs,rfl,hc⟩:=h4
 obtain ⟨ks,ts,keep,aA,rfl,s1,s2,o1,o2,k1,k2⟩:=aeb hc
 obtain ⟨z,rfl⟩:∃z:Nat,x0=(z:Int):=⟨x0.toNat,by omega⟩
 exact ⟨_,adY (aeo (n:=2000000) (snap:=z) (by omega) b1 b2 A2 (by unfold iw;omega) s1 s2 o1 o2 k1 k2 (Nat.le_refl _))⟩
end
end Go.Proofs.YtfigbgjbaohglaaGreatDoor.bP
end
section
set_option maxRecDepth 100000
set_option linter.unusedVariables false
set_option linter.unusedSimpArgs false
namespace Go.Proofs.YtfigbgjbaohglaaGreatDoor.bP
open Go.au Go.au.Wl
def kN (len s:Nat) (keep:List Int):Nat:=if s <len then s+(match keep[0]? with | some x=>min x.toNat (len - s) | none=>0) else len
theorem ahE (L:List aQ) (s:Nat) (keep:List Int):lU L s keep=kN L.length s keep:=by
 unfold lU kN dL ry
 rfl
def ahy (n u:Nat) (keep:List Int):Nat:=if n=0∨u=0∨n+1 <u then n else kN u 1 keep - 1
section
variable {H:ah} {ks ts:aa} {keep aA:List Int}
theorem ahJ {n lim:Nat} (hn:300≤n) (hlim:lim≤H.next):∃b m j5 gr eO,au.runT ap (n+1) lim (.fn 18) [] H=some (ptr b,j5)∧au.runT ap (n+1) lim (.fn 19) [] j5=some (.agg (cJ cj),gr)∧
  bp lim (gr.push (.cells mI)) 256 (.ptr (some (gr.next,0))) (.agg (cJ cj))=some eO∧aO H eO∧bN (fun c=>c=b∨c=m) eO b m jC∧eO.cells gr.next=some (cJ cj)∧H.next≤b∧H.next≤m∧b <gr.next∧m <gr.next∧gr.next <eO.next∧H.next≤gr.next:=by
 obtain ⟨b,m,j5,p1,p2,Im,p4,p5,p6,p7⟩:=adB (M:=fun _=>False) (n:=n) (lim:=lim) (H:=H) hlim
 have n17:=Im.next
 have p2:bN (fun c=>c=b∨c=m) j5 b m jC:=⟨p2.cells,p2.map.mono rfl fun _ _ _ h=>by simp [jC] at h⟩
 obtain ⟨_,gr,g3,rfl,Io⟩:=acY (n:=n) (lim:=lim) (H:=j5) (by omega) (by omega)
 have n19:=Io.next
 have st:bp lim (gr.push (.cells mI)) 256 (.ptr (some (gr.next,0))) (.agg (cJ cj))=some (gr.push (.cells (cJ cj))):=by
  have hl:(cJ cj).length=256:=by rw [B5,Cp]
  exact wR (cs:=mI) (x:= .agg (cJ cj)) (by omega) hl rfl (PF _)
 have pP:aO gr (gr.push (.cells (cJ cj))):= .push _ _
 exact ⟨b,m,j5,gr,_,p1,g3,st,(Im.trans Io).trans pP,p2.keep (Io.trans pP),ct _ _,p4,p5,by omega,by omega,by rw [ah.bK];omega,by omega⟩
theorem ahK {snap:Nat} {told:List bD} (k9:∀r∈told,gR r) (u:Nat) (hu:u=0):nU (aX cj) eL snap (bare false u) told=(0,one eL (dh (aX cj) told.length snap told) (told.length+1) false 0):=by
 subst hu
 unfold nU
 rw [if_neg (by simp [bare]),if_neg (by simp [bare]),Cn k9,if_neg (by simp)]
 unfold dh
 rw [adg Qo (uS _ _) (QK _ _),if_neg (by decide)]
 unfold laid
 rw [if_pos rfl]
 simp
theorem ahL {snap:Nat} {told:List bD} (hs:snap <18446744073709551616) (hl:told.length≤1000) (k9:∀r∈told,gR r):∀r∈dh (aX cj) told.length snap told,r.length+1≤500:=fun r hr=>by
 rcases List.mem_cons.1 hr with rfl | hr
 ·have h2:=BW (b:=told.length) (n:=snap) (by omega) hs
  have h3:=ig (n:=(fB told.length snap).length) (by omega)
  rw [yK];omega
 ·obtain ⟨x,hx,rfl⟩:=List.mem_map.1 hr
  exact (k9 x hx).row _
theorem add_one {bl snap u:Nat} {told more:List bD} (k9:∀r∈more,gR r):nT (aX cj) eL (one eL (dh (aX cj) bl snap told) (told.length+1) false u) more=if more=[] then (0,one eL (dh (aX cj) bl snap told) (told.length+1) false u) else laid eL (dh (aX cj) bl snap told) (told.length+1) u (more.map fun r=>cA (aX cj) (bM r)):=by
 unfold nT
 rw [if_neg (by simp [one]),Cn k9,if_neg (by simp)]
 split
 ·rfl
 ·exact HC Qo _ _ _ _ (QK _ _)
theorem ahM {l:List bD} {u:Nat} (hg:∀r∈l,gR r) (hu:u <50):∃c pre s o u',nT (aX cj) eL (one eL (dh (aX cj) 0 0 []) 1 false u) l=(c,one eL (dh (aX cj) 0 0 pre) s o u')∧(∀r∈pre,gR r)∧1≤s∧s≤pre.length+1∧
  ((c==0)=(decide (u=0) || (decide (l.length+1 <u) || decide (l.length=0))))∧(c=0∨c=7)∧ ∀keep k,k+1=lU (dh (aX cj) 0 0 pre) s keep→pre.take k=l.take (ahy l.length u keep):=by
 have ha:=add_one (bl:=0) (snap:=0) (u:=u) (told:=[]) hg
 have e0:([]:List bD).length+1=1:=rfl
 rw [e0] at ha
 by_cases hl:l=[]
 ·subst hl
  refine ⟨0,[],1,false,u,by rw [ha,if_pos rfl],fun r h=>by simp at h,Nat.le_refl _,Nat.le_refl _,by simp,.inl rfl,fun keep k _=>by simp⟩
 have hpos:=List.length_pos_iff.2 hl
 rw [if_neg hl] at ha
 have hfull:∀u',u=0∨l.length+1 <u→nT (aX cj) eL (one eL (dh (aX cj) 0 0 []) 1 false u) l=(0,one eL (dh (aX cj) 0 0 l) (l.length+1) false u')→_:=fun u' hc e=>
  (⟨0,l,l.length+1,false,u',e,hg,by omega,Nat.le_refl _,by
   rcases hc with h | h
   ·rw [dT h];rfl
   ·rw [dT (p:=l.length+1 <u) h];simp,.inl rfl,fun keep k hk=>by
   rw [ahE,u9] at hk
   unfold kN at hk
   rw [if_neg (by omega)] at hk
   have:ahy l.length u keep=l.length:=by unfold ahy;rw [if_pos (by omega)]
   rw [this,show k=l.length by omega]⟩:∃c pre s o u',nT (aX cj) eL (one eL (dh (aX cj) 0 0 []) 1 false u) l=(c,one eL (dh (aX cj) 0 0 pre) s o u')∧(∀r∈pre,gR r)∧1≤s∧s≤pre.length+1∧
  ((c==0)=(decide (u=0) || (decide (l.length+1 <u) || decide (l.length=0))))∧(c=0∨c=7)∧ ∀keep k,k+1=lU (dh (aX cj) 0 0 pre) s keep→pre.take k=l.take (ahy l.length u keep))
 unfold laid at ha
 by_cases h0:u=0
 ·rw [if_pos h0,Ia,u9] at ha
  exact hfull 0 (.inl h0) ha
 rw [if_neg h0] at ha
 by_cases h1:(l.map fun r=>cA (aX cj) (bM r)).length+1 <u
 ·rw [if_pos h1,Ia,u9] at ha
  rw [List.length_map] at h1
  exact hfull _ (.inr h1) ha
 rw [if_neg h1,←List.map_take,Ia] at ha
 rw [List.length_map] at h1
 refine ⟨7,[]++l.take (u - 1),1,true,0,ha,fun r hr=>hg r (List.mem_of_mem_take hr),Nat.le_refl _,by omega,?_,.inr rfl,fun keep k hk=> ?_⟩
 ·rw [dF h0,dF h1,dF (p:=l.length=0) (by omega)];rfl
 ·rw [ahE,u9] at hk
  have hlen:([]++l.take (u - 1)).length+1=u:=by simp;omega
  rw [hlen] at hk
  have hn:ahy l.length u keep=k:=by unfold ahy;rw [if_neg (by omega),←hk];rfl
  rw [hn]
  have sj:kN u 1 keep≤u:=by
   unfold kN
   split
   ·split
    ·exact Nat.le_trans (Nat.add_le_add_left (Nat.min_le_right _ _) 1) (by omega)
    ·omega
   ·exact Nat.le_refl _
  rw [List.nil_append,List.take_take,Nat.min_eq_left (by omega)]
set_option maxHeartbeats 4000000 in
theorem ahF {n lim bI:Nat} {lv:aa} {l:List bD} {H0:ah} (hc:Ib H0 ks ts keep aA) (k00:aO H0 H) (hlim:lim≤H.next) (hv:Sl H 16 lv (l.map aR)) (hg:∀r∈l,gR r) (hl:l.length≤40) (hf:bI <256) (hn:2000000≤n):
  ∃v H',au.runT ap (n+13) lim (.fn 28) [lv,.int .u8 (bI:Int),.agg [ks,ts]] H=some (v,H')∧aO H H'∧ ∃sv bv,v= .bq [sv,.bool true]∧Own H' 16 sv ((l.take (ahy l.length (bI % 50) keep)).map aR) bv∧(bC sv=some bv→H.next≤bv∧bv <H'.next):=by
 refine agF a28 ?_
 unfold MW
 have hb:(([ks,ts]:List aa).all fun v=>v.one)=true:=by simp only [List.all_cons,List.all_nil,hc.o1,hc.o2,Bool.and_true]
 have hl1:=hc.l1;have hl2:=hc.l2
 have kx:aO H (H.push (.cells [ks,ts])):= .push _ _
 have cx:(H.push (.cells [ks,ts])).cells H.next=some [ks,ts]:=ct _ _
 have nx:(H.push (.cells [ks,ts])).next=H.next+1:=ah.bK _ _
 generalize hHx:H.push (.cells [ks,ts])=Hx at *
 obtain ⟨b,m,j5,gr,eO,p1,p2,p3,pP,d20,c20,p7,p8,p9,p10,p11,p12⟩:=ahJ (n:=n+11) (lim:=lim) (H:=Hx) (by omega) (by omega)
 have ahG:=kx.trans pP
 have nk:=pP.next
 have mg:Sl eO 16 (.sl none 0 (.ex 0)) (([]:List bD).map aR):=Sl.nil _ _
 have c2:1000040≤n+1:=Nat.le_trans (by decide) (Nat.le_trans hn (Nat.le_add_right n 1))
 obtain ⟨r,fJ,g5,f24,Q2⟩:=adS (n:=n+1) (lim:=lim) (K:=0) (snap:=0) (tb:=gr.next) (T:=cj) d20 PO (.inl rfl) (.inr rfl) (by omega) (by omega) (fun c e=>by rcases e with rfl | rfl <;>omega) HR mg (fun r hr=>by simp at hr) c20 Cp (fun e=>by rcases e with e | e <;>omega) (by decide) (by decide) c2 (by omega) (by simp;omega) (by omega)
 have n24:=f24.next
 have Q3:nU (aX cj) eL 0 jC []=(0,one eL (dh (aX cj) 0 0 []) 1 false 0):=ahK (snap:=0) (told:=[]) (fun r hr=>by simp at hr) 0 rfl
 rw [Q3] at Q2
 rcases Q2 with ⟨h,_⟩ | ⟨_,lb,rfl,cL,hlb,aer⟩
 ·exact absurd rfl h
 have aes:bV 1000 (one eL (dh (aX cj) 0 0 []) 1 false 0):=by
  have h1:=HZ (n:=eL) (B:=500) (dh (aX cj) 0 0 []) 0 jC PO (ahL (told:=[]) (snap:=0) (by decide) (by decide) (fun r hr=>by simp at hr))
  have h2:fC eL jC (dh (aX cj) 0 0 [])=nU (aX cj) eL 0 jC []:=by
   unfold nU
   rw [if_neg (by simp [jC]),if_neg (by simp [jC]),if_neg (by simp)];rfl
  rw [h2,Q3] at h1
  exact h1.mono (by rw [u9];simp)
 have aet:∀c,md b m lb c→c <fJ.next:=fun c e=>by
  rcases e with (rfl | rfl) | rfl
  ·omega
  ·omega
  ·exact ah.jf cL
 have Qj:av .rem (.int .u8 (bI:Int)) (.int .u8 50)=some (.int .u8 ((bI % 50:Nat):Int)):=by
  refine (J0 (k:= .u8) (a:=(bI:Int)) (b:=50) (by decide)).trans ?_
  have:((bI:Nat):Int).tmod 50=((bI % 50:Nat):Int):=by rw [Int.tmod_eq_emod_of_nonneg (by omega)];omega
  rw [this]
 have ahN:bI % 50 <50:=Nat.mod_lt _ (by decide)
 have q0:(((bI % 50:Nat):Int)==0)=decide (bI % 50=0):=ieq _ 0
 generalize bI % 50=u at *
 have wu:IntKind.i64.wrap (u:Int)=(u:Int):=wrap_i64 (by omega) (by omega)
 obtain ⟨_,j7,g6,Q4,f33⟩:=adz (n:=n+10) (lim:=lim) (M:=md b m lb) aer (.inl (.inl rfl)) (by omega) (u:Int)
 have n33:=f33.next
 have lJ:yW (one eL (dh (aX cj) 0 0 []) 1 false 0) (u:Int)=one eL (dh (aX cj) 0 0 []) 1 false u:=rfl
 have Q5:=PW aes (n:=(u:Int)) (by omega)
 rw [lJ] at Q4 Q5
 have ahH:bu (cM b m) eO j7:=f24.trans f33 (fun c _ e=>e)
 have hd0:∀c,c <Hx.next→ ¬cM b m c:=fun c h e=>by rcases e with e | e <;>omega
 have k33:aO H j7:=bu.keeps ahG ahH fun c fm e=>hd0 c (by omega) e
 have ahA:¬cM b m gr.next:=fun e=>by rcases e with e | e <;>omega
 have QU:¬cM b m lb:=fun e=>by rcases e with e | e <;>omega
 have ctb:j7.cells gr.next=some (cJ cj):=ahH.cells c20 ahA
 have cLL:j7.cells lb=some (jE b gr.next 7 0):=f33.cells cL QU
 have hc1:1000+l.length * 2000000≤1000000000000:=by omega
 have hc2:1000040≤n+2:=Nat.le_trans (by decide) (Nat.le_trans hn (Nat.le_add_right n 2))
 obtain ⟨_,fu,g7,rfl,h22,f22,Uz⟩:=adR (n:=n+2) (lim:=lim) (K:=1000) (tb:=gr.next) (T:=cj) Q4 Q5 (.inl (.inl rfl)) (.inl (.inr rfl)) (.inr rfl) (by omega) (by omega) (by omega) (fun c e=>by have:=aet c e;omega) HR (hv.keep k33) (fun r hr=>(hg r hr).rA) ctb Cp cLL ahA QU (fun e=>by omega) hc1 hc2 (by omega) (by omega) (by omega)
 obtain ⟨code,pre,s,o,u',tq,hpg,hs1,l7,ahx,ahX,ahO⟩:=ahM hg ahN
 have vg:bV 50000 (nT (aX cj) eL (one eL (dh (aX cj) 0 0 []) 1 false u) l).2:=by
  unfold nT
  rw [if_neg (by simp [one]),Cn hg,if_neg (by simp)]
  split
  ·exact Q5.mono (by omega)
  ·refine (HZ (B:=500) _ 1000 _ Q5 ?_).mono (by rw [List.length_map];omega)
   intro r hr
   obtain ⟨x,hx,rfl⟩:=List.mem_map.1 hr
   exact (hg x hx).row _
 rw [tq] at g7 h22 vg
 dsimp only at g7 h22 vg
 have n22:=f22.next
 have ahB:bu (md b m lb) eO fu:=((f24.trans f33 (fun c _ e=>e)).weaken (fun c _ e=> .inl e)).trans f22 (fun c _ e=>e)
 have nA:∀c,c <Hx.next→ ¬md b m lb c:=fun c h e=>by rcases e with (e | e) | e <;>omega
 have zj:aO H fu:=bu.keeps ahG ahB fun c fm e=>nA c (by omega) e
 have ahP:fu.cells H.next=some [ks,ts]:=ahB.cells (pP.cells cx) (nA _ (by omega))
 have ahQ:fu.cells gr.next=some (cJ cj):=ahB.cells c20 (fun e=>by rcases e with e | e;exact ahA e;omega)
 have a9:aB fu (some 2) (.ptr (some (H.next,0)))=some (.agg [ks,ts]):=kX ahP rfl
 obtain ⟨_,pg,g8,h25,f25⟩:=adN (n:=n+9) (lim:=lim) h22 vg (by omega) (.inl (.inl rfl)) (.inl (.inr rfl)) (by omega) (by omega) (by omega) hc.s1 hc.s2 (by have:=k00.next;omega) (by have:=k00.next;omega) (k00.trans zj) hc.o1 hc.o2 hc.i1 hc.i2 (by omega) (by omega)
 obtain ⟨_,gQ,g9,h27,f27⟩:=adA (n:=n+10) (lim:=lim) h25 (.inl (.inl rfl)) (by omega)
 have ahC:=f25.trans f27 (fun c _ e=>e)
 have n27:=ahC.next
 have hDc:=PX (PZ vg keep aA)
 obtain ⟨r,iP,g10,k29,sv,bv,rfl,o29,b29⟩:=adX (n:=n+2) (lim:=lim) (tb:=gr.next) (T:=cj) h27 hDc (by omega) HR (ahC.cells ahQ ahA) Cp (by omega) (by omega) (by omega)
 obtain ⟨k,_,hk2,Dx,e⟩:=ad9 (S:=aX cj) (n:=eL) (u:=u') (o:=o) (b:=0) (snap:=0) (by decide) (by decide) hpg hs1 l7 keep aA
 rw [e] at g10 o29
 dsimp only at g10 o29
 rw [ahO keep k hk2] at o29
 have ahR:aO H iP:=(bu.keeps zj ahC fun c fm e=>hd0 c (by omega) e).trans k29
 have g5:au.runT ap (n+12) lim (.fn 21) [ptr b,ptr gr.next,.int .u64 7,.int .u64 0,.sl none 0 (.ex 0)] eO=some (.bq [ptr lb,.int .i64 0],fJ):=g5
 have g10:au.runT ap (n+12) lim (.fn 26) [ptr b,ptr gr.next,.int .u64 7] gQ=some (.bq [.int .u64 0,sv,.bool (decide (0≤(pre.take k).length)),.int .i64 0],iP):=g10
 rw [dT (Nat.zero_le _)] at g10
 have bQ:bh false lv=some (.int .i64 (l.length:Int)):=by rw [hv.len,List.length_map]
 have w1:IntKind.i64.wrap ((l.length:Int)+1)=((l.length+1:Nat):Int):=iR (by omega)
 have d1:decide (((l.length+1:Nat):Int) <(u:Int))=decide (l.length+1 <u):=by rw [Bool.eq_iff_iff];simp;omega
 have d0:(((l.length:Nat):Int)==0)=decide (l.length=0):=ieq _ 0
 have bb:∀t:Bool,dZ false .bool (.bool t) (.bool t)=some (.bool true):=fun t=>by cases t <;>rfl
 have fin:aO H iP∧ ∃sv' bv,(aa.bq [sv,.bool true])= .bq [sv',.bool true]∧Own iP 16 sv' ((l.take (ahy l.length u keep)).map aR) bv∧(bC sv'=some bv→H.next≤bv∧bv <iP.next):=⟨ahR,sv,bv,rfl,o29,fun e=>⟨by have:=(b29 e).1;omega,(b29 e).2⟩⟩
 by_cases h0:u=0
 ·rw [dT h0] at q0 ahx
  simp only [Bool.true_or] at ahx
  (repeat (first | ((first | with_reducible apply aF | with_reducible apply aG);(focus (first | with_reducible rfl | (simp only [aE,aC,aD,Nat.zero_add,Nat.add_zero,Bool.not_true,Bool.not_false,decide_true,decide_false,reduceIte,and_self,Bool.false_eq_true,hb,hHx,p1,p2,p3,g5,fq,Qj,wu,g6,g7,a9,g8,g9,g10,ahx,q0,bb] <;>with_reducible rfl)))) | with_reducible apply aH | with_reducible apply aI))
  exact fin
 rw [dF h0] at q0 ahx
 by_cases h1:l.length+1 <u
 ·rw [dT h1] at d1 ahx
  simp only [Bool.false_or,Bool.true_or] at ahx
  (repeat (first | ((first | with_reducible apply aF | with_reducible apply aG);(focus (first | with_reducible rfl | (simp only [aE,aC,aD,Nat.zero_add,Nat.add_zero,Bool.not_true,Bool.not_false,decide_true,decide_false,reduceIte,and_self,Bool.false_eq_true,hb,hHx,p1,p2,p3,g5,fq,Qj,wu,g6,g7,a9,g8,g9,g10,ahx,q0,bQ,w1,d1,bb] <;>with_reducible rfl)))) | with_reducible apply aH | with_reducible apply aI))
  exact fin
 rw [dF h1] at d1 ahx
 simp only [Bool.false_or] at ahx
 (repeat (first | ((first | with_reducible apply aF | with_reducible apply aG);(focus (first | with_reducible rfl | (simp only [aE,aC,aD,Nat.zero_add,Nat.add_zero,Bool.not_true,Bool.not_false,decide_true,decide_false,reduceIte,and_self,Bool.false_eq_true,hb,hHx,p1,p2,p3,g5,fq,Qj,wu,g6,g7,a9,g8,g9,g10,ahx,q0,bQ,w1,d1,d0,bb] <;>with_reducible rfl)))) | with_reducible apply aH | with_reducible apply aI))
 exact fin
end
end Go.Proofs.YtfigbgjbaohglaaGreatDoor.bP
end
section
set_option maxRecDepth 100000
set_option linter.unusedVariables false
set_option linter.unusedSimpArgs false
namespace Go.Proofs.YtfigbgjbaohglaaGreatDoor.bP
open Go.au Go.au.Wl
def ahz (r:bD) (x:aQ):bD:={r with e:={r.e with body:=x}}
theorem ahS (r:bD) (x:aQ):aR (ahz r x)=(aR r).set 15 (.str x):=rfl
theorem ahT {r:bD} (h:gR r) {x:aQ} (hk:r.kind=3) (h3:3≤r.e.kind) (h4:r.e.kind≤4) (hx:x.length≤200):gR (ahz r x):=by
 obtain ⟨g1,g2,g3⟩:=h
 refine ⟨?_,⟨g2.kind,g2.term,g2.ey,⟨g2.e.idx,g2.e.term,g2.e.kind,g2.e.slot,?_⟩⟩,hx⟩
 ·have hk':(ahz r x).kind=3:=hk
  unfold dJ at g1 ⊢
  rw [if_neg (by omega)] at g1 ⊢
  simp only [Bool.and_eq_true,decide_eq_true_eq] at g1 ⊢
  obtain ⟨q1,q2,q3,q4⟩:=g1
  refine ⟨q1,q2,q3,?_⟩
  unfold iG at q4 ⊢
  simp only [Bool.and_eq_true,decide_eq_true_eq] at q4 ⊢
  obtain ⟨u1,u2,u3⟩:=q4
  refine ⟨u1,u2,?_⟩
  have ek:(ahz r x).e.kind=r.e.kind:=rfl
  rw [ek]
  by_cases h:r.e.kind=3
  ·rw [if_pos h] at u3 ⊢;exact u3
  ·rw [if_neg h] at u3 ⊢
   have h4':r.e.kind=4:=by omega
   simp only [Bool.and_eq_true] at u3 ⊢
   refine ⟨u3.1,?_⟩
   unfold ji
   rw [ek,h4'];rfl
 ·show x.length≤140737488355328
  omega
section
variable {H:ah} {ks ts:aa} {keep aA:List Int}
theorem ahU {n lim N bI x0:Nat} {G:ah} {sv tv:aa} {l l':List bD} (hc:Ib H ks ts keep aA) (k0:aO H G) (hlim:lim≤G.next) (cx:G.cells x0=some [ks,ts])
  (ha:Sl G 16 sv (l.map aR)) (hb:Sl G 16 tv (l'.map aR)) (l8:∀r∈l,gR r) (Wq:∀r∈l',gR r) (zb:l'.length=l.length) (bQ:l.length≤40) (hf:bI <256) (hn:2000000≤n):
  XS (au.runT ap (n+13)) lim N (fun v _=>v= .bool true) (.int .u8 (bI:Int)) (ptr x0) sv tv G:=by
 unfold XS
 have ld:aB G (some 2) (.ptr (some (x0,0)))=some (.agg [ks,ts]):=kX cx rfl
 obtain ⟨_,H1,g1,k1,s1,b1,rfl,o1,_⟩:=ahF (n:=n) (lim:=lim) hc k0 hlim ha l8 bQ hf hn
 have n1:=k1.next
 have u7:aB H1 (some 2) (.ptr (some (x0,0)))=some (.agg [ks,ts]):=kX (k1.cells cx) rfl
 obtain ⟨_,H2,g2,k2,s2,b2,rfl,o2,_⟩:=ahF (n:=n) (lim:=lim) hc (k0.trans k1) (by omega) (hb.keep k1) Wq (by omega) hf hn
 rw [zb] at o2
 generalize hkk:ahy l.length (bI % 50) keep=k at o1 o2
 have t1:=(o1.sl).keep k2
 have t2:=o2.sl
 have e1:bh false s1=some (.int .i64 ((l.take k).length:Int)):=by rw [o1.sl.len,List.length_map]
 have e2:bh false s2=some (.int .i64 ((l.take k).length:Int)):=by rw [o2.sl.len,List.length_map];simp [zb]
 have qq:((((l.take k).length:Nat):Int)==(((l.take k).length:Nat):Int))=true:=by simp
 generalize ((l.take k).length:Int)=z at e1 e2 qq
 have c1:=QH (n:=n+11) (lim:=lim) t1 (ha.keep (k1.trans k2)) (by rw [List.length_take];omega) (by omega) (by rw [List.length_take];omega)
 have c2:=QH (n:=n+11) (lim:=lim) t2 (hb.keep (k1.trans k2)) (by rw [List.length_take];omega) (by omega) (by rw [List.length_take];omega)
 rw [dT (List.take_prefix k l)] at c1
 rw [dT (List.take_prefix k l')] at c2
 have bb:∀t:Bool,dZ false .bool (.bool t) (.bool t)=some (.bool true):=fun t=>by cases t <;>rfl
 have tu:sC lim [] H2=some (.bool true,H2):=rfl
 (repeat (first | ((first | with_reducible apply aF | with_reducible apply aG);(focus (first | with_reducible rfl | (simp only [aE,aC,aD,Nat.zero_add,Nat.add_zero,Bool.not_true,Bool.not_false,decide_true,decide_false,reduceIte,and_self,Bool.false_eq_true,ld,u7,g1,g2,e1,e2,qq,bb,c1,c2,xQ,tu] <;>with_reducible rfl)))) | with_reducible apply aH | with_reducible apply aI))
 exact rfl
set_option maxHeartbeats 4000000 in
theorem ahD {n lim N bI x0 bt:Nat} {Hs:ah} {v sv tv:aa} {L:List aQ} {l:List bD} (hc:Ib H ks ts keep aA) (Ih:aO H Hs) (hlim:lim≤H.next) (hA:Sl H 1 v (L.map fun s=>[.str s])) (hL:L.length≤40) (cx:Hs.cells x0=some [ks,ts])
  (ha:Sl Hs 16 sv (l.map aR)) (l8:∀r∈l,gR r) (bQ:l.length≤40) (hf:bI <256) (hn:2000000≤n) (hb:bC tv=some bt→H.next≤bt) (hx:bC tv=some bt→x0≠bt) (hsb:∀c,bC sv=some c→bC tv=some bt→c≠bt):
  ∀(j i:Nat) (G:ah) (T:List bD),T.length <j+i→i≤T.length→Own G 16 tv (T.map aR) bt→bu (fun c=>bC tv=some c) Hs G→T.length=l.length→(∀r∈T,gR r)→
   uJ (au.runT ap (n+13)) lim N (fun v _=>v= .bool true) j v (.int .u8 (bI:Int)) (ptr x0) sv tv (.int .i64 (i:Int)) G
 | 0,i,_,_,h,h',_,_,_,_=>by exfalso;omega
 | j+1,i,G,T,hj,hi,ho,fr,pS,hg=>by
  show Fx _ _ _ _ (uJ _ _ _ _ j) _ _ _ _ _ _ _
  have hbs:∀c,bC tv=some c→c=bt:=ho.blk
  have kG:aO H G:=bu.keeps Ih fr fun c fm e=>by have:=hbs c e;subst this;have:=hb e;omega
  have nG:=kG.next
  have cxG:G.cells x0=some [ks,ts]:=fr.cells cx fun e=>by have:=hbs _ e;subst this;exact hx e rfl
  have haG:Sl G 16 sv (l.map aR):=ha.frame fr fun c e h=>by have:=hbs _ h;subst this;exact hsb c e h rfl
  have hvG:=hA.keep kG
  have hlen:bh false tv=some (.int .i64 (T.length:Int)):=by rw [ho.sl.len,List.length_map]
  have hlv:bh false v=some (.int .i64 (L.length:Int)):=by rw [hvG.len,List.length_map]
  by_cases hil:i <T.length
  rotate_left
  ·have jr:decide ((i:Int) <(T.length:Int))=false:=dF (by omega)
   unfold Fx
   (repeat (first | ((first | with_reducible apply aF | with_reducible apply aG);(focus (first | with_reducible rfl | (simp only [aE,aC,aD,Nat.zero_add,Nat.add_zero,Bool.not_true,Bool.not_false,decide_true,decide_false,reduceIte,and_self,Bool.false_eq_true,hlen,jr] <;>with_reducible rfl)))) | with_reducible apply aH | with_reducible apply aI))
   exact ahU hc kG (by omega) cxG haG ho.sl l8 hg pS bQ hf hn
  have jr:decide ((i:Int) <(T.length:Int))=true:=dT (by omega)
  have hi1:IntKind.i64.wrap ((i:Int)+1)=((i+1:Nat):Int):=iR (by omega)
  have hr:T[i]? =some T[i]:=List.getElem?_eq_getElem hil
  have tX:=hg T[i] (List.getElem_mem hil)
  generalize T[i]=r at hr tX
  have next:uJ (au.runT ap (n+13)) lim N (fun v _=>v= .bool true) j v (.int .u8 (bI:Int)) (ptr x0) sv tv (.int .i64 ((i+1:Nat):Int)) G:=ahD hc Ih hlim hA hL cx ha l8 bQ hf hn hb hx hsb j (i+1) G T (by omega) (by omega) ho fr pS hg
  by_cases hiL:i <L.length
  rotate_left
  ·have d1:decide ((i:Int) <(L.length:Int))=false:=dF (by omega)
   unfold Fx Mf
   (repeat (first | ((first | with_reducible apply aF | with_reducible apply aG);(focus (first | with_reducible rfl | (simp only [aE,aC,aD,Nat.zero_add,Nat.add_zero,Bool.not_true,Bool.not_false,decide_true,decide_false,reduceIte,and_self,Bool.false_eq_true,hlen,jr,hlv,d1,hi1] <;>with_reducible rfl)))) | with_reducible apply aH | with_reducible apply aI))
   exact next
  have d1:decide ((i:Int) <(L.length:Int))=true:=dT (by omega)
  have hs:L[i]? =some L[i]:=List.getElem?_eq_getElem hiL
  generalize L[i]=x at hs
  obtain ⟨p,hp,kS⟩:=uR hvG (i:=i) (x:= .str x) (by rw [List.getElem?_map,hs];rfl)
  have ax:bh true (.str x)=some (.int .i64 (x.length:Int)):=rfl
  have d2:decide ((200:Int) <(x.length:Int))=decide (200 <x.length):=by rw [Bool.eq_iff_iff];simp;omega
  by_cases ahI:200 <x.length
  ·rw [dT ahI] at d2
   have tu:sC lim [] G=some (.bool true,G):=rfl
   unfold Fx
   (repeat (first | ((first | with_reducible apply aF | with_reducible apply aG);(focus (first | with_reducible rfl | (simp only [aE,aC,aD,Nat.zero_add,Nat.add_zero,Bool.not_true,Bool.not_false,decide_true,decide_false,reduceIte,and_self,Bool.false_eq_true,hlen,jr,hlv,d1,hp,kS,ax,d2,xQ,tu] <;>with_reducible rfl)))) | with_reducible apply aH | with_reducible apply aI))
   exact rfl
  rw [dF ahI] at d2
  have hpos:0 <(T.map aR).length:=by rw [List.length_map];omega
  have hri:(T.map aR)[i]? =some (aR r):=by rw [List.getElem?_map,hr];rfl
  have ad:=ho.sl.addr (k:= .i64) (i:=i) (by simpa using hil)
  have f0:=KP ho.sl hpos (i * 16) 0
  have f3:=KP ho.sl hpos (i * 16) 3
  have f2:=KP ho.sl hpos (i * 16+3) 2
  have f12:=KP ho.sl hpos (i * 16+3) 12
  have l0:aB G none (slot tv (i * 16))=some (.int .u8 (r.kind:Int)):=ho.sl.KR (i:=i) hri (f:=0) (by decide)
  have l5:aB G none (slot tv (i * 16+3+2))=some (.int .u8 (r.e.kind:Int)):=ho.sl.KR (i:=i) hri (f:=5) (by decide)
  have q3:((r.kind:Int)==3)=decide (r.kind=3):=ieq _ 3
  have q4:decide ((3:Int)≤(r.e.kind:Int))=decide (3≤r.e.kind):=by rw [Bool.eq_iff_iff];simp;omega
  have q5:decide ((r.e.kind:Int)≤4)=decide (r.e.kind≤4):=by rw [Bool.eq_iff_iff];simp;omega
  by_cases hk:r.kind=3
  rotate_left
  ·rw [dF hk] at q3
   unfold Fx Mf
   (repeat (first | ((first | with_reducible apply aF | with_reducible apply aG);(focus (first | with_reducible rfl | (simp only [aE,aC,aD,Nat.zero_add,Nat.add_zero,Bool.not_true,Bool.not_false,decide_true,decide_false,reduceIte,and_self,Bool.false_eq_true,hlen,jr,hlv,d1,hp,kS,ax,d2,ad,f0,l0,q3,hi1] <;>with_reducible rfl)))) | with_reducible apply aH | with_reducible apply aI))
   exact next
  rw [dT hk] at q3
  by_cases h3:3≤r.e.kind
  rotate_left
  ·rw [dF h3] at q4
   unfold Fx Mf
   (repeat (first | ((first | with_reducible apply aF | with_reducible apply aG);(focus (first | with_reducible rfl | (simp only [aE,aC,aD,Nat.zero_add,Nat.add_zero,Bool.not_true,Bool.not_false,decide_true,decide_false,reduceIte,and_self,Bool.false_eq_true,hlen,jr,hlv,d1,hp,kS,ax,d2,ad,f0,l0,q3,f3,f2,l5,q4,hi1] <;>with_reducible rfl)))) | with_reducible apply aH | with_reducible apply aI))
   exact next
  rw [dT h3] at q4
  by_cases h4:r.e.kind≤4
  rotate_left
  ·rw [dF h4] at q5
   unfold Fx Mf
   (repeat (first | ((first | with_reducible apply aF | with_reducible apply aG);(focus (first | with_reducible rfl | (simp only [aE,aC,aD,Nat.zero_add,Nat.add_zero,Bool.not_true,Bool.not_false,decide_true,decide_false,reduceIte,and_self,Bool.false_eq_true,hlen,jr,hlv,d1,hp,kS,ax,d2,ad,f0,l0,q3,f3,f2,l5,q4,q5,hi1] <;>with_reducible rfl)))) | with_reducible apply aH | with_reducible apply aI))
   exact next
  rw [dT h4] at q5
  obtain ⟨G',st,ho',fr',nn⟩:=agM (lim:=lim) ho (fun e=>by have:=hb e;omega) hri (f:=15) (by decide) (y:= .str x) rfl rfl
  have st:bp lim G 1 (slot tv (i * 16+3+12)) (.str x)=some G':=st
  rw [←ahS,←List.map_set] at ho'
  have fin:uJ (au.runT ap (n+13)) lim N (fun v _=>v= .bool true) j v (.int .u8 (bI:Int)) (ptr x0) sv tv (.int .i64 ((i+1:Nat):Int)) G':=ahD hc Ih hlim hA hL cx ha l8 bQ hf hn hb hx hsb j (i+1) G' (T.set i (ahz r x)) (by rw [List.length_set];omega) (by rw [List.length_set];omega) ho' (fr.trans fr' (fun c _ e=>e)) (by rw [List.length_set];exact pS) (fun z hz=>by
   rcases List.mem_or_eq_of_mem_set hz with hz | rfl
   ·exact hg z hz
   ·exact ahT tX hk h3 h4 (by omega))
  unfold Fx Mf
  (repeat (first | ((first | with_reducible apply aF | with_reducible apply aG);(focus (first | with_reducible rfl | (simp only [aE,aC,aD,Nat.zero_add,Nat.add_zero,Bool.not_true,Bool.not_false,decide_true,decide_false,reduceIte,and_self,Bool.false_eq_true,hlen,jr,hlv,d1,hp,kS,ax,d2,ad,f0,l0,q3,f3,f2,l5,q4,q5,f12,st,hi1] <;>with_reducible rfl)))) | with_reducible apply aH | with_reducible apply aI))
  exact fin
theorem ahV {lim:Nat} {G:ah} {xv:aa} {xs:List bD} (hlim:lim≤G.next) (hx:Sl G 16 xv (xs.map aR)) (hl:xs.length≤1000000):
  ∃v1 H1 bt,fO lim (G.push (.cells [])) cV 72 false (.sl (some (G.next,0)) 0 (.ex 0)) xv=some (v1,H1)∧aO G H1∧Own H1 16 v1 (xs.map aR) bt∧(bC v1=some bt→G.next≤bt):=by
 have k1:aO G (G.push (.cells [])):= .push _ _
 have n1:(G.push (.cells [])).next=G.next+1:=ah.bK _ _
 have aee:Own (G.push (.cells [])) 16 (.sl (some (G.next,0)) 0 (.ex 0)) (([]:List bD).map aR) G.next:=⟨fun _ h=>by simp at h,.inr (.inl ⟨0,[],rfl,rfl,ct _ _,Nat.le_refl _⟩)⟩
 have each:∀(xs:List bD),∀y∈xs.map aR,y.length=16∧y.all (·.one)=true:=fun xs y hy=>by
  obtain ⟨r,_,rfl⟩:=List.mem_map.1 hy
  exact ⟨rfl,rfl⟩
 obtain ⟨v1,H1,Ie,p1,p2,p3,p4,p5⟩:=uP (lim:=lim) (bytes:=72) (zero:=cV) aee rfl (by decide) (Sl.source (hx.keep k1)) (each _) (by simp only [List.length_map,List.length_nil,room];omega) (by simp only [List.length_map,List.length_nil,room];omega) (fun e=>by omega)
 have gl:bC v1=some Ie→G.next≤Ie:=fun _=>by
  rcases p4 with ⟨rfl,_⟩ | h
  ·exact Nat.le_refl _
  ·omega
 have k2:aO G H1:=bu.keeps k1 p3 fun c hc e=>by simp [bC] at e;omega
 have e1:([]:List bD).map aR++xs.map aR=xs.map aR:=rfl
 rw [e1] at p2
 exact ⟨v1,H1,Ie,p1,k2,p2,gl⟩
set_option maxHeartbeats 4000000 in
theorem counts {n bI:Nat} {a0 a1:aa} {base:List bD} {L:List aQ} (hb0:Sl H 16 a0 (base.map aR)) (jQ:∀r∈base,zf r) (hA:Sl H 1 a1 (L.map fun s=>[.str s])) (hf:bI <256)
  (s1:Sl H 1 ks (encI keep)) (s2:Sl H 1 ts (encI aA)) (o1:ks.one=true) (o2:ts.one=true) (i1:∀y∈keep,iw y) (i2:∀y∈aA,iw y) (hn:2000000≤n):
  ∃v H',au.runT ap (n+14) H.next (.fn 4) [a0,a1,.int .u8 (bI:Int),.agg [ks,ts]] H=some (v,H')∧v= .bool true:=by
 refine agD a4 ?_
 unfold F4
 have hb:(([ks,ts]:List aa).all fun v=>v.one)=true:=by simp only [List.all_cons,List.all_nil,o1,o2,Bool.and_true]
 have kx:aO H (H.push (.cells [ks,ts])):= .push _ _
 have cx:(H.push (.cells [ks,ts])).cells H.next=some [ks,ts]:=ct _ _
 have nx:(H.push (.cells [ks,ts])).next=H.next+1:=ah.bK _ _
 obtain ⟨_,H4,g1,e4,t1,rfl,wD⟩:=QJ (n:=n+12) (lim:=H.next) (hb0.keep kx) (by omega)
 rw [e4] at g1
 have tu:∀G,sC H.next [] G=some (.bool true,G):=fun G=>rfl
 have bQ:bh false a1=some (.int .i64 (L.length:Int)):=by rw [hA.len,List.length_map]
 cases t1 with
 | true=>
  (repeat (first | ((first | with_reducible apply aF | with_reducible apply aG);(focus (first | with_reducible rfl | (simp only [aE,aC,aD,Nat.zero_add,Nat.add_zero,Bool.not_true,Bool.not_false,decide_true,decide_false,reduceIte,and_self,Bool.false_eq_true,hb,g1,xQ,tu] <;>with_reducible rfl)))) | with_reducible apply aH | with_reducible apply aI))
  exact rfl
 | false=>
  obtain ⟨Ii,tA⟩:=wD rfl
  have lx:aB (H.push (.cells [ks,ts])) (some 2) (.ptr (some (H.next,0)))=some (.agg [ks,ts]):=kX cx rfl
  obtain ⟨_,dV,g2,rfl,uU,_⟩:=aec (n:=n+12) (lim:=H.next) (s1.keep kx) (s2.keep kx) o1 o2
  cases sw:Co keep aA with
  | true=>
   rw [sw] at g2
   (repeat (first | ((first | with_reducible apply aF | with_reducible apply aG);(focus (first | with_reducible rfl | (simp only [aE,aC,aD,Nat.zero_add,Nat.add_zero,Bool.not_true,Bool.not_false,decide_true,decide_false,reduceIte,and_self,Bool.false_eq_true,hb,g1,lx,g2,xQ,tu] <;>with_reducible rfl)))) | with_reducible apply aH | with_reducible apply aI))
   exact rfl
  | false=>
   rw [sw] at g2
   unfold Co at sw
   simp only [Bool.or_eq_false_iff,decide_eq_false_iff_not] at sw
   by_cases hL:40 <L.length
   ·have hd:decide ((40:Int) <(L.length:Int))=true:=dT (by omega)
    (repeat (first | ((first | with_reducible apply aF | with_reducible apply aG);(focus (first | with_reducible rfl | (simp only [aE,aC,aD,Nat.zero_add,Nat.add_zero,Bool.not_true,Bool.not_false,decide_true,decide_false,reduceIte,and_self,Bool.false_eq_true,hb,g1,lx,g2,bQ,hd,xQ,tu] <;>with_reducible rfl)))) | with_reducible apply aH | with_reducible apply aI))
    exact rfl
   have hd:decide ((40:Int) <(L.length:Int))=false:=dF (by omega)
   have hc:Ib H ks ts keep aA:=⟨s1,s2,o1,o2,i1,i2,by omega,by omega⟩
   have aep:=kx.trans uU
   have n11:=uU.next
   obtain ⟨sv,j5,g4,Im,bv,ov,bvb⟩:=QD (n:=n+9) (lim:=H.next) (hb0.keep aep) (fun r hr=>jQ r hr (tA r hr)) (by omega) (by omega) (by omega) (by omega)
   have n17:=Im.next
   have k9:∀r∈base.filter dJ,gR r:=fun r hr=>by
    obtain ⟨h1,h2⟩:=List.mem_filter.1 hr
    exact ⟨h2,jQ r h1 (tA r h1),tA r h1⟩
   have hml:(base.filter dJ).length≤40:=Nat.le_trans (List.length_filter_le _ _) Ii
   generalize base.filter dJ=told at ov k9 hml
   obtain ⟨tv,gu,bt,a2,k21,ow,rX⟩:=ahV (lim:=H.next) (G:=j5) (by omega) ov.sl (by omega)
   have QW:cU [] []=some []:=rfl
   have fin:=ahD (n:=n) (lim:=H.next) (N:=n+13) (bI:=bI) (x0:=H.next) (bt:=bt) (Hs:=gu) hc ((aep.trans Im).trans k21) (Nat.le_refl _) hA (by omega) ((uU.trans (Im.trans k21)).cells cx) (ov.sl.keep k21) k9 hml hf hn (fun e=>by have:=rX e;omega) (fun e=>by have:=rX e;omega) (fun c e1 e2=>by
    have h1:=ov.blk c e1
    subst h1
    have:=bvb e1
    have:=rX e2
    omega) (n+13) 0 gu told (by omega) (Nat.zero_le _) ow (.refl _ _) rfl k9
   (repeat (first | ((first | with_reducible apply aF | with_reducible apply aG);(focus (first | with_reducible rfl | (simp only [aE,aC,aD,Nat.zero_add,Nat.add_zero,Bool.not_true,Bool.not_false,decide_true,decide_false,reduceIte,and_self,Bool.false_eq_true,hb,g1,lx,g2,bQ,hd,g4,QW,a2] <;>with_reducible rfl)))) | with_reducible apply aH | with_reducible apply aI))
   exact fin
theorem ahW {v:aa} (h:∃xs,Sl H 1 v xs∧xs.length≤maxLen∧ ∀x∈xs,Wf H (.str .nil) x):∃L:List aQ,Sl H 1 v (L.map fun s=>[.str s]):=by
 obtain ⟨xs,h1,h2,h3⟩:=h
 obtain ⟨l,hl,hq⟩:=Ck (α:=aQ) (Q:=fun x a=>x=[.str a]) (fun x hx=>by
  obtain ⟨s,_,rfl,_,rfl⟩:=hx
  exact ⟨s,rfl⟩) h3
 refine ⟨l,?_⟩
 rw [←Cl (enc:=fun s:aQ=>[.str s]) hl fun i x a e1 e2=>hq i x a e1 e2];exact h1
theorem ahY (H:ah) (xs:List aa) (k:aO base H) (h:oU H [(false,.slice zi .nil),(false,.slice (.str .nil) .nil),(false,.int .u8 .nil),(true,QL)] xs):∃n,isTrue (run ap n H.next 4 xs H)=true:=by
 obtain ⟨a0,_,rfl,h0,a1,_,rfl,h1,a2,_,rfl,h2,a3,_,rfl,h3,rfl⟩:=h
 simp only [Bool.false_eq_true,if_false,if_true] at h0 h1 h2 h3
 obtain ⟨x0,_,e0,_,w0,rfl⟩:=h0
 simp only [List.cons.injEq,and_true] at e0
 subst e0
 obtain ⟨bs,b1,b2⟩:=QZ w0
 obtain ⟨x1,_,e1,_,w1,rfl⟩:=h1
 simp only [List.cons.injEq,and_true] at e1
 subst e1
 obtain ⟨L,A2⟩:=ahW w1
 obtain ⟨x2,_,e2,w2,rfl⟩:=h2
 simp only [List.cons.injEq,and_true] at e2
 subst e2
 have hx:=lV w2
 obtain ⟨cs,rfl,hc⟩:=h3
 obtain ⟨ks,ts,keep,aA,rfl,s1,s2,o1,o2,k1,k2⟩:=aeb hc
 obtain ⟨z,rfl⟩:∃z:Nat,x2=(z:Int):=⟨x2.toNat,by omega⟩
 exact ⟨_,adY (counts (n:=2000000) (bI:=z) b1 b2 A2 (by omega) s1 s2 o1 o2 k1 k2 (Nat.le_refl _))⟩
end
end Go.Proofs.YtfigbgjbaohglaaGreatDoor.bP
end
