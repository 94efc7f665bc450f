/- Parts of the proof. -/
import Derived.Test.YtfigbgjbaohglaaGreatDoorY7
import Derived.Test.YtfigbgjbaohglaaGreatDoorY16
import Derived.Test.YtfigbgjbaohglaaGreatDoorY8
section
set_option maxRecDepth 100000
set_option linter.unusedVariables false
set_option linter.unusedSimpArgs false
namespace Go.Proofs.YtfigbgjbaohglaaGreatDoor.bP
open Go.au Go.au.Wl
theorem Cp:cj.length=256:=by unfold cj;simp
section
variable {H:ah} {b m tb lb x0 bl snap u:Nat} {ks ts:aa} {keep aA:List Int}
def md (b m lb c:Nat):Prop:=(c=b∨c=m)∨c=lb
structure Ib (H:ah) (ks ts:aa) (keep aA:List Int):Prop where
 s1:Sl H 1 ks (encI keep)
 s2:Sl H 1 ts (encI aA)
 o1:ks.one=true
 o2:ts.one=true
 i1:∀y∈keep,iw y
 i2:∀y∈aA,iw y
 l1:keep.length≤60
 l2:aA.length≤60
theorem QN {n lim N K:Nat} {tv wv:aa} {told whole pre:List bD} {s:Nat} {o:Bool} {G:ah} (hc:Ib H ks ts keep aA) (k0:aO H G) (hlim:lim≤H.next) (hb:H.next≤b) (hm:H.next≤m) (hn:2000000≤n)
  (hd:bN (md b m lb) G b m (one eL (dh (aX cj) bl snap pre) s o u)) (hD:bV K (one eL (dh (aX cj) bl snap pre) s o u)) (hK:K≤1500000) (cT:G.cells tb=some (cJ cj)) (cX:G.cells x0=some [ks,ts]) (nV:¬cM b m tb) (vc:¬cM b m x0)
  (hs:snap <18446744073709551616) (hg:∀r∈pre,gR r) (ht:told <+:pre) (hw:pre <+:whole) (h1:told.length+1≤s) (h2:s≤pre.length+1) (rX:bl≤told.length) (I0:whole.length≤1000000)
  (Cq:Sl G 16 tv (told.map aR)) (Ic:Sl G 16 wv (whole.map aR)) (b1:∀c,bC tv=some c→ ¬cM b m c) (b2:∀c,bC wv=some c→ ¬cM b m c):
  AT (au.runT ap (n+12)) lim N (fun v _=>v= .bool true) (.int .u64 (snap:Int)) (ptr x0) (ptr b) (ptr tb) tv wv G:=by
 unfold AT
 have dU:=ht.length_le
 have hpw:=hw.length_le
 have hl1:=hc.l1;have hl2:=hc.l2
 obtain ⟨_,LX,g1,h94,f94⟩:=adN (n:=n+9) (lim:=lim) hd hD (by omega) (.inl (.inl rfl)) (.inl (.inr rfl)) (by omega) (by omega) (by omega) hc.s1 hc.s2 hb hm k0 hc.o1 hc.o2 hc.i1 hc.i2 (by omega) (by omega)
 obtain ⟨_,Fh,g2,h96,f96⟩:=adA (n:=n+10) (lim:=lim) h94 (.inl (.inl rfl)) (by omega)
 have f2:=f94.trans f96 (fun c _ e=>e)
 have n2:=f2.next
 have n0:=k0.next
 have hDc:=PX (PZ hD keep aA)
 obtain ⟨r,uD,g3,QO,sv,bv,rfl,Cr,b98⟩:=adX (n:=n+2) (lim:=lim) (tb:=tb) (T:=cj) h96 hDc (by omega) HR (f2.cells cT nV) Cp (by omega) (by omega) (by omega)
 obtain ⟨aN,e,p1,p2⟩:=aea (S:=aX cj) (n:=eL) (u:=u) (o:=o) (by omega) hs hg ht hw h1 h2 rX keep aA
 rw [e] at g3 Cr
 dsimp only at g3 Cr
 have p1l:=p1.length_le
 have p2l:=p2.length_le
 have a9:aB G (some 2) (.ptr (some (x0,0)))=some (.agg [ks,ts]):=kX cX rfl
 have t98:=(Cq.frame f2 b1).keep QO
 have w98:=(Ic.frame f2 b2).keep QO
 have g4:=QH (n:=n+10) (lim:=lim) t98 Cr.sl (by omega) (by omega) (by omega)
 have g5:=QH (n:=n+10) (lim:=lim) Cr.sl w98 (by omega) (by omega) (by omega)
 rw [dT p1] at g4
 rw [dT p2] at g5
 have tu:sC lim [] uD=some (.bool true,uD):=rfl
 have g3:au.runT ap (n+12) lim (.fn 26) [ptr b,ptr tb,.int .u64 7] Fh=some (.bq [.int .u64 (snap:Int),sv,.bool true,.int .i64 0],uD):=g3
 have oz:((0:Int)==0)=true:=rfl
 have hss:((snap:Int)==(snap:Int))=true:=by simp
 (repeat (first | ((first | with_reducible apply aF | with_reducible apply aG);(focus (first | with_reducible rfl | (simp only [aE,aC,aD,Nat.zero_add,Nat.add_zero,Bool.not_true,Bool.not_false,decide_true,decide_false,reduceIte,and_self,Bool.false_eq_true,a9,g1,g2,g3,oz,hss,g4,g5,xQ,tu] <;>with_reducible rfl)))) | with_reducible apply aH | with_reducible apply aI))
 exact rfl
theorem aed {lim:Nat} {G:ah} {xv yv:aa} {xs ys:List bD} (hlim:lim≤G.next) (hx:Sl G 16 xv (xs.map aR)) (hy:Sl G 16 yv (ys.map aR)) (hl:xs.length+ys.length≤1000000):
  ∃v1 H1 v2 H2,fO lim (G.push (.cells [])) cV 72 false (.sl (some (G.next,0)) 0 (.ex 0)) xv=some (v1,H1)∧fO lim H1 cV 72 false v1 yv=some (v2,H2)∧aO G H2∧Sl H2 16 v2 ((xs++ys).map aR)∧ ∀c,bC v2=some c→G.next≤c:=by
 have k1:aO G (G.push (.cells [])):= .push _ _
 have n1:(G.push (.cells [])).next=G.next+1:=ah.bK _ _
 have aee:Own (G.push (.cells [])) 16 (.sl (some (G.next,0)) 0 (.ex 0)) (([]:List bD).map aR) G.next:=⟨fun _ h=>by simp at h,.inr (.inl ⟨0,[],rfl,rfl,ct _ _,Nat.le_refl _⟩)⟩
 have each:∀(xs:List bD),∀y∈xs.map aR,y.length=16∧y.all (·.one)=true:=fun xs y hy=>by
  obtain ⟨r,_,rfl⟩:=List.mem_map.1 hy
  exact ⟨rfl,rfl⟩
 obtain ⟨v1,H1,Ie,p1,p2,p3,p4,p5⟩:=uP (lim:=lim) (bytes:=72) (zero:=cV) aee rfl (by decide) (Sl.source (hx.keep k1)) (each _) (by simp only [List.length_map,List.length_nil,room];omega) (by simp only [List.length_map,List.length_nil,room];omega) (fun e=>by omega)
 have gl:bC v1=some Ie→G.next≤Ie:=fun _=>by
  rcases p4 with ⟨rfl,_⟩ | h
  ·exact Nat.le_refl _
  ·omega
 have k2:aO G H1:=bu.keeps k1 p3 fun c hc e=>by simp [bC] at e;omega
 have e1:([]:List bD).map aR++xs.map aR=xs.map aR:=rfl
 rw [e1] at p2
 obtain ⟨v2,H2,bv2,q1,q2,q3,q4,q5⟩:=uP (lim:=lim) (bytes:=72) (zero:=cV) p2 rfl (by decide) (Sl.source (hy.keep k2)) (each _) (by simp only [List.length_map,room];omega) (by simp only [List.length_map,room];omega) (fun e=>by have:=gl e;omega)
 refine ⟨v1,H1,v2,H2,p1,q1,bu.keeps k2 q3 fun c hc e=> ?_,by rw [List.map_append];exact q2.sl,fun c e=> ?_⟩
 ·have hb:=p2.blk c e
  subst hb
  have:=gl e
  omega
 ·have hb:=q2.blk c e
  subst hb
  rcases q4 with ⟨h,h' | h'⟩ | h
  ·rw [h']  at *
   have hne:c=Ie:=h
   subst hne
   rcases p4 with ⟨h,_⟩ | h <;>omega
  ·exact h'.elim
  ·have:=k2.next;omega
def zf (r:bD):Prop:=r.e.body.length≤200→r.ok
structure Ig (H:ah) (v:aa) (L:List (List bD)):Prop where
 ex:∃vs:List aa,Sl H 1 v (vs.map fun s=>[s])∧vs.length=L.length∧ ∀(i:Nat) s l,vs[i]? =some s→L[i]? =some l→Sl H 16 s (l.map aR)
 ok:∀l∈L,∀r∈l,zf r
set_option maxHeartbeats 4000000 in
theorem QS {n lim N:Nat} {v:aa} {L:List (List bD)} {Hs:ah} (hc:Ib H ks ts keep aA) (hA:Ig H v L) (hL:L.length≤20) (hlim:lim≤H.next) (hb:H.next≤b) (hm:H.next≤m) (hlb:H.next≤lb) (hn:2000000≤n) (Ih:aO H Hs)
  (QT:∀c,md b m lb c→c <Hs.next) (cT:Hs.cells tb=some (cJ cj)) (cX:Hs.cells x0=some [ks,ts]) (nV:¬md b m lb tb) (vc:¬md b m lb x0) (QU:¬cM b m lb) (hs:snap <18446744073709551616):
  ∀(j i:Nat) (G:ah) (told:List bD) (u K1:Nat) (fM:Int) (tv wv:aa),L.length <j+i→i≤L.length→bu (md b m lb) Hs G→
   bN (md b m lb) G b m (one eL (dh (aX cj) bl snap told) (told.length+1) false u)→bV K1 (one eL (dh (aX cj) bl snap told) (told.length+1) false u)→K1+(L.length - i) * 50000≤1500000→
   G.cells lb=some (jE b tb 7 fM)→(-100000≤fM∧fM+((L.length - i) * 41:Nat)≤100000)→(∀r∈told,gR r)→bl≤told.length→told.length+(L.length - i) * 41≤100000→
   Sl G 16 tv (told.map aR)→Sl G 16 wv (told.map aR)→(∀c,bC tv=some c→ ¬md b m lb c)→(∀c,bC wv=some c→ ¬md b m lb c)→
   mK (au.runT ap (n+12)) lim N (fun v _=>v= .bool true) j (.int .u64 (snap:Int)) v (ptr x0) (ptr b) (ptr tb) tv (ptr lb) wv (.int .i64 (i:Int)) G
 | 0,i,_,_,_,_,_,_,_,h,h',_,_,_,_,_,_,_,_,_,_,_,_,_=>by exfalso;omega
 | j+1,i,G,told,u,K1,fM,tv,wv,hj,hi,fr,hd,hD,zc,cL,HU,hg,rX,pS,Cq,Ic,b1,b2=>by
  show mJ _ _ _ _ (mK _ _ _ _ j) _ _ _ _ _ _ _ _ _ _
  have kG:aO H G:=bu.keeps Ih fr fun c fm e=>by rcases e with (e | e) | e <;>omega
  have nG:=kG.next
  obtain ⟨vs,hvs,hvl,tU⟩:=hA.ex
  have bQ:bh false v=some (.int .i64 (L.length:Int)):=by rw [hvs.len,List.length_map,hvl]
  have pV:∀c,¬md b m lb c→ ¬cM b m c:=fun c h e=>h (.inl e)
  by_cases hil:i <L.length
  rotate_left
  ·have jr:decide ((i:Int) <(L.length:Int))=false:=dF (by omega)
   unfold mJ
   (repeat (first | ((first | with_reducible apply aF | with_reducible apply aG);(focus (first | with_reducible rfl | (simp only [aE,aC,aD,Nat.zero_add,Nat.add_zero,Bool.not_true,Bool.not_false,decide_true,decide_false,reduceIte,and_self,Bool.false_eq_true,bQ,jr] <;>with_reducible rfl)))) | with_reducible apply aH | with_reducible apply aI))
   exact QN (bl:=bl) hc kG hlim hb hm hn hd hD (by omega) (fr.cells cT nV) (fr.cells cX vc) (pV _ nV) (pV _ vc) hs hg (List.prefix_refl _) (List.prefix_refl _) (Nat.le_refl _) (Nat.le_refl _) rX (by omega) Cq Ic (fun c e=>pV _ (b1 c e)) (fun c e=>pV _ (b2 c e))
  have jr:decide ((i:Int) <(L.length:Int))=true:=dT (by omega)
  have hl:L[i]? =some L[i]:=List.getElem?_eq_getElem hil
  have hv:vs[i]? =some (vs[i]'(by omega)):=List.getElem?_eq_getElem (by omega)
  have hlo:=hA.ok L[i] (List.getElem_mem hil)
  generalize L[i]=l at hl hlo
  generalize vs[i]'(by omega)=s at hv
  have eM:=tU i s l hv hl
  obtain ⟨p,hp,kS⟩:=uR hvs (i:=i) (x:=s) (by rw [List.getElem?_map,hv];rfl)
  have u7:=yD kG kS
  obtain ⟨_,AZ,g1,aef,gt,rfl,hgt⟩:=QJ (n:=n+11) (lim:=lim) (eM.keep kG) (by omega)
  rw [aef] at g1
  have tu:sC lim [] G=some (.bool true,G):=rfl
  cases gt with
  | true=>
   unfold mJ
   (repeat (first | ((first | with_reducible apply aF | with_reducible apply aG);(focus (first | with_reducible rfl | (simp only [aE,aC,aD,Nat.zero_add,Nat.add_zero,Bool.not_true,Bool.not_false,decide_true,decide_false,reduceIte,and_self,Bool.false_eq_true,bQ,jr,hp,u7,g1,xQ,tu] <;>with_reducible rfl)))) | with_reducible apply aH | with_reducible apply aI))
   exact rfl
  | false=>
   obtain ⟨Ii,tA⟩:=hgt rfl
   obtain ⟨mv,Fu,g2,zg,bv,om,bm⟩:=QD (n:=n+8) (lim:=lim) (eM.keep kG) (fun r hr=>hlo r hr (tA r hr)) (by omega) (by omega) (by omega) (by omega)
   have k9:∀r∈l.filter dJ,gR r:=fun r hr=>by
    obtain ⟨h1,h2⟩:=List.mem_filter.1 hr
    exact ⟨h2,hlo r h1 (tA r h1),tA r h1⟩
   have hml:(l.filter dJ).length≤40:=Nat.le_trans (List.length_filter_le _ _) Ii
   generalize l.filter dJ=more at om k9 hml
   have n136:=zg.next
   have ve:∀c,md b m lb c→c <G.next:=fun c e=>by have:=QT c e;have:=fr.next;omega
   have hbG:=ve b (.inl (.inl rfl))
   have hmG:=ve m (.inl (.inr rfl))
   have hlG:=ve lb (.inr rfl)
   have ahi:=HU
   have wE:(L.length - i)=(L.length - (i+1))+1:=by omega
   rw [wE,Nat.succ_mul] at zc pS HU
   have hk5:K1+50000≤1500000:=Nat.le_trans (Nat.add_le_add_left (Nat.le_add_left _ _) K1) zc
   have hk:K1≤1500000:=Nat.le_trans (Nat.le_add_right _ _) zc
   have c1:K1+more.length * 2000000≤1000000000000:=Nat.le_trans (Nat.add_le_add hk (Nat.mul_le_mul_right 2000000 hml)) (by decide)
   have c2:1000040≤n+2:=Nat.le_trans (by decide) (Nat.le_trans hn (Nat.le_add_right n 2))
   have c3:more.length <n+2:=by omega
   have c4: -1000000000≤fM∧fM≤1000000000:=by omega
   have c5:lim≤Fu.next:=by omega
   obtain ⟨_,uI,g3,rfl,aeg,f138,c138⟩:=adR (n:=n+2) (lim:=lim) (K:=K1) (tb:=tb) (T:=cj) (hd.keep zg) hD (.inl (.inl rfl)) (.inl (.inr rfl)) (.inr rfl) (by omega) (by omega) (by omega) (fun c e=>by have:=ve c e;omega) HR om.sl (fun r hr=>(k9 r hr).rA) (zg.cells (fr.cells cT nV)) Cp (zg.cells cL) (pV _ nV) QU (fun e=>nV (.inr e)) c1 c2 c3 c4 c5
   have n138:=f138.next
   have QV:bu (md b m lb) G uI:=(bu.of (S:=md b m lb) zg).trans f138 (fun c _ e=>e)
   have hmb:∀c,bC mv=some c→ ¬md b m lb c:=fun c fm e=>by
    have hb':=om.blk c fm
    subst hb'
    have:=(bm fm).1
    have:=ve _ e
    omega
   have aeh:Sl uI 16 mv (more.map aR):=om.sl.frame f138 hmb
   have t138:Sl uI 16 tv (told.map aR):=Cq.frame QV b1
   obtain ⟨v1,L6,v2,qK,a1,a2,zh,Ij,aei⟩:=aed (lim:=lim) (by omega) t138 aeh (by omega)
   have QW:cU [] []=some []:=rfl
   have n144:=zh.next
   have f144:bu (md b m lb) Hs qK:=(fr.trans QV (fun c _ e=>e)).keeps' zh
   have vf:=aeg.keep zh
   have Cs:=zh.cells c138
   have oM:∀c,bC v2=some c→ ¬md b m lb c:=fun c fm e=>by have:=aei c fm;have:=ve c e;omega
   have aej:=t138.keep zh
   have QX:∀r∈told++more,gR r:=fun r hr=>by
    rcases List.mem_append.1 hr with h | h
    ·exact hg r h
    ·exact k9 r h
   have tq:nT (aX cj) eL (one eL (dh (aX cj) bl snap told) (told.length+1) false u) more=if more=[] then (0,one eL (dh (aX cj) bl snap told) (told.length+1) false u) else laid eL (dh (aX cj) bl snap told) (told.length+1) u (more.map fun r=>cA (aX cj) (bM r)):=by
    unfold nT
    rw [if_neg (by simp [one]),Cn k9,if_neg (by simp)]
    split
    ·rfl
    ·exact HC Qo _ _ _ _ (QK _ _)
   have vg:bV (K1+50000) (nT (aX cj) eL (one eL (dh (aX cj) bl snap told) (told.length+1) false u) more).2:=by
    unfold nT
    rw [if_neg (by simp [one]),Cn k9,if_neg (by simp)]
    split
    ·exact hD.mono (by omega)
    ·refine (HZ (B:=500) _ K1 _ hD ?_).mono (by rw [List.length_map];omega)
     intro r hr
     obtain ⟨x,hx,rfl⟩:=List.mem_map.1 hr
     exact (k9 x hx).row _
   have Ik:∀u',nT (aX cj) eL (one eL (dh (aX cj) bl snap told) (told.length+1) false u) more=(0,one eL (dh (aX cj) bl snap (told++more)) ((told++more).length+1) false u')→
     mJ (au.runT ap (n+12)) lim N (fun v _=>v= .bool true) (mK (au.runT ap (n+12)) lim N (fun v _=>v= .bool true) j) (.int .u64 (snap:Int)) v (ptr x0) (ptr b) (ptr tb) tv (ptr lb) wv (.int .i64 (i:Int)) G:=by
    intro u' e
    rw [e] at g3 vf vg Cs
    dsimp only at g3 vf vg Cs
    rw [if_pos rfl] at Cs
    have q7:((0:Int)==7)=false:=rfl
    have hi1:IntKind.i64.wrap ((i:Int)+1)=((i+1:Nat):Int):=iR (by omega)
    unfold mJ
    (repeat (first | ((first | with_reducible apply aF | with_reducible apply aG);(focus (first | with_reducible rfl | (simp only [aE,aC,aD,Nat.zero_add,Nat.add_zero,Bool.not_true,Bool.not_false,decide_true,decide_false,reduceIte,and_self,Bool.false_eq_true,bQ,jr,hp,u7,g1,g2,g3,QW,a1,a2,q7,fq,hi1] <;>with_reducible rfl)))) | with_reducible apply aH | with_reducible apply aI))
    refine QS hc hA hL hlim hb hm hlb hn Ih QT cT cX nV vc QU hs j (i+1) qK (told++more) u' (K1+50000) _ v2 v2 (by omega) (by omega) f144 vf vg (by omega) Cs ⟨by omega,by omega⟩ QX (by rw [List.length_append];omega) (by rw [List.length_append];omega) Ij Ij oM oM
   have aek:∀k s' o',nT (aX cj) eL (one eL (dh (aX cj) bl snap told) (told.length+1) false u) more=(7,one eL (dh (aX cj) bl snap (told++more.take k)) (told.length+1) o' s')→
     mJ (au.runT ap (n+12)) lim N (fun v _=>v= .bool true) (mK (au.runT ap (n+12)) lim N (fun v _=>v= .bool true) j) (.int .u64 (snap:Int)) v (ptr x0) (ptr b) (ptr tb) tv (ptr lb) wv (.int .i64 (i:Int)) G:=by
    intro k u' o' e
    rw [e] at g3 vf vg
    dsimp only at g3 vf vg
    have q7:((7:Int)==7)=true:=rfl
    unfold mJ
    (repeat (first | ((first | with_reducible apply aF | with_reducible apply aG);(focus (first | with_reducible rfl | (simp only [aE,aC,aD,Nat.zero_add,Nat.add_zero,Bool.not_true,Bool.not_false,decide_true,decide_false,reduceIte,and_self,Bool.false_eq_true,bQ,jr,hp,u7,g1,g2,g3,QW,a1,a2,q7] <;>with_reducible rfl)))) | with_reducible apply aH | with_reducible apply aI))
    have hpre:told++more.take k <+:told++more:=(List.prefix_append_right_inj told).2 (List.take_prefix k more)
    exact QN (bl:=bl) (pre:=told++more.take k) (whole:=told++more) hc (bu.keeps Ih f144 fun c fm e=>by rcases e with (e | e) | e <;>omega) hlim hb hm hn vf vg hk5 (f144.cells cT nV) (f144.cells cX vc) (pV _ nV) (pV _ vc) hs (fun r hr=>QX r (hpre.subset hr)) (List.prefix_append _ _) hpre (Nat.le_refl _) (by rw [List.length_append];omega) rX (by rw [List.length_append];omega) (aej) Ij (fun c e=>pV _ (b1 c e)) (fun c e=>pV _ (oM c e))
   show mJ _ _ _ _ (mK _ _ _ _ j) _ _ _ _ _ _ _ _ _ _
   by_cases hme:more=[]
   ·subst hme
    refine Ik u ?_
    rw [tq,if_pos rfl];simp
   ·rw [if_neg hme] at tq
    by_cases Il:u=0
    ·refine Ik 0 ?_
     rw [tq];unfold laid
     rw [if_pos Il,Ia,u9]
    ·by_cases rM:(more.map fun r=>cA (aX cj) (bM r)).length+1 <u
     ·refine Ik (u - ((more.map fun r=>cA (aX cj) (bM r)).length+1)) ?_
      rw [tq];unfold laid
      rw [if_neg Il,if_pos rM,Ia,u9]
     ·refine aek (u - 1) 0 true ?_
      rw [tq];unfold laid
      rw [if_neg Il,if_neg rM,←List.map_take,Ia]
def ael:Ty:= .int .u64 (.int .u64 (.int .u8 (.int .u8 (.int .u8 (.int .u8 (.int .u8 (.int .u8 (.int .u8 (.int .u8 (.int .u8 (.int .u8 (.str .nil))))))))))))
def zi:Ty:= .int .u8 (.int .u64 (.int .u8 ael))
theorem aem {x:List aa} (h:Wf H zi x):∃r:bD,x=aR r∧zf r:=by
 obtain ⟨k,_,rfl,hk,t,_,rfl,ht,v,_,rfl,hv,i,_,rfl,hi,t2,_,rfl,ht2,k2,_,rfl,hk2,s,_,rfl,hs,a0,_,rfl,h0,a1,_,rfl,h1,a2,_,rfl,h2,a3,_,rfl,h3,a4,_,rfl,h4,a5,_,rfl,h5,a6,_,rfl,h6,a7,_,rfl,h7,bd,_,rfl,hbd,rfl⟩:=h
 have:=lV hk;have:=Cj ht;have:=lV hv;have:=Cj hi;have:=Cj ht2;have:=lV hk2;have:=lV hs
 have:=lV h0;have:=lV h1;have:=lV h2;have:=lV h3;have:=lV h4;have:=lV h5;have:=lV h6;have:=lV h7
 have g:∀a:Int,0≤a∧a≤255→(((UInt8.ofNat a.toNat).toNat:Nat):Int)=a:=fun a ha=>by
  rw [UInt8.toNat_ofNat',Nat.mod_eq_of_lt (by omega)];omega
 have z:∀a:Int,0≤a→((a.toNat:Nat):Int)=a:=fun a ha=>by omega
 refine ⟨⟨k.toNat,t.toNat,v.toNat,⟨i.toNat,t2.toNat,k2.toNat,s.toNat,UInt8.ofNat a0.toNat,UInt8.ofNat a1.toNat,UInt8.ofNat a2.toNat,UInt8.ofNat a3.toNat,UInt8.ofNat a4.toNat,UInt8.ofNat a5.toNat,UInt8.ofNat a6.toNat,UInt8.ofNat a7.toNat,bd⟩⟩,?_,?_⟩
 ·simp only [aR,br]
  rw [g a0 (by assumption),g a1 (by assumption),g a2 (by assumption),g a3 (by assumption),g a4 (by assumption),g a5 (by assumption),g a6 (by assumption),g a7 (by assumption),z k (by omega),z t (by omega),z v (by omega),z i (by omega),z t2 (by omega),z k2 (by omega),z s (by omega)]
 ·intro QY
  have QY:bd.length≤200:=QY
  exact ⟨by show k.toNat <256;omega,by show t.toNat <18446744073709551616;omega,by show v.toNat <256;omega,⟨by show i.toNat <18446744073709551616;omega,by show t2.toNat <18446744073709551616;omega,by show k2.toNat <256;omega,by show s.toNat <256;omega,by show bd.length≤140737488355328;omega⟩⟩
theorem QZ {v:aa} (h:∃xs,Sl H 16 v xs∧xs.length≤maxLen∧ ∀x∈xs,Wf H zi x):∃rs:List bD,Sl H 16 v (rs.map aR)∧ ∀r∈rs,zf r:=by
 obtain ⟨xs,h1,h2,h3⟩:=h
 obtain ⟨l,hl,hq⟩:=Ck (fun x hx=>aem hx) h3
 refine ⟨l,?_,fun r hr=> ?_⟩
 ·rw [←Cl hl fun i x a e1 e2=>(hq i x a e1 e2).1];exact h1
 ·obtain ⟨i,hi,rfl⟩:=List.getElem_of_mem hr
  exact (hq i xs[i] l[i] (List.getElem?_eq_getElem (by omega)) (List.getElem?_eq_getElem hi)).2
theorem aen {v:aa} (h:∃xs,Sl H 1 v xs∧xs.length≤maxLen∧ ∀x∈xs,Wf H (.slice zi .nil) x):∃L:List (List bD),Ig H v L:=by
 obtain ⟨xs,h1,h2,h3⟩:=h
 obtain ⟨l,hl,hq⟩:=Ck (α:=aa × List bD) (Q:=fun x a=>x=[a.1]∧Sl H 16 a.1 (a.2.map aR)∧ ∀r∈a.2,zf r) (fun x hx=>by
  obtain ⟨s,_,rfl,_,hs,rfl⟩:=hx
  obtain ⟨rs,g1,g2⟩:=QZ hs
  exact ⟨(s,rs),rfl,g1,g2⟩) h3
 have e:xs=(l.map (·.1)).map fun s=>[s]:=by
  rw [List.map_map]
  exact Cl (enc:=fun a:aa × List bD=>[a.1]) hl fun i x a e1 e2=>(hq i x a e1 e2).1
 refine ⟨l.map (·.2),⟨l.map (·.1),by rw [←e];exact h1,by simp,fun i s r e1 e2=> ?_⟩,fun r hr=> ?_⟩
 ·rw [List.getElem?_map] at e1 e2
  cases oB:l[i]? with
  | none=>rw [oB] at e1;simp at e1
  | some a=>
   rw [oB] at e1 e2
   simp at e1 e2
   subst e1 e2
   have hil:=(List.getElem?_eq_some_iff.1 oB).1
   exact (hq i xs[i] a (List.getElem?_eq_getElem (by omega)) oB).2.1
 ·obtain ⟨a,ha,rfl⟩:=List.mem_map.1 hr
  obtain ⟨i,hi,rfl⟩:=List.getElem_of_mem ha
  exact (hq i xs[i] l[i] (List.getElem?_eq_getElem (by omega)) (List.getElem?_eq_getElem hi)).2.2
set_option maxHeartbeats 4000000 in
theorem aeo {n:Nat} {a1 a2:aa} {base:List bD} {L:List (List bD)} {bI:Int} (hs:snap <18446744073709551616) (gl:Sl H 16 a1 (base.map aR)) (jQ:∀r∈base,zf r) (hA:Ig H a2 L) (hf:iw bI)
  (s1:Sl H 1 ks (encI keep)) (s2:Sl H 1 ts (encI aA)) (o1:ks.one=true) (o2:ts.one=true) (i1:∀y∈keep,iw y) (i2:∀y∈aA,iw y) (hn:2000000≤n):
  ∃v H',au.runT ap (n+13) H.next (.fn 3) [.int .u64 (snap:Int),a1,a2,.int .i64 bI,.agg [ks,ts]] H=some (v,H')∧v= .bool true:=by
 refine XQ a3 ?_
 unfold F3
 have hb:(([ks,ts]:List aa).all fun v=>v.one)=true:=by simp only [List.all_cons,List.all_nil,o1,o2,Bool.and_true]
 have kx:aO H (H.push (.cells [ks,ts])):= .push _ _
 have cx:(H.push (.cells [ks,ts])).cells H.next=some [ks,ts]:=ct _ _
 have nx:(H.push (.cells [ks,ts])).next=H.next+1:=ah.bK _ _
 obtain ⟨_,H4,g1,e4,t1,rfl,wD⟩:=QJ (n:=n+11) (lim:=H.next) (gl.keep kx) (by omega)
 rw [e4] at g1
 have tu:∀G,sC H.next [] G=some (.bool true,G):=fun G=>rfl
 obtain ⟨vs,hvs,hvl,tU⟩:=hA.ex
 have bQ:bh false a2=some (.int .i64 (L.length:Int)):=by rw [hvs.len,List.length_map,hvl]
 cases t1 with
 | true=>
  (repeat (first | ((first | with_reducible apply aF | with_reducible apply aG);(focus (first | with_reducible rfl | (simp only [aE,aC,aD,Nat.zero_add,Nat.add_zero,Bool.not_true,Bool.not_false,decide_true,decide_false,reduceIte,and_self,Bool.false_eq_true,hb,g1,xQ,tu] <;>with_reducible rfl)))) | with_reducible apply aH | with_reducible apply aI))
  exact rfl
 | false=>
  obtain ⟨Ii,tA⟩:=wD rfl
  by_cases hL:20 <L.length
  ·have hd:decide ((20:Int) <(L.length:Int))=true:=dT (by omega)
   (repeat (first | ((first | with_reducible apply aF | with_reducible apply aG);(focus (first | with_reducible rfl | (simp only [aE,aC,aD,Nat.zero_add,Nat.add_zero,Bool.not_true,Bool.not_false,decide_true,decide_false,reduceIte,and_self,Bool.false_eq_true,hb,g1,bQ,hd,xQ,tu] <;>with_reducible rfl)))) | with_reducible apply aH | with_reducible apply aI))
   exact rfl
  have hd:decide ((20:Int) <(L.length:Int))=false:=dF (by omega)
  have lx:aB (H.push (.cells [ks,ts])) (some 2) (.ptr (some (H.next,0)))=some (.agg [ks,ts]):=kX cx rfl
  obtain ⟨_,dV,g2,rfl,uU,_⟩:=aec (n:=n+11) (lim:=H.next) (s1.keep kx) (s2.keep kx) o1 o2
  cases sw:Co keep aA with
  | true=>
   rw [sw] at g2
   (repeat (first | ((first | with_reducible apply aF | with_reducible apply aG);(focus (first | with_reducible rfl | (simp only [aE,aC,aD,Nat.zero_add,Nat.add_zero,Bool.not_true,Bool.not_false,decide_true,decide_false,reduceIte,and_self,Bool.false_eq_true,hb,g1,bQ,hd,lx,g2,xQ,tu] <;>with_reducible rfl)))) | with_reducible apply aH | with_reducible apply aI))
   exact rfl
  | false=>
   rw [sw] at g2
   unfold Co at sw
   simp only [Bool.or_eq_false_iff,decide_eq_false_iff_not] at sw
   have hc:Ib H ks ts keep aA:=⟨s1,s2,o1,o2,i1,i2,by omega,by omega⟩
   have aep:=kx.trans uU
   have n11:=uU.next
   obtain ⟨b,m,j5,p1,p2,Im,p4,p5,p6,p7⟩:=adB (M:=fun _=>False) (n:=n+11) (lim:=H.next) (H:=dV) (by omega)
   have n17:=Im.next
   have p2:bN (fun c=>c=b∨c=m) j5 b m jC:=⟨p2.cells,p2.map.mono rfl fun _ _ _ h=>by simp [jC] at h⟩
   obtain ⟨_,gr,g3,rfl,Io⟩:=acY (n:=n+11) (lim:=H.next) (H:=j5) (by omega) (by omega)
   have n19:=Io.next
   have st:bp H.next (gr.push (.cells mI)) 256 (.ptr (some (gr.next,0))) (.agg (cJ cj))=some (gr.push (.cells (cJ cj))):=by
    have hl:(cJ cj).length=256:=by rw [B5,Cp]
    exact wR (cs:=mI) (x:= .agg (cJ cj)) (by omega) hl rfl (PF _)
   have pP:aO gr (gr.push (.cells (cJ cj))):= .push _ _
   have n20:(gr.push (.cells (cJ cj))).next=gr.next+1:=ah.bK _ _
   have c20:(gr.push (.cells (cJ cj))).cells gr.next=some (cJ cj):=ct _ _
   generalize gr.push (.cells (cJ cj))=eO at st pP n20 c20
   have Q0:=((aep.trans Im).trans Io).trans pP
   obtain ⟨sv,fu,g4,zj,bv,ov,bvb⟩:=QD (n:=n+8) (lim:=H.next) (gl.keep Q0) (fun r hr=>jQ r hr (tA r hr)) (by omega) (by omega) (by omega) (by omega)
   have n22:=zj.next
   have k9:∀r∈base.filter dJ,gR r:=fun r hr=>by
    obtain ⟨h1,h2⟩:=List.mem_filter.1 hr
    exact ⟨h2,jQ r h1 (tA r h1),tA r h1⟩
   have hml:(base.filter dJ).length≤40:=Nat.le_trans (List.length_filter_le _ _) Ii
   generalize base.filter dJ=told at ov k9 hml
   have Q1:=(Io.trans pP).trans zj
   have hK0:0+(told.length+1) * 2000000≤1000000000:=by omega
   have c2:1000040≤n+1:=Nat.le_trans (by decide) (Nat.le_trans hn (Nat.le_add_right n 1))
   obtain ⟨r,fJ,g5,f24,Q2⟩:=adS (n:=n+1) (lim:=H.next) (K:=0) (tb:=gr.next) (T:=cj) (p2.keep Q1) PO (.inl rfl) (.inr rfl) (by omega) (by omega) (fun c e=>by rcases e with rfl | rfl <;>omega) HR ov.sl (fun r hr=>(k9 r hr).rA) (zj.cells c20) Cp (fun e=>by rcases e with e | e <;>omega) hs hK0 c2 (by omega) (by omega) (by omega)
   have n24:=f24.next
   have Q3:nU (aX cj) eL snap jC told=(0,one eL (dh (aX cj) told.length snap told) (told.length+1) false 0):=by
    unfold nU
    rw [if_neg (by simp [jC]),if_neg (by simp [jC]),Cn k9,if_neg (by simp)]
    have h0:jC=bare false 0:=rfl
    rw [h0]
    unfold dh
    rw [adg Qo (uS _ _) (QK _ _),if_neg (by decide)]
    unfold laid
    rw [if_pos rfl]
    simp
   rw [Q3] at Q2
   rcases Q2 with ⟨h,_⟩ | ⟨_,lb,rfl,cL,hlb,aer⟩
   ·exact absurd rfl h
   have aes:bV 50000 (one eL (dh (aX cj) told.length snap told) (told.length+1) false 0):=by
    have h1:=HZ (n:=eL) (B:=500) (dh (aX cj) told.length snap told) 0 jC PO (fun r hr=>by
     rcases List.mem_cons.1 hr with rfl | hr
     ·have h2:=BW (b:=told.length) (n:=snap) (by omega) hs
      have h3:=ig (n:=(fB told.length snap).length) (by omega)
      rw [yK];omega
     ·obtain ⟨x,hx,rfl⟩:=List.mem_map.1 hr
      exact (k9 x hx).row _)
    have h2:fC eL jC (dh (aX cj) told.length snap told)=nU (aX cj) eL snap jC told:=by
     unfold nU
     rw [if_neg (by simp [jC]),if_neg (by simp [jC]),Cn k9,if_neg (by simp)]
    rw [h2,Q3] at h1
    exact h1.mono (by rw [u9];omega)
   have aet:∀c,md b m lb c→c <fJ.next:=fun c e=>by
    rcases e with (rfl | rfl) | rfl
    ·omega
    ·omega
    ·exact ah.jf cL
   obtain ⟨_,j7,g6,Q4,f33⟩:=adz (n:=n+10) (lim:=H.next) (M:=md b m lb) aer (.inl (.inl rfl)) (by omega) bI
   have n33:=f33.next
   have lJ:yW (one eL (dh (aX cj) told.length snap told) (told.length+1) false 0) bI=one eL (dh (aX cj) told.length snap told) (told.length+1) false bI.toNat:=rfl
   have Q5:=PW aes (n:=bI) (by unfold iw at hf;omega)
   rw [lJ] at Q4 Q5
   have Ct:bu (cM b m) fu j7:=f24.trans f33 (fun c _ e=>e)
   have hdl:∀c,c <j5.next→c≠b→c≠m→ ¬md b m lb c:=fun c h1 h2 h3 e=>by
    rcases e with (e | e) | e <;>omega
   have k0:aO H fu:=Q0.trans zj
   have k33:aO H j7:=bu.keeps k0 Ct fun c fm e=>by rcases e with e | e <;>omega
   have ctb:j7.cells gr.next=some (cJ cj):=Ct.cells (zj.cells c20) (fun e=>by rcases e with e | e <;>omega)
   have cxx:j7.cells H.next=some [ks,ts]:=Ct.cells ((uU.trans (Im.trans Q1)).cells cx) (fun e=>by rcases e with e | e <;>omega)
   have cLL:j7.cells lb=some (jE b gr.next 7 0):=f33.cells cL (fun e=>by rcases e with e | e <;>omega)
   have qJ:∀c,bC sv=some c→ ¬md b m lb c:=fun c fm e=>by
    have hb':=ov.blk c fm
    subst hb'
    have:=bvb fm
    rcases e with (e | e) | e <;>omega
   have Q6:=ov.sl.frame Ct (fun c e=>fun h=>qJ c e (.inl h))
   have g5:au.runT ap (n+12) H.next (.fn 21) [ptr b,ptr gr.next,.int .u64 7,.int .u64 (snap:Int),sv] fu=some (.bq [ptr lb,.int .i64 0],fJ):=g5
   have fin:=QS (n:=n) (lim:=H.next) (N:=n+12) (tb:=gr.next) (x0:=H.next) (bl:=told.length) (snap:=snap) (lb:=lb) (b:=b) (m:=m) hc hA (by omega) (Nat.le_refl _) (by omega) (by omega) (by omega) hn k33 (fun c e=>by have:=aet c e;omega) ctb cxx (fun e=>by rcases e with (e | e) | e <;>omega) (fun e=>by rcases e with (e | e) | e <;>omega) (fun e=>by rcases e with e | e <;>omega) hs (n+12) 0 j7 told bI.toNat 50000 0 sv sv (by omega) (Nat.zero_le _) (.refl _ _) Q4 Q5 (by omega) cLL ⟨by omega,by omega⟩ k9 (Nat.le_refl _) (by omega) Q6 Q6 qJ qJ
   (repeat (first | ((first | with_reducible apply aF | with_reducible apply aG);(focus (first | with_reducible rfl | (simp only [aE,aC,aD,Nat.zero_add,Nat.add_zero,Bool.not_true,Bool.not_false,decide_true,decide_false,reduceIte,and_self,Bool.false_eq_true,hb,g1,bQ,hd,lx,g2,p1,g3,st,g4,g5,fq,g6] <;>with_reducible rfl)))) | with_reducible apply aH | with_reducible apply aI))
   exact fin
theorem ahj (H:ah) (xs:List aa) (k:aO base H) (h:oU H [(false,.int .u64 .nil),(false,.slice zi .nil),(false,.slice (.slice zi .nil) .nil),(false,.int .i64 .nil),(true,QL)] xs):∃n,isTrue (run ap n H.next 3 xs H)=true:=by
 obtain ⟨a0,_,rfl,h0,a1,_,rfl,h1,a2,_,rfl,h2,a3,_,rfl,h3,a4,_,rfl,h4,rfl⟩:=h
 simp only [Bool.false_eq_true,if_false,if_true] at h0 h1 h2 h3 h4
 obtain ⟨x0,_,e0,w0,rfl⟩:=h0
 simp only [List.cons.injEq,and_true] at e0
 subst e0
 have hx:=Cj w0
 obtain ⟨x1,_,e1,_,w1,rfl⟩:=h1
 simp only [List.cons.injEq,and_true] at e1
 subst e1
 obtain ⟨bs,b1,b2⟩:=QZ w1
 obtain ⟨x2,_,e2,_,w2,rfl⟩:=h2
 simp only [List.cons.injEq,and_true] at e2
 subst e2
 obtain ⟨L,A2⟩:=aen w2
 obtain ⟨x3,_,e3,w3,rfl⟩:=h3
 simp only [List.cons.injEq,and_true] at e3
 subst e3
 have hx3:=QA w3
 obtain ⟨cs,rfl,hc⟩:=h4
 obtain ⟨ks,ts,keep,aA,rfl,s1,s2,o1,o2,k1,k2⟩:=aeb hc
 obtain ⟨z,rfl⟩:∃z:Nat,x0=(z:Int):=⟨x0.toNat,by omega⟩
 exact ⟨_,adY (aeo (n:=2000000) (snap:=z) (by omega) b1 b2 A2 (by unfold iw;omega) s1 s2 o1 o2 k1 k2 (Nat.le_refl _))⟩
end
end Go.Proofs.YtfigbgjbaohglaaGreatDoor.bP
end
section
set_option maxRecDepth 100000
set_option linter.unusedVariables false
set_option linter.unusedSimpArgs false
namespace Go.Proofs.YtfigbgjbaohglaaGreatDoor.bP
open Go.au Go.au.Wl
def kN (len s:Nat) (keep:List Int):Nat:=if s <len then s+(match keep[0]? with | some x=>min x.toNat (len - s) | none=>0) else len
theorem ahE (L:List aQ) (s:Nat) (keep:List Int):lU L s keep=kN L.length s keep:=by
 unfold lU kN dL ry
 rfl
def ahy (n u:Nat) (keep:List Int):Nat:=if n=0∨u=0∨n+1 <u then n else kN u 1 keep - 1
section
variable {H:ah} {ks ts:aa} {keep aA:List Int}
theorem ahJ {n lim:Nat} (hn:300≤n) (hlim:lim≤H.next):∃b m j5 gr eO,au.runT ap (n+1) lim (.fn 18) [] H=some (ptr b,j5)∧au.runT ap (n+1) lim (.fn 19) [] j5=some (.agg (cJ cj),gr)∧
  bp lim (gr.push (.cells mI)) 256 (.ptr (some (gr.next,0))) (.agg (cJ cj))=some eO∧aO H eO∧bN (fun c=>c=b∨c=m) eO b m jC∧eO.cells gr.next=some (cJ cj)∧H.next≤b∧H.next≤m∧b <gr.next∧m <gr.next∧gr.next <eO.next∧H.next≤gr.next:=by
 obtain ⟨b,m,j5,p1,p2,Im,p4,p5,p6,p7⟩:=adB (M:=fun _=>False) (n:=n) (lim:=lim) (H:=H) hlim
 have n17:=Im.next
 have p2:bN (fun c=>c=b∨c=m) j5 b m jC:=⟨p2.cells,p2.map.mono rfl fun _ _ _ h=>by simp [jC] at h⟩
 obtain ⟨_,gr,g3,rfl,Io⟩:=acY (n:=n) (lim:=lim) (H:=j5) (by omega) (by omega)
 have n19:=Io.next
 have st:bp lim (gr.push (.cells mI)) 256 (.ptr (some (gr.next,0))) (.agg (cJ cj))=some (gr.push (.cells (cJ cj))):=by
  have hl:(cJ cj).length=256:=by rw [B5,Cp]
  exact wR (cs:=mI) (x:= .agg (cJ cj)) (by omega) hl rfl (PF _)
 have pP:aO gr (gr.push (.cells (cJ cj))):= .push _ _
 exact ⟨b,m,j5,gr,_,p1,g3,st,(Im.trans Io).trans pP,p2.keep (Io.trans pP),ct _ _,p4,p5,by omega,by omega,by rw [ah.bK];omega,by omega⟩
theorem ahK {snap:Nat} {told:List bD} (k9:∀r∈told,gR r) (u:Nat) (hu:u=0):nU (aX cj) eL snap (bare false u) told=(0,one eL (dh (aX cj) told.length snap told) (told.length+1) false 0):=by
 subst hu
 unfold nU
 rw [if_neg (by simp [bare]),if_neg (by simp [bare]),Cn k9,if_neg (by simp)]
 unfold dh
 rw [adg Qo (uS _ _) (QK _ _),if_neg (by decide)]
 unfold laid
 rw [if_pos rfl]
 simp
theorem ahL {snap:Nat} {told:List bD} (hs:snap <18446744073709551616) (hl:told.length≤1000) (k9:∀r∈told,gR r):∀r∈dh (aX cj) told.length snap told,r.length+1≤500:=fun r hr=>by
 rcases List.mem_cons.1 hr with rfl | hr
 ·have h2:=BW (b:=told.length) (n:=snap) (by omega) hs
  have h3:=ig (n:=(fB told.length snap).length) (by omega)
  rw [yK];omega
 ·obtain ⟨x,hx,rfl⟩:=List.mem_map.1 hr
  exact (k9 x hx).row _
theorem add_one {bl snap u:Nat} {told more:List bD} (k9:∀r∈more,gR r):nT (aX cj) eL (one eL (dh (aX cj) bl snap told) (told.length+1) false u) more=if more=[] then (0,one eL (dh (aX cj) bl snap told) (told.length+1) false u) else laid eL (dh (aX cj) bl snap told) (told.length+1) u (more.map fun r=>cA (aX cj) (bM r)):=by
 unfold nT
 rw [if_neg (by simp [one]),Cn k9,if_neg (by simp)]
 split
 ·rfl
 ·exact HC Qo _ _ _ _ (QK _ _)
theorem ahM {l:List bD} {u:Nat} (hg:∀r∈l,gR r) (hu:u <50):∃c pre s o u',nT (aX cj) eL (one eL (dh (aX cj) 0 0 []) 1 false u) l=(c,one eL (dh (aX cj) 0 0 pre) s o u')∧(∀r∈pre,gR r)∧1≤s∧s≤pre.length+1∧
  ((c==0)=(decide (u=0) || (decide (l.length+1 <u) || decide (l.length=0))))∧(c=0∨c=7)∧ ∀keep k,k+1=lU (dh (aX cj) 0 0 pre) s keep→pre.take k=l.take (ahy l.length u keep):=by
 have ha:=add_one (bl:=0) (snap:=0) (u:=u) (told:=[]) hg
 have e0:([]:List bD).length+1=1:=rfl
 rw [e0] at ha
 by_cases hl:l=[]
 ·subst hl
  refine ⟨0,[],1,false,u,by rw [ha,if_pos rfl],fun r h=>by simp at h,Nat.le_refl _,Nat.le_refl _,by simp,.inl rfl,fun keep k _=>by simp⟩
 have hpos:=List.length_pos_iff.2 hl
 rw [if_neg hl] at ha
 have hfull:∀u',u=0∨l.length+1 <u→nT (aX cj) eL (one eL (dh (aX cj) 0 0 []) 1 false u) l=(0,one eL (dh (aX cj) 0 0 l) (l.length+1) false u')→_:=fun u' hc e=>
  (⟨0,l,l.length+1,false,u',e,hg,by omega,Nat.le_refl _,by
   rcases hc with h | h
   ·rw [dT h];rfl
   ·rw [dT (p:=l.length+1 <u) h];simp,.inl rfl,fun keep k hk=>by
   rw [ahE,u9] at hk
   unfold kN at hk
   rw [if_neg (by omega)] at hk
   have:ahy l.length u keep=l.length:=by unfold ahy;rw [if_pos (by omega)]
   rw [this,show k=l.length by omega]⟩:∃c pre s o u',nT (aX cj) eL (one eL (dh (aX cj) 0 0 []) 1 false u) l=(c,one eL (dh (aX cj) 0 0 pre) s o u')∧(∀r∈pre,gR r)∧1≤s∧s≤pre.length+1∧
  ((c==0)=(decide (u=0) || (decide (l.length+1 <u) || decide (l.length=0))))∧(c=0∨c=7)∧ ∀keep k,k+1=lU (dh (aX cj) 0 0 pre) s keep→pre.take k=l.take (ahy l.length u keep))
 unfold laid at ha
 by_cases h0:u=0
 ·rw [if_pos h0,Ia,u9] at ha
  exact hfull 0 (.inl h0) ha
 rw [if_neg h0] at ha
 by_cases h1:(l.map fun r=>cA (aX cj) (bM r)).length+1 <u
 ·rw [if_pos h1,Ia,u9] at ha
  rw [List.length_map] at h1
  exact hfull _ (.inr h1) ha
 rw [if_neg h1,←List.map_take,Ia] at ha
 rw [List.length_map] at h1
 refine ⟨7,[]++l.take (u - 1),1,true,0,ha,fun r hr=>hg r (List.mem_of_mem_take hr),Nat.le_refl _,by omega,?_,.inr rfl,fun keep k hk=> ?_⟩
 ·rw [dF h0,dF h1,dF (p:=l.length=0) (by omega)];rfl
 ·rw [ahE,u9] at hk
  have hlen:([]++l.take (u - 1)).length+1=u:=by simp;omega
  rw [hlen] at hk
  have hn:ahy l.length u keep=k:=by unfold ahy;rw [if_neg (by omega),←hk];rfl
  rw [hn]
  have sj:kN u 1 keep≤u:=by
   unfold kN
   split
   ·split
    ·exact Nat.le_trans (Nat.add_le_add_left (Nat.min_le_right _ _) 1) (by omega)
    ·omega
   ·exact Nat.le_refl _
  rw [List.nil_append,List.take_take,Nat.min_eq_left (by omega)]
set_option maxHeartbeats 4000000 in
theorem ahF {n lim bI:Nat} {lv:aa} {l:List bD} {H0:ah} (hc:Ib H0 ks ts keep aA) (k00:aO H0 H) (hlim:lim≤H.next) (hv:Sl H 16 lv (l.map aR)) (hg:∀r∈l,gR r) (hl:l.length≤40) (hf:bI <256) (hn:2000000≤n):
  ∃v H',au.runT ap (n+13) lim (.fn 28) [lv,.int .u8 (bI:Int),.agg [ks,ts]] H=some (v,H')∧aO H H'∧ ∃sv bv,v= .bq [sv,.bool true]∧Own H' 16 sv ((l.take (ahy l.length (bI % 50) keep)).map aR) bv∧(bC sv=some bv→H.next≤bv∧bv <H'.next):=by
 refine agF a28 ?_
 unfold MW
 have hb:(([ks,ts]:List aa).all fun v=>v.one)=true:=by simp only [List.all_cons,List.all_nil,hc.o1,hc.o2,Bool.and_true]
 have hl1:=hc.l1;have hl2:=hc.l2
 have kx:aO H (H.push (.cells [ks,ts])):= .push _ _
 have cx:(H.push (.cells [ks,ts])).cells H.next=some [ks,ts]:=ct _ _
 have nx:(H.push (.cells [ks,ts])).next=H.next+1:=ah.bK _ _
 generalize hHx:H.push (.cells [ks,ts])=Hx at *
 obtain ⟨b,m,j5,gr,eO,p1,p2,p3,pP,d20,c20,p7,p8,p9,p10,p11,p12⟩:=ahJ (n:=n+11) (lim:=lim) (H:=Hx) (by omega) (by omega)
 have ahG:=kx.trans pP
 have nk:=pP.next
 have mg:Sl eO 16 (.sl none 0 (.ex 0)) (([]:List bD).map aR):=Sl.nil _ _
 have c2:1000040≤n+1:=Nat.le_trans (by decide) (Nat.le_trans hn (Nat.le_add_right n 1))
 obtain ⟨r,fJ,g5,f24,Q2⟩:=adS (n:=n+1) (lim:=lim) (K:=0) (snap:=0) (tb:=gr.next) (T:=cj) d20 PO (.inl rfl) (.inr rfl) (by omega) (by omega) (fun c e=>by rcases e with rfl | rfl <;>omega) HR mg (fun r hr=>by simp at hr) c20 Cp (fun e=>by rcases e with e | e <;>omega) (by decide) (by decide) c2 (by omega) (by simp;omega) (by omega)
 have n24:=f24.next
 have Q3:nU (aX cj) eL 0 jC []=(0,one eL (dh (aX cj) 0 0 []) 1 false 0):=ahK (snap:=0) (told:=[]) (fun r hr=>by simp at hr) 0 rfl
 rw [Q3] at Q2
 rcases Q2 with ⟨h,_⟩ | ⟨_,lb,rfl,cL,hlb,aer⟩
 ·exact absurd rfl h
 have aes:bV 1000 (one eL (dh (aX cj) 0 0 []) 1 false 0):=by
  have h1:=HZ (n:=eL) (B:=500) (dh (aX cj) 0 0 []) 0 jC PO (ahL (told:=[]) (snap:=0) (by decide) (by decide) (fun r hr=>by simp at hr))
  have h2:fC eL jC (dh (aX cj) 0 0 [])=nU (aX cj) eL 0 jC []:=by
   unfold nU
   rw [if_neg (by simp [jC]),if_neg (by simp [jC]),if_neg (by simp)];rfl
  rw [h2,Q3] at h1
  exact h1.mono (by rw [u9];simp)
 have aet:∀c,md b m lb c→c <fJ.next:=fun c e=>by
  rcases e with (rfl | rfl) | rfl
  ·omega
  ·omega
  ·exact ah.jf cL
 have Qj:av .rem (.int .u8 (bI:Int)) (.int .u8 50)=some (.int .u8 ((bI % 50:Nat):Int)):=by
  refine (J0 (k:= .u8) (a:=(bI:Int)) (b:=50) (by decide)).trans ?_
  have:((bI:Nat):Int).tmod 50=((bI % 50:Nat):Int):=by rw [Int.tmod_eq_emod_of_nonneg (by omega)];omega
  rw [this]
 have ahN:bI % 50 <50:=Nat.mod_lt _ (by decide)
 have q0:(((bI % 50:Nat):Int)==0)=decide (bI % 50=0):=ieq _ 0
 generalize bI % 50=u at *
 have wu:IntKind.i64.wrap (u:Int)=(u:Int):=wrap_i64 (by omega) (by omega)
 obtain ⟨_,j7,g6,Q4,f33⟩:=adz (n:=n+10) (lim:=lim) (M:=md b m lb) aer (.inl (.inl rfl)) (by omega) (u:Int)
 have n33:=f33.next
 have lJ:yW (one eL (dh (aX cj) 0 0 []) 1 false 0) (u:Int)=one eL (dh (aX cj) 0 0 []) 1 false u:=rfl
 have Q5:=PW aes (n:=(u:Int)) (by omega)
 rw [lJ] at Q4 Q5
 have ahH:bu (cM b m) eO j7:=f24.trans f33 (fun c _ e=>e)
 have hd0:∀c,c <Hx.next→ ¬cM b m c:=fun c h e=>by rcases e with e | e <;>omega
 have k33:aO H j7:=bu.keeps ahG ahH fun c fm e=>hd0 c (by omega) e
 have ahA:¬cM b m gr.next:=fun e=>by rcases e with e | e <;>omega
 have QU:¬cM b m lb:=fun e=>by rcases e with e | e <;>omega
 have ctb:j7.cells gr.next=some (cJ cj):=ahH.cells c20 ahA
 have cLL:j7.cells lb=some (jE b gr.next 7 0):=f33.cells cL QU
 have hc1:1000+l.length * 2000000≤1000000000000:=by omega
 have hc2:1000040≤n+2:=Nat.le_trans (by decide) (Nat.le_trans hn (Nat.le_add_right n 2))
 obtain ⟨_,fu,g7,rfl,h22,f22,Uz⟩:=adR (n:=n+2) (lim:=lim) (K:=1000) (tb:=gr.next) (T:=cj) Q4 Q5 (.inl (.inl rfl)) (.inl (.inr rfl)) (.inr rfl) (by omega) (by omega) (by omega) (fun c e=>by have:=aet c e;omega) HR (hv.keep k33) (fun r hr=>(hg r hr).rA) ctb Cp cLL ahA QU (fun e=>by omega) hc1 hc2 (by omega) (by omega) (by omega)
 obtain ⟨code,pre,s,o,u',tq,hpg,hs1,l7,ahx,ahX,ahO⟩:=ahM hg ahN
 have vg:bV 50000 (nT (aX cj) eL (one eL (dh (aX cj) 0 0 []) 1 false u) l).2:=by
  unfold nT
  rw [if_neg (by simp [one]),Cn hg,if_neg (by simp)]
  split
  ·exact Q5.mono (by omega)
  ·refine (HZ (B:=500) _ 1000 _ Q5 ?_).mono (by rw [List.length_map];omega)
   intro r hr
   obtain ⟨x,hx,rfl⟩:=List.mem_map.1 hr
   exact (hg x hx).row _
 rw [tq] at g7 h22 vg
 dsimp only at g7 h22 vg
 have n22:=f22.next
 have ahB:bu (md b m lb) eO fu:=((f24.trans f33 (fun c _ e=>e)).weaken (fun c _ e=> .inl e)).trans f22 (fun c _ e=>e)
 have nA:∀c,c <Hx.next→ ¬md b m lb c:=fun c h e=>by rcases e with (e | e) | e <;>omega
 have zj:aO H fu:=bu.keeps ahG ahB fun c fm e=>nA c (by omega) e
 have ahP:fu.cells H.next=some [ks,ts]:=ahB.cells (pP.cells cx) (nA _ (by omega))
 have ahQ:fu.cells gr.next=some (cJ cj):=ahB.cells c20 (fun e=>by rcases e with e | e;exact ahA e;omega)
 have a9:aB fu (some 2) (.ptr (some (H.next,0)))=some (.agg [ks,ts]):=kX ahP rfl
 obtain ⟨_,pg,g8,h25,f25⟩:=adN (n:=n+9) (lim:=lim) h22 vg (by omega) (.inl (.inl rfl)) (.inl (.inr rfl)) (by omega) (by omega) (by omega) hc.s1 hc.s2 (by have:=k00.next;omega) (by have:=k00.next;omega) (k00.trans zj) hc.o1 hc.o2 hc.i1 hc.i2 (by omega) (by omega)
 obtain ⟨_,gQ,g9,h27,f27⟩:=adA (n:=n+10) (lim:=lim) h25 (.inl (.inl rfl)) (by omega)
 have ahC:=f25.trans f27 (fun c _ e=>e)
 have n27:=ahC.next
 have hDc:=PX (PZ vg keep aA)
 obtain ⟨r,iP,g10,k29,sv,bv,rfl,o29,b29⟩:=adX (n:=n+2) (lim:=lim) (tb:=gr.next) (T:=cj) h27 hDc (by omega) HR (ahC.cells ahQ ahA) Cp (by omega) (by omega) (by omega)
 obtain ⟨k,_,hk2,Dx,e⟩:=ad9 (S:=aX cj) (n:=eL) (u:=u') (o:=o) (b:=0) (snap:=0) (by decide) (by decide) hpg hs1 l7 keep aA
 rw [e] at g10 o29
 dsimp only at g10 o29
 rw [ahO keep k hk2] at o29
 have ahR:aO H iP:=(bu.keeps zj ahC fun c fm e=>hd0 c (by omega) e).trans k29
 have g5:au.runT ap (n+12) lim (.fn 21) [ptr b,ptr gr.next,.int .u64 7,.int .u64 0,.sl none 0 (.ex 0)] eO=some (.bq [ptr lb,.int .i64 0],fJ):=g5
 have g10:au.runT ap (n+12) lim (.fn 26) [ptr b,ptr gr.next,.int .u64 7] gQ=some (.bq [.int .u64 0,sv,.bool (decide (0≤(pre.take k).length)),.int .i64 0],iP):=g10
 rw [dT (Nat.zero_le _)] at g10
 have bQ:bh false lv=some (.int .i64 (l.length:Int)):=by rw [hv.len,List.length_map]
 have w1:IntKind.i64.wrap ((l.length:Int)+1)=((l.length+1:Nat):Int):=iR (by omega)
 have d1:decide (((l.length+1:Nat):Int) <(u:Int))=decide (l.length+1 <u):=by rw [Bool.eq_iff_iff];simp;omega
 have d0:(((l.length:Nat):Int)==0)=decide (l.length=0):=ieq _ 0
 have bb:∀t:Bool,dZ false .bool (.bool t) (.bool t)=some (.bool true):=fun t=>by cases t <;>rfl
 have fin:aO H iP∧ ∃sv' bv,(aa.bq [sv,.bool true])= .bq [sv',.bool true]∧Own iP 16 sv' ((l.take (ahy l.length u keep)).map aR) bv∧(bC sv'=some bv→H.next≤bv∧bv <iP.next):=⟨ahR,sv,bv,rfl,o29,fun e=>⟨by have:=(b29 e).1;omega,(b29 e).2⟩⟩
 by_cases h0:u=0
 ·rw [dT h0] at q0 ahx
  simp only [Bool.true_or] at ahx
  (repeat (first | ((first | with_reducible apply aF | with_reducible apply aG);(focus (first | with_reducible rfl | (simp only [aE,aC,aD,Nat.zero_add,Nat.add_zero,Bool.not_true,Bool.not_false,decide_true,decide_false,reduceIte,and_self,Bool.false_eq_true,hb,hHx,p1,p2,p3,g5,fq,Qj,wu,g6,g7,a9,g8,g9,g10,ahx,q0,bb] <;>with_reducible rfl)))) | with_reducible apply aH | with_reducible apply aI))
  exact fin
 rw [dF h0] at q0 ahx
 by_cases h1:l.length+1 <u
 ·rw [dT h1] at d1 ahx
  simp only [Bool.false_or,Bool.true_or] at ahx
  (repeat (first | ((first | with_reducible apply aF | with_reducible apply aG);(focus (first | with_reducible rfl | (simp only [aE,aC,aD,Nat.zero_add,Nat.add_zero,Bool.not_true,Bool.not_false,decide_true,decide_false,reduceIte,and_self,Bool.false_eq_true,hb,hHx,p1,p2,p3,g5,fq,Qj,wu,g6,g7,a9,g8,g9,g10,ahx,q0,bQ,w1,d1,bb] <;>with_reducible rfl)))) | with_reducible apply aH | with_reducible apply aI))
  exact fin
 rw [dF h1] at d1 ahx
 simp only [Bool.false_or] at ahx
 (repeat (first | ((first | with_reducible apply aF | with_reducible apply aG);(focus (first | with_reducible rfl | (simp only [aE,aC,aD,Nat.zero_add,Nat.add_zero,Bool.not_true,Bool.not_false,decide_true,decide_false,reduceIte,and_self,Bool.false_eq_true,hb,hHx,p1,p2,p3,g5,fq,Qj,wu,g6,g7,a9,g8,g9,g10,ahx,q0,bQ,w1,d1,d0,bb] <;>with_reducible rfl)))) | with_reducible apply aH | with_reducible apply aI))
 exact fin
end
end Go.Proofs.YtfigbgjbaohglaaGreatDoor.bP
end
section
set_option maxRecDepth 100000
set_option linter.unusedVariables false
namespace Go.Proofs.YtfigbgjbaohglaaGreatDoor.bP
open Go.au
section
open Go.au.T
def ah8:aT:=(.block 1 (.seq (.region [m 19 2,m 20 1,o 21 (.bin .sub (t 19) (t 20)),m 10 21]) (.seq (.seq (.region [m 22 10,o 23 (.bin .leq (t 22) (i 12))]) (.cond (t 23) (.seq (.region [m 24 0,m 25 1,m 26 2,o 27 (.call 178 [t 24,t 25,t 26])]) .ret) .skip)) (.seq (.seq (.region [m 28 3,o 29 (.bin .eql (t 28) (i 0))]) (.cond (t 29) (.seq (.region [m 30 0,m 31 1,m 32 2,o 33 (.call 179 [t 30,t 31,t 32])]) .ret) .skip)) (.seq (.seq (.region [m 34 8,o 35 (.un .not (t 34))]) (.cond (t 35) (.seq (.region [m 36 0,m 37 1,m 38 2,o 39 (.call 180 [t 36,t 37,t 38])]) (.region [m 40 3,o 41 (.bin .sub (t 40) (i 1)),m 3 41])) .skip)) (.seq (.region [m 43 0,m 44 1,m 45 2,o 46 (.call 181 [t 43,t 44,t 45]),m 42 46,o 47 (.extract (t 42) 0),o 48 (.extract (t 42) 1),m 11 47,m 12 48]) (.seq (.seq (.region [m 49 12,o 50 (.bin .eql (t 49) (i 2))]) (.cond (t 50) (.seq (.region [m 51 0,m 52 1,m 53 2,o 54 (.call 182 [t 51,t 52,t 53])]) (.seq (.region [m 55 2,o 56 (.bin .sub (t 55) (i 1)),m 57 11,m 58 1,o 59 (.bin .sub (t 57) (t 58)),o 60 (.bin .sub (t 56) (t 59)),m 11 60]) (.region [o 12 (.an (i 1))]))) .skip)) (.seq (.seq (.region [m 61 8,m 62 61,gt 62 63 (.an (t 9)),o 64 (.pick (t 62) (t 63) ff),m 65 64,gt 65 66 (.an (t 12)),gt 65 67 (.bin .eql (t 66) (i 1)),o 68 (.pick (t 65) (t 67) ff)]) (.cond (t 68) (.seq (.region [m 69 0,m 70 1,m 71 2,o 72 (.call 183 [t 69,t 70,t 71])]) (.cond (t 72) .ret .skip)) .skip)) (.seq (.seq (.region [m 73 1,o 74 (.bin .gtr (t 73) (i 0)),m 75 74,gt 75 76 (.an (t 0)),gt 75 77 (.an (t 1)),gt 75 78 (.bin .sub (t 77) (i 1)),gt 75 79 (.indexAddr none 1 (t 76) (t 78)),ht 75 80 (.load none (t 79)),gt 75 81 (.an (t 0)),gt 75 82 (.an (t 11)),gt 75 83 (.indexAddr none 1 (t 81) (t 82)),ht 75 84 (.load none (t 83)),gt 75 85 (.call 184 [t 80,t 84]),gt 75 86 (.un .not (t 85)),o 87 (.pick (t 75) (t 86) ff)]) (.cond (t 87) (.seq (.region [m 88 0,m 89 1,m 90 2,m 91 11,o 92 (.call 185 [t 88,t 89,t 90,t 91]),m 13 92]) (.seq (.region [m 93 13,m 1 93]) (.exit 1))) .skip)) (.seq (.region [m 95 0,m 96 1,m 97 2,m 98 11,o 99 (.call 186 [t 95,t 96,t 97,t 98]),m 94 99,o 100 (.extract (t 94) 0),o 101 (.extract (t 94) 1),m 14 100,m 15 101]) (.seq (.region [m 102 15,m 9 102]) (.seq (.region [m 103 14,m 104 1,o 105 (.bin .sub (t 103) (t 104)),m 106 2,m 107 14,o 108 (.bin .sub (t 106) (t 107)),m 16 105,m 17 108]) (.seq (.region [m 109 10,o 110 (.bin .quo (t 109) (i 8)),m 18 110]) (.seq (.region [m 111 16,m 112 17,o 113 (.bin .lss (t 111) (t 112))]) (.cond (t 113) (.seq (.region [m 114 16,m 115 18,o 116 (.bin .geq (t 114) (t 115)),m 8 116]) (.seq (.region [m 117 0,m 118 1,m 119 14,m 120 3,o 121 (.call 133 [t 117,t 118,t 119,t 120])]) (.region [m 122 14,o 123 (.bin .add (t 122) (i 1)),m 1 123]))) (.seq (.region [m 124 17,m 125 18,o 126 (.bin .geq (t 124) (t 125)),m 8 126]) (.seq (.region [m 127 0,m 128 14,o 129 (.bin .add (t 128) (i 1)),m 130 2,m 131 3,o 132 (.call 133 [t 127,t 129,t 130,t 131])]) (.region [m 133 14,m 2 133]))))))))))))))))))
def aib:aT:=(.region [m 13 6,o 14 (.bin .add (t 13) (i 1)),m 6 14])
def ah5:aT:=(.seq (.seq (.region [m 16 7,m 17 1,o 18 (.bin .gtr (t 16) (t 17)),m 19 18,gt 19 20 (.an (t 0)),gt 19 21 (.an (t 7)),gt 19 22 (.indexAddr none 1 (t 20) (t 21)),ht 19 23 (.load none (t 22)),gt 19 24 (.an (t 0)),gt 19 25 (.an (t 7)),gt 19 26 (.bin .sub (t 25) (i 1)),gt 19 27 (.indexAddr none 1 (t 24) (t 26)),ht 19 28 (.load none (t 27)),gt 19 29 (.call 184 [t 23,t 28]),o 30 (.pick (t 19) (t 29) ff)]) (.cond (t 30) .skip (.exit 2))) (.seq (.block 3 (.region [m 33 0,m 34 7,m 35 0,m 36 7,o 37 (.bin .sub (t 36) (i 1)),m 38 0,m 39 7,o 40 (.bin .sub (t 39) (i 1)),o 41 (.indexAddr none 1 (t 38) (t 40)),l 42 (.load none (t 41)),m 43 0,m 44 7,o 45 (.indexAddr none 1 (t 43) (t 44)),l 46 (.load none (t 45)),o 47 (.indexAddr none 1 (t 33) (t 34)),s (.store 1 (t 47) (t 42)),o 48 (.indexAddr none 1 (t 35) (t 37)),s (.store 1 (t 48) (t 46))])) (.region [m 31 7,o 32 (.bin .sub (t 31) (i 1)),m 7 32])))
def ah9:aT:=(.seq (.seq (.region [m 10 6,m 11 2,o 12 (.bin .lss (t 10) (t 11))]) (.cond (t 12) .skip (.exit 0))) (.seq (.block 1 (.seq (.region [m 15 6,m 7 15]) (.block 2 (.loop ah5)))) aib))
end
def F82 (R:aq) (lim n:Nat) (K:aa→ah→Prop) (a0:aa) (H:ah):Prop:=
ak (bh false a0) fun v1=>
ak (fo .u64 v1) fun v2=>
aK (R lim (.fn 134) [v2] H) fun v3 H4=>
aK (R lim (.fn 133) [a0,(.int .i64 0),v1,v3] H4) fun v5 H6=>
K (.bq []) H6
def aio (R:aq) (lim n:Nat) (K:aa→ah→Prop):Nat→Tm→ah→Prop
 | _,_,_=>False
theorem aiN (R:aq) (lim n:Nat) (K:aa→ah→Prop) (a0:aa) (H:ah):F82 R lim n K a0 H=aS R lim n 11 (aio R lim n K) f82.body (bS [a0]) H (aM [] K):=by kernel_rfl
theorem aiO (R:aq) (lim n:Nat) (K:aa→ah→Prop):bO R lim n 11 (aio R lim n K) f82.body (aM [] K):=(aL (by kernel_rfl))
theorem aiP {ap:FuncId→Option bg} (hf:ap 82=some (.code f82)) {n lim:Nat} {K:aa→ah→Prop} {a0:aa} {H:ah} (h:F82 (au.runT ap n) lim n K a0 H):∃v H',au.runT ap (n+1) lim (.fn 82) [a0] H=some (v,H')∧K v H':=by
 rw [aiN] at h
 exact bX hf (by kernel_rfl) (by kernel_rfl) (bw f82.body _ _ _ _ (aiO _ _ _ K) (fun _ _ _ h=>h) h)
def ajp (R:aq) (lim n:Nat) (K:aa→ah→Prop) (H:ah):Prop:=
K (.bq []) H
def aip (R:aq) (lim n:Nat) (K:aa→ah→Prop) (ay:aa→aa→aa→aa→aa→aa→ah→Prop) (t0 t1 t2 t3 t8 t9:aa) (H:ah):Prop:=
ay t0 t1 t2 t3 t8 t9 H
def aiq (R:aq) (lim n:Nat) (K:aa→ah→Prop) (ay:aa→aa→aa→aa→aa→aa→ah→Prop) (t0 t1 t2 t3 t8 t9:aa) (H:ah):Prop:=
aip R lim n K ay t0 t1 t2 t3 t8 t9 H
def air (R:aq) (lim n:Nat) (K:aa→ah→Prop) (ay:aa→aa→aa→aa→aa→aa→ah→Prop) (t0 t1 t2 t3 t8 t9 t10 t11:aa) (H:ah):Prop:=
ak (av .gtr t1 (.int .i64 0)) fun Yp=>
ak (gd (some (Yp,true)) (some t0)) fun xS=>
ak (gd (some (Yp,true)) (some t1)) fun v91=>
ak (gd (some (Yp,true)) (av .sub v91 (.int .i64 1))) fun Fg=>
ak (gd (some (Yp,true)) (cD none 1 xS Fg)) fun v93=>
ak (gd (some (Yp,true)) (aB H none v93)) fun Yq=>
ak (gd (some (Yp,true)) (some t0)) fun LY=>
ak (gd (some (Yp,true)) (some t11)) fun Yr=>
ak (gd (some (Yp,true)) (cD none 1 LY Yr)) fun uC=>
ak (gd (some (Yp,true)) (aB H none uC)) fun Mq=>
aK (eA (some (Yp,true)) H (R lim (.fn 184) [Yq,Mq] H)) fun Fi Ys=>
ak (gd (some (Yp,true)) (fE .not Fi)) fun uE=>
ak (bH Yp uE (.bool false)) fun XG=>
ak (aV XG) fun ais=>
(ais=true→(aK (R lim (.fn 185) [t0,t1,t2,t11] Ys) fun Fj aiQ=>
aip R lim n K ay t0 Fj t2 t3 t8 t9 aiQ))∧
(ais=false→(aK (R lim (.fn 186) [t0,t1,t2,t11] Ys) fun AV Mc=>
ak (bF 0 AV) fun AW=>
ak (bF 1 AV) fun v109=>
ak (av .sub AW t1) fun Fk=>
ak (av .sub t2 AW) fun Fl=>
ak (av .quo t10 (.int .i64 8)) fun uF=>
ak (av .lss Fk Fl) fun XT=>
ak (aV XT) fun ait=>
(ait=true→(ak (av .geq Fk uF) fun Fm=>
aK (R lim (.fn 133) [t0,t1,AW,t3] Mc) fun uH aiR=>
ak (av .add AW (.int .i64 1)) fun XU=>
aiq R lim n K ay t0 XU t2 t3 Fm v109 aiR))∧
(ait=false→(ak (av .geq Fl uF) fun AX=>
ak (av .add AW (.int .i64 1)) fun XH=>
aK (R lim (.fn 133) [t0,XH,t2,t3] Mc) fun A6 aiS=>
aiq R lim n K ay t0 t1 AW t3 AX v109 aiS))))
def aiu (R:aq) (lim n:Nat) (K:aa→ah→Prop) (ay:aa→aa→aa→aa→aa→aa→ah→Prop) (t0 t1 t2 t3 t8 t9 t10 t11 t12:aa) (H:ah):Prop:=
ak (gd (some (t8,true)) (some t9)) fun FB=>
ak (bH t8 FB (.bool false)) fun v85=>
ak (gd (some (v85,true)) (some t12)) fun Yn=>
ak (gd (some (v85,true)) (av .eql Yn (.int .i64 1))) fun v87=>
ak (bH v85 v87 (.bool false)) fun Yo=>
ak (aV Yo) fun aiv=>
(aiv=true→(aK (R lim (.fn 183) [t0,t1,t2] H) fun v124 Me=>
ak (aV v124) fun aiw=>
(aiw=true→(K (.bq []) Me))∧
(aiw=false→(air R lim n K ay t0 t1 t2 t3 t8 t9 t10 t11 Me))))∧
(aiv=false→(air R lim n K ay t0 t1 t2 t3 t8 t9 t10 t11 H))
def aix (R:aq) (lim n:Nat) (K:aa→ah→Prop) (ay:aa→aa→aa→aa→aa→aa→ah→Prop) (t0 t1 t2 t3 t8 t9 t10:aa) (H:ah):Prop:=
aK (R lim (.fn 181) [t0,t1,t2] H) fun Yi H80=>
ak (bF 0 Yi) fun Yk=>
ak (bF 1 Yi) fun Yl=>
ak (av .eql Yl (.int .i64 2)) fun Ym=>
ak (aV Ym) fun aiy=>
(aiy=true→(aK (R lim (.fn 182) [t0,t1,t2] H80) fun XJ AZ=>
ak (av .sub t2 (.int .i64 1)) fun v130=>
ak (av .sub Yk t1) fun v131=>
ak (av .sub v130 v131) fun aiT=>
aiu R lim n K ay t0 t1 t2 t3 t8 t9 t10 aiT (.int .i64 1) AZ))∧
(aiy=false→(aiu R lim n K ay t0 t1 t2 t3 t8 t9 t10 Yk Yl H80))
def ah6 (R:aq) (lim n:Nat) (K:aa→ah→Prop) (ay:aa→aa→aa→aa→aa→aa→ah→Prop) (t0 t1 t2 t3 t8 t9:aa) (H:ah):Prop:=
ak (av .sub t2 t1) fun sG=>
ak (av .leq sG (.int .i64 12)) fun v70=>
ak (aV v70) fun Mm=>
(Mm=true→(aK (R lim (.fn 178) [t0,t1,t2] H) fun v72 Mn=>
K (.bq []) Mn))∧
(Mm=false→(ak (av .eql t3 (.int .i64 0)) fun FA=>
ak (aV FA) fun b75=>
(b75=true→(aK (R lim (.fn 179) [t0,t1,t2] H) fun v76 H77=>
K (.bq []) H77))∧
(b75=false→(ak (fE .not t8) fun Yh=>
ak (aV Yh) fun aiz=>
(aiz=true→(aK (R lim (.fn 180) [t0,t1,t2] H) fun oZ aiU=>
ak (av .sub t3 (.int .i64 1)) fun XY=>
aix R lim n K ay t0 t1 t2 XY t8 t9 sG aiU))∧
(aiz=false→(aix R lim n K ay t0 t1 t2 t3 t8 t9 sG H))))))
def ah3 (R:aq) (lim n:Nat) (K:aa→ah→Prop):Nat→aa→aa→aa→aa→aa→aa→ah→Prop
 | 0,_,_,_,_,_,_,_=>False
 | m+1,t0,t1,t2,t3,t8,t9,H=>ah6 R lim n K (ah3 R lim n K m) t0 t1 t2 t3 t8 t9 H
def aic (R:aq) (lim n:Nat) (K:aa→ah→Prop) (a0 a1 a2 a3:aa) (H:ah):Prop:=
ah3 R lim n K n a0 a1 a2 a3 (.bool true) (.bool true) H
def aiA (R:aq) (lim n:Nat) (K:aa→ah→Prop):Nat→Tm→ah→Prop
 | 0,T,H=>ah3 R lim n K n (T 0) (T 1) (T 2) (T 3) (T 8) (T 9) H
 | _,_,_=>False
def aiV (R:aq) (lim n:Nat) (K:aa→ah→Prop) (ay:aa→aa→aa→aa→aa→aa→ah→Prop):Nat→Tm→ah→Prop
 | _,_,_=>False
def aiB (R:aq) (lim n:Nat) (K:aa→ah→Prop) (ay:aa→aa→aa→aa→aa→aa→ah→Prop):Kt:=fun ex T H=>match ex with
 | .norm=>ay (T 0) (T 1) (T 2) (T 3) (T 8) (T 9) H
 | ex=>(bZ 0 (aM [] K)) ex T H
theorem aiW (R:aq) (lim n:Nat) (K:aa→ah→Prop) (ay:aa→aa→aa→aa→aa→aa→ah→Prop) (T:Tm) (H:ah):ah6 R lim n K ay (T 0) (T 1) (T 2) (T 3) (T 8) (T 9) H=aS R lim n 134 (aiV R lim n K ay) ah8 T H (aiB R lim n K ay):=by kernel_rfl
theorem aiC (R:aq) (lim n:Nat) (K:aa→ah→Prop) {kw:Kt} (hk:∀ex T H,(bZ 0 (aM [] K)) ex T H→kw ex T H):∀(m:Nat) (T:Tm) (H:ah),ah3 R lim n K m (T 0) (T 1) (T 2) (T 3) (T 8) (T 9) H→cH (cg R lim n 134 ah8) m T H kw
 | 0,_,_,h=>False.elim h
 | m+1,T,H,h=>by
  have hb:∀ex T H,aiB R lim n K (ah3 R lim n K m) ex T H→(fun ex T H=>match ex with | .norm=>cH (cg R lim n 134 ah8) m T H kw | ex=>kw ex T H:Kt) ex T H:=by
   intro ex T H h
   cases ex with
   | norm=>exact aiC R lim n K hk m T H h
   | exit i=>exact hk _ _ _ h
   | ret=>exact hk _ _ _ h
  have h':ah6 R lim n K (ah3 R lim n K m) (T 0) (T 1) (T 2) (T 3) (T 8) (T 9) H:=h
  rw [aiW] at h'
  exact bw ah8 T H _ _ (aL (by kernel_rfl)) hb h'
theorem aiX (R:aq) (lim n:Nat) (K:aa→ah→Prop) (a0 a1 a2 a3:aa) (H:ah):aic R lim n K a0 a1 a2 a3 H=aS R lim n 134 (aiA R lim n K) f133.body (bS [a0,a1,a2,a3]) H (aM [] K):=by kernel_rfl
theorem aiY (R:aq) (lim n:Nat) (K:aa→ah→Prop):bO R lim n 134 (aiA R lim n K) f133.body (aM [] K):=⟨(aL (by kernel_rfl)),⟨(aL (by kernel_rfl)),(fun T H h=>aiC R lim n K (eV (fun _ _ _ h=>h)) _ T H h)⟩⟩
theorem aiZ {ap:FuncId→Option bg} (hf:ap 133=some (.code f133)) {n lim:Nat} {K:aa→ah→Prop} {a0 a1 a2 a3:aa} {H:ah} (h:aic (au.runT ap n) lim n K a0 a1 a2 a3 H):∃v H',au.runT ap (n+1) lim (.fn 133) [a0,a1,a2,a3] H=some (v,H')∧K v H':=by
 rw [aiX] at h
 exact bX hf (by kernel_rfl) (by kernel_rfl) (bw f133.body _ _ _ _ (aiY _ _ _ K) (fun _ _ _ h=>h) h)
def aid (R:aq) (lim n:Nat) (K:aa→ah→Prop) (a0:aa) (H:ah):Prop:=
ak (aV (.bool false)) fun b1=>
(b1=true→(ak (fo .u32 a0) fun v2=>
aK (R lim (.fn 187) [v2] H) fun v3 H4=>
K v3 H4))∧
(b1=false→(aK (R lim (.fn 188) [a0] H) fun v5 H6=>
K v5 H6))
def aiD (R:aq) (lim n:Nat) (K:aa→ah→Prop):Nat→Tm→ah→Prop
 | _,_,_=>False
theorem ai0 (R:aq) (lim n:Nat) (K:aa→ah→Prop) (a0:aa) (H:ah):aid R lim n K a0 H=aS R lim n 8 (aiD R lim n K) f134.body (bS [a0]) H (aM [(.tmp 2)] K):=by kernel_rfl
theorem ai1 (R:aq) (lim n:Nat) (K:aa→ah→Prop):bO R lim n 8 (aiD R lim n K) f134.body (aM [(.tmp 2)] K):=(aL (by kernel_rfl))
theorem ai2 {ap:FuncId→Option bg} (hf:ap 134=some (.code f134)) {n lim:Nat} {K:aa→ah→Prop} {a0:aa} {H:ah} (h:aid (au.runT ap n) lim n K a0 H):∃v H',au.runT ap (n+1) lim (.fn 134) [a0] H=some (v,H')∧K v H':=by
 rw [ai0] at h
 exact bX hf (by kernel_rfl) (by kernel_rfl) (bw f134.body _ _ _ _ (ai1 _ _ _ K) (fun _ _ _ h=>h) h)
def aiE (R:aq) (lim n:Nat) (K:aa→ah→Prop) (H:ah):Prop:=
K (.bq []) H
def ai3 (R:aq) (lim n:Nat) (K:aa→ah→Prop) (ay:aa→aa→aa→aa→ah→Prop) (t0 t1 t2 t6:aa) (H:ah):Prop:=
ak (av .add t6 (.int .i64 1)) fun FB=>
ay t0 t1 t2 FB H
def aie (R:aq) (lim n:Nat) (K:aa→ah→Prop) (ay:aa→aa→aa→aa→ah→Prop) (fy:aa→aa→aa→aa→aa→ah→Prop) (t0 t1 t2 t6 t7:aa) (H:ah):Prop:=
ak (av .gtr t7 t1) fun v85=>
ak (gd (some (v85,true)) (some t0)) fun Yn=>
ak (gd (some (v85,true)) (some t7)) fun v87=>
ak (gd (some (v85,true)) (cD none 1 Yn v87)) fun Yo=>
ak (gd (some (v85,true)) (aB H none Yo)) fun Yp=>
ak (gd (some (v85,true)) (some t0)) fun xS=>
ak (gd (some (v85,true)) (some t7)) fun v91=>
ak (gd (some (v85,true)) (av .sub v91 (.int .i64 1))) fun Fg=>
ak (gd (some (v85,true)) (cD none 1 xS Fg)) fun v93=>
ak (gd (some (v85,true)) (aB H none v93)) fun Yq=>
aK (eA (some (v85,true)) H (R lim (.fn 184) [Yp,Yq] H)) fun LY Fh=>
ak (bH v85 LY (.bool false)) fun uC=>
ak (aV uC) fun b98=>
(b98=true→(ak (av .sub t7 (.int .i64 1)) fun Fi=>
ak (av .sub t7 (.int .i64 1)) fun AU=>
ak (cD none 1 t0 AU) fun uE=>
ak (aB Fh none uE) fun XG=>
ak (cD none 1 t0 t7) fun xR=>
ak (aB Fh none xR) fun Fj=>
ak (cD none 1 t0 t7) fun v105=>
ak (bp lim Fh 1 v105 XG) fun ai4=>
ak (cD none 1 t0 Fi) fun v107=>
ak (bp lim ai4 1 v107 Fj) fun ai5=>
ak (av .sub t7 (.int .i64 1)) fun v109=>
fy t0 t1 t2 t6 v109 ai5))∧
(b98=false→(ai3 R lim n K ay t0 t1 t2 t6 Fh))
def ah4 (R:aq) (lim n:Nat) (K:aa→ah→Prop) (ay:aa→aa→aa→aa→ah→Prop):Nat→aa→aa→aa→aa→aa→ah→Prop
 | 0,_,_,_,_,_,_=>False
 | m+1,t0,t1,t2,t6,t7,H=>aie R lim n K ay (ah4 R lim n K ay m) t0 t1 t2 t6 t7 H
def ah7 (R:aq) (lim n:Nat) (K:aa→ah→Prop) (ay:aa→aa→aa→aa→ah→Prop) (t0 t1 t2 t6:aa) (H:ah):Prop:=
ak (av .lss t6 t2) fun jg=>
ak (aV jg) fun b57=>
(b57=true→(ah4 R lim n K ay n t0 t1 t2 t6 t6 H))∧
(b57=false→(aiE R lim n K H))
def ah2 (R:aq) (lim n:Nat) (K:aa→ah→Prop):Nat→aa→aa→aa→aa→ah→Prop
 | 0,_,_,_,_,_=>False
 | m+1,t0,t1,t2,t6,H=>ah7 R lim n K (ah2 R lim n K m) t0 t1 t2 t6 H
def aif (R:aq) (lim n:Nat) (K:aa→ah→Prop) (a0 a1 a2:aa) (H:ah):Prop:=
ak (av .add a1 (.int .i64 1)) fun v1=>
ah2 R lim n K n a0 a1 a2 v1 H
def aiF (R:aq) (lim n:Nat) (K:aa→ah→Prop):Nat→Tm→ah→Prop
 | 0,T,H=>ah2 R lim n K n (T 0) (T 1) (T 2) (T 6) H
 | _,_,_=>False
def aih (R:aq) (lim n:Nat) (K:aa→ah→Prop) (ay:aa→aa→aa→aa→ah→Prop):Nat→Tm→ah→Prop
 | 2,T,H=>ah4 R lim n K ay n (T 0) (T 1) (T 2) (T 6) (T 7) H
 | _,_,_=>False
def ai6 (R:aq) (lim n:Nat) (K:aa→ah→Prop) (ay:aa→aa→aa→aa→ah→Prop) (fy:aa→aa→aa→aa→aa→ah→Prop):Nat→Tm→ah→Prop
 | _,_,_=>False
def aia (R:aq) (lim n:Nat) (K:aa→ah→Prop) (ay:aa→aa→aa→aa→ah→Prop):Kt:=fun ex T H=>match ex with
 | .norm=>ay (T 0) (T 1) (T 2) (T 6) H
 | ex=>(bZ 0 (aM [] K)) ex T H
def aiG (R:aq) (lim n:Nat) (K:aa→ah→Prop) (ay:aa→aa→aa→aa→ah→Prop) (fy:aa→aa→aa→aa→aa→ah→Prop):Kt:=fun ex T H=>match ex with
 | .norm=>fy (T 0) (T 1) (T 2) (T 6) (T 7) H
 | ex=>(bZ 2 (bZ 1 (cE (aS R lim n 49 (aih R lim n K ay) aib) (aia R lim n K ay)))) ex T H
theorem ai7 (R:aq) (lim n:Nat) (K:aa→ah→Prop) (ay:aa→aa→aa→aa→ah→Prop) (fy:aa→aa→aa→aa→aa→ah→Prop) (T:Tm) (H:ah):aie R lim n K ay fy (T 0) (T 1) (T 2) (T 6) (T 7) H=aS R lim n 49 (ai6 R lim n K ay fy) ah5 T H (aiG R lim n K ay fy):=by kernel_rfl
theorem aiH (R:aq) (lim n:Nat) (K:aa→ah→Prop) (ay:aa→aa→aa→aa→ah→Prop) {kw:Kt} (hk:∀ex T H,(bZ 2 (bZ 1 (cE (aS R lim n 49 (aih R lim n K ay) aib) (aia R lim n K ay)))) ex T H→kw ex T H):∀(m:Nat) (T:Tm) (H:ah),ah4 R lim n K ay m (T 0) (T 1) (T 2) (T 6) (T 7) H→cH (cg R lim n 49 ah5) m T H kw
 | 0,_,_,h=>False.elim h
 | m+1,T,H,h=>by
  have hb:∀ex T H,aiG R lim n K ay (ah4 R lim n K ay m) ex T H→(fun ex T H=>match ex with | .norm=>cH (cg R lim n 49 ah5) m T H kw | ex=>kw ex T H:Kt) ex T H:=by
   intro ex T H h
   cases ex with
   | norm=>exact aiH R lim n K ay hk m T H h
   | exit i=>exact hk _ _ _ h
   | ret=>exact hk _ _ _ h
  have h':aie R lim n K ay (ah4 R lim n K ay m) (T 0) (T 1) (T 2) (T 6) (T 7) H:=h
  rw [ai7] at h'
  exact bw ah5 T H _ _ (aL (by kernel_rfl)) hb h'
theorem ai8 (R:aq) (lim n:Nat) (K:aa→ah→Prop) (ay:aa→aa→aa→aa→ah→Prop) (T:Tm) (H:ah):ah7 R lim n K ay (T 0) (T 1) (T 2) (T 6) H=aS R lim n 49 (aih R lim n K ay) ah9 T H (aia R lim n K ay):=by kernel_rfl
theorem aiI (R:aq) (lim n:Nat) (K:aa→ah→Prop) {kw:Kt} (hk:∀ex T H,(bZ 0 (aM [] K)) ex T H→kw ex T H):∀(m:Nat) (T:Tm) (H:ah),ah2 R lim n K m (T 0) (T 1) (T 2) (T 6) H→cH (cg R lim n 49 ah9) m T H kw
 | 0,_,_,h=>False.elim h
 | m+1,T,H,h=>by
  have hb:∀ex T H,aia R lim n K (ah2 R lim n K m) ex T H→(fun ex T H=>match ex with | .norm=>cH (cg R lim n 49 ah9) m T H kw | ex=>kw ex T H:Kt) ex T H:=by
   intro ex T H h
   cases ex with
   | norm=>exact aiI R lim n K hk m T H h
   | exit i=>exact hk _ _ _ h
   | ret=>exact hk _ _ _ h
  have h':ah7 R lim n K (ah2 R lim n K m) (T 0) (T 1) (T 2) (T 6) H:=h
  rw [ai8] at h'
  exact bw ah9 T H _ _ ⟨(aL (by kernel_rfl)),⟨⟨(aL (by kernel_rfl)),(fun T H h=>aiH R lim n K (ah2 R lim n K m) (eV (eV (fX (aL (by kernel_rfl)) (hb)))) _ T H h)⟩,(aL (by kernel_rfl))⟩⟩ hb h'
theorem ai9 (R:aq) (lim n:Nat) (K:aa→ah→Prop) (a0 a1 a2:aa) (H:ah):aif R lim n K a0 a1 a2 H=aS R lim n 49 (aiF R lim n K) f178.body (bS [a0,a1,a2]) H (aM [] K):=by kernel_rfl
theorem aja (R:aq) (lim n:Nat) (K:aa→ah→Prop):bO R lim n 49 (aiF R lim n K) f178.body (aM [] K):=⟨(aL (by kernel_rfl)),(fun T H h=>aiI R lim n K (eV (fun _ _ _ h=>h)) _ T H h)⟩
theorem ajb {ap:FuncId→Option bg} (hf:ap 178=some (.code f178)) {n lim:Nat} {K:aa→ah→Prop} {a0 a1 a2:aa} {H:ah} (h:aif (au.runT ap n) lim n K a0 a1 a2 H):∃v H',au.runT ap (n+1) lim (.fn 178) [a0,a1,a2] H=some (v,H')∧K v H':=by
 rw [ai9] at h
 exact bX hf (by kernel_rfl) (by kernel_rfl) (bw f178.body _ _ _ _ (aja _ _ _ K) (fun _ _ _ h=>h) h)
def aii (R:aq) (lim n:Nat) (K:aa→ah→Prop) (t0 t2:aa) (H:ah):Prop:=
ak (fo .u8 t0) fun v4=>
ak (e7 (.str [0,1,2,2,3,3,3,3,4,4,4,4,4,4,4,4,5,5,5,5,5,5,5,5,5,5,5,5,5,5,5,5,6,6,6,6,6,6,6,6,6,6,6,6,6,6,6,6,6,6,6,6,6,6,6,6,6,6,6,6,6,6,6,6,7,7,7,7,7,7,7,7,7,7,7,7,7,7,7,7,7,7,7,7,7,7,7,7,7,7,7,7,7,7,7,7,7,7,7,7,7,7,7,7,7,7,7,7,7,7,7,7,7,7,7,7,7,7,7,7,7,7,7,7,7,7,7,7,8,8,8,8,8,8,8,8,8,8,8,8,8,8,8,8,8,8,8,8,8,8,8,8,8,8,8,8,8,8,8,8,8,8,8,8,8,8,8,8,8,8,8,8,8,8,8,8,8,8,8,8,8,8,8,8,8,8,8,8,8,8,8,8,8,8,8,8,8,8,8,8,8,8,8,8,8,8,8,8,8,8,8,8,8,8,8,8,8,8,8,8,8,8,8,8,8,8,8,8,8,8,8,8,8,8,8,8,8,8,8,8,8,8,8,8,8,8,8,8,8,8,8,8,8,8,8,8]) v4) fun v5=>
ak (fo .i64 v5) fun v6=>
ak (av .add t2 v6) fun v7=>
K v7 H
def aij (R:aq) (lim n:Nat) (K:aa→ah→Prop) (t0 t2:aa) (H:ah):Prop:=
ak (av .geq t0 (.int .u64 256)) fun v3=>
ak (aV v3) fun b8=>
(b8=true→(ak (av .shr t0 (.int .u64 8)) fun v9=>
ak (av .add t2 (.int .i64 8)) fun v10=>
aii R lim n K v9 v10 H))∧
(b8=false→(aii R lim n K t0 t2 H))
def aik (R:aq) (lim n:Nat) (K:aa→ah→Prop) (t0 t2:aa) (H:ah):Prop:=
ak (av .geq t0 (.int .u64 65536)) fun v2=>
ak (aV v2) fun MF=>
(MF=true→(ak (av .shr t0 (.int .u64 16)) fun v12=>
ak (av .add t2 (.int .i64 16)) fun cO=>
aij R lim n K v12 cO H))∧
(MF=false→(aij R lim n K t0 t2 H))
def ail (R:aq) (lim n:Nat) (K:aa→ah→Prop) (a0:aa) (H:ah):Prop:=
ak (av .geq a0 (.int .u64 4294967296)) fun v1=>
ak (aV v1) fun mU=>
(mU=true→(ak (av .shr a0 (.int .u64 32)) fun cY=>
aik R lim n K cY (.int .i64 32) H))∧
(mU=false→(aik R lim n K a0 (.int .i64 0) H))
def aiJ (R:aq) (lim n:Nat) (K:aa→ah→Prop):Nat→Tm→ah→Prop
 | _,_,_=>False
theorem ajc (R:aq) (lim n:Nat) (K:aa→ah→Prop) (a0:aa) (H:ah):ail R lim n K a0 H=aS R lim n 25 (aiJ R lim n K) f188.body (bS [a0]) H (aM [(.tmp 2)] K):=by kernel_rfl
theorem ajd (R:aq) (lim n:Nat) (K:aa→ah→Prop):bO R lim n 25 (aiJ R lim n K) f188.body (aM [(.tmp 2)] K):=(aL (by kernel_rfl))
theorem aje {ap:FuncId→Option bg} (hf:ap 188=some (.code f188)) {n lim:Nat} {K:aa→ah→Prop} {a0:aa} {H:ah} (h:ail (au.runT ap n) lim n K a0 H):∃v H',au.runT ap (n+1) lim (.fn 188) [a0] H=some (v,H')∧K v H':=by
 rw [ajc] at h
 exact bX hf (by kernel_rfl) (by kernel_rfl) (bw f188.body _ _ _ _ (ajd _ _ _ K) (fun _ _ _ h=>h) h)
end Go.Proofs.YtfigbgjbaohglaaGreatDoor.bP
end
section
set_option maxRecDepth 100000
set_option linter.unusedVariables false
set_option linter.unusedSimpArgs false
namespace Go.Proofs.YtfigbgjbaohglaaGreatDoor.bP
open Go.au Go.au.Wl
section
variable {H:ah}
theorem ajf {n lim:Nat}:au.runT ap (n+1) lim (.fn 188) [.int .u64 0] H=some (.int .i64 0,H):=by
 refine iE (aje ags ?_)
 unfold ail aik aij aii
 have d1:decide ((4294967296:Int)≤0)=false:=rfl
 have d2:decide ((65536:Int)≤0)=false:=rfl
 have d3:decide ((256:Int)≤0)=false:=rfl
 have c1:fo .u8 (.int .u64 0)=some (.int .u8 0):=rfl
 have c2:fo .i64 (.int .u8 0)=some (.int .i64 0):=rfl
 have a0:av .add (.int .i64 0) (.int .i64 0)=some (.int .i64 0):=rfl
 (repeat (first | ((first | with_reducible apply aF | with_reducible apply aG);(focus (first | with_reducible rfl | (simp only [aE,aC,aD,Nat.zero_add,Nat.add_zero,Bool.not_true,Bool.not_false,decide_true,decide_false,reduceIte,and_self,Bool.false_eq_true,d1,d2,d3,c1,c2,a0] <;>with_reducible rfl)))) | with_reducible apply aH | with_reducible apply aI))
 refine ⟨_,rfl,?_⟩
 (repeat (first | ((first | with_reducible apply aF | with_reducible apply aG);(focus (first | with_reducible rfl | (simp only [aE,aC,aD,Nat.zero_add,Nat.add_zero,Bool.not_true,Bool.not_false,decide_true,decide_false,reduceIte,and_self,Bool.false_eq_true,c2,a0] <;>with_reducible rfl)))) | with_reducible apply aH | with_reducible apply aI))
 exact ⟨rfl,rfl⟩
theorem ajg {n lim:Nat}:au.runT ap (n+5) lim (.fn 82) [.sl none 0 (.ex 0)] H=some (.bq [],H):=by
 have g1:au.runT ap (n+4) lim (.fn 134) [.int .u64 0] H=some (.int .i64 0,H):=by
  refine iE (ai2 agf ?_)
  unfold aid
  have h:=ajf (n:=n+2) (lim:=lim) (H:=H)
  (repeat (first | ((first | with_reducible apply aF | with_reducible apply aG);(focus (first | with_reducible rfl | (simp only [aE,aC,aD,Nat.zero_add,Nat.add_zero,Bool.not_true,Bool.not_false,decide_true,decide_false,reduceIte,and_self,Bool.false_eq_true,h] <;>with_reducible rfl)))) | with_reducible apply aH | with_reducible apply aI))
  exact ⟨rfl,rfl⟩
 have g3:au.runT ap (n+3) lim (.fn 178) [.sl none 0 (.ex 0),.int .i64 0,.int .i64 0] H=some (.bq [],H):=by
  refine iE (ajb agk ?_)
  unfold aif
  have a0:av .add (.int .i64 0) (.int .i64 1)=some (.int .i64 1):=rfl
  (repeat (first | ((first | with_reducible apply aF | with_reducible apply aG);(focus (first | with_reducible rfl | (simp only [aE,aC,aD,Nat.zero_add,Nat.add_zero,Bool.not_true,Bool.not_false,decide_true,decide_false,reduceIte,and_self,Bool.false_eq_true,a0] <;>with_reducible rfl)))) | with_reducible apply aH | with_reducible apply aI))
  show ah7 _ _ _ _ (ah2 _ _ _ _ (n+1)) _ _ _ _ _
  unfold ah7 aiE
  have d:decide ((1:Int) <0)=false:=rfl
  (repeat (first | ((first | with_reducible apply aF | with_reducible apply aG);(focus (first | with_reducible rfl | (simp only [aE,aC,aD,Nat.zero_add,Nat.add_zero,Bool.not_true,Bool.not_false,decide_true,decide_false,reduceIte,and_self,Bool.false_eq_true,d] <;>with_reducible rfl)))) | with_reducible apply aH | with_reducible apply aI))
  exact ⟨rfl,rfl⟩
 have g2:au.runT ap (n+4) lim (.fn 133) [.sl none 0 (.ex 0),.int .i64 0,.int .i64 0,.int .i64 0] H=some (.bq [],H):=by
  refine iE (aiZ age ?_)
  unfold aic
  show ah6 _ _ _ _ (ah3 _ _ _ _ (n+2)) _ _ _ _ _ _ _
  unfold ah6
  have a0:av .sub (.int .i64 0) (.int .i64 0)=some (.int .i64 0):=rfl
  have d:decide ((0:Int)≤12)=true:=rfl
  (repeat (first | ((first | with_reducible apply aF | with_reducible apply aG);(focus (first | with_reducible rfl | (simp only [aE,aC,aD,Nat.zero_add,Nat.add_zero,Bool.not_true,Bool.not_false,decide_true,decide_false,reduceIte,and_self,Bool.false_eq_true,a0,d,g3] <;>with_reducible rfl)))) | with_reducible apply aH | with_reducible apply aI))
  exact ⟨rfl,rfl⟩
 refine iE (aiP a82 ?_)
 unfold F82
 have a0:bh false (.sl none 0 (.ex 0))=some (.int .i64 0):=rfl
 have c1:fo .u64 (.int .i64 0)=some (.int .u64 0):=rfl
 (repeat (first | ((first | with_reducible apply aF | with_reducible apply aG);(focus (first | with_reducible rfl | (simp only [aE,aC,aD,Nat.zero_add,Nat.add_zero,Bool.not_true,Bool.not_false,decide_true,decide_false,reduceIte,and_self,Bool.false_eq_true,a0,c1,g1,g2] <;>with_reducible rfl)))) | with_reducible apply aH | with_reducible apply aI))
 exact ⟨rfl,rfl⟩
variable {M:Nat→Prop} {b m:Nat} {D:bf}
theorem ajh {n lim K:Nat} (h:bN M H b m D) (hD:bV K D) (hK:K≤1000000000) (h0:D.fs=[]):
  ∃v H',au.runT ap (n+6) lim (.fn 34) [ptr b] H=some (v,H')∧v= .sl none 0 (.ex 0)∧aO H H':=by
 refine agG a34 ?_
 unfold M0
 obtain ⟨v,H',g1,s1,k1,_⟩:=Qe (n:=n+4) (lim:=lim) h hD hK
 rw [h0] at s1
 have bQ:bh false v=some (.int .i64 0):=s1.len
 have g2:=ajg (n:=n) (lim:=lim) (H:=H')
 (repeat (first | ((first | with_reducible apply aF | with_reducible apply aG);(focus (first | with_reducible rfl | (simp only [aE,aC,aD,Nat.zero_add,Nat.add_zero,Bool.not_true,Bool.not_false,decide_true,decide_false,reduceIte,and_self,Bool.false_eq_true,g1,bQ] <;>with_reducible rfl)))) | with_reducible apply aH | with_reducible apply aI))
 show FW _ _ _ _ (uM _ _ _ _ (n+4)) _ _ _ _ _
 unfold FW Zo
 have d:decide ((0:Int) <0)=false:=rfl
 (repeat (first | ((first | with_reducible apply aF | with_reducible apply aG);(focus (first | with_reducible rfl | (simp only [aE,aC,aD,Nat.zero_add,Nat.add_zero,Bool.not_true,Bool.not_false,decide_true,decide_false,reduceIte,and_self,Bool.false_eq_true,d,g2] <;>with_reducible rfl)))) | with_reducible apply aH | with_reducible apply aI))
 exact ⟨rfl,k1⟩
theorem aiK {n lim:Nat} (h:bN M H b m D) (hl:lim≤H.next):
  ∃v H',au.runT ap (n+6) lim (.fn 38) [ptr b] H=some (v,H')∧v= .bool (decide (0 <((HK D eL).1:Nat)))∧aO H H':=by
 refine agH a38 ?_
 unfold M5
 have g1:=adO (n:=n+1) (lim:=lim) (H:=H)
 obtain ⟨_,H',g2,rfl,k⟩:=ahb (n:=n+3) (lim:=lim) h hl eL
 have d:decide ((0:Int) <(((HK D eL).1:Nat):Int))=decide (0 <((HK D eL).1:Nat)):=by rw [Bool.eq_iff_iff];simp
 (repeat (first | ((first | with_reducible apply aF | with_reducible apply aG);(focus (first | with_reducible rfl | (simp only [aE,aC,aD,Nat.zero_add,Nat.add_zero,Bool.not_true,Bool.not_false,decide_true,decide_false,reduceIte,and_self,Bool.false_eq_true,g1,g2,d] <;>with_reducible rfl)))) | with_reducible apply aH | with_reducible apply aI))
 exact ⟨rfl,k⟩
end
theorem aji {snap:Nat} {told:List bD} (k9:∀r∈told,gR r) (u:Nat):
  ((∃u',nU (aX cj) eL snap (bare false u) told=(0,one eL (dh (aX cj) told.length snap told) (told.length+1) false u'))∧(u=0∨told.length+2 <u))∨
  (u=1∧nU (aX cj) eL snap (bare false u) told=(7,bare true 0))∨
  (∃pre,pre <+:told∧nU (aX cj) eL snap (bare false u) told=(7,one eL (dh (aX cj) told.length snap pre) 0 true 0)):=by
 have e0:nU (aX cj) eL snap (bare false u) told=fC eL (bare false u) (dh (aX cj) told.length snap told):=by
  unfold nU
  rw [if_neg (by simp [bare]),if_neg (by simp [bare]),Cn k9,if_neg (by simp)]
 rw [e0]
 have e1:fC eL (bare false u) (dh (aX cj) told.length snap told)=if u=1 then (7,bare true 0) else laid eL [cA (aX cj) (fB told.length snap)] 0 (u - 1) (told.map fun r=>cA (aX cj) (bM r)):=adg Qo (uS _ _) (QK _ _)
 rw [e1]
 by_cases h1:u=1
 ·exact .inr (.inl ⟨h1,by rw [if_pos h1]⟩)
 rw [if_neg h1]
 have ea:[cA (aX cj) (fB told.length snap)]++(told.map fun r=>cA (aX cj) (bM r))=dh (aX cj) told.length snap told:=rfl
 unfold laid
 by_cases h0:u - 1=0
 ·rw [if_pos h0,ea,u9]
  exact .inl ⟨⟨_,rfl⟩,.inl (by omega)⟩
 rw [if_neg h0]
 by_cases h2:(told.map fun r=>cA (aX cj) (bM r)).length+1 <u - 1
 ·rw [if_pos h2,ea,u9]
  rw [List.length_map] at h2
  exact .inl ⟨⟨_,rfl⟩,.inr (by omega)⟩
 ·rw [if_neg h2]
  refine .inr (.inr ⟨told.take (u - 1 - 1),List.take_prefix _ _,?_⟩)
  rw [←List.map_take];rfl
theorem ajj {S:Sum} {n:aQ} {b snap:Nat} {pre:List bD} {u:Nat} {o:Bool} (hb:b <18446744073709551616) (hs:snap <18446744073709551616) (hg:∀r∈pre,gR r) (keep aA:List Int):
  (m5 S n (pQ (mZ (one n (dh S b snap pre) 0 o u) keep aA))=(0,[],false,0)∧(HK (pQ (mZ (one n (dh S b snap pre) 0 o u) keep aA)) n).1=0)∨
  ∃k,m5 S n (pQ (mZ (one n (dh S b snap pre) 0 o u) keep aA))=(snap,pre.take k,decide (b≤(pre.take k).length),0)∧(HK (pQ (mZ (one n (dh S b snap pre) 0 o u) keep aA)) n).1=k+1:=by
 obtain ⟨f,t,e1,e2,e3,e4⟩:=adi S (n:=n) (L:=dh S b snap pre) (s:=0) (u:=u) (o:=o) (Nat.zero_le _) (ad7 hb hs hg) keep aA
 have er:(HK (pQ ⟨[(n,f)],true,u⟩) n).1=f.aN.length:=by
  unfold HK pQ
  simp only [Bool.false_eq_true,if_false,HB]
  rfl
 rw [e1,ad8,e2,er,e4]
 cases hk:lU (dh S b snap pre) 0 keep with
 | zero=>
  left
  rw [List.take_zero,List.flatten_nil,List.nil_append,agZ S e3]
  exact ⟨rfl,rfl⟩
 | succ k=>
  right
  refine ⟨k,?_,rfl⟩
  rw [ad6,acB S hb hs e3 (fun r hr=> ?_)]
  have:=hg r (List.mem_of_mem_take hr)
  exact ⟨this.1,this.2.1,by have:=this.len;omega⟩
section
variable {H:ah} {ks ts:aa} {keep aA:List Int}
theorem ajk {snap u:Nat} {told:List bD} {D':bf} (hs:snap <18446744073709551616) (hl:told.length≤40) (k9:∀r∈told,gR r) (hc:(u=1∧D'=bare true 0)∨(∃pre,pre <+:told∧D'=one eL (dh (aX cj) told.length snap pre) 0 true 0)) (keep aA:List Int):
  (m5 (aX cj) eL (pQ (mZ D' keep aA))=(0,[],false,4)∧(pQ (mZ D' keep aA)).fs=[])∨
  (m5 (aX cj) eL (pQ (mZ D' keep aA))=(0,[],false,0)∧(HK (pQ (mZ D' keep aA)) eL).1=0)∨
  (∃aN,m5 (aX cj) eL (pQ (mZ D' keep aA))=(snap,aN,decide (told.length≤aN.length),0)∧aN <+:told∧0 <(HK (pQ (mZ D' keep aA)) eL).1):=by
 rcases hc with ⟨_,rfl⟩ | ⟨pre,hp,rfl⟩
 ·refine .inl ⟨?_,rfl⟩
  have h:iI (pQ (mZ (bare true 0) keep aA)) eL=([],4):=rfl
  unfold m5
  rw [h,if_pos (by simp)]
 ·rcases ajj (S:=aX cj) (n:=eL) (b:=told.length) (u:=0) (o:=true) (by omega) hs (fun r hr=>k9 r (hp.subset hr)) keep aA with ⟨h1,h2⟩ | ⟨k,h1,h2⟩
  ·exact .inr (.inl ⟨h1,h2⟩)
  ·exact .inr (.inr ⟨_,h1,(List.take_prefix k pre).trans hp,by omega⟩)
set_option maxHeartbeats 4000000 in
theorem ajl {n bI snap:Nat} {a1:aa} {base:List bD} (hs:snap <18446744073709551616) (gl:Sl H 16 a1 (base.map aR)) (jQ:∀r∈base,zf r) (hf:bI <256)
  (s1:Sl H 1 ks (encI keep)) (s2:Sl H 1 ts (encI aA)) (o1:ks.one=true) (o2:ts.one=true) (i1:∀y∈keep,iw y) (i2:∀y∈aA,iw y) (hn:2000000≤n):
  ∃v H',au.runT ap (n+14) H.next (.fn 7) [.int .u64 (snap:Int),a1,.int .u8 (bI:Int),.agg [ks,ts]] H=some (v,H')∧v= .bool true:=by
 refine agE a7 ?_
 unfold F7
 have hb:(([ks,ts]:List aa).all fun v=>v.one)=true:=by simp only [List.all_cons,List.all_nil,o1,o2,Bool.and_true]
 have kx:aO H (H.push (.cells [ks,ts])):= .push _ _
 have cx:(H.push (.cells [ks,ts])).cells H.next=some [ks,ts]:=ct _ _
 have nx:(H.push (.cells [ks,ts])).next=H.next+1:=ah.bK _ _
 obtain ⟨_,H4,g1,e4,t1,rfl,wD⟩:=QJ (n:=n+12) (lim:=H.next) (gl.keep kx) (by omega)
 rw [e4] at g1
 have tu:∀G,sC H.next [] G=some (.bool true,G):=fun G=>rfl
 cases t1 with
 | true=>
  (repeat (first | ((first | with_reducible apply aF | with_reducible apply aG);(focus (first | with_reducible rfl | (simp only [aE,aC,aD,Nat.zero_add,Nat.add_zero,Bool.not_true,Bool.not_false,decide_true,decide_false,reduceIte,and_self,Bool.false_eq_true,hb,g1,xQ,tu] <;>with_reducible rfl)))) | with_reducible apply aH | with_reducible apply aI))
  exact rfl
 | false=>
  obtain ⟨Ii,tA⟩:=wD rfl
  have lx:aB (H.push (.cells [ks,ts])) (some 2) (.ptr (some (H.next,0)))=some (.agg [ks,ts]):=kX cx rfl
  obtain ⟨_,dV,g2,rfl,uU,_⟩:=aec (n:=n+12) (lim:=H.next) (s1.keep kx) (s2.keep kx) o1 o2
  cases sw:Co keep aA with
  | true=>
   rw [sw] at g2
   (repeat (first | ((first | with_reducible apply aF | with_reducible apply aG);(focus (first | with_reducible rfl | (simp only [aE,aC,aD,Nat.zero_add,Nat.add_zero,Bool.not_true,Bool.not_false,decide_true,decide_false,reduceIte,and_self,Bool.false_eq_true,hb,g1,lx,g2,xQ,tu] <;>with_reducible rfl)))) | with_reducible apply aH | with_reducible apply aI))
   exact rfl
  | false=>
   rw [sw] at g2
   unfold Co at sw
   simp only [Bool.or_eq_false_iff,decide_eq_false_iff_not] at sw
   have hc:Ib H ks ts keep aA:=⟨s1,s2,o1,o2,i1,i2,by omega,by omega⟩
   have hc1:=hc.l1;have hc2:=hc.l2
   have aep:=kx.trans uU
   have n11:=uU.next
   obtain ⟨b,m,gM,ia,uK,p1,p2,p3,k16,d16,c16,p7,p8,p9,p10,p11,p12⟩:=ahJ (n:=n+12) (lim:=H.next) (H:=dV) (by omega) (by omega)
   have n16:=k16.next
   obtain ⟨sv,mL,g4,Pv,bv,ov,bvb⟩:=QD (n:=n+9) (lim:=H.next) (gl.keep (aep.trans k16)) (fun r hr=>jQ r hr (tA r hr)) (by omega) (by omega) (by omega) (by omega)
   have n18:=Pv.next
   have k9:∀r∈base.filter dJ,gR r:=fun r hr=>by
    obtain ⟨h1,h2⟩:=List.mem_filter.1 hr
    exact ⟨h2,jQ r h1 (tA r h1),tA r h1⟩
   have hml:(base.filter dJ).length≤40:=Nat.le_trans (List.length_filter_le _ _) Ii
   generalize base.filter dJ=told at ov k9 hml
   have Qj:av .rem (.int .u8 (bI:Int)) (.int .u8 50)=some (.int .u8 ((bI % 50:Nat):Int)):=by
    refine (J0 (k:= .u8) (a:=(bI:Int)) (b:=50) (by decide)).trans ?_
    have:((bI:Nat):Int).tmod 50=((bI % 50:Nat):Int):=by rw [Int.tmod_eq_emod_of_nonneg (by omega)];omega
    rw [this]
   have ahN:bI % 50 <50:=Nat.mod_lt _ (by decide)
   have q0:(((bI % 50:Nat):Int)==0)=decide (bI % 50=0):=ieq _ 0
   generalize bI % 50=u at Qj ahN q0
   have wu:IntKind.i64.wrap (u:Int)=(u:Int):=wrap_i64 (by omega) (by omega)
   have pV:∀c,c≠b→c≠m→ ¬cM b m c:=fun c h1 h2 e=>by rcases e with e | e;exact h1 e;exact h2 e
   obtain ⟨_,fu,g6,h22,f22⟩:=adz (n:=n+11) (lim:=H.next) (M:=fun c=>c=b∨c=m) (d16.keep Pv) (.inl rfl) (by omega) (u:Int)
   have n22:=f22.next
   have lJ:yW jC (u:Int)=bare false u:=rfl
   have aim:=PW PO (n:=(u:Int)) (by omega)
   rw [lJ] at h22 aim
   have qJ:∀c,bC sv=some c→ ¬cM b m c:=fun c fm e=>by
    have hb':=ov.blk c fm
    subst hb'
    have:=bvb fm
    rcases e with e | e <;>omega
   have Q6:=ov.sl.frame f22 qJ
   have aiL:fu.cells ia.next=some (cJ cj):=f22.cells (Pv.cells c16) (pV _ (by omega) (by omega))
   have hK0:0+(told.length+1) * 2000000≤1000000000:=by omega
   have c2:1000040≤n+2:=Nat.le_trans (by decide) (Nat.le_trans hn (Nat.le_add_right n 2))
   obtain ⟨r,fJ,g5,f24,Q2⟩:=adS (n:=n+2) (lim:=H.next) (K:=0) (snap:=snap) (tb:=ia.next) (T:=cj) h22 aim (.inl rfl) (.inr rfl) (by omega) (by omega) (fun c e=>by rcases e with rfl | rfl <;>omega) HR Q6 (fun r hr=>(k9 r hr).rA) aiL Cp (pV _ (by omega) (by omega)) hs hK0 c2 (by omega) (by omega) (by omega)
   have n24:=f24.next
   have bQ:bh false sv=some (.int .i64 (told.length:Int)):=by rw [ov.sl.len,List.length_map]
   have hDb:=HZ (n:=eL) (B:=500) (dh (aX cj) told.length snap told) 0 (bare false u) aim (ahL (told:=told) (snap:=snap) hs (by omega) k9)
   have hlb:fC eL (bare false u) (dh (aX cj) told.length snap told)=nU (aX cj) eL snap (bare false u) told:=by
    unfold nU
    rw [if_neg (by simp [bare]),if_neg (by simp [bare]),Cn k9,if_neg (by simp)]
   rw [hlb] at hDb
   have e70:((7:Int)==0)=false:=rfl
   have e77:((7:Int) !=7)=false:=rfl
   have bb:∀t:Bool,dZ false .bool (.bool t) (.bool t)=some (.bool true):=fun t=>by cases t <;>rfl
   have main:∀D',nU (aX cj) eL snap (bare false u) told=(7,D')→((u=1∧D'=bare true 0)∨(∃pre,pre <+:told∧D'=one eL (dh (aX cj) told.length snap pre) 0 true 0))→F7 (au.runT ap (n+13)) H.next (n+13) (fun v _=>v= .bool true) (.int .u64 (snap:Int)) a1 (.int .u8 (bI:Int)) (.agg [ks,ts]) H:=by
    intro D' e S8
    unfold F7
    rw [e] at Q2 hDb
    have hDb:bV 50000 D':=hDb.mono (by rw [u9];omega)
    rcases Q2 with ⟨_,rfl,aer⟩ | ⟨h,_⟩
    rotate_left
    ·exact absurd h (by simp)
    have g5:au.runT ap (n+13) H.next (.fn 21) [ptr b,ptr ia.next,.int .u64 7,.int .u64 (snap:Int),sv] fu=some (.bq [.ptr none,.int .i64 7],fJ):=g5
    dsimp only at aer
    have aiM:=f22.trans f24 (fun c _ e=>e)
    have HP:aO H fJ:=bu.keeps ((aep.trans k16).trans Pv) aiM fun c fm e=>by rcases e with e | e <;>omega
    have ajm:fJ.cells H.next=some [ks,ts]:=aiM.cells ((uU.trans (k16.trans Pv)).cells cx) (pV _ (by omega) (by omega))
    have a9:aB fJ (some 2) (.ptr (some (H.next,0)))=some (.agg [ks,ts]):=kX ajm rfl
    obtain ⟨_,nL,g8,h44,f44⟩:=adN (n:=n+10) (lim:=H.next) aer hDb (by omega) (.inl rfl) (.inr rfl) (by omega) (by omega) (by omega) hc.s1 hc.s2 (by omega) (by omega) HP hc.o1 hc.o2 hc.i1 hc.i2 (by omega) (by omega)
    obtain ⟨_,Fy,g9,h46,f46⟩:=adA (n:=n+11) (lim:=H.next) h44 (.inl rfl) (by omega)
    have ain:=f44.trans f46 (fun c _ e=>e)
    have n46:=ain.next
    have hDc:=PX (PZ hDb keep aA)
    obtain ⟨r,o8,g10,k48,sw,bw,rfl,o48,NV⟩:=adX (n:=n+3) (lim:=H.next) (tb:=ia.next) (T:=cj) h46 hDc (by omega) HR (ain.cells (f24.cells aiL (pV _ (by omega) (by omega))) (pV _ (by omega) (by omega))) Cp (by omega) (by omega) (by omega)
    have n48:=k48.next
    have d48:=h46.keep k48
    have t48:=((Q6.frame f24 qJ).frame ain qJ).keep k48
    rcases ajk (u:=u) hs hml k9 S8 keep aA with ⟨hr,hfs⟩ | ⟨hr,hrc⟩ | ⟨aN,hr,hpre,hrc⟩
    ·rw [hr] at g10 o48
     dsimp only at g10 o48
     have g10:au.runT ap (n+13) H.next (.fn 26) [ptr b,ptr ia.next,.int .u64 7] Fy=some (.bq [.int .u64 0,sw,.bool false,.int .i64 4],o8):=g10
     obtain ⟨_,A9,g11,rfl,k66⟩:=ajh (n:=n+7) (lim:=H.next) d48 hDc (by omega) hfs
     have c1:=QH (n:=n+11) (lim:=H.next) (o48.sl.keep k66) (t48.keep k66) (by simp) (by omega) (by simp)
     rw [dT List.nil_prefix] at c1
     have al:bh false (.sl none 0 (.ex 0))=some (.int .i64 0):=rfl
     have e40:((4:Int) !=0)=true:=rfl
     have e44:((4:Int) !=4)=false:=rfl
     have ajn:((4:Int)==4)=true:=rfl
     have ajo:((4:Int)==0)=false:=rfl
     (repeat (first | ((first | with_reducible apply aF | with_reducible apply aG);(focus (first | with_reducible rfl | (simp only [aE,aC,aD,Nat.zero_add,Nat.add_zero,Bool.not_true,Bool.not_false,decide_true,decide_false,reduceIte,and_self,Bool.false_eq_true,hb,g1,lx,g2,p1,p2,p3,g4,Qj,wu,g6,g5,e70,a9,g8,g9,g10,e77,e40,e44,ajn,g11,al,fq,c1,ajo,bb,xQ,tu] <;>with_reducible rfl)))) | with_reducible apply aH | with_reducible apply aI))
     exact rfl
    ·rw [hr] at g10 o48
     dsimp only at g10 o48
     have g10:au.runT ap (n+13) H.next (.fn 26) [ptr b,ptr ia.next,.int .u64 7] Fy=some (.bq [.int .u64 0,sw,.bool false,.int .i64 0],o8):=g10
     have c1:=QH (n:=n+11) (lim:=H.next) o48.sl t48 (by simp) (by omega) (by simp)
     rw [dT List.nil_prefix] at c1
     obtain ⟨_,Mo,g11,rfl,k87⟩:=aiK (n:=n+7) (lim:=H.next) d48 (by omega)
     rw [hrc] at g11
     have g11:au.runT ap (n+13) H.next (.fn 38) [ptr b] o8=some (.bool false,Mo):=g11
     have e00:((0:Int)==0)=true:=rfl
     have e04:((0:Int)==4)=false:=rfl
     have al:bh false sw=some (.int .i64 0):=o48.sl.len
     have q1:((0:Int)==(told.length:Int))=decide (0=told.length):=ieq 0 _
     by_cases h0:0=told.length
     ·rw [dT h0] at q1
      (repeat (first | ((first | with_reducible apply aF | with_reducible apply aG);(focus (first | with_reducible rfl | (simp only [aE,aC,aD,Nat.zero_add,Nat.add_zero,Bool.not_true,Bool.not_false,decide_true,decide_false,reduceIte,and_self,Bool.false_eq_true,hb,g1,lx,g2,p1,p2,p3,g4,Qj,wu,g6,g5,e70,a9,g8,g9,g10,e77,fq,e04,c1,e00,al,bQ,q1,g11,bb,xQ,tu] <;>with_reducible rfl)))) | with_reducible apply aH | with_reducible apply aI))
      exact rfl
     ·rw [dF h0] at q1
      (repeat (first | ((first | with_reducible apply aF | with_reducible apply aG);(focus (first | with_reducible rfl | (simp only [aE,aC,aD,Nat.zero_add,Nat.add_zero,Bool.not_true,Bool.not_false,decide_true,decide_false,reduceIte,and_self,Bool.false_eq_true,hb,g1,lx,g2,p1,p2,p3,g4,Qj,wu,g6,g5,e70,a9,g8,g9,g10,e77,fq,e04,c1,e00,al,bQ,q1,bb,xQ,tu] <;>with_reducible rfl)))) | with_reducible apply aH | with_reducible apply aI))
      exact rfl
    ·rw [hr] at g10 o48
     dsimp only at g10 o48
     have dU:=hpre.length_le
     have g10:au.runT ap (n+13) H.next (.fn 26) [ptr b,ptr ia.next,.int .u64 7] Fy=some (.bq [.int .u64 (snap:Int),sw,.bool (decide (told.length≤aN.length)),.int .i64 0],o8):=g10
     have c1:=QH (n:=n+11) (lim:=H.next) o48.sl t48 (by omega) (by omega) (by omega)
     rw [dT hpre] at c1
     obtain ⟨_,Mo,g11,rfl,k87⟩:=aiK (n:=n+7) (lim:=H.next) d48 (by omega)
     rw [dT hrc] at g11
     have e00:((0:Int)==0)=true:=rfl
     have e04:((0:Int)==4)=false:=rfl
     have al:bh false sw=some (.int .i64 (aN.length:Int)):=by rw [o48.sl.len,List.length_map]
     have q1:((aN.length:Int)==(told.length:Int))=decide (aN.length=told.length):=ieq _ _
     have hss:((snap:Int)==(snap:Int))=true:=by simp
     by_cases h0:aN.length=told.length
     ·rw [dT h0] at q1
      rw [dT (Nat.le_of_eq h0.symm)] at g10
      (repeat (first | ((first | with_reducible apply aF | with_reducible apply aG);(focus (first | with_reducible rfl | (simp only [aE,aC,aD,Nat.zero_add,Nat.add_zero,Bool.not_true,Bool.not_false,decide_true,decide_false,reduceIte,and_self,Bool.false_eq_true,hb,g1,lx,g2,p1,p2,p3,g4,Qj,wu,g6,g5,e70,a9,g8,g9,g10,e77,fq,e04,c1,e00,al,bQ,q1,g11,bb,hss,xQ,tu] <;>with_reducible rfl)))) | with_reducible apply aH | with_reducible apply aI))
      exact rfl
     ·rw [dF h0] at q1
      rw [dF (by omega)] at g10
      (repeat (first | ((first | with_reducible apply aF | with_reducible apply aG);(focus (first | with_reducible rfl | (simp only [aE,aC,aD,Nat.zero_add,Nat.add_zero,Bool.not_true,Bool.not_false,decide_true,decide_false,reduceIte,and_self,Bool.false_eq_true,hb,g1,lx,g2,p1,p2,p3,g4,Qj,wu,g6,g5,e70,a9,g8,g9,g10,e77,fq,e04,c1,e00,al,bQ,q1,bb,xQ,tu] <;>with_reducible rfl)))) | with_reducible apply aH | with_reducible apply aI))
      exact rfl
   rcases aji (snap:=snap) k9 u with ⟨⟨u',e⟩,hu⟩ | ⟨rM,e⟩ | ⟨pre,hpre,e⟩
   ·rw [e] at Q2
    rcases Q2 with ⟨h,_⟩ | ⟨_,lb,rfl,cL,hlb,aer⟩
    ·exact absurd rfl h
    have g5:au.runT ap (n+13) H.next (.fn 21) [ptr b,ptr ia.next,.int .u64 7,.int .u64 (snap:Int),sv] fu=some (.bq [ptr lb,.int .i64 0],fJ):=g5
    have e00:((0:Int)==0)=true:=rfl
    have w2:IntKind.i64.wrap ((told.length:Int)+2)=((told.length+2:Nat):Int):=by rw [wrap_i64 (by omega) (by omega)];omega
    have d1:decide (((told.length+2:Nat):Int) <(u:Int))=decide (told.length+2 <u):=by rw [Bool.eq_iff_iff];simp;omega
    by_cases h0:u=0
    ·rw [dT h0] at q0
     (repeat (first | ((first | with_reducible apply aF | with_reducible apply aG);(focus (first | with_reducible rfl | (simp only [aE,aC,aD,Nat.zero_add,Nat.add_zero,Bool.not_true,Bool.not_false,decide_true,decide_false,reduceIte,and_self,Bool.false_eq_true,hb,g1,lx,g2,p1,p2,p3,g4,Qj,wu,g6,g5,e00,q0,xQ,tu] <;>with_reducible rfl)))) | with_reducible apply aH | with_reducible apply aI))
     exact rfl
    ·rw [dF h0] at q0
     rw [dT (show told.length+2 <u by omega)] at d1
     (repeat (first | ((first | with_reducible apply aF | with_reducible apply aG);(focus (first | with_reducible rfl | (simp only [aE,aC,aD,Nat.zero_add,Nat.add_zero,Bool.not_true,Bool.not_false,decide_true,decide_false,reduceIte,and_self,Bool.false_eq_true,hb,g1,lx,g2,p1,p2,p3,g4,Qj,wu,g6,g5,e00,q0,bQ,w2,d1,xQ,tu] <;>with_reducible rfl)))) | with_reducible apply aH | with_reducible apply aI))
     exact rfl
   ·exact main _ e (.inl ⟨rM,rfl⟩)
   ·exact main _ e (.inr ⟨pre,hpre,rfl⟩)
theorem ajq (H:ah) (xs:List aa) (k:aO base H) (h:oU H [(false,.int .u64 .nil),(false,.slice zi .nil),(false,.int .u8 .nil),(true,QL)] xs):∃n,isTrue (run ap n H.next 7 xs H)=true:=by
 obtain ⟨a0,_,rfl,h0,a1,_,rfl,h1,a2,_,rfl,h2,a3,_,rfl,h3,rfl⟩:=h
 simp only [Bool.false_eq_true,if_false,if_true] at h0 h1 h2 h3
 obtain ⟨x0,_,e0,w0,rfl⟩:=h0
 simp only [List.cons.injEq,and_true] at e0
 subst e0
 have hx:=Cj w0
 obtain ⟨x1,_,e1,_,w1,rfl⟩:=h1
 simp only [List.cons.injEq,and_true] at e1
 subst e1
 obtain ⟨bs,b1,b2⟩:=QZ w1
 obtain ⟨x2,_,e2,w2,rfl⟩:=h2
 simp only [List.cons.injEq,and_true] at e2
 subst e2
 have hx2:=lV w2
 obtain ⟨cs,rfl,hc⟩:=h3
 obtain ⟨ks,ts,keep,aA,rfl,s1,s2,o1,o2,k1,k2⟩:=aeb hc
 obtain ⟨z,rfl⟩:∃z:Nat,x0=(z:Int):=⟨x0.toNat,by omega⟩
 obtain ⟨y,rfl⟩:∃y:Nat,x2=(y:Int):=⟨x2.toNat,by omega⟩
 exact ⟨_,adY (ajl (n:=2000000) (bI:=y) (snap:=z) (by omega) b1 b2 (by omega) s1 s2 o1 o2 k1 k2 (Nat.le_refl _))⟩
end
end Go.Proofs.YtfigbgjbaohglaaGreatDoor.bP
end
