/- Parts of the proof. -/
import Derived.Test.YtfigbgjbaohglaaGreatDoorY7
import Derived.Test.YtfigbgjbaohglaaGreatDoorY15
import Derived.Test.YtfigbgjbaohglaaGreatDoorY12
import Derived.Test.YtfigbgjbaohglaaGreatDoorY14
section
set_option maxRecDepth 100000
set_option linter.unusedVariables false
set_option linter.unusedSimpArgs false
namespace Go.Proofs.YtfigbgjbaohglaaGreatDoor.bP
open Go.au Go.au.Wl
def nU (S:Sum) (nm:Bs) (snap:Nat) (D:bf) (rs:List bD):Int × bf:=
 if D.off=true then (7,D) else if nm∈D.fs.map (·.1) then (5,D) else if rs.all dJ=false then (1,D) else fC nm D (dh S rs.length snap rs)
section
variable {M:Nat→Prop} {H:ah} {b m tb num:Nat} {D:bf} {T:List Int} {nm:Bs}
theorem adS {n lim K snap:Nat} {v:aa} {rs:List bD} (h:bN M H b m D) (hD:bV K D) (eR:M b) (eS:M m) (hlb:lim≤b) (fD:lim≤m) (hM:∀c,M c→c <H.next) (hN:u6 num nm)
  (hv:Sl H 16 v (rs.map aR)) (hok:∀r∈rs,rA r) (hT:H.cells tb=some (cJ T)) (ko:T.length=256) (htb:¬cM b m tb) (hs:snap <18446744073709551616)
  (Cf:K+(rs.length+1) * 2000000≤1000000000) (hn:1000040≤n) (hnK:K <n) (hnl:rs.length+1 <n) (hlim:lim≤H.next):
  ∃r H',au.runT ap (n+11) lim (.fn 21) [ptr b,ptr tb,.int .u64 (num:Int),.int .u64 (snap:Int),v] H=some (r,H')∧bu (cM b m) H H'∧
   ((nU (aX T) nm snap D rs).1≠0∧r= .bq [.ptr none,.int .i64 (nU (aX T) nm snap D rs).1]∧bN M H' b m (nU (aX T) nm snap D rs).2∨
    (nU (aX T) nm snap D rs).1=0∧ ∃lb,r= .bq [ptr lb,.int .i64 0]∧H'.cells lb=some (jE b tb num 0)∧H.next≤lb∧bN (fun c=>M c∨c=lb) H' b m (nU (aX T) nm snap D rs).2):=by
 refine YT a21 ?_
 unfold FI nU
 have hp:=HS (n:=n+7) (lim:=lim) (tb:=tb) h
 have hlt:=h.nS
 have s9:=h.pR
 have HV:rs.length≤1000000:=by omega
 cases ho:D.off with
 | true=>
  have hpi:dM D=7:=by unfold dM;rw [ho];rfl
  have q:((7:Int) !=0)=true:=rfl
  (repeat (first | ((first | with_reducible apply aF | with_reducible apply aG);(focus (first | with_reducible rfl | (simp only [aE,aC,aD,Nat.zero_add,Nat.add_zero,Bool.not_true,Bool.not_false,decide_true,decide_false,reduceIte,and_self,Bool.false_eq_true,hp,hpi,q] <;>with_reducible rfl)))) | with_reducible apply aH | with_reducible apply aI))
  exact ⟨.refl _ _,.inl ⟨by simp,by simp,h⟩⟩
 | false=>
  have hpi:dM D=0:=by unfold dM;rw [ho];rfl
  simp only [Bool.false_eq_true,if_false]
  obtain ⟨vl,H6,g1,eM,k1,qJ⟩:=Qe (n:=n+9) (lim:=lim) h hD (by omega)
  have n1:=k1.next
  obtain ⟨H8,g2,k2⟩:=hN (n+10) lim H6 (by omega) (by omega)
  have n2:=k2.next
  have hfl:=hD.len
  have g3:=adP (n:=n+8) (lim:=lim) (x:=nm) (eM.keep k2) (by rw [List.length_map];omega) (by rw [List.length_map];omega)
  have rB:=k1.trans k2
  by_cases hin:nm∈D.fs.map (·.1)
  ·rw [dT hin] at g3
   rw [if_pos hin]
   (repeat (first | ((first | with_reducible apply aF | with_reducible apply aG);(focus (first | with_reducible rfl | (simp only [aE,aC,aD,Nat.zero_add,Nat.add_zero,Bool.not_true,Bool.not_false,decide_true,decide_false,reduceIte,and_self,Bool.false_eq_true,hp,hpi,fq,g1,g2,g3] <;>with_reducible rfl)))) | with_reducible apply aH | with_reducible apply aI))
   exact ⟨.of rB,.inl ⟨by simp,by simp,h.keep rB⟩⟩
  rw [dF hin] at g3
  rw [if_neg hin]
  obtain ⟨o,gM,g4,k3,hc⟩:=Qr (n:=n+2) (lim:=lim) (hv.keep rB) hok HV (by omega) (by omega)
  have n3:=k3.next
  have mY:=rB.trans k3
  rcases hc with ⟨ha,sv,bv,rfl,hown,iq⟩ | ⟨ha,rfl⟩
  rotate_left
  ·rw [if_pos ha]
   (repeat (first | ((first | with_reducible apply aF | with_reducible apply aG);(focus (first | with_reducible rfl | (simp only [aE,aC,aD,Nat.zero_add,Nat.add_zero,Bool.not_true,Bool.not_false,decide_true,decide_false,reduceIte,and_self,Bool.false_eq_true,hp,hpi,fq,g1,g2,g3,g4] <;>with_reducible rfl)))) | with_reducible apply aH | with_reducible apply aI))
   exact ⟨.of mY,.inl ⟨by simp,by simp,h.keep mY⟩⟩
  rw [if_neg (by rw [ha];simp)]
  have jQ:fW LW [(0,1,ptr b),(1,1,ptr tb),(2,1,(.int .u64 (num:Int)))]=some (.agg (jE b tb num 0)):=rfl
  have hall:((jE b tb num 0).all fun v=>v.one)=true:=rfl
  have pP:aO gM (gM.push (.cells (jE b tb num 0))):= .push _ _
  have c20:(gM.push (.cells (jE b tb num 0))).cells gM.next=some (jE b tb num 0):=ct _ _
  have n20:(gM.push (.cells (jE b tb num 0))).next=gM.next+1:=ah.bK _ _
  generalize Qw:gM.push (.cells (jE b tb num 0))=eO at *
  have bQ:bh false v=some (.int .i64 (rs.length:Int)):=by rw [hv.len,List.length_map]
  obtain ⟨_,gP,g5,rfl,HW⟩:=ac1 (n:=n+8) (lim:=lim) (H:=eO) (base:=rs.length) (snap:=snap) (by omega) hs (by omega)
  have n23:=HW.next
  have f1:cU [(.str [])] [(0,1,(.str (fB rs.length snap)))]=some [.str (fB rs.length snap)]:=rfl
  have Qx:aO gP (gP.push (.cells [.str (fB rs.length snap)])):= .push _ _
  have hsv:Sl gM 1 sv (bT (rs.map bM)):=hown.sl
  have hel:(bT (rs.map bM)).length=rs.length:=by rw [iJ,List.length_map]
  have hfz:Fz (gP.push (.cells [.str (fB rs.length snap)])) 1 (.sl (some (gP.next,0)) 1 (.ex 1)) (bT [fB rs.length snap]):=
   ⟨by intro x hx;simp [bT] at hx;subst hx;exact ⟨rfl,rfl⟩,.inr ⟨gP.next,0,.ex 1,_,rfl,Nat.le_refl _,ct _ _,by simp [bT],by simp [bT]⟩⟩
  have hsrc:source (gP.push (.cells [.str (fB rs.length snap)])) 1 sv=some ((bT (rs.map bM)).length,(bT (rs.map bM)).flatten):=Sl.source (hsv.keep ((pP.trans HW).trans Qx))
  have CA:∃v' gQ,fO lim (gP.push (.cells [.str (fB rs.length snap)])) [(.str [])] 16 false (.sl (some (gP.next,0)) 1 (.ex 1)) sv=some (v',gQ)∧Sl gQ 1 v' (bT (fB rs.length snap::rs.map bM))∧aO (gP.push (.cells [.str (fB rs.length snap)])) gQ∧ ∀c,bC v'=some c→gP.next≤c:=by
   by_cases m4:rs=[]
   ·subst m4
    have ahe:Own (gP.push (.cells [.str (fB 0 snap)])) 1 (.sl (some (gP.next,0)) 1 (.ex 1)) (bT [fB 0 snap]) gP.next∨True:= .inr trivial
    refine ⟨.sl (some (gP.next,0)) 1 (.ex 1),gP.push (.cells [.str (fB 0 snap)]),?_,?_,.refl _,fun c hc=>by simp [bC] at hc;omega⟩
    ·have hs0:source (gP.push (.cells [.str (fB 0 snap)])) 1 sv=some (0,[]):=hsrc
     unfold fO
     simp only [List.length_cons,List.length_nil,Nat.zero_add,hs0,Option.bind_eq_bind,Option.bind_some]
     simp
    ·exact hfz.sl
   ·obtain ⟨d1,d2⟩:=hfz.append (lim:=lim) ⟨_,_,rfl⟩ (bytes:=16) (zero:=[.str []]) (x:=sv) (ys:=bT (rs.map bM)) rfl (by decide) hsrc (fun y hy=>by
      obtain ⟨t,_,rfl⟩:=List.mem_map.1 hy
      exact ⟨rfl,rfl⟩) (fun e=>m4 (by simpa [bT] using e)) (by rw [iJ,hel];simp [room];omega) (by rw [iJ,hel];simp [room];omega)
    refine ⟨_,_,d1,?_,.push _ _,fun c hc=>by simp [bC,ah.bK] at hc;omega⟩
    have e:bT (fB rs.length snap::rs.map bM)=bT [fB rs.length snap]++bT (rs.map bM):=by rw [←HJ];rfl
    rw [e];exact d2.sl
  obtain ⟨v',gQ,g6,adT,k27,adU⟩:=CA
  have Cg:=(HW.trans Qx).trans k27
  have Ch:=(mY.trans pP).trans Cg
  have n27:=Ch.next
  have hdn:∀c,H.next≤c→ ¬cM b m c:=fun c hc e=>by rcases e with rfl | rfl <;>omega
  have adV:bN (fun c=>M c∨c=gM.next) H b m D:=h.more fun c hc e=>by
   rcases e with e | e
   ·exact e
   ·omega
  have adW:∀c,(M c∨c=gM.next)→c <gQ.next:=fun c e=>by
   have:=Cg.next
   rcases e with e | e
   ·have:=hM c e;omega
   ·omega
  obtain ⟨r,iP,g7,pM,h2,f2⟩:=Qv (n:=n+1) (lim:=lim) (ts:=fB rs.length snap::rs.map bM) (fM:=0) (tb:=tb) (lb:=gM.next) (adV.keep Ch) hD (.inl eR) (.inl eS) hlb fD adW hN adT (fun c hc=>hdn c (by have:=adU c hc;omega)) (Ch.cells hT) ko (Cg.cells c20) htb (hdn _ (by omega)) (fun t ht=>by
    rcases List.mem_cons.1 ht with rfl | ht
    ·have:=BW (b:=rs.length) (n:=snap) (by omega) hs;omega
    ·obtain ⟨r,hr,rfl⟩:=List.mem_map.1 ht
     have:=B3 (hok r hr).1
     have:=(hok r hr).2
     omega) (by simp only [List.length_cons,List.length_map];omega) (by omega) (by simp only [List.length_cons,List.length_map];omega) (by omega)
  subst pM
  have za:(fB rs.length snap::rs.map bM).map (cA (aX T))=dh (aX T) rs.length snap rs:=by unfold dh;rw [List.map_cons,List.map_map];rfl
  rw [za] at g7 h2
  have fr:=(bu.of (S:=cM b m) Ch).trans f2 (fun c _ e=>e)
  by_cases h0:(fC nm D (dh (aX T) rs.length snap rs)).1=0
  ·have q0:((fC nm D (dh (aX T) rs.length snap rs)).1 !=0)=false:=by rw [h0];rfl
   (repeat (first | ((first | with_reducible apply aF | with_reducible apply aG);(focus (first | with_reducible rfl | (simp only [aE,aC,aD,Nat.zero_add,Nat.add_zero,Bool.not_true,Bool.not_false,decide_true,decide_false,reduceIte,and_self,Bool.false_eq_true,hp,hpi,fq,g1,g2,g3,g4,jQ,hall,Qw,bQ,g5,f1,g6,g7,q0] <;>with_reducible rfl)))) | with_reducible apply aH | with_reducible apply aI))
   exact ⟨fr,.inr ⟨h0,gM.next,by simp,f2.cells (Cg.cells c20) (hdn _ (by omega)),by omega,h2⟩⟩
  ·have q0:((fC nm D (dh (aX T) rs.length snap rs)).1 !=0)=true:=by simpa using h0
   (repeat (first | ((first | with_reducible apply aF | with_reducible apply aG);(focus (first | with_reducible rfl | (simp only [aE,aC,aD,Nat.zero_add,Nat.add_zero,Bool.not_true,Bool.not_false,decide_true,decide_false,reduceIte,and_self,Bool.false_eq_true,hp,hpi,fq,g1,g2,g3,g4,jQ,hall,Qw,bQ,g5,f1,g6,g7,q0] <;>with_reducible rfl)))) | with_reducible apply aH | with_reducible apply aI))
   exact ⟨fr,.inl ⟨h0,by simp,h2.more fun c _ e=> .inl e⟩⟩
def m5 (S:Sum) (nm:Bs) (D:bf):Nat × List bD × Bool × Int:=
 if (iI D nm).2≠0 then (0,[],false,(iI D nm).2) else ((mX S (iI D nm).1).1,(mX S (iI D nm).1).2.1,(mX S (iI D nm).1).2.2,0)
theorem HX (S:Sum) (s:Bs):(dx S s).2≤s.length∧(dx S s).1.length≤s.length:=by
 unfold dx
 cases h:rV s with
 | none=>simp
 | some x=>
  obtain ⟨a,z⟩:=x
  have:=(rj h).1
  simp only
  split
  ·simp
  ·split
   ·simp
   ·simp;omega
theorem Qy {n lim N:Nat} {Kc:aa→ah→Prop} {H0:ah} {snap base:Nat} {fin:List bD} (hT:H0.cells tb=some (cJ T)) (ko:T.length=256) (hlim:lim≤H0.next) (hn:1000040≤n) (hbase:base <18446744073709551616)
  (GX:fin.length≤1000000000)
  (hK:∀sv bv H',Own H' 16 sv (fin.map aR) bv→(bC sv=some bv→H0.next≤bv∧bv <H'.next)→aO H0 H'→Kc (.bq [.int .u64 (snap:Int),sv,.bool (decide (base≤fin.length)),.int .i64 0]) H'):
  ∀(k j:Nat) (s:Bs) (z:Nat) (acc:List bD) (sv:aa) (bv:Nat) (G:ah),z≤s.length→s.length - z <k→s.length≤1000000000→s.length <n→k≤j→acc++kj (aX T) k (s.drop z)=fin→Own G 16 sv (acc.map aR) bv→(bC sv=some bv→H0.next≤bv∧bv <G.next)→aO H0 G→
   qR (au.runT ap (n+9)) lim N Kc j (ptr tb) (.int .u64 (snap:Int)) sv (.str s) (.int .i64 (z:Int)) (.int .u64 (base:Int)) G
 | 0,_,_,_,_,_,_,_,_,h,_,_,_,_,_,_,_=>by omega
 | k+1,0,_,_,_,_,_,_,_,_,_,_,h,_,_,_,_=>by omega
 | k+1,j+1,s,z,acc,sv,bv,G,hz,hk,hs,zN,hkj,hf,ho,iq,k0=>by
  show xX _ _ _ _ (qR _ _ _ _ j) _ _ _ _ _ _ _
  unfold xX
  have eM:=nQ (s:=s) (a:=z) hz
  have hdl:(s.drop z).length=s.length - z:=List.length_drop
  generalize s.drop z=u at eM hf hdl
  have n0:=k0.next
  obtain ⟨_,mQ,g1,rfl,k1⟩:=PN (n:=n+2) (lim:=lim) (H:=G) (s:=u) (k0.cells hT) ko (by omega) (by omega) (by omega)
  have n1:=k1.next
  obtain ⟨l1,l2⟩:=HX (aX T) u
  obtain ⟨_,jz,g2,rfl,k2⟩:=Pz (n:=n+3) (lim:=lim) (H:=mQ) (s:=(dx (aX T) u).1) (by omega) (by omega) (by omega)
  have n2:=k2.next
  have st:=yQ (lim:=lim) (G:=jz) (by omega) (cs:=cV) rfl (jj (dx (aX T) u).1)
  have kp:aO jz (jz.push (.cells (aR (jj (dx (aX T) u).1)))):= .push _ _
  have la:=rq (ct jz (aR (jj (dx (aX T) u).1)))
  have kk:=(k1.trans k2).trans kp
  have hge:IntKind.u64.wrap (fin.length:Int)=(fin.length:Int):=jM (by omega)
  have hgd:decide ((base:Int)≤(fin.length:Int))=decide (base≤fin.length):=by rw [Bool.eq_iff_iff];simp
  have stop:kj (aX T) (k+1) u=[]→FP (au.runT ap (n+9)) lim N Kc (.int .u64 (snap:Int)) sv (.int .u64 (base:Int)) (jz.push (.cells (aR (jj (dx (aX T) u).1)))):=by
   intro he
   rw [he,List.append_nil] at hf
   subst hf
   have jS:=ho.frame (S:=fun _=>False) (.of kk) (fun e=>e)
   have bQ:bh false sv=some (.int .i64 (acc.length:Int)):=by rw [ho.sl.len,List.length_map]
   unfold FP
   (repeat (first | ((first | with_reducible apply aF | with_reducible apply aG);(focus (first | with_reducible rfl | (simp only [aE,aC,aD,Nat.zero_add,Nat.add_zero,Bool.not_true,Bool.not_false,decide_true,decide_false,reduceIte,and_self,Bool.false_eq_true,bQ,hge,hgd] <;>with_reducible rfl)))) | with_reducible apply aH | with_reducible apply aI))
   exact hK sv bv _ jS (fun e=>⟨(iq e).1,by have:=(iq e).2;have:=kk.next;omega⟩) (k0.trans kk)
  have pU:kj (aX T) (k+1) u=if (dx (aX T) u).2=0 then [] else match jB (dx (aX T) u).1 with
   | none=>[]
   | some r=>r::kj (aX T) k (u.drop (dx (aX T) u).2):=rfl
  have q0:(((dx (aX T) u).2:Int)==0)=decide ((dx (aX T) u).2=0):=ieq _ 0
  by_cases h0:(dx (aX T) u).2=0
  ·rw [dT h0] at q0
   rw [if_pos h0] at pU
   (repeat (first | ((first | with_reducible apply aF | with_reducible apply aG);(focus (first | with_reducible rfl | (simp only [aE,aC,aD,Nat.zero_add,Nat.add_zero,Bool.not_true,Bool.not_false,decide_true,decide_false,reduceIte,and_self,Bool.false_eq_true,eM,g1,g2,st,q0] <;>with_reducible rfl)))) | with_reducible apply aH | with_reducible apply aI))
   exact stop pU
  rw [dF h0] at q0
  rw [if_neg h0] at pU
  cases hr:jB (dx (aX T) u).1 with
  | none=>
   rw [hr] at g2 pU
   simp only [Option.isSome_none] at g2
   (repeat (first | ((first | with_reducible apply aF | with_reducible apply aG);(focus (first | with_reducible rfl | (simp only [aE,aC,aD,Nat.zero_add,Nat.add_zero,Bool.not_true,Bool.not_false,decide_true,decide_false,reduceIte,and_self,Bool.false_eq_true,eM,g1,g2,st,q0] <;>with_reducible rfl)))) | with_reducible apply aH | with_reducible apply aI))
   exact stop pU
  | some r=>
   rw [hr] at g2 pU
   simp only [Option.isSome_some] at g2 pU
   have r0:jj (dx (aX T) u).1=r:=by unfold jj;rw [hr];rfl
   rw [r0] at g2 st la kp kk
   have hfl:cU cV [(0,16,(.agg (aR r)))]=some (aR r):=rfl
   have kq:aO (jz.push (.cells (aR r))) ((jz.push (.cells (aR r))).push (.cells (aR r))):= .push _ _
   have jS:=ho.frame (S:=fun _=>False) (.of (kk.trans kq)) (fun e=>e)
   have hsrc:source ((jz.push (.cells (aR r))).push (.cells (aR r))) 16 (.sl (some ((jz.push (.cells (aR r))).next,0)) 1 (.ex 1))=some (([aR r]:List (List aa)).length,([aR r]:List (List aa)).flatten):=by
    have:=BO (jz.push (.cells (aR r))) (sz:=16) (n:=1) (cs:=aR r) (c:= .ex 1) rfl (by decide)
    simpa using this
   have hacc:acc.length+1≤fin.length:=by rw [←hf,pU];simp
   obtain ⟨v',H',bv',q1,q2,q3,q4,q5⟩:=uP (lim:=lim) (bytes:=72) (zero:=cV) jS rfl (by decide) hsrc (by intro y hy;simp at hy;subst hy;exact ⟨rfl,rfl⟩) (by simp [room];omega) (by simp [room];omega) (fun e=>by have:=iq e;omega)
   have e2:acc.map aR++[aR r]=(acc++[r]).map aR:=by simp
   rw [e2] at q2
   (repeat (first | ((first | with_reducible apply aF | with_reducible apply aG);(focus (first | with_reducible rfl | (simp only [aE,aC,aD,Nat.zero_add,Nat.add_zero,Bool.not_true,Bool.not_false,decide_true,decide_false,reduceIte,and_self,Bool.false_eq_true,eM,g1,g2,st,q0,la,hfl,q1] <;>with_reducible rfl)))) | with_reducible apply aH | with_reducible apply aI))
   have nk:=kk.next
   have HQ:aO H0 H':=bu.keeps (k0.trans (kk.trans kq)) q3 fun c hc e=>by
    have hb:=ho.blk c e
    subst hb
    have:=iq e
    omega
   refine Qy hT ko hlim hn hbase GX hK k j u _ (acc++[r]) v' bv' H' l1 (by omega) (by omega) (by omega) (by omega) (by rw [←hf,pU];simp) q2 (fun e=>⟨?_,q5 e⟩) HQ
   rcases q4 with ⟨rfl,h | h⟩ | h
   ·simp at h
   ·exact h.elim
   ·rw [ah.bK] at h;omega
theorem Qz (S:Sum):∀(k:Nat) (s:Bs),(kj S k s).length≤s.length
 | 0,s=>by simp [kj]
 | k+1,s=>by
  unfold kj
  split
  ·simp
  ·rename_i h
   split
   ·simp
   ·have:=Qz S k (s.drop (dx S s).2)
    rw [List.length_drop] at this
    have:=(HX S s).1
    simp only [List.length_cons]
    omega
theorem adX {n lim K:Nat} (h:bN M H b m D) (hD:bV K D) (hK:K≤100000000) (hN:u6 num nm) (hT:H.cells tb=some (cJ T)) (ko:T.length=256) (hn:1000040≤n) (hKn:K+1 <n) (hlim:lim≤H.next):
  ∃r H',au.runT ap (n+10) lim (.fn 26) [ptr b,ptr tb,.int .u64 (num:Int)] H=some (r,H')∧aO H H'∧ ∃sv bv,r= .bq [.int .u64 ((m5 (aX T) nm D).1:Int),sv,.bool (m5 (aX T) nm D).2.2.1,.int .i64 (m5 (aX T) nm D).2.2.2]∧
   Own H' 16 sv ((m5 (aX T) nm D).2.1.map aR) bv∧(bC sv=some bv→H.next≤bv∧bv <H'.next):=by
 refine Zf a26 ?_
 unfold FT
 have hp:=HS (n:=n+6) (lim:=lim) (tb:=tb) h
 have dI:∀G:ah,Own G 16 (.sl none 0 (.ex 0)) (([]:List bD).map aR) 0:=fun G=>⟨fun _ h=>by simp at h,.inl ⟨rfl,rfl⟩⟩
 cases ho:D.off with
 | true=>
  have hpi:dM D=7:=by unfold dM;rw [ho];rfl
  have q:((7:Int) !=0)=true:=rfl
  have e:m5 (aX T) nm D=(0,[],false,7):=by unfold m5 iI;simp [ho]
  rw [e]
  (repeat (first | ((first | with_reducible apply aF | with_reducible apply aG);(focus (first | with_reducible rfl | (simp only [aE,aC,aD,Nat.zero_add,Nat.add_zero,Bool.not_true,Bool.not_false,decide_true,decide_false,reduceIte,and_self,Bool.false_eq_true,hp,hpi,q] <;>with_reducible rfl)))) | with_reducible apply aH | with_reducible apply aI))
  exact ⟨.refl _,_,0,rfl,dI _,fun e=>by simp [bC] at e⟩
 | false=>
  have hpi:dM D=0:=by unfold dM;rw [ho];rfl
  obtain ⟨H6,g1,k1⟩:=hN (n+9) lim H (by omega) hlim
  have n1:=k1.next
  obtain ⟨_,H8,g2,rfl,k2⟩:=ady (n:=n+5) (lim:=lim) (h.keep k1) hD (by omega) (by omega) nm
  have n2:=k2.next
  have rB:=k1.trans k2
  unfold m5
  by_cases h0:(iI D nm).2=0
  rotate_left
  ·have q:((iI D nm).2 !=0)=true:=by simpa using h0
   rw [if_pos h0]
   (repeat (first | ((first | with_reducible apply aF | with_reducible apply aG);(focus (first | with_reducible rfl | (simp only [aE,aC,aD,Nat.zero_add,Nat.add_zero,Bool.not_true,Bool.not_false,decide_true,decide_false,reduceIte,and_self,Bool.false_eq_true,hp,hpi,fq,g1,g2,q] <;>with_reducible rfl)))) | with_reducible apply aH | with_reducible apply aI))
   exact ⟨rB,_,0,rfl,dI _,fun e=>by simp [bC] at e⟩
  have q:((iI D nm).2 !=0)=false:=by rw [h0];rfl
  rw [if_neg (by simpa using h0)]
  have eM:(iI D nm).1.length≤K:=by
   unfold iI
   rw [if_neg (by rw [ho];simp)]
   cases hl:lk D.fs nm with
   | none=>simp
   | some f=>exact (hD.files _ _ (mW hl)).bytes
  generalize (iI D nm).1=s at g2 eM
  generalize (iI D nm).2=ec at g2 q h0
  subst h0
  obtain ⟨_,mR,g3,rfl,k3⟩:=PN (n:=n+2) (lim:=lim) (H:=H8) (s:=s) (rB.cells hT) ko (by omega) (by omega) (by omega)
  obtain ⟨l1,l2⟩:=HX (aX T) s
  have g4:=ac2 (n:=n+7) (lim:=lim) (H:=mR) (s:=(dx (aX T) s).1) (by omega) (by omega)
  have mY:=rB.trans k3
  unfold mX
  simp only
  have q0:(((dx (aX T) s).2:Int)==0)=decide ((dx (aX T) s).2=0):=ieq _ 0
  by_cases h0:(dx (aX T) s).2=0
  ·rw [dT h0] at q0
   rw [if_pos (.inl h0)]
   (repeat (first | ((first | with_reducible apply aF | with_reducible apply aG);(focus (first | with_reducible rfl | (simp only [aE,aC,aD,Nat.zero_add,Nat.add_zero,Bool.not_true,Bool.not_false,decide_true,decide_false,reduceIte,and_self,Bool.false_eq_true,hp,hpi,fq,g1,g2,q,g3,g4,q0] <;>with_reducible rfl)))) | with_reducible apply aH | with_reducible apply aI))
   exact ⟨mY,_,0,rfl,dI _,fun e=>by simp [bC] at e⟩
  rw [dF h0] at q0
  have gl:(nP (dx (aX T) s).1).1 <18446744073709551616:=by
   unfold nP
   split
   ·decide
   ·split
    ·decide
    ·split
     ·decide
     ·rename_i hv;exact (rj hv).2
  cases hok:(nP (dx (aX T) s).1).2.2 with
  | false=>
   rw [hok] at g4
   rw [if_pos (.inr rfl)]
   (repeat (first | ((first | with_reducible apply aF | with_reducible apply aG);(focus (first | with_reducible rfl | (simp only [aE,aC,aD,Nat.zero_add,Nat.add_zero,Bool.not_true,Bool.not_false,decide_true,decide_false,reduceIte,and_self,Bool.false_eq_true,hp,hpi,fq,g1,g2,q,g3,g4,q0] <;>with_reducible rfl)))) | with_reducible apply aH | with_reducible apply aI))
   exact ⟨mY,_,0,rfl,dI _,fun e=>by simp [bC] at e⟩
  | true=>
   rw [hok] at g4
   rw [if_neg (by rintro (e | e);exact h0 e;simp at e)]
   have n3:=mY.next
   (repeat (first | ((first | with_reducible apply aF | with_reducible apply aG);(focus (first | with_reducible rfl | (simp only [aE,aC,aD,Nat.zero_add,Nat.add_zero,Bool.not_true,Bool.not_false,decide_true,decide_false,reduceIte,and_self,Bool.false_eq_true,hp,hpi,fq,g1,g2,q,g3,g4,q0] <;>with_reducible rfl)))) | with_reducible apply aH | with_reducible apply aI))
   have hrl:=Qz (aX T) (s.length+1) (s.drop (dx (aX T) s).2)
   rw [List.length_drop] at hrl
   refine Qy (n:=n) (H0:=mR) (fin:=kj (aX T) (s.length+1) (s.drop (dx (aX T) s).2)) (mY.cells hT) ko (by omega) hn gl (by omega) ?_ (s.length+1) (n+9) s _ [] _ mR.next mR l1 (by omega) (by omega) (by omega) (by omega) rfl ⟨fun _ h=>by simp at h,.inl ⟨rfl,rfl⟩⟩ (fun e=>by simp [bC] at e) (.refl _)
   intro sv bv H' o1 o2 o3
   exact ⟨mY.trans o3,sv,bv,rfl,o1,fun e=>⟨by have:=(o2 e).1;omega,(o2 e).2⟩⟩
end
end Go.Proofs.YtfigbgjbaohglaaGreatDoor.bP
end
section
set_option linter.unusedSimpArgs false
set_option linter.unusedVariables false
set_option linter.unusedSectionVars false
namespace Go.au
variable [Gl]
def Ci:aa→Bool
 | .int _ _ | .bool _ | .str _=>true
 | _=>false
theorem aJ.pK {ρ ρ':Mp} {v:aa} {v':Value} (h:aJ ρ v v') (hf:Ci v=true):aJ ρ' v v':=by
 cases h <;>simp [Ci] at hf
 ·exact .int _ _
 ·exact .bool _
 ·rename_i e;exact .str e
theorem az.pK {ρ ρ':Mp} {vs:List aa} {vs':List Value} (h:az ρ vs vs') (hf:vs.all Ci=true):az ρ' vs vs':=
 ⟨h.1,fun i v v' e e'=>(h.2 i v v' e e').pK (List.all_eq_true.1 hf v (List.mem_of_getElem? e))⟩
section
variable {P:Program} {D:Type} {enc:TypeId × Value→D} {w:World} {r:Reach} {base:Nat}
open Go.RowKit in
theorem ahf {ap:FuncId→Option bg} (hP:P.follows .mixedOrders=true) (hap:∀f af,ap f=some af→gZ P f af) {f:Nat} {ts:List TypeId} {us:List (Bool × Ty)} {args:Array Value} {ds:List (DataW D)} {ps:List MemPlace}
  (hu:uu P ts=some us) (hval:∀(j:Nat) t v,ts[j]? =some t→args[j]? =some v→Value.okWide P w r base t v) (hA:DataW.TrodAll enc P w 0 (fun _=>true) true ts args.toList ds ps)
  (walk:∀(H:ah) (a9as:List aa),oU H us a9as→a9as.all Ci=true∧ ∃n,isTrue (run ap n ah.empty.next f a9as ah.empty)=true)
  {j0:Mp} (h0:gK P j0 ah.empty w):
  Calls P f args w fun e w'=>e= .returned (.bool true)∧Below w.heap.size w w':=by
 obtain ⟨ρ,H,a9as,_,_,hr,hl,hw⟩:=D8 (fun _=>rfl) ts us args.toList ds ps hu (fun j t v h h'=>hval j t v h (by simpa using h')) hA _ _ h0
 obtain ⟨hf,n,hn⟩:=walk H a9as hw
 exact DB (H:=ah.empty) hP hap hn (h0.rel _ (Nat.le_refl _)) h0.fresh (hl.pK hf)
end
end Go.au
end
section
set_option linter.unusedSimpArgs false
set_option linter.unusedVariables false
set_option linter.unusedSectionVars false
namespace Go.au
variable [Gl]
theorem lV {n:Int} (h:(Lit.int .u8 n).wf=true):0≤n∧n≤255:=by
 simp [Lit.wf,IntKind.min,IntKind.max,IntKind.signed,IntKind.bits] at h
 exact h
theorem Cj {n:Int} (h:(Lit.int .u64 n).wf=true):0≤n∧n≤18446744073709551615:=by
 simp [Lit.wf,IntKind.min,IntKind.max,IntKind.signed,IntKind.bits] at h
 exact h
theorem QA {n:Int} (h:(Lit.int .i64 n).wf=true): -9223372036854775808≤n∧n≤9223372036854775807:=by
 simp [Lit.wf,IntKind.min,IntKind.max,IntKind.signed,IntKind.bits] at h
 exact h
theorem Ck {α:Type} {H:ah} {e:Ty} {Q:List aa→α→Prop} (hq:∀x,Wf H e x→ ∃a,Q x a):∀{xs:List (List aa)},(∀x∈xs,Wf H e x)→ ∃l:List α,l.length=xs.length∧ ∀(i:Nat) (x:List aa) (a:α),xs[i]? =some x→l[i]? =some a→Q x a
 | [],_=>⟨[],rfl,fun i x a h _=>by simp at h⟩
 | y::ys,h=>by
  obtain ⟨a,ha⟩:=hq y (h y (by simp))
  obtain ⟨l,h1,h2⟩:=Ck hq (xs:=ys) fun x hx=>h x (by simp [hx])
  refine ⟨a::l,by simp [h1],fun i x b g1 g2=> ?_⟩
  cases i with
  | zero=>simp at g1 g2;subst g1 g2;exact ha
  | succ i=>exact h2 i x b (by simpa using g1) (by simpa using g2)
theorem Cl {α:Type} {enc:α→List aa}:∀{xs:List (List aa)} {l:List α},l.length=xs.length→(∀(i:Nat) (x:List aa) (a:α),xs[i]? =some x→l[i]? =some a→x=enc a)→xs=l.map enc
 | [],[],_,_=>rfl
 | x::xs,a::l,hl,h=>by
  rw [h 0 x a rfl rfl,Cl (xs:=xs) (l:=l) (by simpa using hl) fun i y b g1 g2=>h (i+1) y b (by simpa using g1) (by simpa using g2)]
  rfl
theorem adY {ap:FuncId→Option bg} {n lim:Nat} {f:FuncId} {args:List aa} {H:ah} (h:∃v H',runT ap n lim (.fn f) args H=some (v,H')∧v= .bool true):isTrue (run ap n lim f args H)=true:=by
 obtain ⟨v,H',h1,rfl⟩:=h
 unfold run
 rw [h1];rfl
end Go.au
end
section
set_option maxRecDepth 100000
set_option linter.unusedVariables false
set_option linter.unusedSimpArgs false
namespace Go.Proofs.YtfigbgjbaohglaaGreatDoor.bP
open Go.au Go.au.Wl
abbrev QB:List bE:=[(.int .u64),(.int .u64),(.int .u8),(.int .u8),(.int .u8),(.int .u8),(.int .u8),(.int .u8),(.int .u8),(.int .u8),(.int .u8),(.int .u8),.str]
theorem adZ (a b:cw):cm QB (br a) (br b)=some (decide (a=b)):=by
 have e:decide (a=b)=((a.idx==b.idx) && ((a.term==b.term) && ((a.kind==b.kind) && ((a.slot==b.slot) && ((a.t0==b.t0) && ((a.t1==b.t1) && ((a.t2==b.t2) && ((a.t3==b.t3) && ((a.t4==b.t4) && ((a.t5==b.t5) && ((a.t6==b.t6) && ((a.t7==b.t7) && ((a.body==b.body) && true))))))))))))):=by
  rw [Bool.eq_iff_iff]
  obtain ⟨i,t2,k2,s,a0,a1,a2,a3,a4,a5,a6,a7,b0⟩:=a
  obtain ⟨i',t2',k2',s',a0',wV,Au,a3',a4',a5',a6',a7',b0'⟩:=b
  simp only [decide_eq_true_eq,cw.mk.injEq,Bool.and_eq_true,beq_iff_eq,and_true]
 rw [e]
 simp only [br,cm,lg,nq,bn,and_self,if_true]
section
variable {H:ah}
theorem QC {n lim N:Nat} {K:aa→ah→Prop} {G:ah} {b:Nat} {e:cw} (c:G.cells b=some (br e)) (hK:K (.bool (jN e)) G):
  ∀(j q i:Nat),i+j=8→j <q→(∀k,k <i→e.tok[k]? =some 0)→pJ (au.runT ap n) lim N K q (.ptr (some (b,0))) (.int .i64 (i:Int)) G
 | _,0,_,_,h,_=>by omega
 | 0,q+1,i,hi,hq,hz=>by
  show sP _ _ _ _ (pJ _ _ _ _ q) _ _ _
  unfold sP Oh
  obtain rfl:i=8:=by omega
  have hd:decide (((8:Nat):Int) <8)=false:=rfl
  have l3:aB G none (.ptr (some (b,3)))=some (.int .u8 (e.slot:Int)):=by rw [bJ c];rfl
  have q0:((e.slot:Int)==0)=decide (e.slot=0):=ieq e.slot 0
  have ht:e.tok=ke:=by
   have h0:=hz 0 (by omega);have h1:=hz 1 (by omega);have h2:=hz 2 (by omega);have h3:=hz 3 (by omega);have h4:=hz 4 (by omega);have h5:=hz 5 (by omega);have h6:=hz 6 (by omega);have h7:=hz 7 (by omega)
   simp only [cw.tok,List.getElem?_cons_zero,List.getElem?_cons_succ,Option.some.injEq] at h0 h1 h2 h3 h4 h5 h6 h7
   simp only [cw.tok,h0,h1,h2,h3,h4,h5,h6,h7,ke]
  (repeat (first | ((first | with_reducible apply aF | with_reducible apply aG);(focus (first | with_reducible rfl | (simp only [aE,aC,aD,Nat.zero_add,Nat.add_zero,Bool.not_true,Bool.not_false,decide_true,decide_false,reduceIte,and_self,Bool.false_eq_true,hd,l3,q0] <;>with_reducible rfl)))) | with_reducible apply aH | with_reducible apply aI))
  have hp:jN e=decide (e.slot=0):=by unfold jN;rw [dT ht,Bool.and_true]
  rw [hp] at hK
  exact hK
 | j+1,q+1,i,hi,hq,hz=>by
  show sP _ _ _ _ (pJ _ _ _ _ q) _ _ _
  unfold sP
  have hd:decide ((i:Int) <8)=true:=dT (by omega)
  have ad:cD (some 8) 1 (.ptr (some (b,4))) (.int .i64 (i:Int))=some (.ptr (some (b,4+i))):=by
   unfold cD
   rw [jw]
   simp only []
   rw [if_pos (by omega)];simp
  obtain ⟨x,hx⟩:∃x,e.tok[i]? =some x:=⟨_,List.getElem?_eq_getElem (by show i <8;omega)⟩
  have ld:aB G none (.ptr (some (b,4+i)))=some (.int .u8 ((x.toNat:Nat):Int)):=by
   rw [bJ c,show br e=[.int .u64 (e.idx:Int),.int .u64 (e.term:Int),.int .u8 (e.kind:Int),.int .u8 (e.slot:Int)]++(dz e.tok++[.str e.body]) from rfl,List.getElem?_append_right (by simp)]
   have hl:(4+i - ([.int .u64 (e.idx:Int),.int .u64 (e.term:Int),.int .u8 (e.kind:Int),.int .u8 (e.slot:Int)]:List aa).length)=i:=by simp
   rw [hl,List.getElem?_append_left (by rw [sS];show i <8;omega)]
   unfold dz
   rw [List.getElem?_map,hx];rfl
  have hi1:IntKind.i64.wrap ((i:Int)+1)=((i+1:Nat):Int):=iR (by omega)
  by_cases h0:x=0
  ·have qn:(((x.toNat:Nat):Int) !=0)=false:=by rw [h0];rfl
   (repeat (first | ((first | with_reducible apply aF | with_reducible apply aG);(focus (first | with_reducible rfl | (simp only [aE,aC,aD,Nat.zero_add,Nat.add_zero,Bool.not_true,Bool.not_false,decide_true,decide_false,reduceIte,and_self,Bool.false_eq_true,hd,ad,ld,qn,hi1] <;>with_reducible rfl)))) | with_reducible apply aH | with_reducible apply aI))
   refine QC c hK j q (i+1) (by omega) (by omega) fun k hk=> ?_
   by_cases hki:k=i
   ·rw [hki,hx,h0]
   ·exact hz k (by omega)
  ·have qn:(((x.toNat:Nat):Int) !=0)=true:=by
    have:x.toNat≠0:=fun h=>h0 (UInt8.toNat_inj.1 h)
    simp;omega
   (repeat (first | ((first | with_reducible apply aF | with_reducible apply aG);(focus (first | with_reducible rfl | (simp only [aE,aC,aD,Nat.zero_add,Nat.add_zero,Bool.not_true,Bool.not_false,decide_true,decide_false,reduceIte,and_self,Bool.false_eq_true,hd,ad,ld,qn] <;>with_reducible rfl)))) | with_reducible apply aH | with_reducible apply aI))
   have hp:jN e=false:=by
    unfold jN
    rw [dF (p:=e.tok=ke),Bool.and_false]
    intro ht
    rw [ht] at hx
    have:∀k,k <8→ke[k]? =some 0:=by decide
    rw [this i (by omega)] at hx
    simp at hx
    exact h0 hx.symm
   rw [hp] at hK
   exact hK
theorem ad0 {n lim:Nat} (e:cw) (hn:9≤n):∃v H',au.runT ap (n+1) lim (.fn 160) [.agg (br e)] H=some (v,H')∧v= .bool (jN e)∧aO H H':=by
 refine abI a160 ?_
 unfold GJ
 have ho:=BY e
 (repeat (first | ((first | with_reducible apply aF | with_reducible apply aG);(focus (first | with_reducible rfl | (simp only [aE,aC,aD,Nat.zero_add,Nat.add_zero,Bool.not_true,Bool.not_false,decide_true,decide_false,reduceIte,and_self,Bool.false_eq_true,ho] <;>with_reducible rfl)))) | with_reducible apply aH | with_reducible apply aI))
 exact QC (ct H (br e)) ⟨rfl,.push _ _⟩ 8 n 0 rfl (by omega) (fun k h=>by omega)
theorem ad3 {n lim:Nat} (e:cw) (he:e.ok) (hn:9≤n):∃v H',au.runT ap (n+2) lim (.fn 114) [.agg (br e)] H=some (v,H')∧v= .bool (iG e)∧aO H H':=by
 refine aaL Xq ?_
 unfold Gr
 have ho:=BY e
 have c1:(H.push (.cells (br e))).cells H.next=some (br e):=ct _ _
 have kk:aO H (H.push (.cells (br e))):= .push _ _
 generalize hG:H.push (.cells (br e))=G at c1 kk
 have l0:aB G none (.ptr (some (H.next,0)))=some (.int .u64 (e.idx:Int)):=by rw [bJ c1];rfl
 have l1:aB G none (.ptr (some (H.next,1)))=some (.int .u64 (e.term:Int)):=by rw [bJ c1];rfl
 have l2:aB G none (.ptr (some (H.next,2)))=some (.int .u8 (e.kind:Int)):=by rw [bJ c1];rfl
 have l3:aB G none (.ptr (some (H.next,3)))=some (.int .u8 (e.slot:Int)):=by rw [bJ c1];rfl
 have jP:=sX c1
 have qi:((e.idx:Int)==0)=decide (e.idx=0):=ieq e.idx 0
 have qt:((e.term:Int)==0)=decide (e.term=0):=ieq e.term 0
 have q1:((e.kind:Int)==1)=decide (e.kind=1):=ieq e.kind 1
 have q2:((e.kind:Int)==2)=decide (e.kind=2):=ieq e.kind 2
 have q3:((e.kind:Int)==3)=decide (e.kind=3):=ieq e.kind 3
 have q4:((e.kind:Int)==4)=decide (e.kind=4):=ieq e.kind 4
 have q5:((e.kind:Int)==5)=decide (e.kind=5):=ieq e.kind 5
 obtain ⟨_,G2,gp,rfl,kp⟩:=ad0 (n:=n) (lim:=lim) (H:=G) e hn
 have c2:=kp.cells c1
 have gz:aB G2 none (.ptr (some (H.next,12)))=some (.str e.body):=by rw [bJ c2];rfl
 have k2:=kk.trans kp
 by_cases h1:e.idx=0
 ·rw [dT h1] at qi
  (repeat (first | ((first | with_reducible apply aF | with_reducible apply aG);(focus (first | with_reducible rfl | (simp only [aE,aC,aD,Nat.zero_add,Nat.add_zero,Bool.not_true,Bool.not_false,decide_true,decide_false,reduceIte,and_self,Bool.false_eq_true,ho,hG,l0,qi] <;>with_reducible rfl)))) | with_reducible apply aH | with_reducible apply aI))
  exact ⟨by unfold iG;rw [dF (p:=1≤e.idx) (by omega)];rfl,kk⟩
 rw [dF h1] at qi
 have r1:decide (1≤e.idx)=true:=dT (by omega)
 by_cases h2:e.term=0
 ·rw [dT h2] at qt
  (repeat (first | ((first | with_reducible apply aF | with_reducible apply aG);(focus (first | with_reducible rfl | (simp only [aE,aC,aD,Nat.zero_add,Nat.add_zero,Bool.not_true,Bool.not_false,decide_true,decide_false,reduceIte,and_self,Bool.false_eq_true,ho,hG,l0,qi,l1,qt] <;>with_reducible rfl)))) | with_reducible apply aH | with_reducible apply aI))
  exact ⟨by unfold iG;rw [r1,dF (p:=1≤e.term) (by omega)];rfl,kk⟩
 rw [dF h2] at qt
 have r2:decide (1≤e.term)=true:=dT (by omega)
 have hR:iG e=if e.kind=3 then decide (e.slot <4) else jN e && ji e:=by unfold iG;rw [r1,r2];rfl
 have hle:((e.body.length:Int)==0)=decide (e.body=[]):=by
  rw [Bool.eq_iff_iff];simp
 have one:∀t12:aa,(e.kind=1∨e.kind=5)→yp (au.runT ap (n+1)) lim (n+1) (fun v H'=>v= .bool (iG e)∧aO H H') (.ptr (some (H.next,0))) t12 (.bool true) G:=by
  intro t12 hk
  have Dx:¬e.kind=3:=by omega
  have hB:ji e=decide (e.body=[]):=by unfold ji;rw [if_pos hk]
  rw [hR,if_neg Dx,hB]
  unfold yp
  cases hp:jN e with
  | true=>
   rw [hp] at gp
   (repeat (first | ((first | with_reducible apply aF | with_reducible apply aG);(focus (first | with_reducible rfl | (simp only [aE,aC,aD,Nat.zero_add,Nat.add_zero,Bool.not_true,Bool.not_false,decide_true,decide_false,reduceIte,and_self,Bool.false_eq_true,jP,gp,gz,hle] <;>with_reducible rfl)))) | with_reducible apply aH | with_reducible apply aI))
   exact ⟨rfl,k2⟩
  | false=>
   rw [hp] at gp
   (repeat (first | ((first | with_reducible apply aF | with_reducible apply aG);(focus (first | with_reducible rfl | (simp only [aE,aC,aD,Nat.zero_add,Nat.add_zero,Bool.not_true,Bool.not_false,decide_true,decide_false,reduceIte,and_self,Bool.false_eq_true,jP,gp] <;>with_reducible rfl)))) | with_reducible apply aH | with_reducible apply aI))
   exact ⟨rfl,k2⟩
 by_cases h4:e.kind=1
 ·rw [dT h4] at q1
  (repeat (first | ((first | with_reducible apply aF | with_reducible apply aG);(focus (first | with_reducible rfl | (simp only [aE,aC,aD,Nat.zero_add,Nat.add_zero,Bool.not_true,Bool.not_false,decide_true,decide_false,reduceIte,and_self,Bool.false_eq_true,ho,hG,l0,qi,l1,qt,l2,q1] <;>with_reducible rfl)))) | with_reducible apply aH | with_reducible apply aI))
  exact one _ (.inl h4)
 rw [dF h4] at q1
 by_cases h5:e.kind=5
 ·rw [dT h5] at q5
  (repeat (first | ((first | with_reducible apply aF | with_reducible apply aG);(focus (first | with_reducible rfl | (simp only [aE,aC,aD,Nat.zero_add,Nat.add_zero,Bool.not_true,Bool.not_false,decide_true,decide_false,reduceIte,and_self,Bool.false_eq_true,ho,hG,l0,qi,l1,qt,l2,q1,q5] <;>with_reducible rfl)))) | with_reducible apply aH | with_reducible apply aI))
  exact one _ (.inr h5)
 rw [dF h5] at q5
 (repeat (first | ((first | with_reducible apply aF | with_reducible apply aG);(focus (first | with_reducible rfl | (simp only [aE,aC,aD,Nat.zero_add,Nat.add_zero,Bool.not_true,Bool.not_false,decide_true,decide_false,reduceIte,and_self,Bool.false_eq_true,ho,hG,l0,qi,l1,qt,l2,q1,q5] <;>with_reducible rfl)))) | with_reducible apply aH | with_reducible apply aI))
 unfold yp
 by_cases h6:e.kind=2
 ·rw [dT h6] at q2
  have hB:ji e=(match e.body with | [b]=>decide (1≤b.toNat) && decide (b.toNat≤31) | _=>false):=by unfold ji;rw [if_neg (by omega),if_pos h6];rfl
  rw [hR,if_neg (by omega),hB]
  cases hp:jN e with
  | false=>
   rw [hp] at gp
   (repeat (first | ((first | with_reducible apply aF | with_reducible apply aG);(focus (first | with_reducible rfl | (simp only [aE,aC,aD,Nat.zero_add,Nat.add_zero,Bool.not_true,Bool.not_false,decide_true,decide_false,reduceIte,and_self,Bool.false_eq_true,q2,jP,gp] <;>with_reducible rfl)))) | with_reducible apply aH | with_reducible apply aI))
   exact ⟨rfl,k2⟩
  | true=>
   rw [hp] at gp
   (repeat (first | ((first | with_reducible apply aF | with_reducible apply aG);(focus (first | with_reducible rfl | (simp only [aE,aC,aD,Nat.zero_add,Nat.add_zero,Bool.not_true,Bool.not_false,decide_true,decide_false,reduceIte,and_self,Bool.false_eq_true,q2,jP,gp] <;>with_reducible rfl)))) | with_reducible apply aH | with_reducible apply aI))
   clear hB hle hR one
   generalize e.body=bd at gz ⊢
   match bd,gz with
   | [],gz=>
    have z:(((([]:Bs).length:Nat):Int)==1)=false:=rfl
    (repeat (first | ((first | with_reducible apply aF | with_reducible apply aG);(focus (first | with_reducible rfl | (simp only [aE,aC,aD,Nat.zero_add,Nat.add_zero,Bool.not_true,Bool.not_false,decide_true,decide_false,reduceIte,and_self,Bool.false_eq_true,gz,z] <;>with_reducible rfl)))) | with_reducible apply aH | with_reducible apply aI))
    exact ⟨rfl,k2⟩
   | [x],gz=>
    have z:((([x].length:Nat):Int)==1)=true:=rfl
    have hx:e7 (.str [x]) (.int .i64 0)=some (.int .u8 ((x.toNat:Nat):Int)):=pO (s:=[x]) (i:=0) (by simp)
    have g1:decide ((0:Int) <((x.toNat:Nat):Int))=decide (1≤x.toNat):=by rw [Bool.eq_iff_iff];simp;omega
    have g2:decide (((x.toNat:Nat):Int) <32)=decide (x.toNat≤31):=by rw [Bool.eq_iff_iff];simp;omega
    by_cases hg:1≤x.toNat
    ·rw [dT hg] at g1
     (repeat (first | ((first | with_reducible apply aF | with_reducible apply aG);(focus (first | with_reducible rfl | (simp only [aE,aC,aD,Nat.zero_add,Nat.add_zero,Bool.not_true,Bool.not_false,decide_true,decide_false,reduceIte,and_self,Bool.false_eq_true,gz,z,hx,g1,g2] <;>with_reducible rfl)))) | with_reducible apply aH | with_reducible apply aI))
     exact ⟨by simp only [dT hg,Bool.true_and],k2⟩
    ·rw [dF hg] at g1
     (repeat (first | ((first | with_reducible apply aF | with_reducible apply aG);(focus (first | with_reducible rfl | (simp only [aE,aC,aD,Nat.zero_add,Nat.add_zero,Bool.not_true,Bool.not_false,decide_true,decide_false,reduceIte,and_self,Bool.false_eq_true,gz,z,hx,g1,g2] <;>with_reducible rfl)))) | with_reducible apply aH | with_reducible apply aI))
     exact ⟨by simp only [dF hg,Bool.false_and,Bool.and_false],k2⟩
   | x::y::r,gz=>
    have z:((((x::y::r).length:Nat):Int)==1)=false:=by simp;omega
    (repeat (first | ((first | with_reducible apply aF | with_reducible apply aG);(focus (first | with_reducible rfl | (simp only [aE,aC,aD,Nat.zero_add,Nat.add_zero,Bool.not_true,Bool.not_false,decide_true,decide_false,reduceIte,and_self,Bool.false_eq_true,gz,z] <;>with_reducible rfl)))) | with_reducible apply aH | with_reducible apply aI))
    exact ⟨rfl,k2⟩
 rw [dF h6] at q2
 by_cases h3:e.kind=3
 ·rw [dT h3] at q3
  have d3:decide ((e.slot:Int)≤3)=decide (e.slot <4):=by rw [Bool.eq_iff_iff];simp;omega
  rw [hR,if_pos h3]
  (repeat (first | ((first | with_reducible apply aF | with_reducible apply aG);(focus (first | with_reducible rfl | (simp only [aE,aC,aD,Nat.zero_add,Nat.add_zero,Bool.not_true,Bool.not_false,decide_true,decide_false,reduceIte,and_self,Bool.false_eq_true,q2,q3,l3,d3] <;>with_reducible rfl)))) | with_reducible apply aH | with_reducible apply aI))
  exact ⟨rfl,kk⟩
 rw [dF h3] at q3
 have hB:ji e=decide (e.kind=4):=by unfold ji;rw [if_neg (by omega),if_neg h6]
 rw [hR,if_neg h3,hB]
 by_cases h7:e.kind=4
 ·rw [dT h7] at q4
  (repeat (first | ((first | with_reducible apply aF | with_reducible apply aG);(focus (first | with_reducible rfl | (simp only [aE,aC,aD,Nat.zero_add,Nat.add_zero,Bool.not_true,Bool.not_false,decide_true,decide_false,reduceIte,and_self,Bool.false_eq_true,q2,q3,q4,jP,gp] <;>with_reducible rfl)))) | with_reducible apply aH | with_reducible apply aI))
  exact ⟨by rw [dT h7,Bool.and_true],k2⟩
 ·rw [dF h7] at q4
  (repeat (first | ((first | with_reducible apply aF | with_reducible apply aG);(focus (first | with_reducible rfl | (simp only [aE,aC,aD,Nat.zero_add,Nat.add_zero,Bool.not_true,Bool.not_false,decide_true,decide_false,reduceIte,and_self,Bool.false_eq_true,q2,q3,q4] <;>with_reducible rfl)))) | with_reducible apply aH | with_reducible apply aI))
  exact ⟨by rw [dF h7,Bool.and_false],kk⟩
theorem ad4 {n lim:Nat} (r:bD) (hr:r.ok) (hn:9≤n):∃v H',au.runT ap (n+3) lim (.fn 66) [.agg (aR r)] H=some (v,H')∧v= .bool (dJ r)∧aO H H':=by
 refine ZF Xb ?_
 unfold FZ
 have ho:=Pp r
 have c1:(H.push (.cells (aR r))).cells H.next=some (aR r):=ct _ _
 have kk:aO H (H.push (.cells (aR r))):= .push _ _
 generalize hG:H.push (.cells (aR r))=G at c1 kk
 have l0:aB G none (.ptr (some (H.next,0)))=some (.int .u8 (r.kind:Int)):=by rw [bJ c1];rfl
 have l1:aB G none (.ptr (some (H.next,1)))=some (.int .u64 (r.term:Int)):=by rw [bJ c1];rfl
 have l2:aB G none (.ptr (some (H.next,2)))=some (.int .u8 (r.ey:Int)):=by rw [bJ c1];rfl
 have l3:aB G (some 13) (.ptr (some (H.next,3)))=some (.agg (br r.e)):=by rw [uq c1];rfl
 have q2:((r.kind:Int)==2)=decide (r.kind=2):=ieq r.kind 2
 have q3:((r.kind:Int)==3)=decide (r.kind=3):=ieq r.kind 3
 have qt:((r.term:Int)==0)=decide (r.term=0):=ieq r.term 0
 have qv:((r.ey:Int)==0)=decide (r.ey=0):=ieq r.ey 0
 unfold dJ
 by_cases h2:r.kind=2
 ·rw [dT h2] at q2
  have bz:fW eW []=some (.agg (br eZ)):=rfl
  have ee:dZ false (.cells QB) (.agg (br r.e)) (.agg (br eZ))=some (.bool (decide (r.e=eZ))):=by rw [wQ,adZ];rfl
  (repeat (first | ((first | with_reducible apply aF | with_reducible apply aG);(focus (first | with_reducible rfl | (simp only [aE,aC,aD,Nat.zero_add,Nat.add_zero,Bool.not_true,Bool.not_false,decide_true,decide_false,reduceIte,and_self,Bool.false_eq_true,ho,hG,l0,q2,l3,bz,ee] <;>with_reducible rfl)))) | with_reducible apply aH | with_reducible apply aI))
  exact ⟨by rw [if_pos h2],kk⟩
 rw [dF h2] at q2
 rw [show ∀X Y:Bool,(aa.bool (if r.kind=2 then X else Y))= .bool Y from fun X Y=>by rw [if_neg h2]]
 by_cases h3:r.kind=3
 rotate_left
 ·rw [dF h3] at q3
  (repeat (first | ((first | with_reducible apply aF | with_reducible apply aG);(focus (first | with_reducible rfl | (simp only [aE,aC,aD,Nat.zero_add,Nat.add_zero,Bool.not_true,Bool.not_false,decide_true,decide_false,reduceIte,and_self,Bool.false_eq_true,ho,hG,l0,q2,q3] <;>with_reducible rfl)))) | with_reducible apply aH | with_reducible apply aI))
  exact ⟨by rw [dF h3];rfl,kk⟩
 rw [dT h3] at q3 ⊢
 by_cases h4:r.term=0
 rotate_left
 ·rw [dF h4] at qt
  (repeat (first | ((first | with_reducible apply aF | with_reducible apply aG);(focus (first | with_reducible rfl | (simp only [aE,aC,aD,Nat.zero_add,Nat.add_zero,Bool.not_true,Bool.not_false,decide_true,decide_false,reduceIte,and_self,Bool.false_eq_true,ho,hG,l0,q2,q3,l1,qt] <;>with_reducible rfl)))) | with_reducible apply aH | with_reducible apply aI))
  exact ⟨by rw [dF h4];rfl,kk⟩
 rw [dT h4] at qt ⊢
 by_cases h5:r.ey=0
 rotate_left
 ·rw [dF h5] at qv
  (repeat (first | ((first | with_reducible apply aF | with_reducible apply aG);(focus (first | with_reducible rfl | (simp only [aE,aC,aD,Nat.zero_add,Nat.add_zero,Bool.not_true,Bool.not_false,decide_true,decide_false,reduceIte,and_self,Bool.false_eq_true,ho,hG,l0,q2,q3,l1,qt,l2,qv] <;>with_reducible rfl)))) | with_reducible apply aH | with_reducible apply aI))
  exact ⟨by rw [dF h5];rfl,kk⟩
 rw [dT h5] at qv ⊢
 obtain ⟨_,G2,g1,rfl,k1⟩:=ad3 (n:=n) (lim:=lim) (H:=G) r.e hr.e hn
 (repeat (first | ((first | with_reducible apply aF | with_reducible apply aG);(focus (first | with_reducible rfl | (simp only [aE,aC,aD,Nat.zero_add,Nat.add_zero,Bool.not_true,Bool.not_false,decide_true,decide_false,reduceIte,and_self,Bool.false_eq_true,ho,hG,l0,q2,q3,l1,qt,l2,qv,l3,g1] <;>with_reducible rfl)))) | with_reducible apply aH | with_reducible apply aI))
 exact ⟨rfl,kk.trans k1⟩
theorem HY {n lim N:Nat} {K:aa→ah→Prop} {v:aa} {rs:List bD} {H0:ah} (hv:Sl H0 16 v (rs.map aR)) (hok:∀r∈rs,r.ok) (hlen:rs.length≤1000000) (hn:9≤n) (hlim:lim≤H0.next)
  (hK:∀sv bv H',Own H' 16 sv ((rs.filter dJ).map aR) bv→(bC sv=some bv→H0.next≤bv∧bv <H'.next)→aO H0 H'→K sv H'):
  ∀(j i:Nat) (sv:aa) (bv:Nat) (G:ah),rs.length <j+i→i≤rs.length→Own G 16 sv (((rs.take i).filter dJ).map aR) bv→(bC sv=some bv→H0.next≤bv∧bv <G.next)→aO H0 G→
   qP (au.runT ap (n+3)) lim N K j v sv (.int .i64 (i:Int)) G
 | 0,i,_,_,_,h,h',_,_,_=>by exfalso;omega
 | j+1,i,sv,bv,G,hj,hi,hown,iq,k0=>by
  show xW _ _ _ _ (qP _ _ _ _ j) _ _ _ _
  unfold xW
  have bQ:bh false v=some (.int .i64 (rs.length:Int)):=by rw [hv.len,List.length_map]
  by_cases hil:i <rs.length
  ·have hd:decide ((i:Int) <(rs.length:Int))=true:=dT (by omega)
   have hr:rs[i]? =some rs[i]:=List.getElem?_eq_getElem hil
   have ro:=hok rs[i] (List.getElem_mem hil)
   have iN:rs.take (i+1)=rs.take i++[rs[i]]:=by rw [List.take_add_one,hr];rfl
   generalize rs[i]=r at hr ro iN
   have hx:(rs.map aR)[i]? =some (aR r):=by rw [List.getElem?_map,hr];rfl
   have ad:=hv.addr (k:= .i64) (i:=i) (by simpa using hil)
   have ld:=yD k0 (hv.load hx)
   obtain ⟨_,fu,g1,rfl,k1⟩:=ad4 (n:=n) (lim:=lim) (H:=G) r ro hn
   have Cm:=yD k1 ld
   have hi1:IntKind.i64.wrap ((i:Int)+1)=((i+1:Nat):Int):=iR (by omega)
   have n0:=k0.next
   have n1:=k1.next
   cases dO:dJ r with
   | false=>
    rw [dO] at g1
    (repeat (first | ((first | with_reducible apply aF | with_reducible apply aG);(focus (first | with_reducible rfl | (simp only [aE,aC,aD,Nat.zero_add,Nat.add_zero,Bool.not_true,Bool.not_false,decide_true,decide_false,reduceIte,and_self,Bool.false_eq_true,bQ,hd,ad,ld,g1] <;>with_reducible rfl)))) | with_reducible apply aH | with_reducible apply aI))
    unfold Bd
    (repeat (first | ((first | with_reducible apply aF | with_reducible apply aG);(focus (first | with_reducible rfl | (simp only [aE,aC,aD,Nat.zero_add,Nat.add_zero,Bool.not_true,Bool.not_false,decide_true,decide_false,reduceIte,and_self,Bool.false_eq_true,hi1] <;>with_reducible rfl)))) | with_reducible apply aH | with_reducible apply aI))
    refine HY hv hok hlen hn hlim hK j (i+1) sv bv fu (by omega) (by omega) ?_ (fun e=>⟨(iq e).1,by have:=(iq e).2;omega⟩) (k0.trans k1)
    rw [iN,List.filter_append]
    simp only [List.filter_cons,dO,Bool.false_eq_true,if_false,List.filter_nil,List.append_nil]
    exact hown.frame (S:=fun _=>False) (.of k1) (fun e=>e)
   | true=>
    rw [dO] at g1
    have hfl:cU cV [(0,16,(.agg (aR r)))]=some (aR r):=rfl
    have kq:aO fu (fu.push (.cells (aR r))):= .push _ _
    have jS:=hown.frame (S:=fun _=>False) (.of (k1.trans kq)) (fun e=>e)
    have hsrc:source (fu.push (.cells (aR r))) 16 (.sl (some (fu.next,0)) 1 (.ex 1))=some (([aR r]:List (List aa)).length,([aR r]:List (List aa)).flatten):=by
     have:=BO fu (sz:=16) (n:=1) (cs:=aR r) (c:= .ex 1) rfl (by decide)
     simpa using this
    have ahg:((rs.take i).filter dJ).length≤rs.length:=Nat.le_trans (List.length_filter_le _ _) (by rw [List.length_take];omega)
    obtain ⟨v',H',bv',p1,p2,p3,p4,p5⟩:=uP (lim:=lim) (bytes:=72) (zero:=cV) jS rfl (by decide) hsrc (by intro y hy;simp at hy;subst hy;exact ⟨rfl,rfl⟩) (by simp only [List.length_map,List.length_cons,List.length_nil,room];omega) (by simp only [List.length_map,List.length_cons,List.length_nil,room];omega) (fun e=>by have:=iq e;omega)
    have e2:((rs.take i).filter dJ).map aR++[aR r]=((rs.take (i+1)).filter dJ).map aR:=by rw [iN,List.filter_append];simp [dO]
    rw [e2] at p2
    (repeat (first | ((first | with_reducible apply aF | with_reducible apply aG);(focus (first | with_reducible rfl | (simp only [aE,aC,aD,Nat.zero_add,Nat.add_zero,Bool.not_true,Bool.not_false,decide_true,decide_false,reduceIte,and_self,Bool.false_eq_true,bQ,hd,ad,ld,g1,Cm,hfl,p1] <;>with_reducible rfl)))) | with_reducible apply aH | with_reducible apply aI))
    unfold Bd
    (repeat (first | ((first | with_reducible apply aF | with_reducible apply aG);(focus (first | with_reducible rfl | (simp only [aE,aC,aD,Nat.zero_add,Nat.add_zero,Bool.not_true,Bool.not_false,decide_true,decide_false,reduceIte,and_self,Bool.false_eq_true,hi1] <;>with_reducible rfl)))) | with_reducible apply aH | with_reducible apply aI))
    refine HY hv hok hlen hn hlim hK j (i+1) v' bv' H' (by omega) (by omega) p2 (fun e=>⟨?_,p5 e⟩) (bu.keeps ((k0.trans k1).trans kq) p3 fun c hc e=>by
     have hb:=hown.blk c e
     subst hb
     have:=iq e
     omega)
    rcases p4 with ⟨rfl,h | h⟩ | h
    ·simp at h
    ·exact h.elim
    ·rw [ah.bK] at h;omega
  ·have hd:decide ((i:Int) <(rs.length:Int))=false:=dF (by omega)
   rw [List.take_of_length_le (by omega)] at hown
   unfold MC
   (repeat (first | ((first | with_reducible apply aF | with_reducible apply aG);(focus (first | with_reducible rfl | (simp only [aE,aC,aD,Nat.zero_add,Nat.add_zero,Bool.not_true,Bool.not_false,decide_true,decide_false,reduceIte,and_self,Bool.false_eq_true,bQ,hd] <;>with_reducible rfl)))) | with_reducible apply aH | with_reducible apply aI))
   exact hK sv bv G hown iq k0
theorem QD {n lim:Nat} {v:aa} {rs:List bD} (hv:Sl H 16 v (rs.map aR)) (hok:∀r∈rs,r.ok) (hlen:rs.length≤1000000) (hn:9≤n) (hnl:rs.length <n) (hlim:lim≤H.next):
  ∃sv H',au.runT ap (n+4) lim (.fn 20) [v] H=some (sv,H')∧aO H H'∧ ∃bv,Own H' 16 sv ((rs.filter dJ).map aR) bv∧(bC sv=some bv→H.next≤bv∧bv <H'.next):=by
 refine YQ a20 ?_
 unfold FH
 exact HY (n:=n) hv hok hlen hn hlim (fun sv bv H' h1 h2 h3=>⟨h3,bv,h1,h2⟩) (n+3) 0 _ H.next H (by omega) (Nat.zero_le _) ⟨fun _ h=>by simp at h,.inl ⟨rfl,rfl⟩⟩ (fun e=>by simp [bC] at e) (.refl _)
theorem QE {n lim N:Nat} {K:aa→ah→Prop} {u v:aa} {xs ys:List bD} (hu:Sl H 16 u (xs.map aR)) (hv:Sl H 16 v (ys.map aR)) (hl:xs.length=ys.length) (hlen:xs.length≤1000000000) (hK:K (.bool (decide (xs=ys))) H):
  ∀(j i:Nat),xs.length <j+i→i≤xs.length→xs.take i=ys.take i→qW (au.runT ap n) lim N K j u v (.int .i64 (i:Int)) H
 | 0,i,h,h',_=>by exfalso;omega
 | j+1,i,hj,hi,he=>by
  show ym _ _ _ _ (qW _ _ _ _ j) _ _ _ _
  unfold ym
  have bQ:bh false u=some (.int .i64 (xs.length:Int)):=by rw [hu.len,List.length_map]
  by_cases hil:i <xs.length
  ·have hd:decide ((i:Int) <(xs.length:Int))=true:=dT (by omega)
   have hx:xs[i]? =some xs[i]:=List.getElem?_eq_getElem hil
   have hy:ys[i]? =some (ys[i]'(by omega)):=List.getElem?_eq_getElem (by omega)
   generalize xs[i]=x at hx
   generalize ys[i]'(by omega)=y at hy
   have QF:=hu.addr (k:= .i64) (i:=i) (by simpa using hil)
   have QG:=hv.addr (k:= .i64) (i:=i) (by rw [List.length_map];omega)
   have u7:=hu.load (i:=i) (x:=aR x) (by rw [List.getElem?_map,hx];rfl)
   have Cm:=hv.load (i:=i) (x:=aR y) (by rw [List.getElem?_map,hy];rfl)
   have hi1:IntKind.i64.wrap ((i:Int)+1)=((i+1:Nat):Int):=iR (by omega)
   have e:=Py x y true
   by_cases h:x=y
   ·rw [dT h] at e
    have e:dZ true (.cells uX) (.agg (aR x)) (.agg (aR y))=some (.bool false):=e
    (repeat (first | ((first | with_reducible apply aF | with_reducible apply aG);(focus (first | with_reducible rfl | (simp only [aE,aC,aD,Nat.zero_add,Nat.add_zero,Bool.not_true,Bool.not_false,decide_true,decide_false,reduceIte,and_self,Bool.false_eq_true,bQ,hd,QF,u7,QG,Cm,e,hi1] <;>with_reducible rfl)))) | with_reducible apply aH | with_reducible apply aI))
    refine QE hu hv hl hlen hK j (i+1) (by omega) (by omega) ?_
    rw [List.take_add_one,List.take_add_one,hx,hy,he,h]
   ·rw [dF h] at e
    have e:dZ true (.cells uX) (.agg (aR x)) (.agg (aR y))=some (.bool true):=e
    (repeat (first | ((first | with_reducible apply aF | with_reducible apply aG);(focus (first | with_reducible rfl | (simp only [aE,aC,aD,Nat.zero_add,Nat.add_zero,Bool.not_true,Bool.not_false,decide_true,decide_false,reduceIte,and_self,Bool.false_eq_true,bQ,hd,QF,u7,QG,Cm,e] <;>with_reducible rfl)))) | with_reducible apply aH | with_reducible apply aI))
    have:decide (xs=ys)=false:=dF fun hh=>h (by rw [hh] at hx;rw [hx] at hy;simpa using hy)
    rw [this] at hK
    exact hK
  ·have hd:decide ((i:Int) <(xs.length:Int))=false:=dF (by omega)
   rw [List.take_of_length_le (by omega),List.take_of_length_le (by omega)] at he
   rw [dT he] at hK
   unfold Nv
   (repeat (first | ((first | with_reducible apply aF | with_reducible apply aG);(focus (first | with_reducible rfl | (simp only [aE,aC,aD,Nat.zero_add,Nat.add_zero,Bool.not_true,Bool.not_false,decide_true,decide_false,reduceIte,and_self,Bool.false_eq_true,bQ,hd] <;>with_reducible rfl)))) | with_reducible apply aH | with_reducible apply aI))
   exact hK
theorem ad5 {n lim:Nat} {u v:aa} {xs ys:List bD} (hu:Sl H 16 u (xs.map aR)) (hv:Sl H 16 v (ys.map aR)) (hlen:xs.length≤1000000000) (hn:xs.length <n):au.runT ap (n+1) lim (.fn 77) [u,v] H=some (.bool (decide (xs=ys)),H):=by
 refine iE (aak Xi ?_)
 unfold Gg
 have bQ:bh false u=some (.int .i64 (xs.length:Int)):=by rw [hu.len,List.length_map]
 have ze:bh false v=some (.int .i64 (ys.length:Int)):=by rw [hv.len,List.length_map]
 have hne:((xs.length:Int) !=(ys.length:Int))= !decide (xs.length=ys.length):=by show (!((xs.length:Int)==(ys.length:Int)))=_;rw [ieq]
 by_cases h:xs.length=ys.length
 ·have hne:((xs.length:Int) !=(ys.length:Int))=false:=by rw [hne,dT h];rfl
  (repeat (first | ((first | with_reducible apply aF | with_reducible apply aG);(focus (first | with_reducible rfl | (simp only [aE,aC,aD,Nat.zero_add,Nat.add_zero,Bool.not_true,Bool.not_false,decide_true,decide_false,reduceIte,and_self,Bool.false_eq_true,bQ,ze,hne] <;>with_reducible rfl)))) | with_reducible apply aH | with_reducible apply aI))
  exact QE hu hv h hlen ⟨rfl,rfl⟩ n 0 (by omega) (Nat.zero_le _) rfl
 ·have hne:((xs.length:Int) !=(ys.length:Int))=true:=by rw [hne,dF h];rfl
  (repeat (first | ((first | with_reducible apply aF | with_reducible apply aG);(focus (first | with_reducible rfl | (simp only [aE,aC,aD,Nat.zero_add,Nat.add_zero,Bool.not_true,Bool.not_false,decide_true,decide_false,reduceIte,and_self,Bool.false_eq_true,bQ,ze,hne] <;>with_reducible rfl)))) | with_reducible apply aH | with_reducible apply aI))
  exact ⟨by rw [dF];intro e;exact h (by rw [e]),rfl⟩
theorem QH {n lim:Nat} {u v:aa} {xs ys:List bD} (hu:Sl H 16 u (xs.map aR)) (hv:Sl H 16 v (ys.map aR)) (hlen:xs.length≤1000000000) (ahh:ys.length≤1000000000) (hn:xs.length <n):au.runT ap (n+2) lim (.fn 27) [u,v] H=some (.bool (decide (xs <+:ys)),H):=by
 refine iE (Zi a27 ?_)
 unfold FU
 have bQ:bh false u=some (.int .i64 (xs.length:Int)):=by rw [hu.len,List.length_map]
 have ze:bh false v=some (.int .i64 (ys.length:Int)):=by rw [hv.len,List.length_map]
 have hle:decide ((xs.length:Int)≤(ys.length:Int))=decide (xs.length≤ys.length):=by rw [Bool.eq_iff_iff];simp
 by_cases h:xs.length≤ys.length
 ·rw [dT h] at hle
  obtain ⟨v',h1,h2⟩:=hv.slice (lo:=none) (hi:=some (.int .i64 (xs.length:Int))) (l:=0) (k:=xs.length) rfl (jw .i64 xs.length) (Nat.zero_le _) (by rw [List.length_map];exact h)
  have h2:Sl H 16 v' ((ys.take xs.length).map aR):=by
   have:=h2.1
   simp only [List.drop_zero,Nat.sub_zero] at this
   rw [←List.map_take] at this
   exact this
  have g1:=ad5 (n:=n) (lim:=lim) hu h2 hlen hn
  (repeat (first | ((first | with_reducible apply aF | with_reducible apply aG);(focus (first | with_reducible rfl | (simp only [aE,aC,aD,Nat.zero_add,Nat.add_zero,Bool.not_true,Bool.not_false,decide_true,decide_false,reduceIte,and_self,Bool.false_eq_true,bQ,ze,hle,h1,g1] <;>with_reducible rfl)))) | with_reducible apply aH | with_reducible apply aI))
  refine ⟨?_,rfl⟩
  congr 1
  rw [Bool.eq_iff_iff,decide_eq_true_eq,decide_eq_true_eq,List.prefix_iff_eq_take]
 ·rw [dF h] at hle
  (repeat (first | ((first | with_reducible apply aF | with_reducible apply aG);(focus (first | with_reducible rfl | (simp only [aE,aC,aD,Nat.zero_add,Nat.add_zero,Bool.not_true,Bool.not_false,decide_true,decide_false,reduceIte,and_self,Bool.false_eq_true,bQ,ze,hle] <;>with_reducible rfl)))) | with_reducible apply aH | with_reducible apply aI))
  exact ⟨by rw [dF];intro hp;exact h hp.length_le,rfl⟩
theorem QI {n lim N:Nat} {K:aa→ah→Prop} {v:aa} {rs:List bD} (hv:Sl H 16 v (rs.map aR)) (hlen:rs.length≤40) (hT:K (.bool true) H) (hF:(∀r∈rs,r.e.body.length≤200)→K (.bool false) H):
  ∀(j i:Nat),rs.length <j+i→i≤rs.length→(∀r∈rs.take i,r.e.body.length≤200)→qO (au.runT ap n) lim N K j v (.int .i64 (i:Int)) H
 | 0,i,h,h',_=>by exfalso;omega
 | j+1,i,hj,hi,he=>by
  show xT _ _ _ _ (qO _ _ _ _ j) _ _ _
  unfold xT
  have bQ:bh false v=some (.int .i64 (rs.length:Int)):=by rw [hv.len,List.length_map]
  by_cases hil:i <rs.length
  ·have hd:decide ((i:Int) <(rs.length:Int))=true:=dT (by omega)
   have hr:rs[i]? =some rs[i]:=List.getElem?_eq_getElem hil
   have iN:rs.take (i+1)=rs.take i++[rs[i]]:=by rw [List.take_add_one,hr];rfl
   generalize rs[i]=r at hr iN
   have ad:=hv.addr (k:= .i64) (i:=i) (by simpa using hil)
   have f1:=KP hv (by simp;omega) (i * 16) 3
   have f2:=KP hv (by simp;omega) (i * 16+3) 12
   have ld:=hv.KR (i:=i) (x:=aR r) (by rw [List.getElem?_map,hr];rfl) (f:=15) (by decide)
   have ld:aB H none (slot v (i * 16+3+12))=some (.str r.e.body):=ld
   have hi1:IntKind.i64.wrap ((i:Int)+1)=((i+1:Nat):Int):=iR (by omega)
   have d2:decide ((200:Int) <(r.e.body.length:Int))=decide (200 <r.e.body.length):=by rw [Bool.eq_iff_iff];simp;omega
   by_cases h:200 <r.e.body.length
   ·rw [dT h] at d2
    (repeat (first | ((first | with_reducible apply aF | with_reducible apply aG);(focus (first | with_reducible rfl | (simp only [aE,aC,aD,Nat.zero_add,Nat.add_zero,Bool.not_true,Bool.not_false,decide_true,decide_false,reduceIte,and_self,Bool.false_eq_true,bQ,hd,ad,f1,f2,ld,d2] <;>with_reducible rfl)))) | with_reducible apply aH | with_reducible apply aI))
    exact hT
   ·rw [dF h] at d2
    (repeat (first | ((first | with_reducible apply aF | with_reducible apply aG);(focus (first | with_reducible rfl | (simp only [aE,aC,aD,Nat.zero_add,Nat.add_zero,Bool.not_true,Bool.not_false,decide_true,decide_false,reduceIte,and_self,Bool.false_eq_true,bQ,hd,ad,f1,f2,ld,d2,hi1] <;>with_reducible rfl)))) | with_reducible apply aH | with_reducible apply aI))
    refine QI hv hlen hT hF j (i+1) (by omega) (by omega) fun x hx=> ?_
    rw [iN] at hx
    rcases List.mem_append.1 hx with hx | hx
    ·exact he x hx
    ·simp at hx;subst hx;omega
  ·have hd:decide ((i:Int) <(rs.length:Int))=false:=dF (by omega)
   rw [List.take_of_length_le (by omega)] at he
   unfold Ms
   (repeat (first | ((first | with_reducible apply aF | with_reducible apply aG);(focus (first | with_reducible rfl | (simp only [aE,aC,aD,Nat.zero_add,Nat.add_zero,Bool.not_true,Bool.not_false,decide_true,decide_false,reduceIte,and_self,Bool.false_eq_true,bQ,hd] <;>with_reducible rfl)))) | with_reducible apply aH | with_reducible apply aI))
   exact hF he
theorem QJ {n lim:Nat} {v:aa} {rs:List bD} (hv:Sl H 16 v (rs.map aR)) (hn:41≤n):
  ∃r H',au.runT ap (n+1) lim (.fn 15) [v] H=some (r,H')∧H'=H∧ ∃t,r= .bool t∧(t=false→rs.length≤40∧ ∀r∈rs,r.e.body.length≤200):=by
 refine Yz W7 ?_
 unfold FC
 have bQ:bh false v=some (.int .i64 (rs.length:Int)):=by rw [hv.len,List.length_map]
 by_cases h:40 <rs.length
 ·have hd:decide ((40:Int) <(rs.length:Int))=true:=dT (by omega)
  (repeat (first | ((first | with_reducible apply aF | with_reducible apply aG);(focus (first | with_reducible rfl | (simp only [aE,aC,aD,Nat.zero_add,Nat.add_zero,Bool.not_true,Bool.not_false,decide_true,decide_false,reduceIte,and_self,Bool.false_eq_true,bQ,hd] <;>with_reducible rfl)))) | with_reducible apply aH | with_reducible apply aI))
  exact ⟨rfl,true,rfl,fun e=>by simp at e⟩
 ·have hd:decide ((40:Int) <(rs.length:Int))=false:=dF (by omega)
  (repeat (first | ((first | with_reducible apply aF | with_reducible apply aG);(focus (first | with_reducible rfl | (simp only [aE,aC,aD,Nat.zero_add,Nat.add_zero,Bool.not_true,Bool.not_false,decide_true,decide_false,reduceIte,and_self,Bool.false_eq_true,bQ,hd] <;>with_reducible rfl)))) | with_reducible apply aH | with_reducible apply aI))
  exact QI hv (by omega) ⟨rfl,true,rfl,fun e=>by simp at e⟩ (fun hb=>⟨rfl,false,rfl,fun _=>⟨by omega,hb⟩⟩) n 0 (by omega) (Nat.zero_le _) (fun r h=>by simp at h)
end
end Go.Proofs.YtfigbgjbaohglaaGreatDoor.bP
end
section
set_option linter.unusedSimpArgs false
set_option linter.unusedVariables false
namespace Go.Proofs.YtfigbgjbaohglaaGreatDoor.bP
open Go.au Go.au.Wl
theorem HZ {n:aQ} {B:Nat}:∀(rs:List aQ) (K:Nat) (D:bf),bV K D→(∀r∈rs,r.length+1≤B)→bV (K+rs.length * B+1) (fC n D rs).2
 | [],K,D,h,_=>by
  simp only [List.length_nil,Nat.zero_mul,Nat.add_zero,fC]
  exact Hy h n
 | r::rs,K,D,h,hb=>by
  have h1:=(Hw h n r).mono (K':=K+B) (by have:=hb r (by simp);omega)
  have e:K+(r::rs).length * B+1=K+B+rs.length * B+1:=by rw [List.length_cons,Nat.succ_mul];omega
  rw [e]
  unfold fC
  split
  ·exact HZ rs (K+B) _ h1 fun x hx=>hb x (by simp [hx])
  ·exact h1.mono (by omega)
def gR (r:bD):Prop:=dJ r=true∧r.ok∧r.e.body.length≤200
theorem gR.rA {r:bD} (h:gR r):rA r:=⟨h.2.1,by have:=h.2.2;omega⟩
theorem gR.len {r:bD} (h:gR r):(bM r).length≤400:=by have:=B3 h.2.1;have:=h.2.2;omega
theorem gR.row {r:bD} (h:gR r) (S:Sum):(cA S (bM r)).length+1≤500:=by
 have h1:=h.len
 have h2:=ig (n:=(bM r).length) (by omega)
 rw [yK];omega
section
variable {S:Sum} {b snap:Nat}
theorem Ia (S:Sum) (b n:Nat) (xs ys:List bD):dh S b n xs++ys.map (fun r=>cA S (bM r))=dh S b n (xs++ys):=by
 unfold dh;simp
theorem ad6 (S:Sum) (b n:Nat) (xs:List bD) (k:Nat):(dh S b n xs).take (k+1)=dh S b n (xs.take k):=by
 unfold dh
 rw [List.take_succ_cons,List.map_take]
theorem u9 (S:Sum) (b n:Nat) (xs:List bD):(dh S b n xs).length=xs.length+1:=by unfold dh;simp
theorem ad7 {xs:List bD} (hb:b <18446744073709551616) (hs:snap <18446744073709551616) (hg:∀r∈xs,gR r):∀r∈dh S b snap xs,∃x:Bs,x.length <18446744073709551616∧r=cA S x:=by
 intro r hr
 rcases List.mem_cons.1 hr with rfl | hr
 ·exact ⟨fB b snap,by have:=BW hb hs;omega,rfl⟩
 ·obtain ⟨x,hx,rfl⟩:=List.mem_map.1 hr
  exact ⟨bM x,by have:=(hg x hx).len;omega,rfl⟩
theorem QK (S:Sum) (xs:List bD):∀r∈xs.map (fun r=>cA S (bM r)),r≠[]:=by
 intro r hr
 obtain ⟨x,_,rfl⟩:=List.mem_map.1 hr
 exact uS S _
theorem Cn {xs:List bD} (hg:∀r∈xs,gR r):xs.all dJ=true:=by rw [List.all_eq_true];exact fun r hr=>(hg r hr).1
theorem ad8 {n:aQ} {f:cq} {u:Nat} (S:Sum):m5 S n (pQ ⟨[(n,f)],true,u⟩)=((mX S (eC f)).1,(mX S (eC f)).2.1,(mX S (eC f)).2.2,0):=by
 have e:iI (pQ ⟨[(n,f)],true,u⟩) n=(eC f,0):=by
  unfold iI pQ
  simp only [Bool.false_eq_true,if_false,HB]
 unfold m5
 rw [e]
 rw [if_neg (by simp)]
theorem ad9 {n:aQ} {pre:List bD} {s u:Nat} {o:Bool} (hb:b <18446744073709551616) (hs:snap <18446744073709551616) (hg:∀r∈pre,gR r) (h1:1≤s) (h2:s≤pre.length+1) (keep aA:List Int):
  ∃k,s≤k+1∧k+1=lU (dh S b snap pre) s keep∧k≤pre.length∧m5 S n (pQ (mZ (one n (dh S b snap pre) s o u) keep aA))=(snap,pre.take k,decide (b≤(pre.take k).length),0):=by
 obtain ⟨f,t,e1,e2,e3,e4⟩:=adi S (n:=n) (L:=dh S b snap pre) (s:=s) (u:=u) (o:=o) (by rw [u9];exact h2) (ad7 hb hs hg) keep aA
 obtain ⟨k1,k2⟩:=adh (L:=dh S b snap pre) (s:=s) (by rw [u9];exact h2) keep
 rw [u9] at k2
 obtain ⟨k,hk⟩:∃k,lU (dh S b snap pre) s keep=k+1:=⟨lU (dh S b snap pre) s keep - 1,by omega⟩
 rw [hk] at e2 k1 k2
 refine ⟨k,k1,hk.symm,by omega,?_⟩
 rw [e1,ad8,e2,ad6,acB S hb hs e3 (fun r hr=> ?_)]
 have:=hg r (List.mem_of_mem_take hr)
 exact ⟨this.1,this.2.1,by have:=this.len;omega⟩
theorem aea {n:aQ} {pre told whole:List bD} {s u:Nat} {o:Bool} (hb:b <18446744073709551616) (hs:snap <18446744073709551616) (hg:∀r∈pre,gR r) (ht:told <+:pre) (hw:pre <+:whole) (h1:told.length+1≤s) (h2:s≤pre.length+1) (rX:b≤told.length) (keep aA:List Int):
  ∃aN,m5 S n (pQ (mZ (one n (dh S b snap pre) s o u) keep aA))=(snap,aN,true,0)∧told <+:aN∧aN <+:whole:=by
 obtain ⟨k,k1,_,k2,e⟩:=ad9 (S:=S) (n:=n) (u:=u) (o:=o) hb hs hg (by omega) h2 keep aA
 refine ⟨pre.take k,?_,?_,(List.take_prefix k pre).trans hw⟩
 ·rw [e,dT (by rw [List.length_take];omega)]
 ·obtain ⟨t,rfl⟩:=ht
  rw [List.take_append]
  rw [List.take_of_length_le (by omega)]
  exact List.prefix_append _ _
end
end Go.Proofs.YtfigbgjbaohglaaGreatDoor.bP
end
section
set_option maxRecDepth 100000
set_option linter.unusedVariables false
set_option linter.unusedSimpArgs false
namespace Go.Proofs.YtfigbgjbaohglaaGreatDoor.bP
open Go.au
def QL:Ty:= .slice (.int .i64 .nil) (.slice (.int .i64 .nil) .nil)
theorem QM {H:ah} {v:aa} (h:∃xs,Sl H 1 v xs∧xs.length≤maxLen∧ ∀x∈xs,Wf H (.int .i64 .nil) x):∃l:List Int,Sl H 1 v (encI l)∧ ∀y∈l,iw y:=by
 obtain ⟨xs,h1,h2,h3⟩:=h
 obtain ⟨l,hl,hq⟩:=Ck (α:=Int) (Q:=fun x a=>x=[.int .i64 a]∧iw a) (fun x hx=>by
  obtain ⟨n,vs',rfl,hn,rfl⟩:=hx
  have:=QA hn
  exact ⟨n,rfl,by unfold iw;omega⟩) h3
 have e:=Cl (enc:=fun a=>[.int .i64 a]) hl fun i x a e1 e2=>(hq i x a e1 e2).1
 refine ⟨l,by unfold encI;rw [←e];exact h1,fun y hy=> ?_⟩
 obtain ⟨i,hi,rfl⟩:=List.getElem_of_mem hy
 exact (hq i xs[i] l[i] (List.getElem?_eq_getElem (by omega)) (List.getElem?_eq_getElem hi)).2
theorem aeb {H:ah} {x:List aa} (h:Wf H QL x):∃ks ts keep aA,x=[ks,ts]∧Sl H 1 ks (encI keep)∧Sl H 1 ts (encI aA)∧ks.one=true∧ts.one=true∧(∀y∈keep,iw y)∧ ∀y∈aA,iw y:=by
 obtain ⟨ks,_,rfl,o1,s1,ts,_,rfl,o2,s2,rfl⟩:=h
 obtain ⟨keep,k1,k2⟩:=QM s1
 obtain ⟨aA,t1,t2⟩:=QM s2
 exact ⟨ks,ts,keep,aA,rfl,k1,t1,o1,o2,k2,t2⟩
section
variable {H:ah}
def Co (keep aA:List Int):Bool:=decide (60 <keep.length) || decide (60 <aA.length)
theorem aec {n lim:Nat} {ks ts:aa} {keep aA:List Int} (s1:Sl H 1 ks (encI keep)) (s2:Sl H 1 ts (encI aA)) (o1:ks.one=true) (o2:ts.one=true):
  ∃v H',au.runT ap (n+1) lim (.fn 16) [.agg [ks,ts]] H=some (v,H')∧v= .bool (Co keep aA)∧aO H H'∧H.next <H'.next:=by
 refine YC W8 ?_
 unfold FD Co
 have hb:(([ks,ts]:List aa).all fun v=>v.one)=true:=by simp only [List.all_cons,List.all_nil,o1,o2,Bool.and_true]
 have l1:=s1.len
 have l2:=s2.len
 rw [Qf] at l1 l2
 have lx:∀o,aB (H.push (.cells [ks,ts])) none (.ptr (some (H.next,o)))=([ks,ts]:List aa)[o]? :=fun o=>oS _ _ _
 have d1:decide ((60:Int) <(keep.length:Int))=decide (60 <keep.length):=by rw [Bool.eq_iff_iff];simp;omega
 have d2:decide ((60:Int) <(aA.length:Int))=decide (60 <aA.length):=by rw [Bool.eq_iff_iff];simp;omega
 by_cases h:60 <keep.length
 ·have e:decide (60 <keep.length)=true:=dT h
  (repeat (first | ((first | with_reducible apply aF | with_reducible apply aG);(focus (first | with_reducible rfl | (simp only [aE,aC,aD,Nat.zero_add,Nat.add_zero,Bool.not_true,Bool.not_false,decide_true,decide_false,reduceIte,and_self,Bool.false_eq_true,hb,lx,l1,d1,e] <;>with_reducible rfl)))) | with_reducible apply aH | with_reducible apply aI))
  exact ⟨by rw [e];rfl,.push _ _,by rw [ah.bK];omega⟩
 ·have e:decide (60 <keep.length)=false:=dF h
  (repeat (first | ((first | with_reducible apply aF | with_reducible apply aG);(focus (first | with_reducible rfl | (simp only [aE,aC,aD,Nat.zero_add,Nat.add_zero,Bool.not_true,Bool.not_false,decide_true,decide_false,reduceIte,and_self,Bool.false_eq_true,hb,lx,l1,l2,d1,e,d2] <;>with_reducible rfl)))) | with_reducible apply aH | with_reducible apply aI))
  exact ⟨by rw [e];rfl,.push _ _,by rw [ah.bK];omega⟩
end
end Go.Proofs.YtfigbgjbaohglaaGreatDoor.bP
end
