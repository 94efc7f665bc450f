/- Parts of the proof. -/
import Derived.Test.YtfigbgjbaohglaaGreatDoorY7
import Derived.Test.YtfigbgjbaohglaaGreatDoorY13
import Derived.Test.YtfigbgjbaohglaaGreatDoorY12
import Derived.Sort.Walk0
import Derived.Test.YtfigbgjbaohglaaGreatDoorY10
import Derived.Test.YtfigbgjbaohglaaGreatDoorY11
section
set_option maxRecDepth 100000
set_option linter.unusedVariables false
set_option linter.unusedSimpArgs false
namespace Go.Proofs.YtfigbgjbaohglaaGreatDoor.bP
open Go.au Go.au.Wl
def sZ (T:List Int):Int→Bs→Int
 | x,[]=>x
 | x,c::r=>sZ T (gq .u32 (x.fdiv (2 ^ (min (8:Int).toNat IntKind.u32.bits))) (T.getD (gq .u8 (IntKind.u8.wrap x) ((c.toNat:Nat):Int)).toNat 0)) r
theorem PK (a b:Int):0≤gq .u32 a b∧gq .u32 a b <4294967296:=wrap_u32 _
theorem Ke (a b:Int):0≤gq .u8 a b∧gq .u8 a b <256:=by
 have e:∀x,IntKind.u8.wrap x=x % 256:=fun _=>rfl
 unfold gq ju
 rw [e]
 exact ⟨Int.emod_nonneg _ (by decide),Int.emod_lt_of_pos _ (by decide)⟩
def aX (T:List Int):Sum:=⟨fun s=>(gq .u32 4294967295 (sZ T 4294967295 s)).toNat,fun s=>by have:=PK 4294967295 (sZ T 4294967295 s);omega⟩
theorem acZ (x:Int):fE .xor (.int .u32 x)=some (.int .u32 (gq .u32 4294967295 x)):=by
 rw [←show av .xor (.int .u32 4294967295) (.int .u32 x)=some (.int .u32 (gq .u32 4294967295 x)) from DK .u32 4294967295 x]
 rfl
section
variable {H:ah}
theorem PL {n lim N:Nat} {K:aa→ah→Prop} {ay:aa→aa→aa→aa→aa→ah→Prop} {T:List Int} {tb:Nat} {s:Bs} {a b:aa} {i0:Nat} (hT:H.cells tb=some (cJ T)) (hl:T.length=256) (hs:s.length <9223372036854775807) (hi0:i0 <1000) {fin:Int}
  (h:ay (.ptr (some (tb,0))) (.int .u32 fin) a b (.int .i64 ((i0+1:Nat):Int)) H):
  ∀(j m i:Nat) (x:Int),i+j=s.length→j <m→sZ T x (s.drop i)=fin→pG (au.runT ap n) lim N K ay m (.ptr (some (tb,0))) (.int .u32 x) (.str s) a b (.int .i64 (i0:Int)) (.int .i64 (s.length:Int)) (.int .i64 (i:Int)) H
 | _,0,_,_,_,hq,_=>by omega
 | 0,m+1,i,x,hi,hq,hx=>by
  show sM _ _ _ _ _ (pG _ _ _ _ _ m) _ _ _ _ _ _ _ _ _
  unfold sM N2
  have hg:decide ((i:Int) <(s.length:Int))=false:=dF (by omega)
  have hi1:IntKind.i64.wrap ((i0:Int)+1)=((i0+1:Nat):Int):=iR (by omega)
  rw [List.drop_eq_nil_of_le (by omega)] at hx
  have hx:x=fin:=hx
  subst hx
  (repeat (first | ((first | with_reducible apply aF | with_reducible apply aG);(focus (first | with_reducible rfl | (simp only [aE,aC,aD,Nat.zero_add,Nat.add_zero,Bool.not_true,Bool.not_false,decide_true,decide_false,reduceIte,and_self,Bool.false_eq_true,hg,hi1] <;>with_reducible rfl)))) | with_reducible apply aH | with_reducible apply aI))
  exact h
 | j+1,m+1,i,x,hi,hq,hx=>by
  show sM _ _ _ _ _ (pG _ _ _ _ _ m) _ _ _ _ _ _ _ _ _
  unfold sM
  have hg:decide ((i:Int) <(s.length:Int))=true:=dT (by omega)
  have hil:i <s.length:=by omega
  have sh:av .shr (.int .u32 x) (.int .u64 8)=some (.int .u32 (x.fdiv (2 ^ (min (8:Int).toNat IntKind.u32.bits)))):=wJ (k:= .u32) (a:=x) (b:=8) .u64 (by decide)
  have ix:=pO hil
  rw [List.drop_eq_getElem_cons hil] at hx
  generalize s[i]=c at ix hx
  obtain ⟨y1,y2⟩:=Ke (IntKind.u8.wrap x) ((c.toNat:Nat):Int)
  have ad:cD (some 256) 1 (.ptr (some (tb,0))) (.int .u8 (gq .u8 (IntKind.u8.wrap x) ((c.toNat:Nat):Int)))=some (.ptr (some (tb,(gq .u8 (IntKind.u8.wrap x) ((c.toNat:Nat):Int)).toNat))):=by
   have hj:kA (.int .u8 (gq .u8 (IntKind.u8.wrap x) ((c.toNat:Nat):Int)))=some (gq .u8 (IntKind.u8.wrap x) ((c.toNat:Nat):Int)).toNat:=by simp only [kA,y1,if_true]
   unfold cD
   rw [hj]
   simp only []
   rw [if_pos (by omega)];simp
  have ld:aB H none (.ptr (some (tb,(gq .u8 (IntKind.u8.wrap x) ((c.toNat:Nat):Int)).toNat)))=some (.int .u32 (T.getD (gq .u8 (IntKind.u8.wrap x) ((c.toNat:Nat):Int)).toNat 0)):=by
   rw [bJ hT]
   unfold cJ
   rw [List.getElem?_map,List.getD_eq_getElem?_getD,List.getElem?_eq_getElem (by omega)];rfl
  have hi1:IntKind.i64.wrap ((i:Int)+1)=((i+1:Nat):Int):=iR (by omega)
  (repeat (first | ((first | with_reducible apply aF | with_reducible apply aG);(focus (first | with_reducible rfl | (simp only [aE,aC,aD,Nat.zero_add,Nat.add_zero,Bool.not_true,Bool.not_false,decide_true,decide_false,reduceIte,and_self,Bool.false_eq_true,hg,sh,ix,DK,ad,ld,hi1] <;>with_reducible rfl)))) | with_reducible apply aH | with_reducible apply aI))
  exact PL hT hl hs hi0 h j m (i+1) _ (by omega) (by omega) hx
theorem PM {n lim:Nat} {T:List Int} {tb:Nat} {s:Bs} {v:aa} (hT:H.cells tb=some (cJ T)) (hl:T.length=256) (hs:s.length <n) (hs':s.length <9223372036854775807) (hv:Sl H 1 v [[.str s]]) (hn:2≤n):
  au.runT ap (n+1) lim (.fn 121) [.ptr (some (tb,0)),v] H=some (.int .u32 (((aX T).f s:Nat):Int),H):=by
 refine iE (abi Xu ?_)
 unfold Gz
 have bQ:bh false v=some (.int .i64 ((1:Nat):Int)):=hv.len
 obtain ⟨p,hp,kS⟩:=uR hv (i:=0) (x:= .str s) rfl
 have hp:cD none 1 v (.int .i64 0)=some p:=hp
 have d0:decide ((0:Int) <((1:Nat):Int))=true:=rfl
 have d1:decide (((0+1:Nat):Int) <((1:Nat):Int))=false:=rfl
 obtain ⟨m,rfl⟩:∃m,n=m+2:=⟨n - 2,by omega⟩
 have hx:=PK 4294967295 (sZ T 4294967295 s)
 (repeat (first | ((first | with_reducible apply aF | with_reducible apply aG);(focus (first | with_reducible rfl | (simp only [aE,aC,aD,Nat.zero_add,Nat.add_zero,Bool.not_true,Bool.not_false,decide_true,decide_false,reduceIte,and_self,Bool.false_eq_true,bQ] <;>with_reducible rfl)))) | with_reducible apply aH | with_reducible apply aI))
 show sN _ _ _ _ (pH _ _ _ _ (m+1)) _ _ _ _ _ _
 unfold sN
 (repeat (first | ((first | with_reducible apply aF | with_reducible apply aG);(focus (first | with_reducible rfl | (simp only [aE,aC,aD,Nat.zero_add,Nat.add_zero,Bool.not_true,Bool.not_false,decide_true,decide_false,reduceIte,and_self,Bool.false_eq_true,d0,hp,kS] <;>with_reducible rfl)))) | with_reducible apply aH | with_reducible apply aI))
 refine PL (i0:=0) (fin:=sZ T 4294967295 s) hT hl hs' (by omega) ?_ s.length (m+2) 0 4294967295 (by omega) (by omega) rfl
 show sN _ _ _ _ (pH _ _ _ _ m) _ _ _ _ _ _
 unfold sN N1
 (repeat (first | ((first | with_reducible apply aF | with_reducible apply aG);(focus (first | with_reducible rfl | (simp only [aE,aC,aD,Nat.zero_add,Nat.add_zero,Bool.not_true,Bool.not_false,decide_true,decide_false,reduceIte,and_self,Bool.false_eq_true,d1,acZ] <;>with_reducible rfl)))) | with_reducible apply aH | with_reducible apply aI))
 have e:(((aX T).f s:Nat):Int)=gq .u32 4294967295 (sZ T 4294967295 s):=Int.toNat_of_nonneg hx.1
 exact ⟨by rw [e],rfl⟩
theorem ac0 {n lim:Nat} {T:List Int} {tb:Nat} {s:Bs} (hT:H.cells tb=some (cJ T)) (hl:T.length=256) (hs:s.length <n) (hs':s.length≤10000000000000) (hn:1000020≤n) (hlim:lim≤H.next):
  ∃v H',au.runT ap (n+6) lim (.fn 117) [.ptr (some (tb,0)),.str s] H=some (v,H')∧v= .str (cA (aX T) s)∧aO H H':=by
 refine aaW a117 ?_
 unfold Gu
 have w1:IntKind.u64.wrap (s.length:Int)=(s.length:Int):=jM (by omega)
 have f1:cU [(.int .u64 0)] [(0,1,(.int .u64 (s.length:Int)))]=some [.int .u64 (s.length:Int)]:=rfl
 have k4:aO H (H.push (.cells [.int .u64 (s.length:Int)])):= .push _ _
 obtain ⟨_,H6,g1,rfl,k6⟩:=yI (n:=n+4) (lim:=lim) (H:=H.push (.cells [.int .u64 (s.length:Int)])) (l:=[s.length]) (by omega) (by rw [ah.bK];omega) (by simp;omega) (by simp) (Pt (c:= .ex 1) (Nat.le_refl _))
 have hvs:ij [s.length]=bB s.length:=by simp [ij]
 rw [hvs] at g1
 have f2:cU [(.str [])] [(0,1,(.str s))]=some [.str s]:=rfl
 have k8:aO H6 (H6.push (.cells [.str s])):= .push _ _
 have kk:=(k4.trans k6).trans k8
 have g2:=PM (n:=n+4) (lim:=lim) (H:=H6.push (.cells [.str s])) (kk.cells hT) hl (by omega) (by omega) (G4 (c:= .ex 1) (Nat.le_refl _)) (by omega)
 have hlt:=(aX T).lt s
 have w2:IntKind.u64.wrap (((aX T).f s:Nat):Int)=(((aX T).f s:Nat):Int):=jM (by omega)
 have nk:=kk.next
 obtain ⟨_,gM,g3,rfl,mY⟩:=acH (n:=n - 1) (lim:=lim) (H:=H6.push (.cells [.str s])) (x:=(aX T).f s) (by omega)
 rw [show n - 1+6=n+5 by omega] at g3
 have hv:=ig (n:=s.length) (by omega)
 have s1:av .add (.str (bB s.length)) (.str (jO ((aX T).f s)))=some (.str (bB s.length++jO ((aX T).f s))):=lP (by rw [BV];omega)
 have s2:av .add (.str (bB s.length++jO ((aX T).f s))) (.str s)=some (.str (bB s.length++jO ((aX T).f s)++s)):=lP (by rw [List.length_append,BV];omega)
 (repeat (first | ((first | with_reducible apply aF | with_reducible apply aG);(focus (first | with_reducible rfl | (simp only [aE,aC,aD,Nat.zero_add,Nat.add_zero,Bool.not_true,Bool.not_false,decide_true,decide_false,reduceIte,and_self,Bool.false_eq_true,w1,f1,g1,f2,g2,w2,g3,s1,s2] <;>with_reducible rfl)))) | with_reducible apply aH | with_reducible apply aI))
 exact ⟨rfl,kk.trans mY⟩
theorem PN {n lim:Nat} {T:List Int} {tb:Nat} {s:Bs} (hT:H.cells tb=some (cJ T)) (hl:T.length=256) (hs:s.length <n) (hs':s.length≤10000000000000) (hn:1000020≤n):
  ∃v H',au.runT ap (n+7) lim (.fn 74) [.ptr (some (tb,0)),.str s] H=some (v,H')∧v= .bq [.str (dx (aX T) s).1,.int .i64 ((dx (aX T) s).2:Int)]∧aO H H':=by
 refine Z9 Xh ?_
 unfold Gc
 have hr:=uT (n:=n+5) (lim:=lim) (H:=H) (s:=s) (by omega) (by omega)
 unfold dx
 cases hv:rV s with
 | none=>
  have e0:dn s=(0,0):=by unfold dn;rw [hv];rfl
  rw [e0,hv] at hr
  simp only [Option.isSome_none] at hr
  (repeat (first | ((first | with_reducible apply aF | with_reducible apply aG);(focus (first | with_reducible rfl | (simp only [aE,aC,aD,Nat.zero_add,Nat.add_zero,Bool.not_true,Bool.not_false,decide_true,decide_false,reduceIte,and_self,Bool.false_eq_true,hr] <;>with_reducible rfl)))) | with_reducible apply aH | with_reducible apply aI))
  exact ⟨rfl,.refl _⟩
 | some x=>
  obtain ⟨m,z⟩:=x
  obtain ⟨hz,hm⟩:=rj hv
  have e0:dn s=(m,z):=by unfold dn;rw [hv];rfl
  rw [e0,hv] at hr
  simp only [Option.isSome_some] at hr ⊢
  have w0:IntKind.i64.wrap ((s.length:Int) - (z:Int))=((s.length - z:Nat):Int):=by rw [wrap_i64 (by omega) (by omega)];omega
  by_cases h4:s.length - z <4
  ·have d4:decide (((s.length - z:Nat):Int) <4)=true:=dT (by omega)
   rw [if_pos (.inl h4)]
   (repeat (first | ((first | with_reducible apply aF | with_reducible apply aG);(focus (first | with_reducible rfl | (simp only [aE,aC,aD,Nat.zero_add,Nat.add_zero,Bool.not_true,Bool.not_false,decide_true,decide_false,reduceIte,and_self,Bool.false_eq_true,hr,w0,d4] <;>with_reducible rfl)))) | with_reducible apply aH | with_reducible apply aI))
   exact ⟨rfl,.refl _⟩
  have d4:decide (((s.length - z:Nat):Int) <4)=false:=dF (by omega)
  have w1:IntKind.i64.wrap (((s.length - z:Nat):Int) - 4)=((s.length - z - 4:Nat):Int):=by rw [wrap_i64 (by omega) (by omega)];omega
  have w2:IntKind.u64.wrap ((s.length - z - 4:Nat):Int)=((s.length - z - 4:Nat):Int):=jM (by omega)
  by_cases h5:s.length - z - 4 <m
  ·have d5:decide (((s.length - z - 4:Nat):Int) <(m:Int))=true:=dT (by omega)
   rw [if_pos (.inr h5)]
   (repeat (first | ((first | with_reducible apply aF | with_reducible apply aG);(focus (first | with_reducible rfl | (simp only [aE,aC,aD,Nat.zero_add,Nat.add_zero,Bool.not_true,Bool.not_false,decide_true,decide_false,reduceIte,and_self,Bool.false_eq_true,hr,w0,d4,w1,w2,d5] <;>with_reducible rfl)))) | with_reducible apply aH | with_reducible apply aI))
   exact ⟨rfl,.refl _⟩
  have d5:decide (((s.length - z - 4:Nat):Int) <(m:Int))=false:=dF (by omega)
  rw [if_neg (by omega)]
  have w3:IntKind.i64.wrap ((z:Int)+4)=((z+4:Nat):Int):=by rw [wrap_i64 (by omega) (by omega)];omega
  have w4:IntKind.i64.wrap (m:Int)=(m:Int):=wrap_i64 (by omega) (by omega)
  have w5:IntKind.i64.wrap (((z+4:Nat):Int)+(m:Int))=((z+4+m:Nat):Int):=by rw [wrap_i64 (by omega) (by omega)];omega
  have s1:=nQ (s:=s) (a:=z) hz
  have g1:=acJ (n:=n) (lim:=lim) (H:=H) (s:=s.drop z) (by rw [List.length_drop];omega)
  have s2:=slc (s:=s) (a:=z+4) (b:=z+4+m) (by omega) (by omega)
  rw [show z+4+m - (z+4)=m by omega] at s2
  generalize hout:(s.drop (z+4)).take m=out at *
  have zJ:out.length≤s.length:=by rw [←hout];simp;omega
  have f2:cU [(.str [])] [(0,1,(.str out))]=some [.str out]:=rfl
  have k8:aO H (H.push (.cells [.str out])):= .push _ _
  have g2:=PM (n:=n+5) (lim:=lim) (H:=H.push (.cells [.str out])) (k8.cells hT) hl (by omega) (by omega) (G4 (c:= .ex 1) (Nat.le_refl _)) (by omega)
  have hlt:=(aX T).lt out
  have w6:IntKind.u64.wrap (((aX T).f out:Nat):Int)=(((aX T).f out:Nat):Int):=jM (by omega)
  have hne:(((lS (s.drop z):Nat):Int) !=(((aX T).f out:Nat):Int))= !decide (lS (s.drop z)=(aX T).f out):=by show (!(((lS (s.drop z):Nat):Int)==(((aX T).f out:Nat):Int)))=_;rw [ieq]
  by_cases h6:lS (s.drop z)=(aX T).f out
  ·have hne:(((lS (s.drop z):Nat):Int) !=(((aX T).f out:Nat):Int))=false:=by rw [hne,dT h6];rfl
   rw [if_neg (by simpa using h6)]
   (repeat (first | ((first | with_reducible apply aF | with_reducible apply aG);(focus (first | with_reducible rfl | (simp only [aE,aC,aD,Nat.zero_add,Nat.add_zero,Bool.not_true,Bool.not_false,decide_true,decide_false,reduceIte,and_self,Bool.false_eq_true,hr,w0,d4,w1,w2,d5,w3,w4,w5,s1,g1,s2,f2,g2,w6,hne] <;>with_reducible rfl)))) | with_reducible apply aH | with_reducible apply aI))
   exact ⟨rfl,k8⟩
  ·have hne:(((lS (s.drop z):Nat):Int) !=(((aX T).f out:Nat):Int))=true:=by rw [hne,dF h6];rfl
   rw [if_pos (by simpa using h6)]
   (repeat (first | ((first | with_reducible apply aF | with_reducible apply aG);(focus (first | with_reducible rfl | (simp only [aE,aC,aD,Nat.zero_add,Nat.add_zero,Bool.not_true,Bool.not_false,decide_true,decide_false,reduceIte,and_self,Bool.false_eq_true,hr,w0,d4,w1,w2,d5,w3,w4,w5,s1,g1,s2,f2,g2,w6,hne] <;>with_reducible rfl)))) | with_reducible apply aH | with_reducible apply aI))
   exact ⟨rfl,k8⟩
theorem ac1 {n lim base snap:Nat} (hb:base <9223372036854775807) (hs:snap <18446744073709551616) (hn:1000020≤n):∃v H',au.runT ap (n+2) lim (.fn 71) [.int .i64 (base:Int),.int .u64 (snap:Int)] H=some (v,H')∧v= .str (fB base snap)∧aO H H':=by
 refine ZZ Xf ?_
 unfold F8
 have f1:=yN (.int .u8 1) rfl
 have bt:=yM H (k:=1) (by decide)
 have bt:e8 (H.push (.cells [.int .u8 1])) (.sl (some (H.next,0)) 1 (.ex 1))=some (.str [1]):=bt
 have w1:IntKind.u64.wrap (base:Int)=(base:Int):=jM (by omega)
 have f2:cU AS [(0,1,(.int .u64 (base:Int))),(1,1,(.int .u64 (snap:Int)))]=some [.int .u64 (base:Int),.int .u64 (snap:Int)]:=rfl
 have k2:aO H (H.push (.cells [.int .u8 1])):= .push _ _
 generalize yR:H.push (.cells [.int .u8 1])=H2 at *
 have k6:aO H2 (H2.push (.cells [.int .u64 (base:Int),.int .u64 (snap:Int)])):= .push _ _
 obtain ⟨_,H8,g1,rfl,k8⟩:=yI (n:=n) (lim:=(H2.push (.cells [.int .u64 (base:Int),.int .u64 (snap:Int)])).next) (H:=H2.push (.cells [.int .u64 (base:Int),.int .u64 (snap:Int)])) (l:=[base,snap]) (by omega) (Nat.le_refl _) (by simp;exact ⟨by omega,hs⟩) (by simp) (Pr (c:= .ex 2) (Nat.le_refl _))
 have hvs:ij [base,snap]=bB base++bB snap:=by simp [ij]
 rw [hvs] at g1
 have h1:=ig (n:=base) (by omega)
 have h2:=ig hs
 have s1:av .add (.str [1]) (.str (bB base++bB snap))=some (.str ([1]++(bB base++bB snap))):=lP (by simp;omega)
 (repeat (first | ((first | with_reducible apply aF | with_reducible apply aG);(focus (first | with_reducible rfl | (simp only [aE,aC,aD,Nat.zero_add,Nat.add_zero,Bool.not_true,Bool.not_false,decide_true,decide_false,reduceIte,and_self,Bool.false_eq_true,f1,yR,bt,w1,f2,g1,s1] <;>with_reducible rfl)))) | with_reducible apply aH | with_reducible apply aI))
 exact ⟨rfl,(k2.trans k6).trans k8⟩
theorem ac2 {n lim:Nat} {s:Bs} (hs:s.length≤1000000000000000) (hn:11≤n):au.runT ap (n+2) lim (.fn 75) [.str s] H=some (.bq [.int .u64 ((nP s).1:Int),.int .u64 ((nP s).2.1:Int),.bool (nP s).2.2],H):=by
 refine iE (aac a75 ?_)
 unfold Gd
 match s,hs with
 | [],_=>
  have q:(([]:Bs)==[])=true:=rfl
  (repeat (first | ((first | with_reducible apply aF | with_reducible apply aG);(focus (first | with_reducible rfl | (simp only [aE,aC,aD,Nat.zero_add,Nat.add_zero,Bool.not_true,Bool.not_false,decide_true,decide_false,reduceIte,and_self,Bool.false_eq_true,q] <;>with_reducible rfl)))) | with_reducible apply aH | with_reducible apply aI))
  exact ⟨rfl,rfl⟩
 | c::t,hs=>
  simp only [List.length_cons] at hs
  have q:((c::t:Bs)==[])=false:=rfl
  have hx:e7 (.str (c::t)) (.int .i64 0)=some (.int .u8 ((c.toNat:Nat):Int)):=pO (s:=c::t) (i:=0) (by simp)
  have hne:(((c.toNat:Nat):Int) !=1)= !decide (c.toNat=1):=by show (!(((c.toNat:Nat):Int)==((1:Nat):Int)))=_;rw [ieq]
  have hrd:nP (c::t)=if c.toNat≠1 then (0,0,false) else
    match rV t with
    | none=>(0,0,false)
    | some (b,z)=>((b,(dn (t.drop z)).1,(rV (t.drop z)).isSome && decide (t.length+1=1+z+(dn (t.drop z)).2)):Nat × Nat × Bool):=rfl
  rw [hrd]
  by_cases h1:c.toNat=1
  rotate_left
  ·have hne:(((c.toNat:Nat):Int) !=1)=true:=by rw [hne,dF h1];rfl
   rw [if_pos h1]
   (repeat (first | ((first | with_reducible apply aF | with_reducible apply aG);(focus (first | with_reducible rfl | (simp only [aE,aC,aD,Nat.zero_add,Nat.add_zero,Bool.not_true,Bool.not_false,decide_true,decide_false,reduceIte,and_self,Bool.false_eq_true,q,hx,hne] <;>with_reducible rfl)))) | with_reducible apply aH | with_reducible apply aI))
   exact ⟨rfl,rfl⟩
  have hne:(((c.toNat:Nat):Int) !=1)=false:=by rw [hne,dT h1];rfl
  rw [if_neg (by simpa using h1)]
  have s1:dS (.str (c::t)) (some (.int .i64 1)) none=some (.str t):=nQ (s:=c::t) (a:=1) (by simp)
  have r1:=uT (H:=H) (n:=n) (lim:=lim) (s:=t) (by omega) (by omega)
  cases hv:rV t with
  | none=>
   rw [hv] at r1
   simp only [Option.isSome_none] at r1
   (repeat (first | ((first | with_reducible apply aF | with_reducible apply aG);(focus (first | with_reducible rfl | (simp only [aE,aC,aD,Nat.zero_add,Nat.add_zero,Bool.not_true,Bool.not_false,decide_true,decide_false,reduceIte,and_self,Bool.false_eq_true,q,hx,hne,s1,r1] <;>with_reducible rfl)))) | with_reducible apply aH | with_reducible apply aI))
   exact ⟨rfl,rfl⟩
  | some x=>
   obtain ⟨m,z⟩:=x
   obtain ⟨hz,hm⟩:=rj hv
   have e0:dn t=(m,z):=by unfold dn;rw [hv];rfl
   rw [e0,hv] at r1
   simp only [Option.isSome_some] at r1 ⊢
   have w1:IntKind.i64.wrap ((1:Int)+(z:Int))=((1+z:Nat):Int):=B1 (s:=c::t) (by simp;omega) (a:=1) (by simp;omega)
   have s2:dS (.str (c::t)) (some (.int .i64 ((1+z:Nat):Int))) none=some (.str (t.drop z)):=by
    rw [nQ (s:=c::t) (by simp;omega),Nat.add_comm 1,List.drop_succ_cons]
   obtain ⟨y1,y2,y3⟩:=G1 (t.drop z)
   rw [List.length_drop] at y1
   have r2:=uT (H:=H) (n:=n) (lim:=lim) (s:=t.drop z) (by rw [List.length_drop];omega) (by omega)
   have w2:IntKind.i64.wrap (((1+z:Nat):Int)+((dn (t.drop z)).2:Int))=((1+z+(dn (t.drop z)).2:Nat):Int):=B1 (s:=c::t) (by simp;omega) (a:=1+z) (by simp;omega)
   have bQ:bh true (.str (c::t))=some (.int .i64 ((t.length+1:Nat):Int)):=rfl
   have he:=ieq (t.length+1) (1+z+(dn (t.drop z)).2)
   cases hok:(rV (t.drop z)).isSome with
   | false=>
    rw [hok] at r2
    (repeat (first | ((first | with_reducible apply aF | with_reducible apply aG);(focus (first | with_reducible rfl | (simp only [aE,aC,aD,Nat.zero_add,Nat.add_zero,Bool.not_true,Bool.not_false,decide_true,decide_false,reduceIte,and_self,Bool.false_eq_true,q,hx,hne,s1,r1,w1,s2,r2] <;>with_reducible rfl)))) | with_reducible apply aH | with_reducible apply aI))
    exact ⟨rfl,rfl⟩
   | true=>
    rw [hok] at r2
    (repeat (first | ((first | with_reducible apply aF | with_reducible apply aG);(focus (first | with_reducible rfl | (simp only [aE,aC,aD,Nat.zero_add,Nat.add_zero,Bool.not_true,Bool.not_false,decide_true,decide_false,reduceIte,and_self,Bool.false_eq_true,q,hx,hne,s1,r1,w1,s2,r2,bQ,w2,he] <;>with_reducible rfl)))) | with_reducible apply aH | with_reducible apply aI))
    exact ⟨rfl,rfl⟩
end
end Go.Proofs.YtfigbgjbaohglaaGreatDoor.bP
end
section
set_option linter.unusedSimpArgs false
set_option linter.unusedVariables false
namespace Go.Proofs.YtfigbgjbaohglaaGreatDoor.bP
open Go.au
abbrev aQ:=List UInt8
structure cq where
 aN:List aQ
 syn:Nat
 cut:Bool
 aA:aQ
abbrev Fs:=List (aQ × cq)
structure bf where
 fs:Fs
 off:Bool
 bI:Nat
def jk:cq:=⟨[],0,false,[]⟩
def jC:bf:=⟨[],false,0⟩
def ir {α:Type} (fs:List (aQ × α)):Prop:=fs.Pairwise fun x y=>x.1 <y.1
def ins {α:Type} (n:aQ) (f:α):List (aQ × α)→List (aQ × α)
 | []=>[(n,f)]
 | x::xs=>if n <x.1 then (n,f)::x::xs else if x.1=n then (n,f)::xs else x::ins n f xs
def del {α:Type} (n:aQ) (fs:List (aQ × α)):List (aQ × α):=fs.filter fun x=> !decide (x.1=n)
theorem ru (a:aQ):¬a <a:=List.lt_irrefl a
theorem Hp {a b c:aQ} (h:a <b) (h':b <c):a <c:=List.lt_trans h h'
theorem ac3 (a b:aQ):a <b∨a=b∨b <a:=by
 by_cases h:a <b
 ·exact .inl h
 ·by_cases h':b <a
  ·exact .inr (.inr h')
  ·exact .inr (.inl (List.le_antisymm (List.not_lt.1 h') (List.not_lt.1 h)))
theorem ir.nodup {α:Type} {fs:List (aQ × α)} (h:ir fs):(fs.map (·.1)).Nodup:=by
 unfold List.Nodup
 rw [List.pairwise_map]
 exact List.Pairwise.imp (fun hxy e=>by rw [e] at hxy;exact ru _ hxy) h
theorem s6 {α:Type} {n:aQ} {f:α}:∀{fs:List (aQ × α)},ir fs→ ∀k a,(k,a)∈ins n f fs↔(k=n∧a=f)∨(k≠n∧(k,a)∈fs)
 | [],_,k,a=>by simp [ins]
 | x::xs,h,k,a=>by
  have h1:=List.pairwise_cons.1 h
  unfold ins
  split
  ·rename_i hlt
   have hne:∀y∈x::xs,y.1≠n:=by
    intro y hy e
    rcases List.mem_cons.1 hy with rfl | hy
    ·rw [e] at hlt;exact ru _ hlt
    ·have:=h1.1 y hy
     rw [e] at this
     exact ru _ (Hp hlt this)
   rw [List.mem_cons]
   constructor
   ·rintro (e | e)
    ·simp at e;exact .inl e
    ·exact .inr ⟨fun e'=>hne _ e e',e⟩
   ·rintro (⟨rfl,rfl⟩ | ⟨_,e⟩)
    ·exact .inl rfl
    ·exact .inr e
  ·split
   ·rename_i _ he
    rw [List.mem_cons,List.mem_cons]
    constructor
    ·rintro (e | e)
     ·simp at e;exact .inl e
     ·refine .inr ⟨fun e'=> ?_,.inr e⟩
      have:=h1.1 _ e
      rw [he,e'] at this
      exact ru _ this
    ·rintro (⟨rfl,rfl⟩ | ⟨hn,e | e⟩)
     ·exact .inl rfl
     ·exfalso;apply hn;rw [←he,←e]
     ·exact .inr e
   ·rename_i _ he
    rw [List.mem_cons,List.mem_cons,s6 h1.2]
    constructor
    ·rintro (e | e | e)
     ·exact .inr ⟨fun e'=>he (by rw [←e'];rw [←e]),.inl e⟩
     ·exact .inl e
     ·exact .inr ⟨e.1,.inr e.2⟩
    ·rintro (e | ⟨hn,e | e⟩)
     ·exact .inr (.inl e)
     ·exact .inl e
     ·exact .inr (.inr ⟨hn,e⟩)
theorem yT {α:Type} {n:aQ} {f:α}:∀{fs:List (aQ × α)},ir fs→ir (ins n f fs)
 | [],_=>by simp [ins,ir]
 | x::xs,h=>by
  have h1:=List.pairwise_cons.1 h
  unfold ins
  split
  ·rename_i hlt
   refine List.pairwise_cons.2 ⟨fun y hy=> ?_,h⟩
   rcases List.mem_cons.1 hy with rfl | hy
   ·exact hlt
   ·exact Hp hlt (h1.1 y hy)
  ·rename_i hlt
   split
   ·rename_i he
    refine List.pairwise_cons.2 ⟨fun y hy=> ?_,h1.2⟩
    have:=h1.1 y hy
    rw [he] at this;exact this
   ·rename_i he
    refine List.pairwise_cons.2 ⟨fun y hy=> ?_,yT h1.2⟩
    rcases (s6 h1.2 y.1 y.2).1 hy with ⟨e,_⟩ | ⟨_,e⟩
    ·rw [e]
     rcases ac3 n x.1 with g | g | g
     ·exact absurd g hlt
     ·exact absurd g.symm he
     ·exact g
    ·exact h1.1 y e
theorem ac4 {α:Type} {n:aQ} {f:α} {fs:List (aQ × α)} (h:ir fs):BN fs n f (ins n f fs):=⟨(yT h).nodup,s6 h⟩
theorem yU {α:Type} {n:aQ} {fs:List (aQ × α)} (k:aQ) (a:α):(k,a)∈del n fs↔(k≠n∧(k,a)∈fs):=by
 unfold del
 rw [List.mem_filter];simp [and_comm]
theorem Hq {α:Type} {n:aQ} {fs:List (aQ × α)} (h:ir fs):ir (del n fs):=List.Pairwise.sublist List.filter_sublist h
theorem ac5 {α:Type} {n:aQ} {fs:List (aQ × α)} (h:ir fs):OC fs n (del n fs):=⟨(Hq h).nodup,fun k a=>yU k a⟩
theorem ac6:∀{l l':List aQ},l.Pairwise (· < ·)→l'.Pairwise (· < ·)→(∀x,x∈l↔x∈l')→l=l'
 | [],[],_,_,_=>rfl
 | [],y::ys,_,_,h=>by have:=(h y).2 (by simp);simp at this
 | x::xs,[],_,_,h=>by have:=(h x).1 (by simp);simp at this
 | x::xs,y::ys,h1,h2,h=>by
  have g1:=List.pairwise_cons.1 h1
  have g2:=List.pairwise_cons.1 h2
  have hxy:x=y:=by
   rcases List.mem_cons.1 ((h x).1 (by simp)) with e | e
   ·exact e
   ·rcases List.mem_cons.1 ((h y).2 (by simp)) with e' | e'
    ·exact e'.symm
    ·exact absurd (Hp (g1.1 y e') (g2.1 x e)) (ru _)
  subst hxy
  congr 1
  refine ac6 g1.2 g2.2 fun z=> ?_
  constructor
  ·intro hz
   rcases List.mem_cons.1 ((h z).1 (by simp [hz])) with e | e
   ·subst e;exact absurd (g1.1 z hz) (ru _)
   ·exact e
  ·intro hz
   rcases List.mem_cons.1 ((h z).2 (by simp [hz])) with e | e
   ·subst e;exact absurd (g2.1 z hz) (ru _)
   ·exact e
def iu (n:aQ):Bool:=decide (n≠[]) && decide (n.length≤32)
def dW (D:bf):bf:=if D.bI=0 then D else {D with bI:=D.bI - 1,off:=decide (D.bI=1)}
def iS (D:bf) (k:bf→bf):Int × bf:=if (dW D).off=true then (7,dW D) else (0,k (dW D))
def fK (D:bf) (n r:aQ):Int × bf:=
 if D.off=true then (7,D) else
 if iu n=false∨r=[] then (1,D) else
 if ((lk D.fs n).getD jk).cut=true then (9,D) else
 iS D fun B=>{B with fs:=ins n {((lk D.fs n).getD jk) with aN:=((lk D.fs n).getD jk).aN++[r]} B.fs}
def gB (D:bf) (n:aQ) (k:cq→bf→bf):Int × bf:=
 if D.off=true then (7,D) else
 match lk D.fs n with
 | none=>(4,D)
 | some f=>iS D (k f)
def iT (D:bf) (n:aQ):Int × bf:=gB D n fun f B=>{B with fs:=ins n {f with syn:=f.aN.length} B.fs}
def yV (D:bf) (a b:aQ):Int × bf:=
 if D.off=true then (7,D) else if iu b=false then (1,D) else gB D a fun f B=>{B with fs:=ins b f (del a B.fs)}
def Hr (D:bf) (n:aQ):Int × bf:=gB D n fun _ B=>{B with fs:=del n B.fs}
def eC (f:cq):aQ:=f.aN.flatten++f.aA
def iI (D:bf) (n:aQ):aQ × Int:=
 if D.off=true then ([],7) else
 match lk D.fs n with
 | none=>([],4)
 | some f=>(eC f,0)
def yW (D:bf) (n:Int):bf:={D with bI:=n.toNat}
def pQ (D:bf):bf:={D with off:=false}
def ry (f:cq) (keep:List Int) (k:Nat):Nat:=
 match keep[k]? with
 | some x=>min x.toNat (f.aN.length - f.syn)
 | none=>0
def dL (f:cq) (keep:List Int) (k:Nat):Nat:=f.syn+ry f keep k
def k7 (f:cq) (keep aA:List Int) (k:Nat):aQ:=
 match f.aN[dL f keep k]?,aA[k]? with
 | some r,some t=>r.take (t % (r.length:Int)).toNat
 | _,_=>f.aA
def cP (f:cq) (keep aA:List Int) (k:Nat):cq:=
 ⟨f.aN.take (dL f keep k),dL f keep k,f.cut || decide (dL f keep k <f.aN.length),k7 f keep aA k⟩
def eP (keep aA:List Int):Nat→Fs→Fs
 | _,[]=>[]
 | k,x::xs=>if x.2.syn <x.2.aN.length then (x.1,cP x.2 keep aA k)::eP keep aA (k+1) xs else x::eP keep aA k xs
def mZ (D:bf) (keep aA:List Int):bf:={D with off:=true,fs:=eP keep aA 0 D.fs}
structure jD (K:Nat) (f:cq):Prop where
 syn:f.syn≤f.aN.length
 ne:∀r∈f.aN,r≠[]
 aA:f.cut=false→f.aA=[]
 Ht:f.cut=true→f.syn=f.aN.length
 many:f.aN.length≤K
 bytes:(eC f).length≤K
structure bV (K:Nat) (D:bf):Prop where
 jl:ir D.fs
 names:∀n∈D.fs.map (·.1),iu n=true
 files:∀n f,(n,f)∈D.fs→jD K f
 len:D.fs.length≤K
 bI:D.bI <9223372036854775808
theorem jD.mono {K K':Nat} {f:cq} (h:jD K f) (hk:K≤K'):jD K' f:=⟨h.syn,h.ne,h.aA,h.Ht,by have:=h.many;omega,by have:=h.bytes;omega⟩
theorem bV.mono {K K':Nat} {D:bf} (h:bV K D) (hk:K≤K'):bV K' D:=⟨h.jl,h.names,fun n f hm=>(h.files n f hm).mono hk,by have:=h.len;omega,h.bI⟩
theorem PO:bV 0 jC:=⟨List.Pairwise.nil,fun _ h=>by simp [jC] at h,fun _ _ h=>by simp [jC] at h,Nat.le_refl _,by decide⟩
theorem ac7:jD 0 jk:=⟨Nat.le_refl _,fun _ h=>by simp [jk] at h,fun _=>rfl,fun h=>by simp [jk] at h,Nat.le_refl _,Nat.le_refl _⟩
theorem PR {K:Nat} {D:bf} (h:bV K D):bV K (dW D):=by
 unfold dW
 split
 ·exact h
 ·exact ⟨h.jl,h.names,h.files,h.len,by have:=h.bI;show D.bI - 1 <_;omega⟩
theorem s7 (D:bf):(dW D).fs=D.fs:=by unfold dW;split <;>rfl
theorem PS {α:Type} {n:aQ} {f:α}:∀(fs:List (aQ × α)),(ins n f fs).length≤fs.length+1
 | []=>by simp [ins]
 | x::xs=>by
  have:=PS (n:=n) (f:=f) xs
  unfold ins
  split
  ·simp
  ·split <;>simp <;>omega
theorem Hu {K K':Nat} {D:bf} (h:bV K D) {n:aQ} {f:cq} (hn:iu n=true) (hf:jD K' f) (hk:K+1≤K'):bV K' {D with fs:=ins n f D.fs}:=
 ⟨yT h.jl,fun k hm=>by
  obtain ⟨a,hm⟩:=mem_keys.1 hm
  rcases (s6 h.jl k a).1 hm with ⟨rfl,_⟩ | ⟨_,hm⟩
  ·exact hn
  ·exact h.names k (mem_keys.2 ⟨a,hm⟩),fun k a hm=>by
  rcases (s6 h.jl k a).1 hm with ⟨_,rfl⟩ | ⟨_,hm⟩
  ·exact hf
  ·exact (h.files k a hm).mono (by omega),by have:=PS (n:=n) (f:=f) D.fs;have:=h.len;show (ins n f D.fs).length≤_;omega,h.bI⟩
theorem PT {K:Nat} {D:bf} (h:bV K D) {n:aQ}:bV K {D with fs:=del n D.fs}:=
 ⟨Hq h.jl,fun k hm=>by obtain ⟨a,hm⟩:=mem_keys.1 hm;exact h.names k (mem_keys.2 ⟨a,((yU k a).1 hm).2⟩),fun k a hm=>h.files k a ((yU k a).1 hm).2,Nat.le_trans (List.length_filter_le _ _) h.len,h.bI⟩
theorem PU {K:Nat} {D:bf} (h:bV K D) (n:aQ):jD K ((lk D.fs n).getD jk):=by
 cases hl:lk D.fs n with
 | none=>exact ac7.mono (Nat.zero_le _)
 | some f=>exact h.files n f (mW hl)
theorem PV {K K':Nat} {D:bf} (h:bV K D) (hk:K≤K') {k:bf→bf} (hq:∀B,bV K B→bV K' (k B)):bV K' (iS D k).2:=by
 unfold iS
 split
 ·exact (PR h).mono hk
 ·exact hq _ (PR h)
theorem Hv {K K':Nat} {D:bf} (h:bV K D) (hk:K≤K') {n:aQ} {k:cq→bf→bf} (hq:∀f B,iu n=true→jD K f→bV K B→bV K' (k f B)):bV K' (gB D n k).2:=by
 unfold gB
 split
 ·exact h.mono hk
 ·split
  ·exact h.mono hk
  ·rename_i f hl
   exact PV h hk fun B hB=>hq f B (h.names n (mem_keys.2 ⟨f,mW hl⟩)) (h.files n f (mW hl)) hB
theorem Hw {K:Nat} {D:bf} (h:bV K D) (n r:aQ):bV (K+r.length+1) (fK D n r).2:=by
 unfold fK
 split
 ·exact h.mono (by omega)
 split
 ·exact h.mono (by omega)
 rename_i hr
 split
 ·exact h.mono (by omega)
 rename_i hc
 refine PV h (by omega) fun B hB=>Hu hB (by cases hn:iu n with | true=>rfl | false=>exact absurd (Or.inl hn) hr) ?_ (by omega)
 have hf:=PU h n
 refine ⟨?_,?_,hf.aA,fun e=>absurd e hc,?_,?_⟩
 ·have:=hf.syn;simp;omega
 ·intro x hx
  rcases List.mem_append.1 hx with hx | hx
  ·exact hf.ne x hx
  ·simp at hx;subst hx;exact fun e=>hr (.inr e)
 ·have:=hf.many;simp;omega
 ·have:=hf.bytes
  simp only [eC,List.length_append,List.flatten_append,List.flatten_cons,List.flatten_nil,List.append_nil] at this ⊢
  omega
theorem Hy {K:Nat} {D:bf} (h:bV K D) (n:aQ):bV (K+1) (iT D n).2:=
 Hv h (by omega) fun f B hn hf hB=>Hu hB hn ⟨Nat.le_refl _,hf.ne,hf.aA,fun _=>rfl,by have:=hf.many;show f.aN.length≤_;omega,by have:=hf.bytes;show (eC f).length≤_;omega⟩ (Nat.le_refl _)
theorem ac8 {K:Nat} {D:bf} (h:bV K D) (a b:aQ):bV (K+1) (yV D a b).2:=by
 unfold yV
 split
 ·exact h.mono (by omega)
 split
 ·exact h.mono (by omega)
 rename_i hb
 exact Hv h (by omega) fun f B _ hf hB=>Hu (PT hB) (by simpa using hb) (hf.mono (by omega)) (Nat.le_refl _)
theorem ac9 {K:Nat} {D:bf} (h:bV K D) (n:aQ):bV K (Hr D n).2:=Hv h (Nat.le_refl _) fun f B _ hf hB=>PT hB
theorem PW {K:Nat} {D:bf} (h:bV K D) {n:Int} (hn:n <9223372036854775808):bV K (yW D n):=⟨h.jl,h.names,h.files,h.len,by show n.toNat <_;omega⟩
theorem PX {K:Nat} {D:bf} (h:bV K D):bV K (pQ D):=⟨h.jl,h.names,h.files,h.len,h.bI⟩
theorem u0 {f:cq} (h:f.syn≤f.aN.length) (keep:List Int) (k:Nat):dL f keep k≤f.aN.length:=by
 unfold dL ry
 split
 ·rename_i x _
  have:=Nat.min_le_right x.toNat (f.aN.length - f.syn)
  omega
 ·omega
theorem ada {α:Type} (l:List (List α)) (n:Nat):(l.take n).flatten.length≤l.flatten.length:=by
 conv=>rhs;rw [←List.take_append_drop n l,List.flatten_append,List.length_append]
 omega
theorem PY {K:Nat} {f:cq} (h:jD K f) (hs:f.syn <f.aN.length) (keep aA:List Int) (k:Nat):jD K (cP f keep aA k):=by
 have hl:=u0 h.syn keep k
 refine ⟨?_,fun r hr=>h.ne r (List.mem_of_mem_take hr),?_,fun _=> ?_,?_,?_⟩
 ·simp only [cP,List.length_take];omega
 ·intro hc
  simp only [cP,Bool.or_eq_false_iff,decide_eq_false_iff_not] at hc
  simp only [cP,k7]
  rw [List.getElem?_eq_none (by omega)]
  exact h.aA hc.1
 ·simp only [cP,List.length_take];omega
 ·have:=h.many
  simp only [cP,List.length_take];omega
 ·have hb:=h.bytes
  simp only [eC,List.length_append] at hb
  have ht:=ada f.aN (dL f keep k)
  simp only [eC,cP,List.length_append]
  unfold k7
  split
  ·rename_i r t hr _
   have hm:(f.aN.take (dL f keep k)).flatten.length+r.length≤f.aN.flatten.length:=by
    obtain ⟨hlt,rfl⟩:=List.getElem?_eq_some_iff.1 hr
    conv=>rhs;rw [←List.take_append_drop (dL f keep k) f.aN,List.drop_eq_getElem_cons hlt,List.flatten_append,List.flatten_cons,List.length_append,List.length_append]
    omega
   simp only [List.length_take];omega
  ·omega
theorem B6 (keep aA:List Int):∀(k:Nat) (fs:Fs),(eP keep aA k fs).map (·.1)=fs.map (·.1)
 | _,[]=>rfl
 | k,x::xs=>by
  unfold eP
  split <;>simp [B6]
theorem Hz {K:Nat} {keep aA:List Int}:∀{k:Nat} {fs:Fs},(∀n f,(n,f)∈fs→jD K f)→ ∀n f,(n,f)∈eP keep aA k fs→jD K f
 | _,[],h,n,f,hm=>by simp [eP] at hm
 | k,x::xs,h,n,f,hm=>by
  unfold eP at hm
  split at hm
  ·rename_i hs
   rcases List.mem_cons.1 hm with e | hm
   ·simp at e
    rw [e.2];exact PY (h x.1 x.2 (by simp)) hs keep aA k
   ·exact Hz (fun n f hm=>h n f (by simp [hm])) n f hm
  ·rcases List.mem_cons.1 hm with e | hm
   ·exact h n f (by simp [e])
   ·exact Hz (fun n f hm=>h n f (by simp [hm])) n f hm
theorem HA {α:Type} {fs:List (aQ × α)}:ir fs↔(fs.map (·.1)).Pairwise (· < ·):=by rw [List.pairwise_map];rfl
theorem PZ {K:Nat} {D:bf} (h:bV K D) (keep aA:List Int):bV K (mZ D keep aA):=
 ⟨HA.2 (by show ((eP keep aA 0 D.fs).map (·.1)).Pairwise _;rw [B6];exact HA.1 h.jl),fun k hm=>h.names k (by rw [←B6 keep aA 0];exact hm),Hz h.files,
  by have:=congrArg List.length (B6 keep aA 0 D.fs);simp at this;show (eP keep aA 0 D.fs).length≤_;rw [this];exact h.len,h.bI⟩
structure lT where
 act:Int
 a:aQ
 b:aQ
 n:Int
 keep:List Int
 aA:List Int
def nR (D:bf) (x:lT):(aQ × Int) × bf:=
 if x.act=0 then (([],(fK D x.a x.b).1),(fK D x.a x.b).2) else
 if x.act=1 then (([],(iT D x.a).1),(iT D x.a).2) else
 if x.act=2 then (([],(yV D x.a x.b).1),(yV D x.a x.b).2) else
 if x.act=3 then (([],(Hr D x.a).1),(Hr D x.a).2) else
 if x.act=4 then (iI D x.a,D) else
 if x.act=5 then (([],0),yW D x.n) else
 if x.act=6 then (([],0),mZ D x.keep x.aA) else
 if x.act=7 then (([],0),pQ D) else (([],0),D)
def yX:bf→List lT→bf:=List.foldl fun D x=>(nR D x).2
structure lT.ok (x:lT):Prop where
 n:x.n <9223372036854775808
 lo: -9223372036854775808≤x.n
 b:x.b.length≤20000
 keep:x.keep.length≤60
 aA:x.aA.length≤60
 ag3:∀y∈x.keep,-9223372036854775808≤y∧y <9223372036854775808
 ag4:∀y∈x.aA,-9223372036854775808≤y∧y <9223372036854775808
theorem P0 {K:Nat} {D:bf} (h:bV K D) {x:lT} (hx:x.ok):bV (K+20001) (nR D x).2:=by
 have hb:=hx.b
 unfold nR
 split
 ·exact (Hw h x.a x.b).mono (by omega)
 split
 ·exact (Hy h x.a).mono (by omega)
 split
 ·exact (ac8 h x.a x.b).mono (by omega)
 split
 ·exact (ac9 h x.a).mono (by omega)
 split
 ·exact h.mono (by omega)
 split
 ·exact (PW h hx.n).mono (by omega)
 split
 ·exact (PZ h x.keep x.aA).mono (by omega)
 split
 ·exact (PX h).mono (by omega)
 ·exact h.mono (by omega)
theorem P3:∀{l:List lT} {K:Nat} {D:bf},bV K D→(∀x∈l,x.ok)→bV (K+l.length * 20001) (yX D l)
 | [],K,D,h,_=>by simpa [yX] using h
 | x::l,K,D,h,hx=>by
  have h1:=P0 h (hx x (by simp))
  have h2:=P3 (l:=l) h1 fun y hy=>hx y (List.mem_cons_of_mem _ hy)
  exact h2.mono (by rw [List.length_cons,Nat.succ_mul];omega)
end Go.Proofs.YtfigbgjbaohglaaGreatDoor.bP
end
section
set_option linter.unusedSimpArgs false
set_option linter.unusedVariables false
namespace Go.Proofs.YtfigbgjbaohglaaGreatDoor.bP
open Go.au Go.au.Wl
def fC (n:aQ):bf→List aQ→Int × bf
 | D,[]=>iT D n
 | D,r::rs=>if (fK D n r).1=0 then fC n (fK D n r).2 rs else fK D n r
def one (n:aQ) (L:List aQ) (s:Nat) (o:Bool) (u:Nat):bf:=⟨[(n,⟨L,s,false,[]⟩)],o,u⟩
def bare (o:Bool) (u:Nat):bf:=⟨[],o,u⟩
def laid (n:aQ) (L:List aQ) (s u:Nat) (rs:List aQ):Int × bf:=
 if u=0 then (0,one n (L++rs) (L++rs).length false 0)
 else if rs.length+1 <u then (0,one n (L++rs) (L++rs).length false (u - (rs.length+1)))
 else (7,one n (L++rs.take (u - 1)) s true 0)
theorem HB (n:aQ) (f:cq):lk [(n,f)] n=some f:=by simp [lk]
theorem B7 (n:aQ) (f g:cq):ins n g [(n,f)]=[(n,g)]:=by
 unfold ins
 rw [if_neg (ru n),if_pos rfl]
theorem adb {n r:aQ} {L:List aQ} {s u:Nat} (hn:iu n=true) (hr:r≠[]):
  fK (one n L s false u) n r=if u=1 then (7,one n L s true 0) else (0,one n (L++[r]) s false (u - 1)):=by
 unfold fK
 simp only [one,Bool.false_eq_true,if_false,hn,hr,or_self,HB,Option.getD_some]
 unfold iS dW
 by_cases h0:u=0
 ·subst h0
  simp [B7]
 ·by_cases h1:u=1
  ·subst h1;simp
  ·simp [h0,h1,B7]
theorem ade {n r:aQ} {u:Nat} (hn:iu n=true) (hr:r≠[]):
  fK (bare false u) n r=if u=1 then (7,bare true 0) else (0,one n [r] 0 false (u - 1)):=by
 unfold fK
 simp only [bare,one,Bool.false_eq_true,if_false,hn,hr,or_self,lk,List.find?_nil,Option.map_none,Option.getD_none,jk]
 unfold iS dW
 by_cases h0:u=0
 ·subst h0
  simp [ins]
 ·by_cases h1:u=1
  ·subst h1;simp
  ·simp [h0,h1,ins]
theorem adf {n:aQ} {L:List aQ} {s u:Nat}:
  iT (one n L s false u) n=if u=1 then (7,one n L s true 0) else (0,one n L L.length false (u - 1)):=by
 unfold iT gB
 simp only [one,Bool.false_eq_true,if_false,HB]
 unfold iS dW
 by_cases h0:u=0
 ·subst h0
  simp [B7]
 ·by_cases h1:u=1
  ·subst h1;simp
  ·simp [h0,h1,B7]
theorem HC {n:aQ} (hn:iu n=true):∀(rs L:List aQ) (s u:Nat),(∀r∈rs,r≠[])→fC n (one n L s false u) rs=laid n L s u rs
 | [],L,s,u,_=>by
  unfold fC laid
  rw [adf]
  by_cases h0:u=0
  ·subst h0;simp
  ·by_cases h1:u=1
   ·subst h1;simp
   ·rw [if_neg h1,if_neg h0,if_pos (by simp;omega)];simp
 | r::rs,L,s,u,h=>by
  unfold fC
  rw [adb hn (h r (by simp))]
  by_cases h1:u=1
  ·subst h1
   simp [laid]
  ·rw [if_neg h1]
   simp only [if_true]
   rw [HC hn rs _ s (u - 1) (fun x hx=>h x (by simp [hx]))]
   unfold laid
   by_cases h0:u=0
   ·subst h0;simp
   ·rw [if_neg (by omega),if_neg h0]
    by_cases h2:rs.length+1 <u - 1
    ·rw [if_pos h2,if_pos (by simp;omega)]
     have e:u - 1 - (rs.length+1)=u - ((r::rs).length+1):=by simp;omega
     rw [e];simp
    ·rw [if_neg h2,if_neg (by simp;omega)]
     obtain ⟨v,rfl⟩:∃v,u=v+2:=⟨u - 2,by omega⟩
     simp
theorem adg {n:aQ} (hn:iu n=true) {r:aQ} {rs:List aQ} {u:Nat} (hr:r≠[]) (h:∀r∈rs,r≠[]):
  fC n (bare false u) (r::rs)=if u=1 then (7,bare true 0) else laid n [r] 0 (u - 1) rs:=by
 conv=>lhs;unfold fC
 rw [ade hn hr]
 by_cases h1:u=1
 ·subst h1;simp
 ·rw [if_neg h1,if_neg h1]
  simp only [if_true]
  rw [HC hn rs _ _ _ h]
def lU (L:List aQ) (s:Nat) (keep:List Int):Nat:=if s <L.length then dL ⟨L,s,false,[]⟩ keep 0 else L.length
theorem adh {L:List aQ} {s:Nat} (hs:s≤L.length) (keep:List Int):s≤lU L s keep∧lU L s keep≤L.length:=by
 unfold lU
 split
 ·exact ⟨by unfold dL;exact Nat.le_add_right _ _,u0 hs keep 0⟩
 ·exact ⟨hs,Nat.le_refl _⟩
theorem adi (S:Sum) {n:aQ} {L:List aQ} {s u:Nat} {o:Bool} (hs:s≤L.length) (hL:∀r∈L,∃x:Bs,x.length <18446744073709551616∧r=cA S x) (keep aA:List Int):
  ∃f t,mZ (one n L s o u) keep aA=⟨[(n,f)],true,u⟩∧eC f=(L.take (lU L s keep)).flatten++t∧dx S t=([],0)∧f.aN.length=lU L s keep:=by
 by_cases h:s <L.length
 ·refine ⟨cP ⟨L,s,false,[]⟩ keep aA 0,k7 ⟨L,s,false,[]⟩ keep aA 0,?_,?_,?_,?_⟩
  ·simp [mZ,one,eP,h]
  ·unfold eC cP lU
   rw [if_pos h]
  ·unfold k7
   split
   ·rename_i r t hr ht
    obtain ⟨x,hx,rfl⟩:=hL r (List.mem_of_getElem? hr)
    have hpos:0 <(cA S x).length:=List.length_pos_iff.2 (uS S x)
    have hlt:(t % ((cA S x).length:Int)).toNat <(cA S x).length:=by
     have h1:=Int.emod_nonneg t (b:=((cA S x).length:Int)) (by omega)
     have h2:=Int.emod_lt_of_pos t (b:=((cA S x).length:Int)) (by omega)
     omega
    refine acz S hx (List.take_append_drop (t % ((cA S x).length:Int)).toNat (cA S x)) ?_
    intro e
    rw [List.drop_eq_nil_iff] at e
    omega
   ·exact Ph S
  ·unfold cP lU
   rw [if_pos h]
   have:=u0 hs keep 0 (f:=⟨L,s,false,[]⟩)
   simp only [List.length_take] at this ⊢
   omega
 ·refine ⟨⟨L,s,false,[]⟩,[],?_,?_,Ph S,?_⟩
  ·simp [mZ,one,eP,h]
  ·unfold eC lU
   rw [if_neg h,List.take_length]
  ·unfold lU;rw [if_neg h]
theorem ag5 (o:Bool) (u:Nat) (keep aA:List Int):mZ (bare o u) keep aA=bare true u:=rfl
end Go.Proofs.YtfigbgjbaohglaaGreatDoor.bP
end
section
set_option linter.unusedSimpArgs false
set_option linter.unusedVariables false
namespace Go.Proofs.YtfigbgjbaohglaaGreatDoor.bP
open Go.au
section
variable {α:Type}
theorem yY {fs:List (aQ × α)} (h:ir fs) {n:aQ} {a:α}:lk fs n=some a↔(n,a)∈fs:=⟨mW,GQ h.nodup⟩
theorem P4 {fs gs:List (aQ × α)} {n:aQ} (h:ir fs) (h':ir gs) (hm:∀a,(n,a)∈fs↔(n,a)∈gs):lk fs n=lk gs n:=by
 cases hl:lk fs n with
 | some a=>exact ((yY h').2 ((hm a).1 ((yY h).1 hl))).symm
 | none=>
  cases hl':lk gs n with
  | none=>rfl
  | some a=>rw [(yY h).2 ((hm a).2 ((yY h').1 hl'))] at hl;simp at hl
theorem HD {fs:List (aQ × α)} (h:ir fs) (n k:aQ) (f:α):lk (ins n f fs) k=if k=n then some f else lk fs k:=by
 by_cases e:k=n
 ·rw [if_pos e]
  exact (yY (yT h)).2 ((s6 h _ _).2 (.inl ⟨e,rfl⟩))
 ·rw [if_neg e]
  refine P4 (yT h) h fun a=> ?_
  rw [s6 h]
  constructor
  ·rintro (⟨e',_⟩ | ⟨_,h⟩)
   ·exact absurd e' e
   ·exact h
  ·exact fun h=> .inr ⟨e,h⟩
theorem ag6 {fs:List (aQ × α)} (h:ir fs) (n k:aQ):lk (del n fs) k=if k=n then none else lk fs k:=by
 by_cases e:k=n
 ·rw [if_pos e,BK,mem_keys]
  rintro ⟨a,ha⟩
  exact ((yU _ _).1 ha).1 e
 ·rw [if_neg e]
  refine P4 (Hq h) h fun a=> ?_
  rw [yU]
  exact ⟨fun h=>h.2,fun h=>⟨e,h⟩⟩
end
theorem B8 (keep aA:List Int) (n:aQ):∀(k:Nat) (fs:Fs),∃j,lk (eP keep aA k fs) n=(lk fs n).map fun f=>if f.syn <f.aN.length then cP f keep aA j else f
 | k,[]=>⟨0,rfl⟩
 | k,x::xs=>by
  by_cases e:x.1=n
  ·refine ⟨k,?_⟩
   unfold eP
   by_cases hs:x.2.syn <x.2.aN.length
   ·simp [lk,hs,e]
   ·simp [lk,hs,e]
  ·unfold eP
   by_cases hs:x.2.syn <x.2.aN.length
   ·obtain ⟨j,hj⟩:=B8 keep aA n (k+1) xs
    refine ⟨j,?_⟩
    have:∀(y:aQ × cq) (ys:Fs),y.1=x.1→lk (y::ys) n=lk ys n:=by
     intro y ys hy
     simp [lk,hy,e]
    rw [if_pos hs,this (x.1,cP x.2 keep aA k) (eP keep aA (k+1) xs) rfl,hj,this x xs rfl]
   ·obtain ⟨j,hj⟩:=B8 keep aA n k xs
    refine ⟨j,?_⟩
    have:∀(y:aQ × cq) (ys:Fs),y.1=x.1→lk (y::ys) n=lk ys n:=by
     intro y ys hy
     simp [lk,hy,e]
    rw [if_neg hs,this x (eP keep aA k xs) rfl,hj,this x xs rfl]
structure adj (f g:cq):Prop where
 aN:f.aN <+:g.aN
 syn:f.aN.length≤g.syn
 cut:f.cut=true→g=f
 aA:f.cut=false→f.aA=[]
def fL (n:aQ) (f:cq) (D:bf):Prop:= ∃g,lk D.fs n=some g∧adj f g
theorem fL.oper {n:aQ} {f:cq} {D:bf} (h:fL n f D) {k:bf→bf} (hk:∀B,B.fs=D.fs→fL n f (k B)):fL n f (iS D k).2:=by
 unfold iS
 split
 ·obtain ⟨g,h1,h2⟩:=h
  exact ⟨g,by rw [s7];exact h1,h2⟩
 ·exact hk _ (s7 D)
theorem fL.append {K:Nat} {n:aQ} {f:cq} {D:bf} (hD:bV K D) (h:fL n f D) (m r:aQ):fL n f (fK D m r).2:=by
 unfold fK
 split
 ·exact h
 split
 ·exact h
 split
 ·exact h
 rename_i hc
 refine h.oper fun B hB=> ?_
 obtain ⟨g,h1,h2⟩:=h
 unfold fL
 simp only [hB]
 rw [HD hD.jl]
 by_cases e:n=m
 ·subst e
  rw [if_pos rfl]
  rw [h1,Option.getD_some] at hc ⊢
  refine ⟨_,rfl,h2.aN.trans (List.prefix_append _ _),h2.syn,fun hf=> ?_,h2.aA⟩
  have:=h2.cut hf
  subst this
  exact absurd hf hc
 ·rw [if_neg e]
  exact ⟨g,h1,h2⟩
theorem fL.sync {K:Nat} {n:aQ} {f:cq} {D:bf} (hD:bV K D) (hf:f.syn=f.aN.length) (h:fL n f D) (m:aQ):fL n f (iT D m).2:=by
 unfold iT gB
 split
 ·exact h
 split
 ·exact h
 rename_i g' hl
 refine h.oper fun B hB=> ?_
 obtain ⟨g,h1,h2⟩:=h
 unfold fL
 simp only [hB]
 rw [HD hD.jl]
 by_cases e:n=m
 ·subst e
  rw [h1] at hl
  simp at hl
  subst hl
  rw [if_pos rfl]
  refine ⟨_,rfl,h2.aN,h2.aN.length_le,fun hc=> ?_,h2.aA⟩
  have:=h2.cut hc
  subst this
  rw [←hf]
 ·rw [if_neg e]
  exact ⟨g,h1,h2⟩
theorem fL.P5 {n:aQ} {f:cq} {D:bf} (hf:f.syn=f.aN.length) (h:fL n f D) (keep aA:List Int):fL n f (mZ D keep aA):=by
 obtain ⟨g,h1,h2⟩:=h
 obtain ⟨j,hj⟩:=B8 keep aA n 0 D.fs
 rw [h1,Option.map_some] at hj
 refine ⟨_,hj,?_⟩
 split
 ·rename_i hs
  have hk:g.syn≤dL g keep j:=by unfold dL;omega
  have:=h2.syn
  refine ⟨?_,by show _≤dL g keep j;omega,fun hc=> ?_,h2.aA⟩
  ·show f.aN <+:g.aN.take (dL g keep j)
   exact List.prefix_take_iff.2 ⟨h2.aN,by omega⟩
  ·have:=h2.cut hc
   subst this
   omega
 ·exact h2
theorem fL.P6 {K:Nat} {n:aQ} {f:cq} {D:bf} (hD:bV K D) (hf:f.syn=f.aN.length) (h:fL n f D) {x:lT} (h2:x.act≠2) (h3:x.act≠3):fL n f (nR D x).2:=by
 unfold nR
 split
 ·exact h.append hD _ _
 split
 ·exact h.sync hD hf _
 split
 ·exact h
 split
 ·exact h
 split
 ·exact h.P5 hf _ _
 split <;>exact h
def yZ (x:lT):Bool:= !decide (x.act=2) && !decide (x.act=3)
theorem fL.HE {n:aQ} {f:cq} (hf:f.syn=f.aN.length):∀{l:List lT} {K:Nat} {D:bf},bV K D→(∀x∈l,x.ok)→fL n f D→fL n f (yX D (l.filter yZ))
 | [],K,D,hD,_,h=>h
 | x::l,K,D,hD,hx,h=>by
  rw [List.filter_cons]
  split
  ·rename_i hm
   simp only [yZ,Bool.and_eq_true,Bool.not_eq_true',decide_eq_false_iff_not] at hm
   exact fL.HE hf (P0 hD (hx x (by simp))) (fun y hy=>hx y (by simp [hy])) (h.P6 hD hf hm.1 hm.2)
  ·exact fL.HE hf hD (fun y hy=>hx y (by simp [hy])) h
theorem P7 {K:Nat} {g:cq} (hg:jD K g) {keep aA:List Int} {j:Nat}:(if g.syn <g.aN.length then cP g keep aA j else g).syn=(if g.syn <g.aN.length then cP g keep aA j else g).aN.length:=by
 split
 ·have:=u0 hg.syn keep j
  simp only [cP,List.length_take];omega
 ·have:=hg.syn;omega
theorem ag7 {K:Nat} {D1:bf} (h1:bV K D1) (hoff:D1.off=false) (lJ:D1.bI=0) {name:aQ} (hs:(iT D1 name).1=0) {m:List lT} (hm:∀x∈m,x.ok) (keep aA:List Int):
  ∃f g,lk (iT D1 name).2.fs name=some f∧(iT D1 name).2.off=false∧lk (mZ (yX (iT D1 name).2 (m.filter yZ)) keep aA).fs name=some g∧eC f <+:eC g∧f.aN.length≤g.aN.length∧g.syn=g.aN.length:=by
 have hb:dW D1=D1:=by unfold dW;rw [if_pos lJ]
 have hlk:∃f0,lk D1.fs name=some f0:=by
  unfold iT gB at hs
  rw [if_neg (by rw [hoff];simp)] at hs
  split at hs
  ·simp at hs
  ·exact ⟨_,by assumption⟩
 obtain ⟨f0,jt⟩:=hlk
 have e2:(iT D1 name).2={D1 with fs:=ins name {f0 with syn:=f0.aN.length} D1.fs}:=by
  unfold iT gB iS
  rw [if_neg (by rw [hoff];simp),jt,hb]
  simp [hoff]
 have HF:=Hy h1 name
 rw [e2] at HF ⊢
 have hl2:lk (ins name {f0 with syn:=f0.aN.length} D1.fs) name=some {f0 with syn:=f0.aN.length}:=by rw [HD h1.jl,if_pos rfl]
 have hfo:=h1.files _ _ (mW jt)
 have hL:fL name {f0 with syn:=f0.aN.length} {D1 with fs:=ins name {f0 with syn:=f0.aN.length} D1.fs}:=⟨_,hl2,List.prefix_refl _,Nat.le_refl _,fun _=>rfl,hfo.aA⟩
 have hP:=fL.HE (f:={f0 with syn:=f0.aN.length}) rfl HF hm hL
 have hC:=hP.P5 rfl keep aA
 obtain ⟨g,q1,q2⟩:=hC
 refine ⟨_,g,hl2,hoff,q1,?_,Nat.le_trans q2.syn ?_,?_⟩
 ·unfold eC
  cases hc:f0.cut with
  | true=>
   have:=q2.cut hc
   rw [this];exact List.prefix_refl _
  | false=>
   have ht:f0.aA=[]:=q2.aA hc
   show f0.aN.flatten++f0.aA <+:_
   rw [ht,List.append_nil]
   obtain ⟨t,ht2⟩:=q2.aN
   have:f0.aN++t=g.aN:=ht2
   rw [←this,List.flatten_append,List.append_assoc]
   exact List.prefix_append _ _
 all_goals
  have adk:=P3 (l:=m.filter yZ) HF fun x hx=>hm x (List.mem_filter.1 hx).1
  obtain ⟨g',r1,r2⟩:=hP
  obtain ⟨j,hj⟩:=B8 keep aA name 0 (yX {D1 with fs:=ins name {f0 with syn:=f0.aN.length} D1.fs} (m.filter yZ)).fs
  rw [r1,Option.map_some] at hj
  have hq:some g=some _:=q1.symm.trans hj
  simp only [Option.some.injEq] at hq
  have:=P7 (adk.files _ _ (mW r1)) (keep:=keep) (aA:=aA) (j:=j)
  rw [←hq] at this
  omega
def cnt (f:cq):Nat × Nat × Bool:=(f.aN.length,f.syn,f.cut)
def fS (fs:Fs):List (aQ × Nat × Nat × Bool):=fs.map fun x=>(x.1,cnt x.2)
structure Alike (D E:bf):Prop where
 fs:fS D.fs=fS E.fs
 off:D.off=E.off
 bI:D.bI=E.bI
theorem P8 (fs:Fs) (n:aQ):lk (fS fs) n=(lk fs n).map cnt:=by
 unfold lk fS
 induction fs with
 | nil=>rfl
 | cons x xs ih=>
  rw [List.map_cons,List.find?_cons,List.find?_cons]
  by_cases e:x.1=n
  ·simp [e]
  ·simp only [decide_eq_false e];exact ih
theorem HG (n:aQ) (f:cq):∀(fs:Fs),fS (ins n f fs)=ins n (cnt f) (fS fs)
 | []=>rfl
 | x::xs=>by
  unfold ins fS
  rw [List.map_cons]
  by_cases h:n <x.1
  ·simp [h]
  ·by_cases e:x.1=n
   ·show _=if n <x.1 then (n,cnt f)::(x.1,cnt x.2)::List.map (fun x=>(x.1,cnt x.2)) xs else if x.1=n then (n,cnt f)::List.map (fun x=>(x.1,cnt x.2)) xs else _
    rw [if_neg h,if_pos e,if_neg h,if_pos e];rfl
   ·have:=HG n f xs
    unfold fS at this
    simp [h,e,this]
theorem P9 (n:aQ) (fs:Fs):fS (del n fs)=del n (fS fs):=by
 unfold fS del
 rw [List.filter_map];rfl
theorem Alike.lk {D E:bf} (h:Alike D E) (n:aQ):(lk D.fs n).map cnt=(au.lk E.fs n).map cnt:=by rw [←P8,←P8,h.fs]
theorem Alike.dW {D E:bf} (h:Alike D E):Alike (dW D) (bP.dW E):=by
 unfold bP.dW
 rw [h.bI]
 split
 ·exact h
 ·exact ⟨h.fs,rfl,rfl⟩
theorem Alike.oper {D E:bf} (h:Alike D E) {k k':bf→bf} (hk:∀B C,Alike B C→B.fs=D.fs→C.fs=E.fs→Alike (k B) (k' C)):(iS D k).1=(iS E k').1∧Alike (iS D k).2 (iS E k').2:=by
 have hb:=h.dW
 unfold iS
 rw [hb.off]
 split
 ·exact ⟨rfl,hb⟩
 ·exact ⟨rfl,hk _ _ hb (s7 D) (s7 E)⟩
theorem Alike.ins {D E:bf} (h:Alike D E) {f g:cq} (hc:cnt f=cnt g) (n:aQ):Alike {D with fs:=bP.ins n f D.fs} {E with fs:=bP.ins n g E.fs}:=
 ⟨by show fS (bP.ins n f D.fs)=fS (bP.ins n g E.fs);rw [HG,HG,hc,h.fs],h.off,h.bI⟩
theorem Alike.del {D E:bf} (h:Alike D E) (n:aQ):Alike {D with fs:=bP.del n D.fs} {E with fs:=bP.del n E.fs}:=
 ⟨by show fS (bP.del n D.fs)=fS (bP.del n E.fs);rw [P9,P9,h.fs],h.off,h.bI⟩
theorem Alike.on {D E:bf} (h:Alike D E) (n:aQ) {k k':cq→bf→bf} (hk:∀f g B C,cnt f=cnt g→Alike B C→B.fs=D.fs→C.fs=E.fs→Alike (k f B) (k' g C)):(gB D n k).1=(gB E n k').1∧Alike (gB D n k).2 (gB E n k').2:=by
 unfold gB
 rw [h.off]
 split
 ·exact ⟨rfl,h⟩
 ·have hl:=h.lk n
  cases h1:au.lk D.fs n with
  | none=>
   cases h2:au.lk E.fs n with
   | none=>exact ⟨rfl,h⟩
   | some g=>rw [h1,h2] at hl;simp at hl
  | some f=>
   cases h2:au.lk E.fs n with
   | none=>rw [h1,h2] at hl;simp at hl
   | some g=>
    rw [h1,h2] at hl;simp at hl
    exact h.oper fun B C hB e1 e2=>hk f g B C hl hB e1 e2
theorem Alike.getD {D E:bf} (h:Alike D E) (n:aQ):cnt ((au.lk D.fs n).getD jk)=cnt ((au.lk E.fs n).getD jk):=by
 have hl:=h.lk n
 cases h1:au.lk D.fs n <;>cases h2:au.lk E.fs n <;>rw [h1,h2] at hl <;>simp at hl ⊢
 exact hl
theorem Alike.append {D E:bf} (h:Alike D E) (n r s:aQ) (m4:r=[]↔s=[]):(fK D n r).1=(fK E n s).1∧Alike (fK D n r).2 (fK E n s).2:=by
 have hg:=h.getD n
 have hg':=hg
 simp only [cnt,Prod.mk.injEq] at hg'
 unfold fK
 by_cases h0:E.off=true
 ·simp only [h.off,h0,if_true];exact ⟨trivial,h⟩
 by_cases hr:iu n=false∨r=[]
 ·have hs:=hr.imp id m4.1
  simp only [h.off,h0,hr,hs,if_true,if_false];exact ⟨rfl,h⟩
 have hs:¬(iu n=false∨s=[]):=fun q=>hr (q.imp id m4.2)
 by_cases hc:((au.lk E.fs n).getD jk).cut=true
 ·simp only [h.off,h0,hr,hs,hg'.2.2,hc,if_true,if_false];exact ⟨rfl,h⟩
 simp only [h.off,h0,hr,hs,hg'.2.2,hc,if_true,if_false]
 refine h.oper fun B C hB e1 e2=>hB.ins ?_ n
 simp only [cnt,List.length_append,List.length_singleton,Prod.mk.injEq]
 exact ⟨by rw [hg'.1],hg'.2.1,by first | trivial | exact hg'.2.2⟩
theorem HH {keep aA:List Int}:∀{k:Nat} {fs gs:Fs},fS fs=fS gs→fS (eP keep aA k fs)=fS (eP keep aA k gs)
 | k,[],[],_=>rfl
 | k,[],y::ys,h=>by simp [fS] at h
 | k,x::xs,[],h=>by simp [fS] at h
 | k,x::xs,y::ys,h=>by
  simp only [fS,List.map_cons,List.cons.injEq,Prod.mk.injEq,cnt] at h
  obtain ⟨⟨h1,h2,h3,h4⟩,h5⟩:=h
  unfold eP
  rw [h2,h3]
  split
  ·have:=HH (keep:=keep) (aA:=aA) (k:=k+1) (fs:=xs) (gs:=ys) h5
   have hk:dL x.2 keep k=dL y.2 keep k:=by unfold dL ry;rw [h2,h3]
   simp only [fS,List.map_cons,cnt,cP,List.length_take,hk,h2,h4,h1] at this ⊢
   rw [this]
  ·have:=HH (keep:=keep) (aA:=aA) (k:=k) (fs:=xs) (gs:=ys) h5
   simp only [fS,List.map_cons,cnt,h1,h2,h3,h4] at this ⊢
   rw [this]
def adl (x y:lT):Prop:=y.act=x.act∧y.a=x.a∧y.n=x.n∧y.keep=x.keep∧y.aA=x.aA∧(x.act≠0→y.b=x.b)∧(x.act=0→(x.b=[]↔y.b=[]))
theorem Alike.P6 {D E:bf} (h:Alike D E) {x y:lT} (ho:adl x y) (h4:x.act≠4):(nR D x).1.2=(nR E y).1.2∧Alike (nR D x).2 (nR E y).2:=by
 obtain ⟨o1,o2,o3,o4,o5,o6,o7⟩:=ho
 unfold nR
 rw [o1,o2,o3,o4,o5]
 split
 ·rename_i h0
  exact h.append _ _ _ (o7 h0)
 rename_i h0
 rw [o6 h0]
 split
 ·refine h.on _ fun f g B C hc hB e1 e2=>hB.ins ?_ _
  simp only [cnt,Prod.mk.injEq] at hc ⊢
  exact ⟨hc.1,hc.1,hc.2.2⟩
 split
 ·unfold yV
  rw [h.off]
  split
  ·exact ⟨rfl,h⟩
  split
  ·exact ⟨rfl,h⟩
  exact h.on _ fun f g B C hc hB e1 e2=>(hB.del _).ins hc _
 split
 ·exact h.on _ fun f g B C hc hB e1 e2=>hB.del _
 split
 ·exact ⟨rfl,h.fs,h.off,rfl⟩
 split
 ·exact ⟨rfl,HH h.fs,rfl,h.bI⟩
 split
 ·exact ⟨rfl,h.fs,rfl,h.bI⟩
 ·exact ⟨rfl,h⟩
theorem ag8 {K:Nat} {f:cq} (h:jD K f) {keep aA:List Int} {j:Nat} {g:cq} (hg:g=if f.syn <f.aN.length then cP f keep aA j else f):
  eC g <+:eC f∧g.aN.length≤f.aN.length∧g.syn=g.aN.length∧(g.aN.length <f.aN.length→eC g≠eC f)∧(g.cut=false→g.aA=[]):=by
 have B9:=P7 h (keep:=keep) (aA:=aA) (j:=j)
 rw [←hg] at B9
 by_cases hs:f.syn <f.aN.length
 ·rw [if_pos hs] at hg
  have Qa:=PY h hs keep aA j
  rw [←hg] at Qa
  have hc:f.cut=false:=by
   cases nI:f.cut with
   | false=>rfl
   | true=>have:=h.Ht nI;omega
  have ht:=h.aA hc
  have hl:=u0 h.syn keep j
  have tX:g.aN=f.aN.take (dL f keep j):=by rw [hg];rfl
  have Jr:g.aN.length=dL f keep j:=by rw [tX,List.length_take];omega
  have hgt:g.aA=k7 f keep aA j:=by rw [hg];rfl
  have key:dL f keep j <f.aN.length→eC g <+:eC f∧(eC g).length <(eC f).length:=by
   intro hlt
   have hsplit:f.aN.flatten=(f.aN.take (dL f keep j)).flatten++(f.aN[dL f keep j]++(f.aN.drop (dL f keep j+1)).flatten):=by
    conv=>lhs;rw [←List.take_append_drop (dL f keep j) f.aN,List.drop_eq_getElem_cons hlt,List.flatten_append,List.flatten_cons]
   have hne:f.aN[dL f keep j]≠[]:=h.ne _ (List.getElem_mem hlt)
   have hpos:0 <f.aN[dL f keep j].length:=List.length_pos_iff.2 hne
   have rz:g.aA <+:f.aN[dL f keep j]∧g.aA.length <f.aN[dL f keep j].length:=by
    rw [hgt]
    unfold k7
    rw [List.getElem?_eq_getElem hlt]
    split
    ·rename_i r t e1 e2
     simp at e1
     subst e1
     refine ⟨List.take_prefix _ _,?_⟩
     have:=Int.emod_lt_of_pos t (show (0:Int) <(f.aN[dL f keep j].length:Int) by omega)
     have:=Int.emod_nonneg t (show (f.aN[dL f keep j].length:Int)≠0 by omega)
     rw [List.length_take];omega
    ·rw [ht];exact ⟨List.nil_prefix,by simpa using hpos⟩
   unfold eC
   rw [tX,ht,List.append_nil,hsplit]
   obtain ⟨t,ht2⟩:=rz.1
   refine ⟨⟨t++(f.aN.drop (dL f keep j+1)).flatten,by rw [←ht2];simp⟩,?_⟩
   simp only [List.length_append]
   have:=rz.2
   omega
  refine ⟨?_,by omega,B9,fun hlt e=> ?_,Qa.aA⟩
  ·rcases Nat.lt_or_ge (dL f keep j) f.aN.length with hlt | hge
   ·exact (key hlt).1
   ·have e:eC g=eC f:=by
     unfold eC
     rw [tX,hgt,List.take_of_length_le (by omega)]
     unfold k7
     rw [List.getElem?_eq_none (by omega)]
    rw [e];exact List.prefix_refl _
  ·have:=(key (by omega)).2
   rw [e] at this
   omega
 ·rw [if_neg hs] at hg
  subst hg
  exact ⟨List.prefix_refl _,Nat.le_refl _,B9,fun h=>by omega,h.aA⟩
end Go.Proofs.YtfigbgjbaohglaaGreatDoor.bP
end
section
set_option maxRecDepth 100000
set_option linter.unusedVariables false
set_option linter.unusedSimpArgs false
namespace Go.Proofs.YtfigbgjbaohglaaGreatDoor.bP
open Go.au
abbrev ptr (b:Nat):aa:= .ptr (some (b,0))
def bT (rs:List aQ):List (List aa):=rs.map fun r=>[.str r]
def gC (M:Nat→Prop) (H:ah) (v:aa) (f:cq):Prop:=
 ∃s,v= .agg [s,.int .i64 (f.syn:Int),.bool f.cut,.str f.aA]∧Fz H 1 s (bT f.aN)∧ ∀c,bC s=some c→ ¬M c
structure bN (M:Nat→Prop) (H:ah) (b m:Nat) (D:bf):Prop where
 cells:H.cells b=some [.map (some m),.bool D.off,.int .i64 (D.bI:Int)]
 map:gS BJ H m (gC M H) D.fs
def cM (b m c:Nat):Prop:=c=b∨c=m
section
variable {M:Nat→Prop} {H:ah} {b m:Nat} {D:bf}
theorem gC.frame {S:Nat→Prop} {H':ah} {v:aa} {f:cq} (h:gC M H v f) (hf:bu S H H') (hs:∀c,S c→M c):gC M H' v f:=by
 obtain ⟨s,h1,h2,h3⟩:=h
 exact ⟨s,h1,h2.frame hf (fun c hc e=>h3 c hc (hs c e)),h3⟩
theorem bN.ne (h:bN M H b m D):b≠m:=by
 intro e
 obtain ⟨vs,jy,h1,_⟩:=h.map.ex
 have:=ah.cells_eq.1 h.cells
 rw [e,h1] at this
 simp at this
theorem bN.nS (h:bN M H b m D):b <H.next:=ah.jf h.cells
theorem bN.pR (h:bN M H b m D):m <H.next:=h.map.lt
theorem bN.frame {S:Nat→Prop} {H':ah} (h:bN M H b m D) (hf:bu S H H') (hb:¬S b) (hm:¬S m) (hs:∀c,S c→M c):bN M H' b m D:=
 ⟨hf.cells h.cells hb,h.map.mono (hf.get m h.pR hm) fun k v a _ hR=>hR.frame hf hs⟩
theorem bN.keep {H':ah} (h:bN M H b m D) (hk:aO H H'):bN M H' b m D:=h.frame (S:=fun _=>False) (.of hk) (fun e=>e) (fun e=>e) (fun _ e=>e.elim)
theorem bN.more {M':Nat→Prop} (h:bN M H b m D) (hM:∀c,c <H.next→M' c→M c):bN M' H b m D:=
 ⟨h.cells,h.map.mono rfl fun k v a _ hR=>by
  obtain ⟨s,h1,h2,h3⟩:=hR
  exact ⟨s,h1,h2,fun c hc e=>h3 c hc (hM c (h2.lt c hc) e)⟩⟩
theorem bN.Ca (h:bN M H b m D) (eR:M b) {D':bf} (hfs:D'.fs=D.fs):bN M (H.set b (.cells [.map (some m),.bool D'.off,.int .i64 (D'.bI:Int)])) b m D':=by
 refine ⟨jJ h.nS,?_⟩
 rw [hfs]
 exact h.map.mono (ah.eD _ _ _ _ (Ne.symm h.ne)) fun k v a _ hR=>hR.frame (bu.set (S:=fun c=>c=b) rfl) (fun c e=>by rw [e];exact eR)
theorem s8 {n lim:Nat} (h:bN M H b m D):au.runT ap (n+1) lim (.fn 72) [ptr b] H=some (.bool false,H):=by
 refine iE (Z2 a72 ?_)
 unfold F9
 (repeat (first | ((first | with_reducible apply aF | with_reducible apply aG);(focus (first | with_reducible rfl | (simp only [aE,aC,aD,Nat.zero_add,Nat.add_zero,Bool.not_true,Bool.not_false,decide_true,decide_false,reduceIte,and_self,Bool.false_eq_true,bJ h.cells,ab8] <;>with_reducible rfl)))) | with_reducible apply aH | with_reducible apply aI))
 exact ⟨rfl,rfl⟩
def dM (D:bf):Int:=if D.off=true then 7 else 0
theorem jR {n lim:Nat} (h:bN M H b m D):au.runT ap (n+2) lim (.fn 83) [ptr b] H=some (.int .i64 (dM D),H):=by
 refine iE (aaq Xk ?_)
 unfold Gi dM
 cases ho:D.off with
 | true=>
  (repeat (first | ((first | with_reducible apply aF | with_reducible apply aG);(focus (first | with_reducible rfl | (simp only [aE,aC,aD,Nat.zero_add,Nat.add_zero,Bool.not_true,Bool.not_false,decide_true,decide_false,reduceIte,and_self,Bool.false_eq_true,s8 h,bJ h.cells,ho,Aq] <;>with_reducible rfl)))) | with_reducible apply aH | with_reducible apply aI))
  exact ⟨rfl,rfl⟩
 | false=>
  (repeat (first | ((first | with_reducible apply aF | with_reducible apply aG);(focus (first | with_reducible rfl | (simp only [aE,aC,aD,Nat.zero_add,Nat.add_zero,Bool.not_true,Bool.not_false,decide_true,decide_false,reduceIte,and_self,Bool.false_eq_true,s8 h,bJ h.cells,ho,Aq] <;>with_reducible rfl)))) | with_reducible apply aH | with_reducible apply aI))
  exact ⟨rfl,rfl⟩
structure y5 (M:Nat→Prop) (H:ah) (b m:Nat) (e:Int) (D':bf) (v:aa) (H':ah):Prop where
 v:v= .int .i64 e
 at':bN M H' b m D'
 fr:bu (cM b m) H H'
theorem Qb {n lim:Nat} (h:bN M H b m D) (eR:M b) (hlb:lim≤b) (hf:D.bI <9223372036854775808):
  ∃v H',au.runT ap (n+3) lim (.fn 103) [ptr b] H=some (v,H')∧y5 M H b m (dM (dW D)) (dW D) v H':=by
 refine aaC Xn ?_
 unfold Gn
 by_cases h0:D.bI=0
 ·have hd:decide ((0:Int) <((D.bI:Nat):Int))=false:=dF (by omega)
  have hb:dW D=D:=by unfold dW;rw [if_pos h0]
  (repeat (first | ((first | with_reducible apply aF | with_reducible apply aG);(focus (first | with_reducible rfl | (simp only [aE,aC,aD,Nat.zero_add,Nat.add_zero,Bool.not_true,Bool.not_false,decide_true,decide_false,reduceIte,and_self,Bool.false_eq_true,bJ h.cells,hd] <;>with_reducible rfl)))) | with_reducible apply aH | with_reducible apply aI))
  unfold Br
  (repeat (first | ((first | with_reducible apply aF | with_reducible apply aG);(focus (first | with_reducible rfl | (simp only [aE,aC,aD,Nat.zero_add,Nat.add_zero,Bool.not_true,Bool.not_false,decide_true,decide_false,reduceIte,and_self,Bool.false_eq_true,jR h] <;>with_reducible rfl)))) | with_reducible apply aH | with_reducible apply aI))
  rw [hb]
  exact ⟨rfl,h,.refl _ _⟩
 ·have hd:decide ((0:Int) <((D.bI:Nat):Int))=true:=dT (by omega)
  have hb:dW D={D with bI:=D.bI - 1,off:=decide (D.bI=1)}:=by unfold dW;rw [if_neg h0]
  have hw:IntKind.i64.wrap (((D.bI:Nat):Int) - 1)=((D.bI - 1:Nat):Int):=by rw [wrap_i64 (by omega) (by omega)];omega
  have s1:bp lim H 1 (.ptr (some (b,2))) (.int .i64 ((D.bI - 1:Nat):Int))=some (H.set b (.cells [.map (some m),.bool D.off,.int .i64 ((D.bI - 1:Nat):Int)])):=lM h.cells hlb rfl rfl (by show 2 <3;omega) rfl
  have c1:(H.set b (.cells [.map (some m),.bool D.off,.int .i64 ((D.bI - 1:Nat):Int)])).cells b=some [.map (some m),.bool D.off,.int .i64 ((D.bI - 1:Nat):Int)]:=jJ h.nS
  have hq:(((D.bI - 1:Nat):Int)==0)=decide (D.bI=1):=by
   rw [Bool.eq_iff_iff];simp;omega
  have s2:bp lim (H.set b (.cells [.map (some m),.bool D.off,.int .i64 ((D.bI - 1:Nat):Int)])) 1 (.ptr (some (b,1))) (.bool (decide (D.bI=1)))=some (H.set b (.cells [.map (some m),.bool (decide (D.bI=1)),.int .i64 ((D.bI - 1:Nat):Int)])):=by
   rw [lM (cs':=[.map (some m),.bool (decide (D.bI=1)),.int .i64 ((D.bI - 1:Nat):Int)]) c1 hlb rfl rfl (by show 1 <3;omega) rfl]
   simp only [ah.set,Tr.set_set]
  have h2:bN M (H.set b (.cells [.map (some m),.bool (decide (D.bI=1)),.int .i64 ((D.bI - 1:Nat):Int)])) b m (dW D):=by
   have:=h.Ca (D':=dW D) eR (s7 D)
   rw [hb] at this ⊢
   exact this
  (repeat (first | ((first | with_reducible apply aF | with_reducible apply aG);(focus (first | with_reducible rfl | (simp only [aE,aC,aD,Nat.zero_add,Nat.add_zero,Bool.not_true,Bool.not_false,decide_true,decide_false,reduceIte,and_self,Bool.false_eq_true,bJ h.cells,hd,hw,s1,bJ c1,hq,s2] <;>with_reducible rfl)))) | with_reducible apply aH | with_reducible apply aI))
  unfold Br
  (repeat (first | ((first | with_reducible apply aF | with_reducible apply aG);(focus (first | with_reducible rfl | (simp only [aE,aC,aD,Nat.zero_add,Nat.add_zero,Bool.not_true,Bool.not_false,decide_true,decide_false,reduceIte,and_self,Bool.false_eq_true,jR h2] <;>with_reducible rfl)))) | with_reducible apply aH | with_reducible apply aI))
  exact ⟨rfl,h2,.set (.inl rfl)⟩
theorem y7 {n lim:Nat} {s:aQ}:au.runT ap (n+1) lim (.fn 102) [.str s] H=some (.bool (iu s),H):=by
 refine iE (aaz Xm ?_)
 unfold Gm iu
 have hne:(!(s==([]:List UInt8)))=decide (s≠[]):=by
  cases s <;>simp
 by_cases h0:s=[]
 ·subst h0
  have he:(([]:List UInt8)==[])=true:=rfl
  (repeat (first | ((first | with_reducible apply aF | with_reducible apply aG);(focus (first | with_reducible rfl | (simp only [aE,aC,aD,Nat.zero_add,Nat.add_zero,Bool.not_true,Bool.not_false,decide_true,decide_false,reduceIte,and_self,Bool.false_eq_true,he] <;>with_reducible rfl)))) | with_reducible apply aH | with_reducible apply aI))
  exact ⟨rfl,rfl⟩
 ·have hd:decide (s≠[])=true:=dT h0
  have hl:decide ((s.length:Int)≤32)=decide (s.length≤32):=by
   rw [Bool.eq_iff_iff];simp;omega
  (repeat (first | ((first | with_reducible apply aF | with_reducible apply aG);(focus (first | with_reducible rfl | (simp only [aE,aC,aD,Nat.zero_add,Nat.add_zero,Bool.not_true,Bool.not_false,decide_true,decide_false,reduceIte,and_self,Bool.false_eq_true,hne,hd,hl] <;>with_reducible rfl)))) | with_reducible apply aH | with_reducible apply aI))
  rw [hd]
  exact ⟨rfl,rfl⟩
theorem Qc {n lim:Nat} {s:aa} {xs:List (List aa)} (h:Fz H 1 s xs):∃s',au.runT ap (n+1) lim (.fn 104) [s] H=some (s',H)∧Fz H 1 s' xs∧Full s'∧bC s'=bC s:=by
 obtain ⟨s',h1,h2,h3,h4⟩:=h.clip
 refine ⟨s',?_,h2,h3,h4⟩
 refine iE (aaF Xo ?_)
 unfold Gp
 (repeat (first | ((first | with_reducible apply aF | with_reducible apply aG);(focus (first | with_reducible rfl | (simp only [aE,aC,aD,Nat.zero_add,Nat.add_zero,Bool.not_true,Bool.not_false,decide_true,decide_false,reduceIte,and_self,Bool.false_eq_true,h.sl.len,h1] <;>with_reducible rfl)))) | with_reducible apply aH | with_reducible apply aI))
 exact ⟨rfl,rfl⟩
theorem iJ (rs:List aQ):(bT rs).length=rs.length:=by unfold bT;simp
theorem HJ (rs ss:List aQ):bT (rs++ss)=bT rs++bT ss:=by unfold bT;simp
theorem adm (r:aQ):bT [r]=[[.str r]]:=rfl
theorem adn (rs:List aQ) (k:Nat):bT (rs.take k)=(bT rs).take k:=by unfold bT;rw [List.map_take]
theorem bN.look (h:bN M H b m D) (n:aQ):∃v ok,gC M H v ((lk D.fs n).getD jk)∧ok=(lk D.fs n).isSome∧
  ∀c,jV H false [.str] (.agg [.sl none 0 (.ex 0),.int .i64 0,.bool false,.str []]) c (.map (some m)) (.str n)=some (if c=true then .bq [v,.bool ok] else v):=by
 cases hl:lk D.fs n with
 | none=>exact ⟨_,false,⟨_,rfl,Fz.nil H 1,fun c hc=>by simp [bC] at hc⟩,rfl,h.map.ab5 hl _⟩
 | some f=>
  obtain ⟨v,h1,h2⟩:=h.map.ab4 hl (.agg [.sl none 0 (.ex 0),.int .i64 0,.bool false,.str []])
  exact ⟨v,true,h1,rfl,h2⟩
theorem bN.put {lim:Nat} (h:bN M H b m D) (eS:M m) (fD:lim≤m) (hA:ir D.fs) (n:aQ) {v:aa} {f:cq} (hv:gC M H v f):
  ∃H',lp lim H false [.str] (.map (some m)) (.str n) v=some H'∧bN M H' b m {D with fs:=ins n f D.fs}∧bu (cM b m) H H':=by
 obtain ⟨x,h1,h2⟩:=h.map.update fD n hv
 have hfr:bu (fun c=>c=m) H (H.set m x):= .set rfl
 refine ⟨_,h1,⟨?_,?_⟩,hfr.weaken fun c _ e=> .inr e⟩
 ·exact qH h.cells h.ne
 ·exact (h2 _ (ac4 hA)).mono rfl fun k v a _ hR=>hR.frame hfr fun c e=>by rw [e];exact eS
theorem bN.delete {lim:Nat} (h:bN M H b m D) (eS:M m) (fD:lim≤m) (hA:ir D.fs) (n:aQ):
  ∃H',pX lim H false [.str] (.map (some m)) (.str n)=some H'∧bN M H' b m {D with fs:=del n D.fs}∧bu (cM b m) H H':=by
 obtain ⟨x,h1,h2⟩:=h.map.delete fD n
 have hfr:bu (fun c=>c=m) H (H.set m x):= .set rfl
 refine ⟨_,h1,⟨?_,?_⟩,hfr.weaken fun c _ e=> .inr e⟩
 ·exact qH h.cells h.ne
 ·exact (h2 _ (ac5 hA)).mono rfl fun k v a _ hR=>hR.frame hfr fun c e=>by rw [e];exact eS
theorem ag9 {v:aa} {f:cq} (h:gC M H v f):v.cells.length=4∧v.cells.all (·.one)=true:=by
 obtain ⟨s,rfl,h2,_⟩:=h
 exact ⟨rfl,by simp only [aa.cells,List.all_cons,List.all_nil,h2.one.1,Bool.and_true];rfl⟩
theorem ado {n lim K:Nat} (h:bN M H b m D) (hD:bV K D) (hK:K≤1000000000000) (eR:M b) (eS:M m) (hlb:lim≤b) (fD:lim≤m) (hM:∀c,H.next≤c→ ¬M c) (name r:aQ):
  ∃v H',au.runT ap (n+4) lim (.fn 57) [ptr b,.str name,.str r] H=some (v,H')∧y5 M H b m (fK D name r).1 (fK D name r).2 v H':=by
 refine ZC a57 ?_
 unfold FY fK
 have hlt:=h.nS
 have s9:=h.pR
 cases ho:D.off with
 | true=>
  have hp:dM D=7:=by unfold dM;rw [ho];rfl
  have hq:((7:Int) !=0)=true:=rfl
  (repeat (first | ((first | with_reducible apply aF | with_reducible apply aG);(focus (first | with_reducible rfl | (simp only [aE,aC,aD,Nat.zero_add,Nat.add_zero,Bool.not_true,Bool.not_false,decide_true,decide_false,reduceIte,and_self,Bool.false_eq_true,jR h,hp,hq] <;>with_reducible rfl)))) | with_reducible apply aH | with_reducible apply aI))
  exact ⟨rfl,h,.refl _ _⟩
 | false=>
  have hp:dM D=0:=by unfold dM;rw [ho];rfl
  obtain ⟨v,ok,hv,_,hlk⟩:=h.look name
  have iK:=hlk false
  obtain ⟨s,rfl,hs1,l7⟩:=hv
  generalize jt:(lk D.fs name).getD jk=f at *
  have td:=hs1.one
  have st:∀z:List aa,z.length=4→bp lim (H.push (.cells z)) 4 (.ptr (some (H.next,0))) (.agg [s,.int .i64 (f.syn:Int),.bool f.cut,.str f.aA])=some (H.push (.cells [s,.int .i64 (f.syn:Int),.bool f.cut,.str f.aA])):=fun z hz=>
   wR (x:= .agg [s,.int .i64 (f.syn:Int),.bool f.cut,.str f.aA]) (by omega) rfl hz (by simp only [aa.cells,List.all_cons,List.all_nil,td.1,Bool.and_true];rfl)
  have st:=st fP rfl
  simp only [Bool.false_eq_true,if_false]
  by_cases hr:iu name=false∨r=[]
  ·rw [if_pos hr]
   have hx:aO H (H.push (.cells [s,.int .i64 (f.syn:Int),.bool f.cut,.str f.aA])):= .push _ _
   cases hn:iu name with
   | false=>
    (repeat (first | ((first | with_reducible apply aF | with_reducible apply aG);(focus (first | with_reducible rfl | (simp only [aE,aC,aD,Nat.zero_add,Nat.add_zero,Bool.not_true,Bool.not_false,decide_true,decide_false,reduceIte,and_self,Bool.false_eq_true,jR h,hp,fq,bJ h.cells,iK,st,y7,hn] <;>with_reducible rfl)))) | with_reducible apply aH | with_reducible apply aI))
    exact ⟨rfl,h.keep hx,.of hx⟩
   | true=>
    have kZ:r=[]:=by
     rcases hr with e | e
     ·rw [hn] at e;simp at e
     ·exact e
    subst kZ
    have he:(([]:List UInt8)==[])=true:=rfl
    (repeat (first | ((first | with_reducible apply aF | with_reducible apply aG);(focus (first | with_reducible rfl | (simp only [aE,aC,aD,Nat.zero_add,Nat.add_zero,Bool.not_true,Bool.not_false,decide_true,decide_false,reduceIte,and_self,Bool.false_eq_true,jR h,hp,fq,bJ h.cells,iK,st,y7,hn,he] <;>with_reducible rfl)))) | with_reducible apply aH | with_reducible apply aI))
    exact ⟨rfl,h.keep hx,.of hx⟩
  ·rw [if_neg hr]
   have hn:iu name=true:=by
    cases hn:iu name with
    | true=>rfl
    | false=>exact absurd (Or.inl hn) hr
   have kZ:(r==([]:List UInt8))=false:=by
    cases r with
    | nil=>exact absurd (Or.inr rfl) hr
    | cons a l=>rfl
   have kx:aO H (H.push (.cells [s,.int .i64 (f.syn:Int),.bool f.cut,.str f.aA])):= .push _ _
   have h1:=(h.more (M':=fun c=>M c∨c=H.next) (fun c hc e=>by rcases e with e | e;exact e;omega)).keep kx
   have lx:∀o,aB (H.push (.cells [s,.int .i64 (f.syn:Int),.bool f.cut,.str f.aA])) none (.ptr (some (H.next,o)))=([s,.int .i64 (f.syn:Int),.bool f.cut,.str f.aA]:List aa)[o]? :=fun o=>oS _ _ _
   cases hc:f.cut with
   | true=>
    rw [hc] at lx st kx h1 iK
    (repeat (first | ((first | with_reducible apply aF | with_reducible apply aG);(focus (first | with_reducible rfl | (simp only [aE,aC,aD,Nat.zero_add,Nat.add_zero,Bool.not_true,Bool.not_false,decide_true,decide_false,reduceIte,and_self,Bool.false_eq_true,jR h,hp,fq,bJ h.cells,iK,st,y7,hn,kZ,lx] <;>with_reducible rfl)))) | with_reducible apply aH | with_reducible apply aI))
    exact ⟨rfl,h1.more (fun c _ e=> .inl e),.of kx⟩
   | false=>
    rw [hc] at lx st kx h1 iK
    obtain ⟨vb,H2,e1,e2,e3,e4⟩:=Qb (n:=n) (lim:=lim) h1 (.inl eR) hlb hD.bI
    have y8:H2.cells H.next=some [s,.int .i64 (f.syn:Int),.bool false,.str f.aA]:=e4.cells (ct H _) (fun e=>by rcases e with e | e <;>omega)
    have aha:H.next <H2.next:=ah.jf y8
    have th:bu (cM b m) H H2:=(bu.of kx).trans e4 (fun c _ e=>e)
    simp only [Bool.false_eq_true,if_false]
    unfold iS
    cases jQ:(dW D).off with
    | true=>
     have hp2:dM (dW D)=7:=by unfold dM;rw [jQ];rfl
     have hq:((7:Int) !=0)=true:=rfl
     rw [hp2] at e2
     subst e2
     (repeat (first | ((first | with_reducible apply aF | with_reducible apply aG);(focus (first | with_reducible rfl | (simp only [aE,aC,aD,Nat.zero_add,Nat.add_zero,Bool.not_true,Bool.not_false,decide_true,decide_false,reduceIte,and_self,Bool.false_eq_true,jR h,hp,fq,bJ h.cells,iK,st,y7,hn,kZ,lx,e1,hq] <;>with_reducible rfl)))) | with_reducible apply aH | with_reducible apply aI))
     exact ⟨rfl,e3.more (fun c _ e=> .inl e),th⟩
    | false=>
     have hp2:dM (dW D)=0:=by unfold dM;rw [jQ];rfl
     rw [hp2] at e2
     subst e2
     have adp:Fz H2 1 s (bT f.aN):=hs1.frame th fun c hc e=>l7 c hc (by rcases e with rfl | rfl <;>assumption)
     obtain ⟨s',c1,c2,c3,c4⟩:=Qc (n:=n+2) (lim:=lim) adp
     have hfl:cU [.str []] [(0,1,.str r)]=some [.str r]:=rfl
     have k3:aO H2 (H2.push (.cells [.str r])):= .push _ _
     have hfo:=PU hD name
     rw [jt] at hfo
     have adq:=hfo.many
     have hsrc:source (H2.push (.cells [.str r])) 1 (.sl (some (H2.next,0)) 1 (.ex 1))=some (([[.str r]]:List (List aa)).length,([[.str r]]:List (List aa)).flatten):=BO H2 rfl (by decide)
     have hrm:room=140737488355328:=rfl
     obtain ⟨d1,d2⟩:=(c2.keep k3).append (lim:=lim) c3 (bytes:=16) (zero:=[.str []]) (x:= .sl (some (H2.next,0)) 1 (.ex 1)) (ys:=[[.str r]]) rfl (by decide) hsrc (fun y hy=>by simp at hy;subst hy;exact ⟨rfl,rfl⟩) (by simp) (by rw [iJ];simp;omega) (by rw [iJ];simp;omega)
     have n3:(H2.push (.cells [.str r])).next=H2.next+1:=ah.bK _ _
     generalize hH4:(H2.push (.cells [.str r])).push (.cells ((bT f.aN).flatten++[[aa.str r]].flatten))=H4 at d1 d2
     have k4:aO H2 H4:=by rw [←hH4];exact k3.trans (.push _ _)
     have x4:H4.cells H.next=some [s,.int .i64 (f.syn:Int),.bool false,.str f.aA]:=k4.cells y8
     have s5:bp lim H4 1 (.ptr (some (H.next,0))) (.sl (some ((H2.push (.cells [.str r])).next,0)) ((bT f.aN).length+[[aa.str r]].length) (.op 1 0))=some (H4.set H.next (.cells [.sl (some ((H2.push (.cells [.str r])).next,0)) ((bT f.aN).length+[[aa.str r]].length) (.op 1 0),.int .i64 (f.syn:Int),.bool false,.str f.aA])):=
      lM x4 (by omega) rfl rfl (by show 0 <4;omega) rfl
     generalize hnv:(aa.sl (some ((H2.push (.cells [.str r])).next,0)) ((bT f.aN).length+[[aa.str r]].length) (.op 1 0))=nv at *
     have hnb:bC nv=some (H2.next+1):=by rw [←hnv,n3];rfl
     have hnn:(H4.set H.next (.cells [nv,.int .i64 (f.syn:Int),.bool false,.str f.aA])).next=H4.next:=ah.gh _ _ _
     have f5:bu (fun c=>c=H.next) H4 (H4.set H.next (.cells [nv,.int .i64 (f.syn:Int),.bool false,.str f.aA])):= .set rfl
     have h5:bN (fun c=>M c∨c=H.next) (H4.set H.next (.cells [nv,.int .i64 (f.syn:Int),.bool false,.str f.aA])) b m (dW D):=(e3.keep k4).frame f5 (by omega) (by omega) (fun c e=> .inr e)
     have v5:gC (fun c=>M c∨c=H.next) (H4.set H.next (.cells [nv,.int .i64 (f.syn:Int),.bool false,.str f.aA])) (.agg [nv,.int .i64 (f.syn:Int),.bool false,.str f.aA]) {f with aN:=f.aN++[r]}:=by
      refine ⟨nv,by simp [hc],?_,fun c nI e=> ?_⟩
      ·rw [HJ,adm]
       exact d2.frame f5 (fun c nI e=>by rw [hnb] at nI;simp at nI;omega)
      ·rw [hnb] at nI;simp at nI
       rcases e with e | e
       ·exact hM c (by omega) e
       ·omega
     obtain ⟨H6,u1,u2,u3⟩:=h5.put (lim:=lim) (.inl eS) fD (by rw [s7];exact hD.jl) name v5
     have x5:(H4.set H.next (.cells [nv,.int .i64 (f.syn:Int),.bool false,.str f.aA])).cells H.next=some [nv,.int .i64 (f.syn:Int),.bool false,.str f.aA]:=jJ (by have:=k4.next;omega)
     (repeat (first | ((first | with_reducible apply aF | with_reducible apply aG);(focus (first | with_reducible rfl | (simp only [aE,aC,aD,Nat.zero_add,Nat.add_zero,Bool.not_true,Bool.not_false,decide_true,decide_false,reduceIte,and_self,Bool.false_eq_true,jR h,hp,fq,bJ h.cells,iK,st,y7,hn,kZ,lx,e1,bJ y8,c1,hfl,d1,s5,bJ h5.cells,kX (n:=4) x5 rfl,u1] <;>with_reducible rfl)))) | with_reducible apply aH | with_reducible apply aI))
     rw [hc] at u2
     exact ⟨rfl,u2.more (fun c _ e=> .inl e),((th.trans (.of (S:=cM b m) k4) (fun c _ e=>e)).trans f5 (fun c hc e=>by omega)).trans u3 (fun c _ e=>e)⟩
end
end Go.Proofs.YtfigbgjbaohglaaGreatDoor.bP
end
section
set_option maxRecDepth 100000
set_option linter.unusedVariables false
set_option linter.unusedSimpArgs false
namespace Go.Proofs.YtfigbgjbaohglaaGreatDoor.bP
open Go.au
section
variable {M:Nat→Prop} {H:ah} {b m:Nat} {D:bf}
theorem gC.more {M':Nat→Prop} {v:aa} {f:cq} (h:gC M H v f) (hM:∀c,c <H.next→M' c→M c):gC M' H v f:=by
 obtain ⟨s,h1,h2,h3⟩:=h
 exact ⟨s,h1,h2,fun c hc e=>h3 c hc (hM c (h2.lt c hc) e)⟩
theorem gC.keep {H':ah} {v:aa} {f:cq} (h:gC M H v f) (hk:aO H H'):gC M H' v f:=h.frame (S:=fun _=>False) (.of hk) fun _ e=>e.elim
theorem adr {D:bf} (ho:D.off=false) {n:aQ} (hl:lk D.fs n=none) (k:cq→bf→bf):gB D n k=(4,D):=by
 unfold gB;rw [if_neg (by rw [ho];simp),hl]
theorem ads {D:bf} (ho:D.off=false) {n:aQ} {f:cq} (hl:lk D.fs n=some f) (k:cq→bf→bf):gB D n k=iS D (k f):=by
 unfold gB;rw [if_neg (by rw [ho];simp),hl]
theorem adt {D:bf} (ho:D.off=true) (n:aQ) (k:cq→bf→bf):gB D n k=(7,D):=by
 unfold gB;rw [if_pos ho]
theorem Cb {lim:Nat} {H1:ah} (hl:lim≤H1.next) {v:aa} {f:cq} (hv:gC M H v f):∃cs,v= .agg cs∧cs.length=4∧(cs.all fun v=>v.one)=true∧bp lim (H1.push (.cells fP)) 4 (.ptr (some (H1.next,0))) v=some (H1.push (.cells cs)):=by
 obtain ⟨s,rfl,h2,h3⟩:=hv
 have ho:(([s,.int .i64 (f.syn:Int),.bool f.cut,.str f.aA]:List aa).all fun v=>v.one)=true:=by
  simp only [List.all_cons,List.all_nil,h2.one.1,Bool.and_true];rfl
 exact ⟨_,rfl,rfl,ho,wR (cs:=fP) (x:= .agg [s,.int .i64 (f.syn:Int),.bool f.cut,.str f.aA]) hl rfl rfl ho⟩
theorem adu {n lim K g:Nat} {caps:List aa} {name:aQ} {k:cq→bf→bf} (h:bN M H b m D) (hD:bV K D) (eR:M b) (eS:M m) (hlb:lim≤b)
  (hdo:∀f v H5,gC M H5 v f→bN M H5 b m (dW D)→bu (cM b m) H H5→f.aN.length≤K→ ∃r H6,au.runT ap (n+3) lim (.fn g) ([]++[v]++caps) H5=some (r,H6)∧bN M H6 b m (k f (dW D))∧bu (cM b m) H5 H6):
  ∃v H',au.runT ap (n+4) lim (.fn 153) [ptr b,.str name,.fn g [] caps] H=some (v,H')∧y5 M H b m (gB D name k).1 (gB D name k).2 v H':=by
 refine abv Xx ?_
 unfold GG
 have hlt:=h.nS
 have s9:=h.pR
 cases ho:D.off with
 | true=>
  have hp:dM D=7:=by unfold dM;rw [ho];rfl
  have hq:((7:Int) !=0)=true:=rfl
  (repeat (first | ((first | with_reducible apply aF | with_reducible apply aG);(focus (first | with_reducible rfl | (simp only [aE,aC,aD,Nat.zero_add,Nat.add_zero,Bool.not_true,Bool.not_false,decide_true,decide_false,reduceIte,and_self,Bool.false_eq_true,jR h,hp,hq] <;>with_reducible rfl)))) | with_reducible apply aH | with_reducible apply aI))
  rw [adt ho]
  exact ⟨rfl,h,.refl _ _⟩
 | false=>
  have hp:dM D=0:=by unfold dM;rw [ho];rfl
  obtain ⟨v,ok,hv,hok,hlk⟩:=h.look name
  have iK:=hlk true
  obtain ⟨cs,rfl,cR,y9,st⟩:=Cb (lim:=lim) (H1:=H) (by omega) hv
  have kx:aO H (H.push (.cells cs)):= .push _ _
  have h1:=h.keep kx
  cases hl:lk D.fs name with
  | none=>
   rw [hl] at hok
   subst hok
   rw [adr ho hl]
   have hno:(none:Option cq).isSome=false:=rfl
   (repeat (first | ((first | with_reducible apply aF | with_reducible apply aG);(focus (first | with_reducible rfl | (simp only [aE,aC,aD,Nat.zero_add,Nat.add_zero,Bool.not_true,Bool.not_false,decide_true,decide_false,reduceIte,and_self,Bool.false_eq_true,jR h,hp,fq,bJ h.cells,iK,st,hno] <;>with_reducible rfl)))) | with_reducible apply aH | with_reducible apply aI))
   exact ⟨rfl,h1,.of kx⟩
  | some f=>
   rw [hl] at hok hv
   subst hok
   rw [ads ho hl]
   obtain ⟨vb,H2,e1,e2,e3,e4⟩:=Qb (n:=n) (lim:=lim) h1 eR hlb hD.bI
   have th:bu (cM b m) H H2:=(bu.of kx).trans e4 (fun c _ e=>e)
   have y8:H2.cells H.next=some cs:=e4.cells (ct H _) (fun e=>by rcases e with e | e <;>omega)
   unfold iS
   cases jQ:(dW D).off with
   | true=>
    have hp2:dM (dW D)=7:=by unfold dM;rw [jQ];rfl
    have hq:((7:Int) !=0)=true:=rfl
    rw [hp2] at e2
    subst e2
    have td:(some f).isSome=true:=rfl
    (repeat (first | ((first | with_reducible apply aF | with_reducible apply aG);(focus (first | with_reducible rfl | (simp only [aE,aC,aD,Nat.zero_add,Nat.add_zero,Bool.not_true,Bool.not_false,decide_true,decide_false,reduceIte,and_self,Bool.false_eq_true,jR h,hp,fq,bJ h.cells,iK,st,e1,hq,td] <;>with_reducible rfl)))) | with_reducible apply aH | with_reducible apply aI))
    exact ⟨rfl,e3,th⟩
   | false=>
    have hp2:dM (dW D)=0:=by unfold dM;rw [jQ];rfl
    rw [hp2] at e2
    subst e2
    have td:(some f).isSome=true:=rfl
    have pM:gC M H2 (.agg cs) f:=by
     have:=(hv.keep kx)
     rw [Option.getD_some] at this
     obtain ⟨s,q1,q2,q3⟩:=this
     exact ⟨s,q1,q2.frame e4 (fun c hc e=>q3 c hc (by rcases e with rfl | rfl <;>assumption)),q3⟩
    obtain ⟨r,H6,d1,d2,d3⟩:=hdo f (.agg cs) H2 pM e3 th (hD.files _ _ (mW hl)).many
    have hcv:Am (au.runT ap (n+3)) lim (.fn g [] caps) [.agg cs] H2=some (r,H6):=d1
    (repeat (first | ((first | with_reducible apply aF | with_reducible apply aG);(focus (first | with_reducible rfl | (simp only [aE,aC,aD,Nat.zero_add,Nat.add_zero,Bool.not_true,Bool.not_false,decide_true,decide_false,reduceIte,and_self,Bool.false_eq_true,jR h,hp,fq,bJ h.cells,iK,st,e1,td,kX (n:=4) y8 cR,hcv] <;>with_reducible rfl)))) | with_reducible apply aH | with_reducible apply aI))
    exact ⟨rfl,d2,th.trans d3 (fun c _ e=>e)⟩
theorem adv {n lim:Nat} (h:bN M H b m D) (hA:ir D.fs) (eS:M m) (fD:lim≤m) {x1 x3:Nat} {name:aQ} (c1:H.cells x1=some [ptr b]) (c3:H.cells x3=some [.str name]) {v:aa} {f:cq} (hv:gC M H v f):
  ∃r H',au.runT ap (n+1) lim (.fn 156) [v,ptr x1,ptr x3] H=some (r,H')∧bN M H' b m {D with fs:=ins name {f with syn:=f.aN.length} D.fs}∧bu (cM b m) H H':=by
 refine abD a156 ?_
 unfold GI
 have hlt:=h.nS
 have s9:=h.pR
 have l1:=ah.jf c1
 have l3:=ah.jf c3
 obtain ⟨s,rfl,hs1,l7⟩:=hv
 have y9:(([s,.int .i64 (f.syn:Int),.bool f.cut,.str f.aA]:List aa).all fun v=>v.one)=true:=by
  simp only [List.all_cons,List.all_nil,hs1.one.1,Bool.and_true];rfl
 have kx:aO H (H.push (.cells [s,.int .i64 (f.syn:Int),.bool f.cut,.str f.aA])):= .push _ _
 have lx:∀o,aB (H.push (.cells [s,.int .i64 (f.syn:Int),.bool f.cut,.str f.aA])) none (.ptr (some (H.next,o)))=([s,.int .i64 (f.syn:Int),.bool f.cut,.str f.aA]:List aa)[o]? :=fun o=>oS _ _ _
 have hlen:bh false s=some (.int .i64 (f.aN.length:Int)):=by rw [hs1.sl.len,iJ]
 have st:bp lim (H.push (.cells [s,.int .i64 (f.syn:Int),.bool f.cut,.str f.aA])) 1 (.ptr (some (H.next,1))) (.int .i64 (f.aN.length:Int))=some (H.push (.cells [s,.int .i64 (f.aN.length:Int),.bool f.cut,.str f.aA])):=
  wS (by omega) rfl (by show 1 <4;omega) rfl
 have k2:aO H (H.push (.cells [s,.int .i64 (f.aN.length:Int),.bool f.cut,.str f.aA])):= .push _ _
 have h2:=h.keep k2
 obtain ⟨H3,u1,u2,u3⟩:=h2.put (lim:=lim) eS fD hA name (v:= .agg [s,.int .i64 (f.aN.length:Int),.bool f.cut,.str f.aA]) (f:={f with syn:=f.aN.length}) ⟨s,rfl,hs1.keep k2,l7⟩
 have x2:(H.push (.cells [s,.int .i64 (f.aN.length:Int),.bool f.cut,.str f.aA])).cells H.next=some [s,.int .i64 (f.aN.length:Int),.bool f.cut,.str f.aA]:=ct _ _
 (repeat (first | ((first | with_reducible apply aF | with_reducible apply aG);(focus (first | with_reducible rfl | (simp only [aE,aC,aD,Nat.zero_add,Nat.add_zero,Bool.not_true,Bool.not_false,decide_true,decide_false,reduceIte,and_self,Bool.false_eq_true,y9,lx,hlen,st,bJ (k2.cells c1),bJ h2.cells,bJ (k2.cells c3),kX (n:=4) x2 rfl,u1] <;>with_reducible rfl)))) | with_reducible apply aH | with_reducible apply aI))
 exact ⟨u2,(bu.of k2).trans u3 (fun c _ e=>e)⟩
end
end Go.Proofs.YtfigbgjbaohglaaGreatDoor.bP
end
