/- Parts of the proof. -/
import Derived.Test.YtfigbgjbaohglaaGreatDoorY7
import Derived.Test.YtfigbgjbaohglaaGreatDoorY14
section
set_option maxRecDepth 100000
set_option linter.unusedVariables false
set_option linter.unusedSimpArgs false
namespace Go.Proofs.YtfigbgjbaohglaaGreatDoor.bP
open Go.au
section
variable {M:Nat→Prop} {H:ah} {b m:Nat} {D:bf}
theorem adw {n lim K:Nat} (h:bN M H b m D) (hD:bV K D) (eR:M b) (eS:M m) (hlb:lim≤b) (fD:lim≤m) (name:aQ):
  ∃v H',au.runT ap (n+5) lim (.fn 111) [ptr b,.str name] H=some (v,H')∧y5 M H b m (iT D name).1 (iT D name).2 v H':=by
 refine aaI Xp ?_
 unfold Gq
 have hlt:=h.nS
 have s9:=h.pR
 have k1:aO H (H.push (.cells [ptr b])):= .push _ _
 have n1:(H.push (.cells [ptr b])).next=H.next+1:=ah.bK _ _
 have k2:aO H ((H.push (.cells [ptr b])).push (.cells [.str name])):=k1.trans (.push _ _)
 have n2:((H.push (.cells [ptr b])).push (.cells [aa.str name])).next=H.next+2:=by rw [ah.bK,n1]
 have c1:((H.push (.cells [ptr b])).push (.cells [.str name])).cells H.next=some [ptr b]:=Ar (ct H _)
 have c3:((H.push (.cells [ptr b])).push (.cells [.str name])).cells (H.push (.cells [ptr b])).next=some [.str name]:=ct _ _
 obtain ⟨v,H',e1,e2,e3,e4⟩:=adu (n:=n) (lim:=lim) (name:=name) (g:=156) (caps:=[ptr H.next,ptr (H.push (.cells [ptr b])).next]) (k:=fun f B=>{B with fs:=ins name {f with syn:=f.aN.length} B.fs}) (h.keep k2) hD eR eS hlb (by
  intro f v H5 q1 q2 q3 _
  obtain ⟨r,H6,d1,d2,d3⟩:=adv (n:=n+2) (lim:=lim) q2 (by rw [s7];exact hD.jl) eS fD (x1:=H.next) (x3:=(H.push (.cells [ptr b])).next) (name:=name) (q3.cells c1 (fun e=>by rcases e with e | e <;>omega)) (q3.cells c3 (fun e=>by rcases e with e | e <;>omega)) q1
  exact ⟨r,H6,d1,d2,d3⟩)
 (repeat (first | ((first | with_reducible apply aF | with_reducible apply aG);(focus (first | with_reducible rfl | (simp only [aE,aC,aD,Nat.zero_add,Nat.add_zero,Bool.not_true,Bool.not_false,decide_true,decide_false,reduceIte,and_self,Bool.false_eq_true,acd,bJ c1,bJ c3,e1] <;>with_reducible rfl)))) | with_reducible apply aH | with_reducible apply aI))
 exact ⟨e2,e3,(bu.of k2).trans e4 (fun c _ e=>e)⟩
theorem adx {s:aa} {rs:List aQ} (h:Fz H 1 s (bT rs)):Aw H s=some rs:=by
 have hc:∀rs:List aQ,sq (bT rs).flatten=some rs:=by
  intro rs
  induction rs with
  | nil=>rfl
  | cons r rs ih=>
   show (sq (bT rs).flatten).map (r:: ·)=_
   rw [ih];rfl
 rcases h.at' with ⟨rfl,h0⟩ | ⟨b,o,c,cs,rfl,_,h3,h4,h5⟩
 ·have:rs=[]:=by
   cases rs with
   | nil=>rfl
   | cons a l=>simp [bT] at h0
  subst this
  rfl
 ·rw [iJ] at h4 h5 ⊢
  unfold Aw
  by_cases hz:rs.length=0
  ·simp only [hz,if_true]
   have:rs=[]:=List.length_eq_zero_iff.1 hz
   rw [this]
  ·simp only [hz,if_false,h3]
   unfold au.cut
   rw [if_pos (by omega),show (cs.drop o).take rs.length=(bT rs).flatten by rw [←h5,Nat.mul_one]]
   exact hc rs
theorem ady {n lim K:Nat} (h:bN M H b m D) (hD:bV K D) (hK:K≤1000000000000) (hlb:lim≤H.next) (name:aQ):
  ∃v H',au.runT ap (n+4) lim (.fn 36) [ptr b,.str name] H=some (v,H')∧v= .bq [.str (iI D name).1,.int .i64 (iI D name).2]∧aO H H':=by
 refine Zw a36 ?_
 unfold FX iI
 cases ho:D.off with
 | true=>
  have hp:dM D=7:=by unfold dM;rw [ho];rfl
  have hq:((7:Int) !=0)=true:=rfl
  (repeat (first | ((first | with_reducible apply aF | with_reducible apply aG);(focus (first | with_reducible rfl | (simp only [aE,aC,aD,Nat.zero_add,Nat.add_zero,Bool.not_true,Bool.not_false,decide_true,decide_false,reduceIte,and_self,Bool.false_eq_true,jR h,hp,hq] <;>with_reducible rfl)))) | with_reducible apply aH | with_reducible apply aI))
  exact ⟨rfl,.refl _⟩
 | false=>
  have hp:dM D=0:=by unfold dM;rw [ho];rfl
  obtain ⟨v,ok,hv,hok,hlk⟩:=h.look name
  have iK:=hlk true
  have tj:=hv
  obtain ⟨cs,rfl,cR,y9,st⟩:=Cb (lim:=lim) (H1:=H) hlb hv
  have kx:aO H (H.push (.cells cs)):= .push _ _
  cases hl:lk D.fs name with
  | none=>
   rw [hl] at hok
   subst hok
   have hno:(none:Option cq).isSome=false:=rfl
   (repeat (first | ((first | with_reducible apply aF | with_reducible apply aG);(focus (first | with_reducible rfl | (simp only [aE,aC,aD,Nat.zero_add,Nat.add_zero,Bool.not_true,Bool.not_false,decide_true,decide_false,reduceIte,and_self,Bool.false_eq_true,jR h,hp,fq,bJ h.cells,iK,st,hno] <;>with_reducible rfl)))) | with_reducible apply aH | with_reducible apply aI))
   exact ⟨rfl,kx⟩
  | some f=>
   rw [hl] at hok tj
   rw [Option.getD_some] at tj
   subst hok
   obtain ⟨s,q1,q2,q3⟩:=tj
   simp only [aa.agg.injEq] at q1
   subst q1
   have td:(some f).isSome=true:=rfl
   have hfo:=hD.files _ _ (mW hl)
   have hb:=hfo.bytes
   have hmy:=hfo.many
   unfold eC at hb
   rw [List.length_append] at hb
   have hj:∀rs:List aQ,Lib.join rs []=rs.flatten:=by
    intro rs
    cases rs with
    | nil=>rfl
    | cons x r=>
     rw [Lib.join_cons,Lib.joinTail,List.flatten_cons]
     simp
   have Dh:nJ (H.push (.cells [s,.int .i64 (f.syn:Int),.bool f.cut,.str f.aA])).next [s,.str []] (H.push (.cells [s,.int .i64 (f.syn:Int),.bool f.cut,.str f.aA]))=some (.str f.aN.flatten,H.push (.cells [s,.int .i64 (f.syn:Int),.bool f.cut,.str f.aA])):=by
    simp only [nJ,adx (q2.keep kx),hj]
    rw [if_pos]
    simp only [Bool.and_eq_true,Nat.ble_eq]
    omega
   have lx:∀o,aB (H.push (.cells [s,.int .i64 (f.syn:Int),.bool f.cut,.str f.aA])) none (.ptr (some (H.next,o)))=([s,.int .i64 (f.syn:Int),.bool f.cut,.str f.aA]:List aa)[o]? :=fun o=>oS _ _ _
   have tq:av .add (.str f.aN.flatten) (.str f.aA)=some (.str (f.aN.flatten++f.aA)):=by
    simp only [av,iy]
    rw [if_neg]
    show ¬(((f.aN.flatten.length+f.aA.length:Nat):Int) >9223372036854775807)
    omega
   (repeat (first | ((first | with_reducible apply aF | with_reducible apply aG);(focus (first | with_reducible rfl | (simp only [aE,aC,aD,Nat.zero_add,Nat.add_zero,Bool.not_true,Bool.not_false,decide_true,decide_false,reduceIte,and_self,Bool.false_eq_true,jR h,hp,fq,bJ h.cells,iK,st,td,lx,XD,Dh,tq] <;>with_reducible rfl)))) | with_reducible apply aH | with_reducible apply aI))
   exact ⟨rfl,kx⟩
def HK (D:bf) (n:aQ):Nat × Nat:=(((lk D.fs n).getD jk).aN.length,((lk D.fs n).getD jk).syn)
theorem ahb {n lim:Nat} (h:bN M H b m D) (hlb:lim≤H.next) (name:aQ):
  ∃v H',au.runT ap (n+2) lim (.fn 85) [ptr b,.str name] H=some (v,H')∧v= .bq [.int .i64 ((HK D name).1:Int),.int .i64 ((HK D name).2:Int)]∧aO H H':=by
 refine aat a85 ?_
 unfold Gj HK
 obtain ⟨v,ok,hv,hok,hlk⟩:=h.look name
 have iK:=hlk false
 have tj:=hv
 obtain ⟨cs,rfl,cR,y9,st⟩:=Cb (lim:=lim) (H1:=H) hlb hv
 obtain ⟨s,q1,q2,q3⟩:=tj
 simp only [aa.agg.injEq] at q1
 subst q1
 generalize (lk D.fs name).getD jk=f at *
 have lx:∀o,aB (H.push (.cells [s,.int .i64 (f.syn:Int),.bool f.cut,.str f.aA])) none (.ptr (some (H.next,o)))=([s,.int .i64 (f.syn:Int),.bool f.cut,.str f.aA]:List aa)[o]? :=fun o=>oS _ _ _
 have hlen:bh false s=some (.int .i64 (f.aN.length:Int)):=by rw [q2.sl.len,iJ]
 (repeat (first | ((first | with_reducible apply aF | with_reducible apply aG);(focus (first | with_reducible rfl | (simp only [aE,aC,aD,Nat.zero_add,Nat.add_zero,Bool.not_true,Bool.not_false,decide_true,decide_false,reduceIte,and_self,Bool.false_eq_true,s8 h,bJ h.cells,iK,st,lx,hlen] <;>with_reducible rfl)))) | with_reducible apply aH | with_reducible apply aI))
 exact ⟨rfl,.push _ _⟩
theorem Qd {n lim:Nat} (h:bN M H b m D):au.runT ap (n+2) lim (.fn 96) [ptr b] H=some (.bool D.off,H):=by
 refine iE (aaw Xl ?_)
 unfold Gk
 (repeat (first | ((first | with_reducible apply aF | with_reducible apply aG);(focus (first | with_reducible rfl | (simp only [aE,aC,aD,Nat.zero_add,Nat.add_zero,Bool.not_true,Bool.not_false,decide_true,decide_false,reduceIte,and_self,Bool.false_eq_true,s8 h,bJ h.cells] <;>with_reducible rfl)))) | with_reducible apply aH | with_reducible apply aI))
 exact ⟨rfl,rfl⟩
theorem adz {n lim:Nat} (h:bN M H b m D) (eR:M b) (hlb:lim≤b) (x:Int):
  ∃v H',au.runT ap (n+2) lim (.fn 22) [ptr b,.int .i64 x] H=some (v,H')∧bN M H' b m (yW D x)∧bu (cM b m) H H':=by
 refine YW a22 ?_
 unfold FK FJ
 have nA:iL true [.int .i64 x,.int .i64 0]=some (.int .i64 ((x.toNat:Nat):Int)):=by
  rw [OD];congr 2;omega
 have st:bp lim H 1 (.ptr (some (b,2))) (.int .i64 ((x.toNat:Nat):Int))=some (H.set b (.cells [.map (some m),.bool D.off,.int .i64 ((x.toNat:Nat):Int)])):=lM h.cells hlb rfl rfl (by show 2 <3;omega) rfl
 (repeat (first | ((first | with_reducible apply aF | with_reducible apply aG);(focus (first | with_reducible rfl | (simp only [aE,aC,aD,Nat.zero_add,Nat.add_zero,Bool.not_true,Bool.not_false,decide_true,decide_false,reduceIte,and_self,Bool.false_eq_true,s8 h,nA,st] <;>with_reducible rfl)))) | with_reducible apply aH | with_reducible apply aI))
 exact ⟨h.Ca (D':=yW D x) eR rfl,.set (.inl rfl)⟩
theorem adA {n lim:Nat} (h:bN M H b m D) (eR:M b) (hlb:lim≤b):
  ∃v H',au.runT ap (n+2) lim (.fn 25) [ptr b] H=some (v,H')∧bN M H' b m (pQ D)∧bu (cM b m) H H':=by
 refine Y9 a25 ?_
 unfold FO FN
 have st:bp lim H 1 (.ptr (some (b,1))) (.bool false)=some (H.set b (.cells [.map (some m),.bool false,.int .i64 (D.bI:Int)])):=lM h.cells hlb rfl rfl (by show 1 <3;omega) rfl
 (repeat (first | ((first | with_reducible apply aF | with_reducible apply aG);(focus (first | with_reducible rfl | (simp only [aE,aC,aD,Nat.zero_add,Nat.add_zero,Bool.not_true,Bool.not_false,decide_true,decide_false,reduceIte,and_self,Bool.false_eq_true,s8 h,st] <;>with_reducible rfl)))) | with_reducible apply aH | with_reducible apply aI))
 exact ⟨h.Ca (D':=pQ D) eR rfl,.set (.inl rfl)⟩
def SlS (H:ah) (s:aa) (ns:List aQ):Prop:=Sl H 1 s (bT ns)∧ ∀c,bC s=some c→c <H.next
theorem Qe {n lim K:Nat} (h:bN M H b m D) (hD:bV K D) (hK:K≤1000000000):
  ∃v H',au.runT ap (n+1) lim (.fn 64) [ptr b] H=some (v,H')∧Sl H' 1 v (bT (D.fs.map (·.1)))∧aO H H'∧ ∀c,bC v=some c→H.next≤c:=by
 obtain ⟨vs,jy,h1,h2,h3⟩:=h.map.ex
 have hks:∀vs:List (aQ × aa),oW (Go.au.br BJ vs)=some (vs.map (·.1)):=by
  intro vs
  induction vs with
  | nil=>rfl
  | cons x xs ih=>
   show (oW (Go.au.br BJ xs)).map (x.1:: ·)=_
   rw [ih];rfl
 have kS:aB H none (.ptr (some (b,0)))=some (.map (some m)):=by rw [bJ h.cells];rfl
 have hsort:jx (vs.map (·.1))=D.fs.map (·.1):=by
  have hp:(jx (vs.map (·.1))).Perm (D.fs.map (·.1)):=(Ax _).trans h2
  have hs:=EC (vs.map (·.1))
  have ha:=HA.1 hD.jl
  refine List.Perm.eq_of_pairwise (le:=fun a b=>a≤b) (fun a b _ _ h1 h2=>List.le_antisymm h1 h2) hs (ha.imp fun h=>List.le_of_lt h) hp
 have hnm:∀k∈vs.map (·.1),k.length≤140737488355328:=by
  intro k hk
  have:=hD.names k (h2.mem_iff.1 hk)
  unfold iu at this
  simp only [Bool.and_eq_true,decide_eq_true_eq] at this
  omega
 have hlen:(vs.map (·.1)).length≤1000000000:=by
  have:=hD.len
  rw [h2.length_eq];simp;omega
 have hno:uw H (vs.map (·.1))=if vs.map (·.1)=[] then some (.sl none 0 (.ex 0),H) else some (.sl (some (H.next,0)) (jx (vs.map (·.1))).length .un,H.push (.cells ((jx (vs.map (·.1))).map .str))):=by
  unfold uw
  rw [if_pos]
  simp only [Bool.and_eq_true,List.all_eq_true,Nat.ble_eq]
  exact ⟨hnm,hlen⟩
 have hg:nK lim [ptr b] H=uw H (vs.map (·.1)):=by
  simp only [nK,kS,m8,h1,Option.bind_some,hks]
 rw [XC,hg,hno]
 by_cases h0:vs.map (·.1)=[]
 ·rw [if_pos h0]
  refine ⟨_,_,rfl,?_,.refl _,fun c hc=>by simp [bC] at hc⟩
  rw [←hsort,h0]
  exact Sl.nil H 1
 ·rw [if_neg h0]
  refine ⟨_,_,rfl,?_,.push _ _,fun c hc=>by simp [bC] at hc;omega⟩
  rw [hsort]
  have hfl:∀ns:List aQ,(bT ns).flatten=ns.map .str:=by
   intro ns
   induction ns with
   | nil=>rfl
   | cons a l ih=>show aa.str a::(bT l).flatten=_;rw [ih];rfl
  refine ⟨.inr ⟨H.next,0,.un,_,by rw [iJ],trivial,ct H _,?_,?_⟩,fun x hx=> ?_⟩
  ·rw [iJ];simp
  ·rw [iJ,List.drop_zero,hfl,List.take_of_length_le (by simp)]
  ·unfold bT at hx
   obtain ⟨r,_,rfl⟩:=List.mem_map.1 hx
   rfl
theorem adB {n lim:Nat} (hl:lim≤H.next):∃b m H',au.runT ap (n+1) lim (.fn 18) [] H=some (ptr b,H')∧bN M H' b m jC∧aO H H'∧H.next≤b∧H.next≤m∧b <H'.next∧m <H'.next:=by
 have hb:fW LV [(0,1,.map (some H.next))]=some (.agg [.map (some H.next),.bool false,.int .i64 0]):=rfl
 have ho:(([.map (some H.next),.bool false,.int .i64 0]:List aa).all fun v=>v.one)=true:=rfl
 refine ⟨H.next+1,H.next,(H.push (.map [] ⟨0,[]⟩)).push (.cells [.map (some H.next),.bool false,.int .i64 0]),?_,⟨?_,?_⟩,(aO.push _ _).trans (.push _ _),by omega,Nat.le_refl _,by rw [ah.bK,ah.bK];omega,by rw [ah.bK,ah.bK];omega⟩
 ·refine iE (YF W9 ?_)
  unfold FE
  (repeat (first | ((first | with_reducible apply aF | with_reducible apply aG);(focus (first | with_reducible rfl | (simp only [aE,aC,aD,Nat.zero_add,Nat.add_zero,Bool.not_true,Bool.not_false,decide_true,decide_false,reduceIte,and_self,Bool.false_eq_true,vu,hb,ho] <;>with_reducible rfl)))) | with_reducible apply aH | with_reducible apply aI))
  exact ⟨by rw [ah.bK],rfl⟩
 ·have:(H.push (.map [] ⟨0,[]⟩)).next=H.next+1:=ah.bK _ _
  rw [←this]
  exact ct _ _
 ·exact (gS.new (kk:=BJ) (H:=H) (gC M H)).mono (by rw [ah.gi _ _ _ (by rw [ah.bK];omega)]) fun _ _ _ h=>by simp [jC] at h
end
end Go.Proofs.YtfigbgjbaohglaaGreatDoor.bP
end
section
set_option maxRecDepth 100000
set_option linter.unusedVariables false
set_option linter.unusedSimpArgs false
namespace Go.Proofs.YtfigbgjbaohglaaGreatDoor.bP
open Go.au
def encI (l:List Int):List (List aa):=l.map fun x=>[.int .i64 x]
theorem Qf (l:List Int):(encI l).length=l.length:=by unfold encI;simp
theorem Qg {l:List Int} {i:Nat} {x:Int} (h:l[i]? =some x):(encI l)[i]? =some [.int .i64 x]:=by unfold encI;rw [List.getElem?_map,h];rfl
theorem Cc {l:List aQ} {i:Nat} {x:aQ} (h:l[i]? =some x):(bT l)[i]? =some [.str x]:=by unfold bT;rw [List.getElem?_map,h];rfl
def iw (x:Int):Prop:= -9223372036854775808≤x∧x <9223372036854775808
abbrev bW (s:aa) (syn:Int) (c:Bool) (t:aQ):List aa:=[s,.int .i64 syn,.bool c,.str t]
theorem HL {s:aa} (h:s.one=true) (syn:Int) (c:Bool) (t:aQ):((bW s syn c t).all fun v=>v.one)=true:=by
 simp only [List.all_cons,List.all_nil,h,Bool.and_true];rfl
section
variable {M:Nat→Prop} {H:ah} {b m:Nat} {D:bf}
theorem Cd {s:aa} {G:ah} {xs:List (List aa)} (h:Sl G 1 s xs) {i:Nat} {x:aa} (hx:xs[i]? =some [x]):∃p,cD none 1 s (.int .i64 (i:Int))=some p∧aB G none p=some x:=by
 have hi:i <xs.length:=(List.getElem?_eq_some_iff.1 hx).1
 exact ⟨_,h.addr hi,h.KS hx⟩
theorem adC {n lim:Nat} {K:aa→ah→Prop} {G:ah} {x1 x6 left:Nat} {s:aa} {a:Int} {c:Bool} {t:aQ} {rs:List aQ} {Z:List aa} (h1:G.cells x1=some (bW s a c t)) (h6:G.cells x6=some Z) (hZ:Z.length=4)
  (hne:x1≠x6) (l1:lim≤x1) (l6:lim≤x6) (hs:Fz G 1 s (bT rs)) (hl:left≤rs.length) (hsb:∀q,bC s=some q→q≠x1∧q≠x6)
  (hK:∀s2 G',Fz G' 1 s2 (bT (rs.take left))→bC s2=bC s→bu (fun q=>q=x1∨q=x6) G G'→K (.agg (bW s2 left c t)) G'):
  yc (au.runT ap (n+1)) lim (n+1) K (ptr x1) (ptr x6) (.int .i64 (left:Int)) G:=by
 unfold yc
 obtain ⟨s1,a1,a2,a3⟩:=hs.take (k:=left) (by rw [iJ];exact hl)
 obtain ⟨s2,b1,b2,b3,b4⟩:=Qc (n:=n) (lim:=lim) a2
 have ho:=b2.one
 have Qh:=ah.jf h1
 have lt6:=ah.jf h6
 have t1:bp lim G 1 (.ptr (some (x1,0))) s2=some (G.set x1 (.cells (bW s2 a c t))):=lM h1 l1 ho.2 ho.1 (by show 0 <4;omega) rfl
 have c1:(G.set x1 (.cells (bW s2 a c t))).cells x1=some (bW s2 a c t):=jJ Qh
 have t2:bp lim (G.set x1 (.cells (bW s2 a c t))) 1 (.ptr (some (x1,1))) (.int .i64 (left:Int))=some (G.set x1 (.cells (bW s2 left c t))):=by
  rw [lM (cs':=bW s2 left c t) c1 l1 rfl rfl (by show 1 <4;omega) rfl]
  simp only [ah.set,Tr.set_set]
 have c2:(G.set x1 (.cells (bW s2 left c t))).cells x1=some (bW s2 left c t):=jJ Qh
 have c6:(G.set x1 (.cells (bW s2 left c t))).cells x6=some Z:=qH h6 (Ne.symm hne)
 have t3:bp lim (G.set x1 (.cells (bW s2 left c t))) 4 (.ptr (some (x6,0))) (.agg (bW s2 left c t))=some ((G.set x1 (.cells (bW s2 left c t))).set x6 (.cells (bW s2 left c t))):=by
  rw [r9 (x:= .agg (bW s2 left c t)) (n:=4) (o:=0) c6 l6 rfl (by rw [hZ];exact Nat.le_refl _) (HL ho.1 _ _ _)]
  show some ((G.set x1 (.cells (bW s2 left c t))).set x6 (.cells (put Z 0 (bW s2 left c t))))=_
  rw [DX (by rw [hZ];rfl)]
 have c7:((G.set x1 (.cells (bW s2 left c t))).set x6 (.cells (bW s2 left c t))).cells x6=some (bW s2 left c t):=jJ (by rw [ah.gh];exact lt6)
 have fr:bu (fun q=>q=x1∨q=x6) G ((G.set x1 (.cells (bW s2 left c t))).set x6 (.cells (bW s2 left c t))):=(bu.set (S:=fun q=>q=x1∨q=x6) (.inl rfl)).set' (.inl (.inr rfl))
 (repeat (first | ((first | with_reducible apply aF | with_reducible apply aG);(focus (first | with_reducible rfl | (simp only [aE,aC,aD,Nat.zero_add,Nat.add_zero,Bool.not_true,Bool.not_false,decide_true,decide_false,reduceIte,and_self,Bool.false_eq_true,bJ h1,a1,b1,t1,t2,kX (n:=4) c2 rfl,t3,kX (n:=4) c7 rfl] <;>with_reducible rfl)))) | with_reducible apply aH | with_reducible apply aI))
 refine hK s2 _ ?_ (by rw [b4,a3]) fr
 rw [adn]
 exact b2.frame fr (fun q hq e=>by
  rw [b4,a3] at hq
  have:=hsb q hq
  rcases e with e | e
  ·exact this.1 e
  ·exact this.2 e)
theorem adD {r:aQ} {k:Nat} (hk:k≤r.length):dS (.str r) none (some (.int .i64 (k:Int)))=some (.str (r.take k)):=by
 simp only [dS,dD,jw,Option.bind_eq_bind,Option.bind_some]
 rw [if_pos ⟨hk,Nat.zero_le _⟩]
 simp
theorem adE (t:Int) {L:Int} (hL:0 <L):(t.tmod L <0→t.tmod L+L=t % L)∧(¬t.tmod L <0→t.tmod L=t % L):=by
 have h:=Int.tmod_eq_emod (a:=t) (b:=L)
 have h1:=Int.emod_nonneg t (show L≠0 by omega)
 have h2:=Int.emod_lt_of_pos t hL
 split at h
 ·constructor <;>intro _ <;>omega
 ·rename_i hn
  constructor <;>intro g
  ·omega
  ·exfalso
   apply hn
   have h3:((L.natAbs:Nat):Int)=L:=by omega
   omega
theorem adF {n lim:Nat} {s ks ts:aa} {f:cq} {keep aA:List Int} {k:Nat} (hlim:lim≤H.next) (hs:Fz H 1 s (bT f.aN)) (hf:jD 1000000000000 f) (hsy:f.syn <f.aN.length) (hks:Sl H 1 ks (encI keep)) (hts:Sl H 1 ts (encI aA))
  (pN:ks.one=true) (jS:ts.one=true) (hi1:∀x∈keep,iw x) (hi2:∀x∈aA,iw x) (hkn:keep.length≤1000000) (rz:aA.length≤1000000):
  ∃r H',au.runT ap (n+2) lim (.fn 73) [.agg (bW s f.syn f.cut f.aA),.agg [ks,ts],.int .i64 (k:Int)] H=some (r,H')∧aO H H'∧
   ∃s2,r= .agg (bW s2 (cP f keep aA k).syn (cP f keep aA k).cut (cP f keep aA k).aA)∧Fz H' 1 s2 (bT (cP f keep aA k).aN)∧bC s2=bC s:=by
 have iA:f.cut=false:=by
  cases hc:f.cut with
  | false=>rfl
  | true=>have:=hf.Ht hc;omega
 rw [iA]
 refine Z6 Xg ?_
 unfold Ga
 have adq:=hf.many
 have B9:=hf.syn
 have jQ:(bW s f.syn false f.aA).all (fun v=>v.one)=true:=HL hs.one.1 _ _ _
 have oM:(([ks,ts]:List aa).all fun v=>v.one)=true:=by simp only [List.all_cons,List.all_nil,pN,jS,Bool.and_true]
 have n1:(H.push (.cells (bW s f.syn false f.aA))).next=H.next+1:=ah.bK _ _
 have n2:((H.push (.cells (bW s f.syn false f.aA))).push (.cells [ks,ts])).next=H.next+2:=by rw [ah.bK,n1]
 have n3:(((H.push (.cells (bW s f.syn false f.aA))).push (.cells [ks,ts])).push (.cells fP)).next=H.next+3:=by rw [ah.bK,n2]
 have k3:aO H (((H.push (.cells (bW s f.syn false f.aA))).push (.cells [ks,ts])).push (.cells fP)):=((aO.push _ _).trans (.push _ _)).trans (.push _ _)
 have x1:(((H.push (.cells (bW s f.syn false f.aA))).push (.cells [ks,ts])).push (.cells fP)).cells H.next=some (bW s f.syn false f.aA):=Ar (Ar (ct H _))
 have x3:(((H.push (.cells (bW s f.syn false f.aA))).push (.cells [ks,ts])).push (.cells fP)).cells (H.push (.cells (bW s f.syn false f.aA))).next=some [ks,ts]:=Ar (ct _ _)
 have x6:(((H.push (.cells (bW s f.syn false f.aA))).push (.cells [ks,ts])).push (.cells fP)).cells ((H.push (.cells (bW s f.syn false f.aA))).push (.cells [ks,ts])).next=some fP:=ct _ _
 generalize hG:(((H.push (.cells (bW s f.syn false f.aA))).push (.cells [ks,ts])).push (.cells fP))=G at *
 have hslt:∀q,bC s=some q→q <H.next:=hs.lt
 have sj:=hks.len
 have pS:=hts.len
 rw [Qf] at sj pS
 have eM:bh false s=some (.int .i64 (f.aN.length:Int)):=by rw [hs.sl.len,iJ]
 have hsG:=hs.keep k3
 have adG:=hks.keep k3
 have ahc:=hts.keep k3
 have tail:∀kp:Nat,f.syn+kp=dL f keep k→Bl (au.runT ap (n+1)) lim (n+1) (fun r H'=>aO H H'∧
   ∃s2,r= .agg (bW s2 (cP f keep aA k).syn (cP f keep aA k).cut (cP f keep aA k).aA)∧Fz H' 1 s2 (bT (cP f keep aA k).aN)∧bC s2=bC s) (.int .i64 (k:Int)) (ptr H.next) (ptr (H.push (.cells (bW s f.syn false f.aA))).next) (ptr ((H.push (.cells (bW s f.syn false f.aA))).push (.cells [ks,ts])).next) (.int .i64 (kp:Int)) G:=by
  intro kp hkp
  have hle:=u0 hf.syn keep k
  unfold Bl
  have hw:IntKind.i64.wrap ((f.syn:Int)+(kp:Int))=((dL f keep k:Nat):Int):=by rw [wrap_i64 (by omega) (by omega)];omega
  generalize hL:dL f keep k=L at *
  have st:bp lim G 1 (.ptr (some (H.next,2))) (.bool (decide (L <f.aN.length)))=some (G.set H.next (.cells (bW s f.syn (decide (L <f.aN.length)) f.aA))):=lM x1 (by omega) rfl rfl (by show 2 <4;omega) rfl
  have kG:aO H (G.set H.next (.cells (bW s f.syn (decide (L <f.aN.length)) f.aA))):=k3.lH (Nat.le_refl _) _
  have y1:(G.set H.next (.cells (bW s f.syn (decide (L <f.aN.length)) f.aA))).cells H.next=some (bW s f.syn (decide (L <f.aN.length)) f.aA):=jJ (by omega)
  have y3:(G.set H.next (.cells (bW s f.syn (decide (L <f.aN.length)) f.aA))).cells (H.push (.cells (bW s f.syn false f.aA))).next=some [ks,ts]:=qH x3 (by omega)
  have y6:(G.set H.next (.cells (bW s f.syn (decide (L <f.aN.length)) f.aA))).cells ((H.push (.cells (bW s f.syn false f.aA))).push (.cells [ks,ts])).next=some fP:=qH x6 (by omega)
  have HM:(G.set H.next (.cells (bW s f.syn (decide (L <f.aN.length)) f.aA))).next=H.next+3:=by rw [ah.gh,n3]
  generalize hG2:G.set H.next (.cells (bW s f.syn (decide (L <f.aN.length)) f.aA))=G2 at *
  have adH:=hs.keep kG
  have ahd:=hks.keep kG
  have adI:=hts.keep kG
  have fin:∀(G3:ah) (tn:aQ),aO H G3→G3.next=H.next+3→G3.cells H.next=some (bW s f.syn (decide (L <f.aN.length)) tn)→G3.cells ((H.push (.cells (bW s f.syn false f.aA))).push (.cells [ks,ts])).next=some fP→tn=k7 f keep aA k→
    yc (au.runT ap (n+1)) lim (n+1) (fun r H'=>aO H H'∧
     ∃s2,r= .agg (bW s2 (cP f keep aA k).syn (cP f keep aA k).cut (cP f keep aA k).aA)∧Fz H' 1 s2 (bT (cP f keep aA k).aN)∧bC s2=bC s) (ptr H.next) (ptr ((H.push (.cells (bW s f.syn false f.aA))).push (.cells [ks,ts])).next) (.int .i64 (L:Int)) G3:=by
   intro G3 tn q1 q2 q3 q4 q5
   refine adC q3 q4 rfl (by omega) (by omega) (by omega) (hs.keep q1) hle (fun q hq=>by have:=hslt q hq;omega) ?_
   intro s2 G' e1 e2 e3
   refine ⟨bu.keeps q1 e3 (fun c hc e=>by rcases e with e | e <;>omega),s2,?_,?_,e2⟩
   ·simp only [cP,hL,q5,iA,Bool.false_or]
   ·simp only [cP,hL];exact e1
  by_cases u5:L <f.aN.length
  ·have hd:decide ((L:Int) <(f.aN.length:Int))=true:=dT (by omega)
   have hd':decide (L <f.aN.length)=true:=dT u5
   rw [hd'] at st y1 fin
   by_cases HN:k <aA.length
   ·have hdk:decide ((k:Int) <(aA.length:Int))=true:=dT (by omega)
    obtain ⟨p1,p2,p3⟩:=Cd adH.sl (Cc (List.getElem?_eq_getElem u5))
    obtain ⟨p4,p5,p6⟩:=Cd adI (Qg (List.getElem?_eq_getElem HN))
    have hne:f.aN[L]≠[]:=hf.ne _ (List.getElem_mem u5)
    have hpos:0 <f.aN[L].length:=List.length_pos_iff.2 hne
    have qJ:f.aN[L].length≤1000000000000:=by
     have hb:=hf.bytes
     unfold eC at hb
     have:f.aN[L].length≤f.aN.flatten.length:=by
      conv=>rhs;rw [←List.take_append_drop L f.aN,List.drop_eq_getElem_cons u5,List.flatten_append,List.flatten_cons,List.length_append,List.length_append]
      omega
     rw [List.length_append] at hb
     omega
    generalize hr:f.aN[L]=r at *
    generalize ud:aA[k]=t at *
    have Qi:iw t:=hi2 t (by rw [←ud];exact List.getElem_mem HN)
    have htf:k7 f keep aA k=r.take (t % (r.length:Int)).toNat:=by
     unfold k7
     rw [hL,List.getElem?_eq_getElem u5,List.getElem?_eq_getElem HN]
     simp only [hr,ud]
    have Qj:=J0 (k:= .i64) (a:=t) (b:=(r.length:Int)) (show ((r.length:Nat):Int)≠0 by omega)
    have fx:=adE t (show (0:Int) <(r.length:Int) by omega)
    have e1:=Int.emod_nonneg t (show ((r.length:Nat):Int)≠0 by omega)
    have e2:=Int.emod_lt_of_pos t (show (0:Int) <(r.length:Int) by omega)
    have en:((t % (r.length:Int)).toNat:Int)=t % (r.length:Int):=Int.toNat_of_nonneg e1
    have j1:Bk (au.runT ap (n+1)) lim (n+1) (fun r H'=>aO H H'∧
      ∃s2,r= .agg (bW s2 (cP f keep aA k).syn (cP f keep aA k).cut (cP f keep aA k).aA)∧Fz H' 1 s2 (bT (cP f keep aA k).aN)∧bC s2=bC s) (ptr H.next) (ptr ((H.push (.cells (bW s f.syn false f.aA))).push (.cells [ks,ts])).next) (.int .i64 (L:Int)) (.str r) (.int .i64 (((t % (r.length:Int)).toNat:Nat):Int)) G2:=by
     unfold Bk
     have sx:=adD (r:=r) (k:=(t % (r.length:Int)).toNat) (by omega)
     have sy:bp lim G2 1 (.ptr (some (H.next,3))) (.str (r.take (t % (r.length:Int)).toNat))=some (G2.set H.next (.cells (bW s f.syn true (r.take (t % (r.length:Int)).toNat)))):=lM y1 (by omega) rfl rfl (by show 3 <4;omega) rfl
     (repeat (first | ((first | with_reducible apply aF | with_reducible apply aG);(focus (first | with_reducible rfl | (simp only [aE,aC,aD,Nat.zero_add,Nat.add_zero,Bool.not_true,Bool.not_false,decide_true,decide_false,reduceIte,and_self,Bool.false_eq_true,sx,sy] <;>with_reducible rfl)))) | with_reducible apply aH | with_reducible apply aI))
     exact fin _ _ (kG.lH (Nat.le_refl _) _) (by rw [ah.gh];exact HM) (jJ (by omega)) (qH y6 (by omega)) htf.symm
    by_cases hneg:t.tmod (r.length:Int) <0
    ·have hdn:decide (t.tmod (r.length:Int) <0)=true:=dT hneg
     have HO:IntKind.i64.wrap (t.tmod (r.length:Int)+(r.length:Int))=(((t % (r.length:Int)).toNat:Nat):Int):=by
      rw [fx.1 hneg,wrap_i64 (by omega) (by omega),en]
     (repeat (first | ((first | with_reducible apply aF | with_reducible apply aG);(focus (first | with_reducible rfl | (simp only [aE,aC,aD,Nat.zero_add,Nat.add_zero,Bool.not_true,Bool.not_false,decide_true,decide_false,reduceIte,and_self,Bool.false_eq_true,bJ x1,hw,eM,hd,st,bJ y1,bJ y3,pS,hdk,p2,p3,p5,p6,Qj,hdn,HO] <;>with_reducible rfl)))) | with_reducible apply aH | with_reducible apply aI))
     exact j1
    ·have hdn:decide (t.tmod (r.length:Int) <0)=false:=dF hneg
     have HO:t.tmod (r.length:Int)=(((t % (r.length:Int)).toNat:Nat):Int):=by rw [fx.2 hneg,en]
     have adJ:decide ((((t % (r.length:Int)).toNat:Nat):Int) <0)=false:=dF (by omega)
     (repeat (first | ((first | with_reducible apply aF | with_reducible apply aG);(focus (first | with_reducible rfl | (simp only [aE,aC,aD,Nat.zero_add,Nat.add_zero,Bool.not_true,Bool.not_false,decide_true,decide_false,reduceIte,and_self,Bool.false_eq_true,bJ x1,hw,eM,hd,st,bJ y1,bJ y3,pS,hdk,p2,p3,p5,p6,Qj,HO,adJ] <;>with_reducible rfl)))) | with_reducible apply aH | with_reducible apply aI))
     exact j1
   ·have hdk:decide ((k:Int) <(aA.length:Int))=false:=dF (by omega)
    (repeat (first | ((first | with_reducible apply aF | with_reducible apply aG);(focus (first | with_reducible rfl | (simp only [aE,aC,aD,Nat.zero_add,Nat.add_zero,Bool.not_true,Bool.not_false,decide_true,decide_false,reduceIte,and_self,Bool.false_eq_true,bJ x1,hw,eM,hd,st,bJ y1,bJ y3,pS,hdk] <;>with_reducible rfl)))) | with_reducible apply aH | with_reducible apply aI))
    refine fin _ _ kG HM y1 y6 ?_
    unfold k7
    rw [List.getElem?_eq_none (l:=aA) (by omega)]
    split
    ·rename_i heq;simp at heq
    ·rfl
  ·have hd:decide ((L:Int) <(f.aN.length:Int))=false:=dF (by omega)
   have hd':decide (L <f.aN.length)=false:=dF u5
   rw [hd'] at st y1 fin
   (repeat (first | ((first | with_reducible apply aF | with_reducible apply aG);(focus (first | with_reducible rfl | (simp only [aE,aC,aD,Nat.zero_add,Nat.add_zero,Bool.not_true,Bool.not_false,decide_true,decide_false,reduceIte,and_self,Bool.false_eq_true,bJ x1,hw,eM,hd,st,bJ y1] <;>with_reducible rfl)))) | with_reducible apply aH | with_reducible apply aI))
   refine fin _ _ kG HM y1 y6 ?_
   unfold k7
   rw [hL,List.getElem?_eq_none (l:=f.aN) (by omega)]
 have kl:decide ((k:Int) <(keep.length:Int))=decide (k <keep.length):=by rw [Bool.eq_iff_iff];simp
 by_cases hk:k <keep.length
 ·have hdk:decide ((k:Int) <(keep.length:Int))=true:=dT (by omega)
  obtain ⟨p1,p2,p3⟩:=Cd adG (Qg (List.getElem?_eq_getElem hk))
  have hx:iw keep[k]:=hi1 _ (List.getElem_mem hk)
  have hkp:ry f keep k=min keep[k].toNat (f.aN.length - f.syn):=by unfold ry;rw [List.getElem?_eq_getElem hk]
  have hmin:=Nat.min_le_right keep[k].toNat (f.aN.length - f.syn)
  have hsub:IntKind.i64.wrap ((f.aN.length:Int) - (f.syn:Int))=(f.aN.length:Int) - (f.syn:Int):=wrap_i64 (by omega) (by omega)
  have za:min (max keep[k] 0) ((f.aN.length:Int) - (f.syn:Int))=((ry f keep k:Nat):Int):=by rw [hkp];omega
  (repeat (first | ((first | with_reducible apply aF | with_reducible apply aG);(focus (first | with_reducible rfl | (simp only [aE,aC,aD,Nat.zero_add,Nat.add_zero,Bool.not_true,Bool.not_false,decide_true,decide_false,reduceIte,and_self,Bool.false_eq_true,jQ,oM,hG,bJ x3,sj,hdk,p2,p3,OD,bJ x1,eM,hsub,ab9,za] <;>with_reducible rfl)))) | with_reducible apply aH | with_reducible apply aI))
  rw [hG]
  exact tail _ rfl
 ·have hdk:decide ((k:Int) <(keep.length:Int))=false:=dF (by omega)
  have hkp:ry f keep k=0:=by unfold ry;rw [List.getElem?_eq_none (by omega)]
  (repeat (first | ((first | with_reducible apply aF | with_reducible apply aG);(focus (first | with_reducible rfl | (simp only [aE,aC,aD,Nat.zero_add,Nat.add_zero,Bool.not_true,Bool.not_false,decide_true,decide_false,reduceIte,and_self,Bool.false_eq_true,jQ,oM,hG,bJ x3,sj,hdk] <;>with_reducible rfl)))) | with_reducible apply aH | with_reducible apply aI))
  rw [hG]
  exact tail 0 (by unfold dL;rw [hkp])
theorem bN.adK {lim:Nat} (h:bN M H b m D) (eS:M m) (fD:lim≤m) (n:aQ) {v:aa} {f:cq} (hv:gC M H v f) {fs':Fs} (hp:BN D.fs n f fs'):
  ∃H',lp lim H false [.str] (.map (some m)) (.str n) v=some H'∧bN M H' b m {D with fs:=fs'}∧bu (cM b m) H H':=by
 obtain ⟨x,h1,h2⟩:=h.map.update fD n hv
 have hfr:bu (fun c=>c=m) H (H.set m x):= .set rfl
 refine ⟨_,h1,⟨?_,?_⟩,hfr.weaken fun c _ e=> .inr e⟩
 ·exact qH h.cells h.ne
 ·exact (h2 _ hp).mono rfl fun k v a _ hR=>hR.frame hfr fun c e=>by rw [e];exact eS
theorem adL {P xs:Fs} {x:aQ × cq} {g:cq} (hn:((P++x::xs).map (·.1)).Nodup):BN (P++x::xs) x.1 g (P++(x.1,g)::xs):=by
 have hk:(P++(x.1,g)::xs).map (·.1)=(P++x::xs).map (·.1):=by simp
 refine ⟨by rw [hk];exact hn,fun k a=> ?_⟩
 have hP:∀a,(x.1,a) ∉ P:=by
  intro a ha
  rw [List.map_append,List.nodup_append] at hn
  exact hn.2.2 _ (mem_keys.2 ⟨a,ha⟩) x.1 (by simp) rfl
 have hX:∀a,(x.1,a) ∉ xs:=by
  intro a ha
  rw [List.map_append,List.nodup_append] at hn
  have:=hn.2.1
  rw [List.map_cons,List.nodup_cons] at this
  exact this.1 (mem_keys.2 ⟨a,ha⟩)
 simp only [List.mem_append,List.mem_cons]
 constructor
 ·rintro (h | h | h)
  ·exact .inr ⟨fun e=>hP a (by rw [←e];exact h),.inl h⟩
  ·simp at h;exact .inl h
  ·exact .inr ⟨fun e=>hX a (by rw [←e];exact h),.inr (.inr h)⟩
 ·rintro (⟨rfl,rfl⟩ | ⟨hne,h | h | h⟩)
  ·exact .inr (.inl rfl)
  ·exact .inl h
  ·exfalso;apply hne;rw [←h]
  ·exact .inr (.inr h)
theorem adM {P xs:Fs} {x:aQ × cq} (hn:((P++x::xs).map (·.1)).Nodup):lk (P++x::xs) x.1=some x.2:=GQ hn (by simp)
theorem Qk {n lim bI N:Nat} {keep aA:List Int} {ks ts l:aa} {x3:Nat} {ns:List aQ} {K:aa→ah→Prop} (hn:ns.Nodup) (eR:M b) (eS:M m) (fD:lim≤m)
  (pN:ks.one=true) (jS:ts.one=true) (hi1:∀x∈keep,iw x) (hi2:∀x∈aA,iw x) (hkn:keep.length≤1000000) (rz:aA.length≤1000000) {H0:ah} (hks:Sl H0 1 ks (encI keep)) (hts:Sl H0 1 ts (encI aA)) (hb0:H0.next≤b) (hm0:H0.next≤m) (Ql:∀c,bC l=some c→ ¬cM b m c) (hx3:¬cM b m x3)
  (hN:ns.length <1000000000000):
  ∀(rest P:Fs) (k j:Nat) (H:ah),(P++rest).map (·.1)=ns→rest.length <j→k≤P.length→bN M H b m ⟨P++rest,true,bI⟩→lim≤H.next→(∀y f,(y,f)∈rest→jD 1000000000000 f)→H.cells x3=some [ks,ts]→aO H0 H→Sl H 1 l (bT ns)→
   (∀H',bN M H' b m ⟨P++eP keep aA k rest,true,bI⟩→bu (cM b m) H H'→K (.bq []) H')→
   nN (au.runT ap (n+2)) lim N K j (ptr b) (ptr x3) (.int .i64 (k:Int)) l (.int .i64 (ns.length:Int)) (.int .i64 (P.length:Int)) H
 | _,_,_,0,_,_,hj,_,_,_,_,_,_,_,_=>by omega
 | [],P,k,j+1,H,rO,hj,hkP,h,hl,hf,c3,k0,s3,hK=>by
  show sJ _ _ _ _ (nN _ _ _ _ j) _ _ _ _ _ _ _
  unfold sJ
  have hlen:P.length=ns.length:=by rw [←rO];simp
  have hd:decide ((P.length:Int) <(ns.length:Int))=false:=dF (by omega)
  (repeat (first | ((first | with_reducible apply aF | with_reducible apply aG);(focus (first | with_reducible rfl | (simp only [aE,aC,aD,Nat.zero_add,Nat.add_zero,Bool.not_true,Bool.not_false,decide_true,decide_false,reduceIte,and_self,Bool.false_eq_true,hd] <;>with_reducible rfl)))) | with_reducible apply aH | with_reducible apply aI))
  unfold MK
  exact hK H h (.refl _ _)
 | x::xs,P,k,j+1,H,rO,hj,hkP,h,hl,hf,c3,k0,s3,hK=>by
  show sJ _ _ _ _ (nN _ _ _ _ j) _ _ _ _ _ _ _
  unfold sJ
  have hlen:P.length+(xs.length+1)=ns.length:=by rw [←rO];simp
  have hd:decide ((P.length:Int) <(ns.length:Int))=true:=dT (by omega)
  have lZ:ns[P.length]? =some x.1:=by rw [←rO];simp
  obtain ⟨p1,p2,p3⟩:=Cd s3 (Cc lZ)
  have hnd:((P++x::xs).map (·.1)).Nodup:=by rw [rO];exact hn
  obtain ⟨v,ok,hv,hok,hlk⟩:=h.look x.1
  have iK:=hlk false
  have zb:lk (P++x::xs) x.1=some x.2:=adM hnd
  have kM:gC M H v x.2:=by
   have:((lk (P++x::xs) x.1).getD jk)=x.2:=by rw [zb];rfl
   rw [←this];exact hv
  have tj:=kM
  obtain ⟨cs,rfl,cR,y9,st⟩:=Cb (lim:=lim) (H1:=H) hl kM
  obtain ⟨s,q1,q2,q3⟩:=tj
  simp only [aa.agg.injEq] at q1
  subst q1
  have hfo:=hf x.1 x.2 (by simp)
  have lx:∀o,aB (H.push (.cells [s,.int .i64 (x.2.syn:Int),.bool x.2.cut,.str x.2.aA])) none (.ptr (some (H.next,o)))=([s,.int .i64 (x.2.syn:Int),.bool x.2.cut,.str x.2.aA]:List aa)[o]? :=fun o=>oS _ _ _
  have eM:bh false s=some (.int .i64 (x.2.aN.length:Int)):=by rw [q2.sl.len,iJ]
  have kx:aO H (H.push (.cells [s,.int .i64 (x.2.syn:Int),.bool x.2.cut,.str x.2.aA])):= .push _ _
  have nx:(H.push (.cells [s,.int .i64 (x.2.syn:Int),.bool x.2.cut,.str x.2.aA])).next=H.next+1:=ah.bK _ _
  have hi:IntKind.i64.wrap ((P.length:Int)+1)=((P.length+1:Nat):Int):=iR (by omega)
  have hlt:=h.nS
  have s9:=h.pR
  have join:∀(G:ah) (g:cq) (cs:List aa) (k':Nat),aO H G→G.cells H.next=some cs→cs.length=4→gC M G (.agg cs) g→k'≤P.length+1→
    (∀H',bN M H' b m ⟨(P++[(x.1,g)])++eP keep aA k' xs,true,bI⟩→bu (cM b m) H H'→K (.bq []) H')→
    Bf (au.runT ap (n+2)) lim N K (nN (au.runT ap (n+2)) lim N K j) (ptr b) (ptr x3) (.int .i64 (k':Int)) (.str x.1) (.ptr (some (H.next,0))) l (.int .i64 (ns.length:Int)) (.int .i64 (P.length:Int)) G:=by
   intro G g cs k' kG cG hc4 vG hk' hK'
   unfold Bf
   have hG:=h.keep kG
   obtain ⟨G2,u1,u2,u3⟩:=hG.adK (lim:=lim) eS fD x.1 vG (adL (g:=g) hnd)
   have fG:bu (cM b m) H G2:=(bu.of kG).trans u3 (fun c _ e=>e)
   (repeat (first | ((first | with_reducible apply aF | with_reducible apply aG);(focus (first | with_reducible rfl | (simp only [aE,aC,aD,Nat.zero_add,Nat.add_zero,Bool.not_true,Bool.not_false,decide_true,decide_false,reduceIte,and_self,Bool.false_eq_true,bJ hG.cells,kX (n:=4) cG hc4,u1,hi] <;>with_reducible rfl)))) | with_reducible apply aH | with_reducible apply aI))
   have Qm:(P++[(x.1,g)]).length=P.length+1:=by simp
   rw [←Qm]
   refine Qk (bI:=bI) hn eR eS fD pN jS hi1 hi2 hkn rz hks hts hb0 hm0 Ql hx3 hN xs (P++[(x.1,g)]) k' j G2 (by rw [←rO];simp) (by simp at hj;omega) (by rw [Qm];exact hk') ?_ (by have:=fG.next;omega) (fun y f hm=>hf y f (by simp [hm])) (fG.cells c3 hx3) (bu.keeps k0 fG fun c hc e=>by rcases e with e | e <;>omega) (s3.frame fG Ql) ?_
   ·have:P++[(x.1,g)]++xs=P++(x.1,g)::xs:=by simp
    rw [this];exact u2
   ·intro H' d1 d2
    exact hK' H' d1 (fG.trans d2 (fun c _ e=>e))
  by_cases hs:x.2.syn <x.2.aN.length
  ·have hds:decide ((x.2.syn:Int) <(x.2.aN.length:Int))=true:=dT (by omega)
   obtain ⟨r,G,e1,e2,s4,e3,e4,e5⟩:=adF (n:=n) (lim:=lim) (k:=k) (by omega) (q2.keep kx) hfo hs (hks.keep (k0.trans kx)) (hts.keep (k0.trans kx)) pN jS hi1 hi2 hkn rz
   have Qn:G.cells H.next=some [s,.int .i64 (x.2.syn:Int),.bool x.2.cut,.str x.2.aA]:=e2.cells (ct H _)
   have ho4:=e4.one
   have uW:H.next <G.next:=ah.jf Qn
   have B2:bp lim G 4 (.ptr (some (H.next,0))) (.agg (bW s4 (cP x.2 keep aA k).syn (cP x.2 keep aA k).cut (cP x.2 keep aA k).aA))=some (G.set H.next (.cells (bW s4 (cP x.2 keep aA k).syn (cP x.2 keep aA k).cut (cP x.2 keep aA k).aA))):=by
    rw [r9 (x:= .agg (bW s4 (cP x.2 keep aA k).syn (cP x.2 keep aA k).cut (cP x.2 keep aA k).aA)) (n:=4) (o:=0) Qn hl rfl (Nat.le_refl _) (HL ho4.1 _ _ _)]
    rfl
   have kG:aO H G:=kx.trans e2
   have hkw:IntKind.i64.wrap ((k:Int)+1)=((k+1:Nat):Int):=iR (by omega)
   have c3':=kx.cells c3
   subst e3
   (repeat (first | ((first | with_reducible apply aF | with_reducible apply aG);(focus (first | with_reducible rfl | (simp only [aE,aC,aD,Nat.zero_add,Nat.add_zero,Bool.not_true,Bool.not_false,decide_true,decide_false,reduceIte,and_self,Bool.false_eq_true,hd,p2,p3,bJ h.cells,iK,st,lx,eM,hds,kX (n:=4) (ct H [s,.int .i64 (x.2.syn:Int),.bool x.2.cut,.str x.2.aA]) rfl,kX (n:=2) c3' rfl,e1,B2,hkw] <;>with_reducible rfl)))) | with_reducible apply aH | with_reducible apply aI))
   refine join _ (cP x.2 keep aA k) _ (k+1) (kG.lH (Nat.le_refl _) _) (jJ uW) rfl ⟨s4,rfl,e4.frame (bu.set (S:=fun c=>c=H.next) rfl) (fun c hc e=>by
    rw [e5] at hc
    have:=q2.lt c hc
    omega),fun c hc e=>q3 c (by rw [←e5];exact hc) e⟩ (by omega) ?_
   intro H' d1 d2
   refine hK H' ?_ d2
   have:P++eP keep aA k (x::xs)=P++[(x.1,cP x.2 keep aA k)]++eP keep aA (k+1) xs:=by
    rw [eP,if_pos hs];simp
   rw [this];exact d1
  ·have hds:decide ((x.2.syn:Int) <(x.2.aN.length:Int))=false:=dF (by omega)
   (repeat (first | ((first | with_reducible apply aF | with_reducible apply aG);(focus (first | with_reducible rfl | (simp only [aE,aC,aD,Nat.zero_add,Nat.add_zero,Bool.not_true,Bool.not_false,decide_true,decide_false,reduceIte,and_self,Bool.false_eq_true,hd,p2,p3,bJ h.cells,iK,st,lx,eM,hds] <;>with_reducible rfl)))) | with_reducible apply aH | with_reducible apply aI))
   refine join _ x.2 _ k kx (ct H _) rfl ⟨s,rfl,q2.keep kx,q3⟩ (by omega) ?_
   intro H' d1 d2
   refine hK H' ?_ d2
   have:P++eP keep aA k (x::xs)=P++[(x.1,x.2)]++eP keep aA k xs:=by
    rw [eP,if_neg hs];simp
   rw [this];exact d1
theorem adN {n lim K:Nat} {keep aA:List Int} {ks ts:aa} (h:bN M H b m D) (hD:bV K D) (hK:K≤1000000000) (eR:M b) (eS:M m) (hlb:lim≤b) (fD:lim≤m) (hKn:K <n)
  {H0:ah} (hks:Sl H0 1 ks (encI keep)) (hts:Sl H0 1 ts (encI aA)) (hb0:H0.next≤b) (hm0:H0.next≤m) (k0:aO H0 H) (pN:ks.one=true) (jS:ts.one=true) (hi1:∀x∈keep,iw x) (hi2:∀x∈aA,iw x) (hkn:keep.length≤1000000) (rz:aA.length≤1000000):
  ∃v H',au.runT ap (n+3) lim (.fn 24) [ptr b,.agg [ks,ts]] H=some (v,H')∧bN M H' b m (mZ D keep aA)∧bu (cM b m) H H':=by
 refine Y6 a24 ?_
 unfold FM
 have hlt:=h.nS
 have s9:=h.pR
 have hb:(([ks,ts]:List aa).all fun v=>v.one)=true:=by simp only [List.all_cons,List.all_nil,pN,jS,Bool.and_true]
 have kx:aO H (H.push (.cells [ks,ts])):= .push _ _
 have nx:(H.push (.cells [ks,ts])).next=H.next+1:=ah.bK _ _
 have h1:=h.keep kx
 have st:bp lim (H.push (.cells [ks,ts])) 1 (.ptr (some (b,1))) (.bool true)=some ((H.push (.cells [ks,ts])).set b (.cells [.map (some m),.bool true,.int .i64 (D.bI:Int)])):=lM h1.cells hlb rfl rfl (by show 1 <3;omega) rfl
 have h2:bN M ((H.push (.cells [ks,ts])).set b (.cells [.map (some m),.bool true,.int .i64 (D.bI:Int)])) b m ⟨D.fs,true,D.bI⟩:=h1.Ca (D':=⟨D.fs,true,D.bI⟩) eR rfl
 have f2:bu (cM b m) H ((H.push (.cells [ks,ts])).set b (.cells [.map (some m),.bool true,.int .i64 (D.bI:Int)])):=(bu.of kx).set' (.inl (.inl rfl))
 have cx:((H.push (.cells [ks,ts])).set b (.cells [.map (some m),.bool true,.int .i64 (D.bI:Int)])).cells H.next=some [ks,ts]:=qH (ct H _) (by omega)
 have n2:((H.push (.cells [ks,ts])).set b (.cells [.map (some m),.bool true,.int .i64 (D.bI:Int)])).next=H.next+1:=by rw [ah.gh,nx]
 generalize (H.push (.cells [ks,ts])).set b (.cells [.map (some m),.bool true,.int .i64 (D.bI:Int)])=H2 at *
 have hD2:bV K ⟨D.fs,true,D.bI⟩:=⟨hD.jl,hD.names,hD.files,hD.len,hD.bI⟩
 obtain ⟨l,H3,e1,e2,e3,e4⟩:=Qe (n:=n+1) (lim:=lim) h2 hD2 hK
 have zb:bh false l=some (.int .i64 ((D.fs.map (·.1)).length:Nat)):=by rw [e2.len,iJ]
 have f3:bu (cM b m) H H3:=f2.trans (.of (S:=cM b m) e3) (fun c _ e=>e)
 have hlen:=hD.len
 have e3n:=e3.next
 (repeat (first | ((first | with_reducible apply aF | with_reducible apply aG);(focus (first | with_reducible rfl | (simp only [aE,aC,aD,Nat.zero_add,Nat.add_zero,Bool.not_true,Bool.not_false,decide_true,decide_false,reduceIte,and_self,Bool.false_eq_true,hb,s8 h1,st,e1,zb] <;>with_reducible rfl)))) | with_reducible apply aH | with_reducible apply aI))
 refine Qk (n:=n) (P:=[]) (rest:=D.fs) (k:=0) (ns:=D.fs.map (·.1)) (bI:=D.bI) (M:=M) hD.jl.nodup eR eS fD pN jS hi1 hi2 hkn rz hks hts hb0 hm0 (fun c hc e=>by have:=e4 c hc;rcases e with e | e <;>omega) (fun e=>by rcases e with e | e <;>omega) (by simp;omega) (x3:=H.next) (n+2) H3 rfl (by omega) (Nat.le_refl _) (h2.keep e3) (by omega) (fun y f hm=>(hD.files y f hm).mono (by omega)) (e3.cells cx) (bu.keeps k0 f3 fun c hc e=>by rcases e with e | e <;>omega) e2 ?_
 intro H' d1 d2
 exact ⟨d1,f3.trans d2 (fun c _ e=>e)⟩
end
end Go.Proofs.YtfigbgjbaohglaaGreatDoor.bP
end
section
set_option maxRecDepth 100000
set_option linter.unusedVariables false
set_option linter.unusedSimpArgs false
namespace Go.Proofs.YtfigbgjbaohglaaGreatDoor.bP
open Go.au Go.au.Wl
def rA (r:bD):Prop:=r.ok∧r.e.body.length≤900000
def eL:Bs:=[115,101,103,46,48,48,48,48,48,48,48,55]
theorem Qo:iu eL=true:=rfl
section
variable {H:ah}
theorem Qp {n lim N:Nat} {K:aa→ah→Prop} {v:aa} {rs:List bD} {H0:ah} (hv:Sl H0 16 v (rs.map aR)) (hok:∀r∈rs,rA r) (hlen:rs.length≤1000000) (hn:1000040≤n) (hlim:lim≤H0.next)
  (hT:rs.all dJ=true→ ∀sv bv H',Own H' 1 sv (bT (rs.map bM)) bv→(bC sv=some bv→H0.next≤bv∧bv <H'.next)→aO H0 H'→K (.bq [sv,.bool true]) H')
  (hF:rs.all dJ=false→ ∀H',aO H0 H'→K (.bq [.sl none 0 (.ex 0),.bool false]) H'):
  ∀(j i:Nat) (sv:aa) (bv:Nat) (G:ah),rs.length <j+i→i≤rs.length→(rs.take i).all dJ=true→Own G 1 sv (bT ((rs.take i).map bM)) bv→(bC sv=some bv→H0.next≤bv∧bv <G.next)→aO H0 G→
   qU (au.runT ap (n+7)) lim N K j sv v (.int .i64 (rs.length:Int)) (.int .i64 (i:Int)) G
 | 0,i,_,_,_,h,h',_,_,_,_=>by exfalso;omega
 | j+1,i,sv,bv,G,hj,hi,hall,ho,iq,k0=>by
  show x9 _ _ _ _ (qU _ _ _ _ j) _ _ _ _ _
  unfold x9
  by_cases hil:i <rs.length
  ·have hd:decide ((i:Int) <(rs.length:Int))=true:=dT (by omega)
   have hr:rs[i]? =some rs[i]:=List.getElem?_eq_getElem hil
   obtain ⟨ro,rb⟩:=hok rs[i] (List.getElem_mem hil)
   have iN:rs.take (i+1)=rs.take i++[rs[i]]:=by rw [List.take_add_one,hr];rfl
   have Qq:∀b,dJ rs[i]=b→b=false→rs.all dJ=false:=by
    rintro b e rfl
    rw [List.all_eq_false]
    exact ⟨rs[i],List.getElem_mem hil,by simp [e]⟩
   generalize rs[i]=r at hr ro rb iN Qq
   have hx:(rs.map aR)[i]? =some (aR r):=by rw [List.getElem?_map,hr];rfl
   have ad:=hv.addr (k:= .i64) (i:=i) (by simpa using hil)
   have ld:=yD k0 (hv.load hx)
   have ng:=k0.next
   have st:=yQ (lim:=lim) (G:=G) (by omega) (cs:=cV) rfl r
   have kp:aO G (G.push (.cells (aR r))):= .push _ _
   have la:=rq (ct G (aR r))
   obtain ⟨_,fJ,g1,rfl,HP⟩:=acU (n:=n) (lim:=lim) (H:=G.push (.cells (aR r))) ro (by omega) (by omega) (by rw [ah.bK];omega)
   have hi1:IntKind.i64.wrap ((i:Int)+1)=((i+1:Nat):Int):=iR (by omega)
   have kk:=(k0.trans kp).trans HP
   have qe:(lR r==[])=decide (lR r=[]):=G9 _ _
   cases dO:dJ r with
   | false=>
    have hte:=Pd dO ro.kind
    have qe:(lR r==[])=true:=by rw [qe,dT hte]
    (repeat (first | ((first | with_reducible apply aF | with_reducible apply aG);(focus (first | with_reducible rfl | (simp only [aE,aC,aD,Nat.zero_add,Nat.add_zero,Bool.not_true,Bool.not_false,decide_true,decide_false,reduceIte,and_self,Bool.false_eq_true,hd,ad,ld,st,la,g1,qe] <;>with_reducible rfl)))) | with_reducible apply aH | with_reducible apply aI))
    exact hF (Qq _ dO rfl) fJ kk
   | true=>
    have hte:=Pc dO ro
    have hne:=Pe r
    have qe:(lR r==[])=false:=by rw [qe,hte,dF hne]
    rw [hte] at g1 qe
    have f2:cU [(.str [])] [(0,1,(.str (bM r)))]=some [.str (bM r)]:=rfl
    have kq:aO fJ (fJ.push (.cells [.str (bM r)])):= .push _ _
    have jS:Own (fJ.push (.cells [.str (bM r)])) 1 sv (bT ((rs.take i).map bM)) bv:=ho.frame (S:=fun _=>False) (.of ((kp.trans HP).trans kq)) (fun e=>e)
    have hsrc:source (fJ.push (.cells [.str (bM r)])) 1 (.sl (some (fJ.next,0)) 1 (.ex 1))=some (([[.str (bM r)]]:List (List aa)).length,([[.str (bM r)]]:List (List aa)).flatten):=BO fJ rfl (by decide)
    have hel:(bT ((rs.take i).map bM)).length=i:=by rw [iJ,List.length_map,List.length_take];omega
    have nk:G.next≤fJ.next:=Nat.le_trans kp.next HP.next
    obtain ⟨v',H',bv',q1,q2,q3,q4,q5⟩:=uP (lim:=lim) (bytes:=16) (zero:=[.str []]) jS rfl (by decide) hsrc (by intro y hy;simp at hy;subst hy;exact ⟨rfl,rfl⟩) (by rw [hel];simp [room];omega) (by rw [hel];simp [room];omega) (fun e=>by have:=iq e;omega)
    have e2:bT ((rs.take i).map bM)++[[.str (bM r)]]=bT ((rs.take (i+1)).map bM):=by rw [iN,List.map_append,HJ];rfl
    rw [e2] at q2
    (repeat (first | ((first | with_reducible apply aF | with_reducible apply aG);(focus (first | with_reducible rfl | (simp only [aE,aC,aD,Nat.zero_add,Nat.add_zero,Bool.not_true,Bool.not_false,decide_true,decide_false,reduceIte,and_self,Bool.false_eq_true,hd,ad,ld,st,la,g1,qe,f2,q1,hi1] <;>with_reducible rfl)))) | with_reducible apply aH | with_reducible apply aI))
    have HQ:aO H0 H':=bu.keeps (kk.trans kq) q3 fun c hc e=>by
     have hb:=ho.blk c e
     subst hb
     have:=iq e
     omega
    refine Qp hv hok hlen hn hlim hT hF j (i+1) v' bv' H' (by omega) (by omega) ?_ q2 ?_ HQ
    ·rw [iN,List.all_append,hall];simp [dO]
    ·intro e
     refine ⟨?_,q5 e⟩
     rcases q4 with ⟨rfl,h | h⟩ | h
     ·simp at h
     ·exact h.elim
     ·have:=kk.next;rw [ah.bK] at h;omega
  ·have hd:decide ((i:Int) <(rs.length:Int))=false:=dF (by omega)
   have Qi:rs.take i=rs:=List.take_of_length_le (by omega)
   rw [Qi] at hall ho
   unfold Nb
   (repeat (first | ((first | with_reducible apply aF | with_reducible apply aG);(focus (first | with_reducible rfl | (simp only [aE,aC,aD,Nat.zero_add,Nat.add_zero,Bool.not_true,Bool.not_false,decide_true,decide_false,reduceIte,and_self,Bool.false_eq_true,hd] <;>with_reducible rfl)))) | with_reducible apply aH | with_reducible apply aI))
   exact hT hall sv bv G ho iq k0
theorem Qr {n lim:Nat} {v:aa} {rs:List bD} (hv:Sl H 16 v (rs.map aR)) (hok:∀r∈rs,rA r) (hlen:rs.length≤1000000) (hn:1000040≤n) (hlim:lim≤H.next):
  ∃o H',au.runT ap (n+8) lim (.fn 69) [v] H=some (o,H')∧aO H H'∧
   ((rs.all dJ=true∧ ∃sv bv,o= .bq [sv,.bool true]∧Own H' 1 sv (bT (rs.map bM)) bv∧(bC sv=some bv→H.next≤bv∧bv <H'.next))∨(rs.all dJ=false∧o= .bq [.sl none 0 (.ex 0),.bool false])):=by
 refine ZQ Xe ?_
 unfold F2
 have bQ:bh false v=some (.int .i64 (rs.length:Int)):=by rw [hv.len,List.length_map]
 (repeat (first | ((first | with_reducible apply aF | with_reducible apply aG);(focus (first | with_reducible rfl | (simp only [aE,aC,aD,Nat.zero_add,Nat.add_zero,Bool.not_true,Bool.not_false,decide_true,decide_false,reduceIte,and_self,Bool.false_eq_true,bQ] <;>with_reducible rfl)))) | with_reducible apply aH | with_reducible apply aI))
 exact Qp (n:=n) hv hok hlen hn hlim (fun h sv bv H' h1 h2 h3=>⟨h3,.inl ⟨h,sv,bv,rfl,h1,h2⟩⟩) (fun h H' h3=>⟨h3,.inr ⟨h,rfl⟩⟩) (n+7) 0 _ H.next H (by omega) (Nat.zero_le _) rfl ⟨fun _ h=>by simp [bT] at h,.inl ⟨rfl,rfl⟩⟩ (fun e=>by simp [bC] at e) (.refl _)
theorem adO {n lim:Nat}:au.runT ap (n+4) lim (.fn 31) [.int .u64 7] H=some (.str eL,H):=by
 have h1:au.runT ap (n+1) lim (.fn 170) [.int .i64 7] H=some (.str [55],H):=by
  refine iE (abR XA ?_)
  unfold GM
  have d:decide ((7:Int) <10)=true:=rfl
  have w:IntKind.i64.wrap ((7:Int)+1)=8:=rfl
  have s:dS (.str [48,49,50,51,52,53,54,55,56,57,97,98,99,100,101,102,103,104,105,106,107,108,109,110,111,112,113,114,115,116,117,118,119,120,121,122]) (some (.int .i64 7)) (some (.int .i64 8))=some (.str [55]):=rfl
  (repeat (first | ((first | with_reducible apply aF | with_reducible apply aG);(focus (first | with_reducible rfl | (simp only [aE,aC,aD,Nat.zero_add,Nat.add_zero,Bool.not_true,Bool.not_false,decide_true,decide_false,reduceIte,and_self,Bool.false_eq_true,d,w,s] <;>with_reducible rfl)))) | with_reducible apply aH | with_reducible apply aI))
  exact ⟨rfl,rfl⟩
 have h2:au.runT ap (n+2) lim (.fn 126) [.int .u64 7,.int .i64 10] H=some (.str [55],H):=by
  refine iE (abo Xw ?_)
  unfold GD
  have d:decide ((7:Int) <100)=true:=rfl
  have e:((10:Int)==10)=true:=rfl
  have w:IntKind.i64.wrap 7=7:=rfl
  (repeat (first | ((first | with_reducible apply aF | with_reducible apply aG);(focus (first | with_reducible rfl | (simp only [aE,aC,aD,Nat.zero_add,Nat.add_zero,Bool.not_true,Bool.not_false,decide_true,decide_false,reduceIte,and_self,Bool.false_eq_true,d,e,w,h1] <;>with_reducible rfl)))) | with_reducible apply aH | with_reducible apply aI))
  exact ⟨rfl,rfl⟩
 have h3:au.runT ap (n+3) lim (.fn 80) [.int .u64 7,.int .i64 10] H=some (.str [55],H):=by
  refine iE (aan Xj ?_)
  unfold Gh
  (repeat (first | ((first | with_reducible apply aF | with_reducible apply aG);(focus (first | with_reducible rfl | (simp only [aE,aC,aD,Nat.zero_add,Nat.add_zero,Bool.not_true,Bool.not_false,decide_true,decide_false,reduceIte,and_self,Bool.false_eq_true,h2] <;>with_reducible rfl)))) | with_reducible apply aH | with_reducible apply aI))
  exact ⟨rfl,rfl⟩
 refine iE (Zn a31 ?_)
 unfold FV
 have l:bh true (.str [55])=some (.int .i64 1):=rfl
 have w:IntKind.i64.wrap ((8:Int) - 1)=7:=rfl
 have mx:iL true [.int .i64 7,.int .i64 0]=some (.int .i64 7):=rfl
 have rp:oV lim [.str [48],.int .i64 7] H=some (.str [48,48,48,48,48,48,48],H):=rfl
 have a1:av .add (.str [115,101,103,46]) (.str [48,48,48,48,48,48,48])=some (.str [115,101,103,46,48,48,48,48,48,48,48]):=rfl
 have a2:av .add (.str [115,101,103,46,48,48,48,48,48,48,48]) (.str [55])=some (.str eL):=rfl
 (repeat (first | ((first | with_reducible apply aF | with_reducible apply aG);(focus (first | with_reducible rfl | (simp only [aE,aC,aD,Nat.zero_add,Nat.add_zero,Bool.not_true,Bool.not_false,decide_true,decide_false,reduceIte,and_self,Bool.false_eq_true,h3,l,w,mx,XE,rp,a1,a2] <;>with_reducible rfl)))) | with_reducible apply aH | with_reducible apply aI))
 exact ⟨rfl,rfl⟩
def u6 (num:Nat) (nm:Bs):Prop:= ∀(k lim:Nat) (H:ah),1000≤k→lim≤H.next→ ∃H',au.runT ap k lim (.fn 31) [.int .u64 (num:Int)] H=some (.str nm,H')∧aO H H'
theorem HR:u6 7 eL:=fun k lim H hk _=>⟨H,by
 obtain ⟨j,rfl⟩:∃j,k=j+4:=⟨k - 4,by omega⟩
 exact adO,.refl _⟩
theorem Qs {n lim N:Nat} {K:aa→ah→Prop} {v:aa} {x:Bs} {ns:List Bs} (hv:Sl H 1 v (bT ns)) (hlen:ns.length≤1000000000)
  (hK:∀k:Int,(decide ((0:Int)≤k)=decide (x∈ns))→K (.int .i64 k) H):
  ∀(j i:Nat),ns.length <j+i→i≤ns.length→(x ∉ ns.take i)→qX (au.runT ap n) lim N K j v (.str x) (.int .i64 (ns.length:Int)) (.int .i64 (i:Int)) H
 | 0,i,h,h',_=>by exfalso;omega
 | j+1,i,hj,hi,hnot=>by
  show yu _ _ _ _ (qX _ _ _ _ j) _ _ _ _ _
  unfold yu
  by_cases hil:i <ns.length
  ·have hd:decide ((i:Int) <(ns.length:Int))=true:=dT (by omega)
   have hr:ns[i]? =some ns[i]:=List.getElem?_eq_getElem hil
   have iN:ns.take (i+1)=ns.take i++[ns[i]]:=by rw [List.take_add_one,hr];rfl
   have hm:ns[i]∈ns:=List.getElem_mem hil
   generalize ns[i]=y at hr iN hm
   obtain ⟨p,hp,hl⟩:=uR hv (Cc hr)
   have qe:(x==y)=decide (x=y):=G9 _ _
   have hi1:IntKind.i64.wrap ((i:Int)+1)=((i+1:Nat):Int):=iR (by omega)
   by_cases h:x=y
   ·rw [dT h] at qe
    subst h
    (repeat (first | ((first | with_reducible apply aF | with_reducible apply aG);(focus (first | with_reducible rfl | (simp only [aE,aC,aD,Nat.zero_add,Nat.add_zero,Bool.not_true,Bool.not_false,decide_true,decide_false,reduceIte,and_self,Bool.false_eq_true,hd,hp,hl,qe] <;>with_reducible rfl)))) | with_reducible apply aH | with_reducible apply aI))
    exact hK i (by rw [dT (by omega),dT hm])
   ·rw [dF h] at qe
    (repeat (first | ((first | with_reducible apply aF | with_reducible apply aG);(focus (first | with_reducible rfl | (simp only [aE,aC,aD,Nat.zero_add,Nat.add_zero,Bool.not_true,Bool.not_false,decide_true,decide_false,reduceIte,and_self,Bool.false_eq_true,hd,hp,hl,qe,hi1] <;>with_reducible rfl)))) | with_reducible apply aH | with_reducible apply aI))
    exact Qs hv hlen hK j (i+1) (by omega) (by omega) (by rw [iN];simp [hnot,h])
  ·have hd:decide ((i:Int) <(ns.length:Int))=false:=dF (by omega)
   rw [List.take_of_length_le (by omega)] at hnot
   unfold NI
   (repeat (first | ((first | with_reducible apply aF | with_reducible apply aG);(focus (first | with_reducible rfl | (simp only [aE,aC,aD,Nat.zero_add,Nat.add_zero,Bool.not_true,Bool.not_false,decide_true,decide_false,reduceIte,and_self,Bool.false_eq_true,hd] <;>with_reducible rfl)))) | with_reducible apply aH | with_reducible apply aI))
   exact hK (-1) (by rw [dF hnot];rfl)
theorem adP {n lim:Nat} {v:aa} {x:Bs} {ns:List Bs} (hv:Sl H 1 v (bT ns)) (hlen:ns.length≤1000000000) (hn:ns.length <n):au.runT ap (n+2) lim (.fn 68) [v,.str x] H=some (.bool (decide (x∈ns)),H):=by
 have h1:∃o H',au.runT ap (n+1) lim (.fn 115) [v,.str x] H=some (o,H')∧(∃k:Int,o= .int .i64 k∧decide ((0:Int)≤k)=decide (x∈ns))∧H'=H:=by
  refine aaQ Xr ?_
  unfold Gs
  have bQ:bh false v=some (.int .i64 (ns.length:Int)):=by rw [hv.len,iJ]
  (repeat (first | ((first | with_reducible apply aF | with_reducible apply aG);(focus (first | with_reducible rfl | (simp only [aE,aC,aD,Nat.zero_add,Nat.add_zero,Bool.not_true,Bool.not_false,decide_true,decide_false,reduceIte,and_self,Bool.false_eq_true,bQ] <;>with_reducible rfl)))) | with_reducible apply aH | with_reducible apply aI))
  exact Qs hv hlen (fun k hk=>⟨⟨k,rfl,hk⟩,rfl⟩) n 0 (by omega) (Nat.zero_le _) (by simp)
 obtain ⟨_,_,g,⟨k,rfl,hk⟩,rfl⟩:=h1
 refine iE (ZL Xd ?_)
 unfold F1
 (repeat (first | ((first | with_reducible apply aF | with_reducible apply aG);(focus (first | with_reducible rfl | (simp only [aE,aC,aD,Nat.zero_add,Nat.add_zero,Bool.not_true,Bool.not_false,decide_true,decide_false,reduceIte,and_self,Bool.false_eq_true,g,hk] <;>with_reducible rfl)))) | with_reducible apply aH | with_reducible apply aI))
 exact ⟨rfl,rfl⟩
end
end Go.Proofs.YtfigbgjbaohglaaGreatDoor.bP
end
section
set_option maxRecDepth 100000
set_option linter.unusedVariables false
set_option linter.unusedSimpArgs false
namespace Go.Proofs.YtfigbgjbaohglaaGreatDoor.bP
open Go.au Go.au.Wl
theorem Qt {H H':ah} {b o:Nat} {cs:List aa} (k:aO H H') (h:H.cells b=some cs) (hp:cs.all pK=true):qG none H H' [.ptr (some (b,o))]:=aci k fun x hx c hc=>by
 simp only [List.mem_singleton] at hx
 subst hx
 simp only [lq,Option.some.injEq] at hc
 subst hc
 exact ⟨_,h,hp⟩
def jE (b tb num:Nat) (fM:Int):List aa:=[ptr b,ptr tb,.int .u64 (num:Int),.int .i64 fM]
section
variable {M:Nat→Prop} {H:ah} {b m tb lb num:Nat} {D:bf} {T:List Int} {nm:Bs}
theorem HS {n lim:Nat} (h:bN M H b m D):au.runT ap (n+3) lim (.fn 67) [ptr b,ptr tb] H=some (.int .i64 (dM D),H):=by
 refine iE (ZI Xc ?_)
 unfold F0 dM
 cases ho:D.off with
 | true=>
  have hd:=Qd (n:=n) (lim:=lim) h
  rw [ho] at hd
  (repeat (first | ((first | with_reducible apply aF | with_reducible apply aG);(focus (first | with_reducible rfl | (simp only [aE,aC,aD,Nat.zero_add,Nat.add_zero,Bool.not_true,Bool.not_false,decide_true,decide_false,reduceIte,and_self,Bool.false_eq_true,hd] <;>with_reducible rfl)))) | with_reducible apply aH | with_reducible apply aI))
  exact ⟨rfl,rfl⟩
 | false=>
  have hd:=Qd (n:=n) (lim:=lim) h
  rw [ho] at hd
  (repeat (first | ((first | with_reducible apply aF | with_reducible apply aG);(focus (first | with_reducible rfl | (simp only [aE,aC,aD,Nat.zero_add,Nat.add_zero,Bool.not_true,Bool.not_false,decide_true,decide_false,reduceIte,and_self,Bool.false_eq_true,hd] <;>with_reducible rfl)))) | with_reducible apply aH | with_reducible apply aI))
  exact ⟨rfl,rfl⟩
theorem Qu {n lim N:Nat} {Kc:aa→ah→Prop} {v:aa} {ts:List Bs} {H0:ah} {fM:Int} {D0:bf} (eR:M b) (eS:M m) (hlb:lim≤b) (fD:lim≤m) (hM:∀c,M c→c <H0.next) (hN:u6 num nm)
  (hv:Sl H0 1 v (bT ts)) (yO:∀c,bC v=some c→ ¬cM b m c) (hT:H0.cells tb=some (cJ T)) (ko:T.length=256) (hL:H0.cells lb=some (jE b tb num fM)) (htb:¬cM b m tb) (pT:¬cM b m lb)
  (hlen:∀t∈ts,t.length≤1000000) (adQ:ts.length≤1000000) (hn:1000040≤n) (hlim:lim≤H0.next)
  (hK:∀H',bN M H' b m (fC nm D0 (ts.map (cA (aX T)))).2→bu (cM b m) H0 H'→Kc (.int .i64 (fC nm D0 (ts.map (cA (aX T)))).1) H'):
  ∀(j i:Nat) (G:ah) (Dk:bf) (K1:Nat),ts.length <j+i→i≤ts.length→bN M G b m Dk→bV K1 Dk→K1+(ts.length - i) * 2000000≤1000000000000→bu (cM b m) H0 G→fC nm D0 (ts.map (cA (aX T)))=fC nm Dk ((ts.drop i).map (cA (aX T)))→
   qV (au.runT ap (n+8)) lim N Kc j (ptr lb) v (.int .i64 (ts.length:Int)) (.int .i64 (i:Int)) G
 | 0,i,_,_,_,h,h',_,_,_,_,_=>by exfalso;omega
 | j+1,i,G,Dk,K1,hj,hi,hd,hD,zc,fr,dU=>by
  show ya _ _ _ _ (qV _ _ _ _ j) _ _ _ _ _
  unfold ya
  have cL:=fr.cells hL pT
  have cT:=fr.cells hT htb
  have l0:aB G none (.ptr (some (lb,0)))=some (ptr b):=by rw [bJ cL];rfl
  have l2:aB G none (.ptr (some (lb,2)))=some (.int .u64 (num:Int)):=by rw [bJ cL];rfl
  have nG:=fr.next
  by_cases hil:i <ts.length
  ·have jr:decide ((i:Int) <(ts.length:Int))=true:=dT (by omega)
   have hr:ts[i]? =some ts[i]:=List.getElem?_eq_getElem hil
   have pS:=hlen ts[i] (List.getElem_mem hil)
   have hdr:(ts.drop i).map (cA (aX T))=cA (aX T) ts[i]::(ts.drop (i+1)).map (cA (aX T)):=by rw [List.drop_eq_getElem_cons hil,List.map_cons]
   rw [hdr] at dU
   generalize ts[i]=t at hr pS dU
   obtain ⟨p,hp,hl⟩:=uR (hv.frame fr yO) (Cc hr)
   obtain ⟨mQ,g1,k1⟩:=hN (n+8) G.next G (by omega) (Nat.le_refl _)
   have l1:aB mQ none (.ptr (some (lb,1)))=some (ptr tb):=by rw [bJ (k1.cells cL)];rfl
   have n1:=k1.next
   obtain ⟨_,F5,g2,rfl,k2⟩:=ac0 (n:=n+2) (lim:=lim) (H:=mQ) (s:=t) (k1.cells cT) ko (by omega) (by omega) (by omega) (by omega)
   have n2:=k2.next
   have kg:=Qt (o:=0) k2 (k1.cells cL) rfl
   obtain ⟨_,jA,g3,HT,h3,f3⟩:=ado (n:=n+4) (lim:=lim) (hd.keep (k1.trans k2)) hD (by omega) eR eS hlb fD (fun c hc e=>by have:=hM c e;omega) nm (cA (aX T) t)
   subst HT
   have hrl:=yK (aX T) t
   have hvl:=ig (n:=t.length) (by omega)
   have hK2:K1+2000000+(ts.length - (i+1)) * 2000000≤1000000000000:=by
    have:ts.length - i=(ts.length - (i+1))+1:=by omega
    rw [this,Nat.succ_mul] at zc
    omega
   have hD3:bV (K1+2000000) (fK Dk nm (cA (aX T) t)).2:=(Hw hD nm (cA (aX T) t)).mono (by omega)
   have Ce:bu (cM b m) H0 jA:=(fr.trans (.of (S:=cM b m) (k1.trans k2)) (fun c _ e=>e)).trans f3 (fun c _ e=>e)
   have hi1:IntKind.i64.wrap ((i:Int)+1)=((i+1:Nat):Int):=iR (by omega)
   conv at dU=>rhs;unfold fC
   by_cases h0:(fK Dk nm (cA (aX T) t)).1=0
   ·have hne:((fK Dk nm (cA (aX T) t)).1 !=0)=false:=by rw [h0];rfl
    rw [if_pos h0] at dU
    (repeat (first | ((first | with_reducible apply aF | with_reducible apply aG);(focus (first | with_reducible rfl | (simp only [aE,aC,aD,Nat.zero_add,Nat.add_zero,Bool.not_true,Bool.not_false,decide_true,decide_false,reduceIte,and_self,Bool.false_eq_true,jr,hp,hl,l0,l2,g1,l1,g2] <;>with_reducible rfl)))) | with_reducible apply aH | with_reducible apply aI))
    refine ⟨kg,?_⟩
    (repeat (first | ((first | with_reducible apply aF | with_reducible apply aG);(focus (first | with_reducible rfl | (simp only [aE,aC,aD,Nat.zero_add,Nat.add_zero,Bool.not_true,Bool.not_false,decide_true,decide_false,reduceIte,and_self,Bool.false_eq_true,g3,hne,hi1] <;>with_reducible rfl)))) | with_reducible apply aH | with_reducible apply aI))
    exact Qu eR eS hlb fD hM hN hv yO hT ko hL htb pT hlen adQ hn hlim hK j (i+1) jA _ _ (by omega) (by omega) h3 hD3 hK2 Ce dU
   ·have hne:((fK Dk nm (cA (aX T) t)).1 !=0)=true:=by simpa using h0
    rw [if_neg h0] at dU
    (repeat (first | ((first | with_reducible apply aF | with_reducible apply aG);(focus (first | with_reducible rfl | (simp only [aE,aC,aD,Nat.zero_add,Nat.add_zero,Bool.not_true,Bool.not_false,decide_true,decide_false,reduceIte,and_self,Bool.false_eq_true,jr,hp,hl,l0,l2,g1,l1,g2] <;>with_reducible rfl)))) | with_reducible apply aH | with_reducible apply aI))
    refine ⟨kg,?_⟩
    (repeat (first | ((first | with_reducible apply aF | with_reducible apply aG);(focus (first | with_reducible rfl | (simp only [aE,aC,aD,Nat.zero_add,Nat.add_zero,Bool.not_true,Bool.not_false,decide_true,decide_false,reduceIte,and_self,Bool.false_eq_true,g3,hne] <;>with_reducible rfl)))) | with_reducible apply aH | with_reducible apply aI))
    have:=hK jA
    rw [dU] at this
    exact this h3 Ce
  ·have jr:decide ((i:Int) <(ts.length:Int))=false:=dF (by omega)
   rw [List.drop_eq_nil_of_le (by omega)] at dU
   have dU:fC nm D0 (ts.map (cA (aX T)))=iT Dk nm:=dU
   obtain ⟨mQ,g1,k1⟩:=hN (n+8) lim G (by omega) (by omega)
   have kg:=Qt (o:=0) k1 cL rfl
   obtain ⟨_,jA,g3,HT,h3,f3⟩:=adw (n:=n+3) (lim:=lim) (hd.keep k1) hD eR eS hlb fD nm
   subst HT
   have Ce:bu (cM b m) H0 jA:=(fr.trans (.of (S:=cM b m) k1) (fun c _ e=>e)).trans f3 (fun c _ e=>e)
   unfold Nf
   (repeat (first | ((first | with_reducible apply aF | with_reducible apply aG);(focus (first | with_reducible rfl | (simp only [aE,aC,aD,Nat.zero_add,Nat.add_zero,Bool.not_true,Bool.not_false,decide_true,decide_false,reduceIte,and_self,Bool.false_eq_true,jr,l0,l2,g1] <;>with_reducible rfl)))) | with_reducible apply aH | with_reducible apply aI))
   refine ⟨kg,?_⟩
   (repeat (first | ((first | with_reducible apply aF | with_reducible apply aG);(focus (first | with_reducible rfl | (simp only [aE,aC,aD,Nat.zero_add,Nat.add_zero,Bool.not_true,Bool.not_false,decide_true,decide_false,reduceIte,and_self,Bool.false_eq_true,g3] <;>with_reducible rfl)))) | with_reducible apply aH | with_reducible apply aI))
   have:=hK jA
   rw [dU] at this
   exact this h3 Ce
theorem Qv {n lim K:Nat} {v:aa} {ts:List Bs} {fM:Int} (h:bN M H b m D) (hD:bV K D) (eR:M b) (eS:M m) (hlb:lim≤b) (fD:lim≤m) (hM:∀c,M c→c <H.next) (hN:u6 num nm)
  (hv:Sl H 1 v (bT ts)) (yO:∀c,bC v=some c→ ¬cM b m c) (hT:H.cells tb=some (cJ T)) (ko:T.length=256) (hL:H.cells lb=some (jE b tb num fM)) (htb:¬cM b m tb) (pT:¬cM b m lb)
  (hlen:∀t∈ts,t.length≤1000000) (Cf:K+ts.length * 2000000≤1000000000000) (hn:1000040≤n) (hnl:ts.length <n) (hlim:lim≤H.next):
  ∃r H',au.runT ap (n+9) lim (.fn 70) [ptr lb,v] H=some (r,H')∧y5 M H b m (fC nm D (ts.map (cA (aX T)))).1 (fC nm D (ts.map (cA (aX T)))).2 r H':=by
 refine ZW a70 ?_
 unfold F6
 have bQ:bh false v=some (.int .i64 (ts.length:Int)):=by rw [hv.len,iJ]
 (repeat (first | ((first | with_reducible apply aF | with_reducible apply aG);(focus (first | with_reducible rfl | (simp only [aE,aC,aD,Nat.zero_add,Nat.add_zero,Bool.not_true,Bool.not_false,decide_true,decide_false,reduceIte,and_self,Bool.false_eq_true,bQ] <;>with_reducible rfl)))) | with_reducible apply aH | with_reducible apply aI))
 exact Qu (n:=n) (D0:=D) eR eS hlb fD hM hN hv yO hT ko hL htb pT hlen (by omega) hn hlim (fun H' h1 h2=>⟨rfl,h1,h2⟩) (n+8) 0 H D K (by omega) (Nat.zero_le _) h hD (by simp only [Nat.sub_zero];exact Cf) (.refl _ _) rfl
def nT (S:Sum) (nm:Bs) (D:bf) (rs:List bD):Int × bf:=
 if D.off=true then (7,D) else if rs.all dJ=false then (1,D) else if rs=[] then (0,D) else fC nm D (rs.map fun r=>cA S (bM r))
theorem adR {n lim K:Nat} {v:aa} {rs:List bD} {fM:Int} (h:bN M H b m D) (hD:bV K D) (eR:M b) (eS:M m) (hMl:M lb) (hlb:lim≤b) (fD:lim≤m) (zb:lim≤lb) (hM:∀c,M c→c <H.next) (hN:u6 num nm)
  (hv:Sl H 16 v (rs.map aR)) (hok:∀r∈rs,rA r) (hT:H.cells tb=some (cJ T)) (ko:T.length=256) (hL:H.cells lb=some (jE b tb num fM)) (htb:¬cM b m tb) (pT:¬cM b m lb) (pS:tb≠lb)
  (Cf:K+rs.length * 2000000≤1000000000000) (hn:1000040≤n) (hnl:rs.length <n) (HU: -1000000000≤fM∧fM≤1000000000) (hlim:lim≤H.next):
  ∃r H',au.runT ap (n+10) lim (.fn 23) [ptr lb,v] H=some (r,H')∧r= .int .i64 (nT (aX T) nm D rs).1∧bN M H' b m (nT (aX T) nm D rs).2∧bu (fun c=>cM b m c∨c=lb) H H'∧H'.cells lb=some (jE b tb num (if (nT (aX T) nm D rs).1=0 then fM+rs.length else fM)):=by
 refine Y0 a23 ?_
 unfold FL nT
 have HV:rs.length≤1000000:=by omega
 have l0:aB H none (.ptr (some (lb,0)))=some (ptr b):=by rw [bJ hL];rfl
 have l1:aB H none (.ptr (some (lb,1)))=some (ptr tb):=by rw [bJ hL];rfl
 have hp:=HS (n:=n+6) (lim:=lim) (tb:=tb) h
 cases ho:D.off with
 | true=>
  have hpi:dM D=7:=by unfold dM;rw [ho];rfl
  have q:((7:Int) !=0)=true:=rfl
  (repeat (first | ((first | with_reducible apply aF | with_reducible apply aG);(focus (first | with_reducible rfl | (simp only [aE,aC,aD,Nat.zero_add,Nat.add_zero,Bool.not_true,Bool.not_false,decide_true,decide_false,reduceIte,and_self,Bool.false_eq_true,l0,l1,hp,hpi,q] <;>with_reducible rfl)))) | with_reducible apply aH | with_reducible apply aI))
  exact ⟨rfl,h,.refl _ _,hL⟩
 | false=>
  have hpi:dM D=0:=by unfold dM;rw [ho];rfl
  simp only [Bool.false_eq_true,if_false]
  obtain ⟨o,eO,g1,k1,hc⟩:=Qr (n:=n+1) (lim:=lim) hv hok HV (by omega) hlim
  have n1:=k1.next
  rcases hc with ⟨ha,sv,bv,rfl,hown,iq⟩ | ⟨ha,rfl⟩
  rotate_left
  ·rw [if_pos ha]
   (repeat (first | ((first | with_reducible apply aF | with_reducible apply aG);(focus (first | with_reducible rfl | (simp only [aE,aC,aD,Nat.zero_add,Nat.add_zero,Bool.not_true,Bool.not_false,decide_true,decide_false,reduceIte,and_self,Bool.false_eq_true,l0,l1,hp,hpi,fq,g1] <;>with_reducible rfl)))) | with_reducible apply aH | with_reducible apply aI))
   exact ⟨rfl,h.keep k1,.of k1,k1.cells hL⟩
  rw [if_neg (by rw [ha];simp)]
  have bQ:bh false sv=some (.int .i64 (rs.length:Int)):=by rw [hown.sl.len,iJ,List.length_map]
  by_cases m4:rs=[]
  ·have q:((rs.length:Int)==0)=true:=by rw [m4];rfl
   rw [if_pos m4]
   (repeat (first | ((first | with_reducible apply aF | with_reducible apply aG);(focus (first | with_reducible rfl | (simp only [aE,aC,aD,Nat.zero_add,Nat.add_zero,Bool.not_true,Bool.not_false,decide_true,decide_false,reduceIte,and_self,Bool.false_eq_true,l0,l1,hp,hpi,fq,g1,bQ,q] <;>with_reducible rfl)))) | with_reducible apply aH | with_reducible apply aI))
   refine ⟨rfl,h.keep k1,.of k1,?_⟩
   rw [m4]
   simpa using k1.cells hL
  ·have q:((rs.length:Int)==0)=false:=by
    have:=List.length_pos_iff.2 m4
    rw [Bool.eq_false_iff];simp;omega
   rw [if_neg m4]
   have hlt:=h.nS
   have s9:=h.pR
   obtain ⟨r,iP,g2,pM,h2,f2⟩:=Qv (n:=n) (lim:=lim) (ts:=rs.map bM) (h.keep k1) hD eR eS hlb fD (fun c e=>by have:=hM c e;omega) hN hown.sl (fun c hc e=>by
    have hb:=hown.blk c hc
    subst hb
    have:=iq hc
    rcases e with e | e <;>omega) (k1.cells hT) ko (k1.cells hL) htb pT (fun t ht=>by
    obtain ⟨r,hr,rfl⟩:=List.mem_map.1 ht
    have dO:dJ r=true:=by rw [List.all_eq_true] at ha;exact ha r hr
    have:=B3 (hok r hr).1
    have:=(hok r hr).2
    omega) (by rw [List.length_map];exact Cf) hn (by rw [List.length_map];exact hnl) (by omega)
   subst pM
   have za:(rs.map bM).map (cA (aX T))=rs.map fun r=>cA (aX T) (bM r):=by rw [List.map_map];rfl
   rw [za] at g2 h2
   have cL:=f2.cells (k1.cells hL) pT
   have fr:bu (fun c=>cM b m c∨c=lb) H iP:=((bu.of (S:=cM b m) k1).trans f2 (fun c _ e=>e)).weaken fun c _ e=> .inl e
   by_cases h0:(fC nm D (rs.map fun r=>cA (aX T) (bM r))).1=0
   ·have q0:((fC nm D (rs.map fun r=>cA (aX T) (bM r))).1 !=0)=false:=by rw [h0];rfl
    have l3:aB iP none (.ptr (some (lb,3)))=some (.int .i64 fM):=by rw [bJ cL];rfl
    have w:IntKind.i64.wrap (fM+(rs.length:Int))=fM+(rs.length:Int):=wrap_i64 (by omega) (by omega)
    have st:bp lim iP 1 (.ptr (some (lb,3))) (.int .i64 (fM+(rs.length:Int)))=some (iP.set lb (.cells (jE b tb num (fM+rs.length)))):=lM cL zb rfl rfl (by show 3 <4;omega) rfl
    (repeat (first | ((first | with_reducible apply aF | with_reducible apply aG);(focus (first | with_reducible rfl | (simp only [aE,aC,aD,Nat.zero_add,Nat.add_zero,Bool.not_true,Bool.not_false,decide_true,decide_false,reduceIte,and_self,Bool.false_eq_true,l0,l1,hp,hpi,fq,g1,bQ,q,g2,q0,l3,w,st] <;>with_reducible rfl)))) | with_reducible apply aH | with_reducible apply aI))
    have fs:bu (fun c=>c=lb) iP (iP.set lb (.cells (jE b tb num (fM+rs.length)))):= .set rfl
    refine ⟨by rw [h0],h2.frame fs (fun e=>pT (.inl e.symm)) (fun e=>pT (.inr e.symm)) (fun c e=>by rw [e];exact hMl),fr.trans fs fun c _ e=> .inr e,?_⟩
    rw [if_pos h0]
    exact jJ (ah.jf cL)
   ·have q0:((fC nm D (rs.map fun r=>cA (aX T) (bM r))).1 !=0)=true:=by simpa using h0
    (repeat (first | ((first | with_reducible apply aF | with_reducible apply aG);(focus (first | with_reducible rfl | (simp only [aE,aC,aD,Nat.zero_add,Nat.add_zero,Bool.not_true,Bool.not_false,decide_true,decide_false,reduceIte,and_self,Bool.false_eq_true,l0,l1,hp,hpi,fq,g1,bQ,q,g2,q0] <;>with_reducible rfl)))) | with_reducible apply aH | with_reducible apply aI))
    exact ⟨rfl,h2,fr,by rw [if_neg h0];exact cL⟩
end
end Go.Proofs.YtfigbgjbaohglaaGreatDoor.bP
end
