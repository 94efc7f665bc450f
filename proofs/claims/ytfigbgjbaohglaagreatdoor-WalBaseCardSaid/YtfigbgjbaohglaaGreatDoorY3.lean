/- Parts of the proof. -/
import Derived.Test.YtfigbgjbaohglaaGreatDoorY2
import Derived.MapKept
import Derived.RangeFuncRecord
section
set_option linter.unusedSimpArgs false
set_option linter.unusedVariables false
set_option linter.unusedSectionVars false
namespace Go.au
variable [Gl]
theorem RT {l:bE} {x y:aa} {r:Bool} (h:lg l x y=some r):(r=true↔x=y):=by
 rcases tJ h with ⟨k,a,b,rfl,rfl,rfl,rfl⟩ | ⟨a,b,rfl,rfl,rfl,rfl⟩ | ⟨a,b,rfl,rfl,rfl,rfl⟩ <;>simp
theorem I4:∀{ls:List bE} {xs ys:List aa} {r:Bool},cm ls xs ys=some r→(r=true↔xs=ys)
 | [],[],[],r,h=>by simp [cm] at h;subst h;simp
 | l::ls,x::xs,y::ys,r,h=>by
  unfold cm at h
  split at h
  ·rename_i a b h1 h2
   simp at h;subst h
   have e1:=RT h1
   have e2:=I4 h2
   simp only [Bool.and_eq_true,e1,e2,List.cons.injEq]
  ·simp at h
 | [],[],_::_,r,h=>by simp [cm] at h
 | [],_::_,_,r,h=>by simp [cm] at h
 | _::_,[],_,r,h=>by simp [cm] at h
 | _::_,_::_,[],r,h=>by simp [cm] at h
theorem RU {g:Bool} {x y:aa} {cs:List aa} (hx:iW g x=some cs) (hy:iW g y=some cs):x=y:=by
 cases g <;>cases x <;>simp [iW] at hx <;>subst hx <;>cases y <;>simp_all [iW]
theorem tO {g:Bool} {ls:List bE} {x y:aa} {r:Bool} (h:eE g ls x y=some r):∃xs ys,iW g x=some xs∧iW g y=some ys∧cm ls xs ys=some r:=by
 unfold eE at h
 split at h
 ·exact ⟨_,_,by assumption,by assumption,h⟩
 ·simp at h
theorem zM {g:Bool} {ls:List bE} {x y:aa} {r:Bool} (h:eE g ls x y=some r):(r=true↔x=y):=by
 obtain ⟨xs,ys,h1,h2,h3⟩:=tO h
 rw [I4 h3]
 constructor
 ·rintro rfl;exact RU h1 h2
 ·rintro rfl;rw [h1] at h2;simpa using h2
section
variable {P:Program} {ρ:Mp}
theorem CS {t:TypeId} {g:Bool} {ls:List bE} (ht:gj P t=some (g,ls)) {x:aa} {a:Value} (h:aJ ρ x a) {xs:List aa} (hx:iW g x=some xs):
  az ρ xs a.cells.toList∧gH P t a.cells.toList=a:=by
 have hgt:g=true→((∃fs,P.underlying t=some (.struct fs))∨ ∃n e,P.underlying t=some (.array n e)):=by
  intro hg;subst hg
  unfold gj at ht
  split at ht <;>simp at ht
  ·exact .inl ⟨_,by assumption⟩
  ·exact .inr ⟨_,_,by assumption⟩
 have RV:g=false→(∀fs,P.underlying t≠some (.struct fs))∧ ∀n e,P.underlying t≠some (.array n e):=by
  intro hg;subst hg
  refine ⟨fun fs hu=> ?_,fun n e hu=> ?_⟩
  ·unfold gj at ht
   rw [hu] at ht
   split at ht <;>simp at ht
   rename_i n1 n2 e1 e2
   simp at e1
   exact n1 _ e1.symm
  ·unfold gj at ht
   rw [hu] at ht
   split at ht <;>simp at ht
   rename_i n1 n2 e1 e2
   simp at e1
   exact n2 _ _ e1.symm
 have hc:=h.cells
 cases g with
 | true=>
  cases x <;>simp [iW] at hx
  subst hx
  obtain ⟨vs,rfl,hl⟩:=h.qc
  refine ⟨hl,?_⟩
  unfold gH
  rcases hgt rfl with ⟨fs,hu⟩ | ⟨n,e,hu⟩ <;>simp [hu,Value.cells]
 | false=>
  obtain ⟨q1,q2⟩:=RV rfl
  have hp:∀v:Value,gH P t [v]=v:=by
   intro v
   unfold gH
   split
   ·rename_i fs hu;exact absurd hu (q1 fs)
   ·rename_i n e hu;exact absurd hu (q2 n e)
   ·rfl
  cases x <;>simp [iW] at hx <;>subst hx <;>cases h <;>exact ⟨hc,hp _⟩
theorem I5 {t:TypeId} {g:Bool} {ls:List bE} (ht:gj P t=some (g,ls)):fU P 100 t=some ls:=by
 unfold gj at ht
 split at ht <;>simp at ht <;>obtain ⟨rfl,rfl⟩:=ht <;>assumption
theorem RW {t:TypeId} {g:Bool} {ls:List bE} (ht:gj P t=some (g,ls)) {x y:aa} {r:Bool} (h:eE g ls x y=some r) {a b:Value} (hx:aJ ρ x a) (hy:aJ ρ y b) (w:World):
  (Op.equal t a b).run P w= .ok r w:=by
 obtain ⟨xs,ys,h1,h2,h3⟩:=tO h
 obtain ⟨l1,p1⟩:=CS ht hx h1
 obtain ⟨l2,p2⟩:=CS ht hy h2
 have:=zC 100 t ls (I5 ht) 10000 (by omega) xs ys r h3 ρ _ _ l1 l2 w
 rw [p1,p2] at this
 exact this
def CT (P:Program) (em:Bool) (dd:Nat) (t:TypeId) (ls:List bE):Prop:=
 ∀(xs:List aa),cm ls xs xs=some true→ ∀(ρ:Mp) (a9as:List Value),az ρ xs a9as→ ∀w,(Instr.checkKey em dd t (gH P t a9as)).run P w= .ok () w
theorem CU {α:Type} {f:α→PUnit→Sem (ForInStep PUnit)} {w:World}:∀(l:List α),(∀x∈l,∀u,(f x u).run P w= .ok (.yield PUnit.unit) w)→(forIn (m:=Sem) l PUnit.unit f).run P w= .ok PUnit.unit w
 | [],_=>by simp
 | x::l,h=>by
  have hx:=h x (by simp) PUnit.unit
  have ih:=CU l (fun y hy=>h y (by simp [hy]))
  simp only [List.forIn_cons,Sem.run_bind,hx,Result.andThen_ok]
  exact ih
theorem I6 {em:Bool} {d dd:Nat} (ih:∀t ls,fU P d t=some ls→CT P em dd t ls) {a9as:Array Value} {ρ:Mp} {w:World}:∀(fs:List Field) (off:Nat) (ls:List bE),rH P (fU P d) off fs=some ls→
  ∀(xs:List aa),cm ls xs xs=some true→az ρ xs (a9as.toList.drop off)→ ∀f∈fs,f.name≠ "_" ∧ ∃a,(part f.type a9as f.offset).run P w= .ok a w∧(Instr.checkKey em dd f.type a).run P w= .ok () w
 | [],off,ls,h,xs,hr,ha,f,hf=>by simp at hf
 | f::fs,off,ls,h,xs,hr,ha,g,hg=>by
  unfold rH at h
  split at h
  ·rename_i l hl
   split at h
   ·rename_i hc
    obtain ⟨rfl,hsz,hnm,hpos⟩:=hc
    simp at h
    obtain ⟨ls',h1,h2⟩:=h
    subst h2
    obtain ⟨r1,r2,q1,q2,q3⟩:=vM hr
    obtain ⟨rfl,rfl⟩:r1=true∧r2=true:=by simpa using q3.symm
    obtain ⟨e1,e2⟩:=nw hr
    obtain ⟨iZ,hu,hsc⟩:=zB hl
    have la:=ha.1
    simp at la e1
    rcases List.mem_cons.1 hg with rfl | hg
    ·have hpa:=tI (off:=g.offset) (cs:=a9as) hu hsz (by omega) hsc w
     have he:=ih g.type l hl _ q1 ρ _ (ha.take l.length) w
     exact ⟨hnm,_,hpa,he⟩
    ·exact I6 ih fs (f.offset+l.length) ls' h1 _ q2 (by have:=ha.drop l.length;rwa [List.drop_drop] at this) g hg
   ·simp at h
  ·simp at h
theorem I7 {em:Bool} {dd:Nat} {e:TypeId} {l:List bE} (hE:CT P em dd e l) (hsz:cZ P e=some l.length) (hpos:0 <l.length) {iZ:TypeDesc} (hu:P.underlying e=some iZ)
  (hsc:(∀fs,iZ≠ .struct fs)→(∀k e,iZ≠ .array k e)→l.length=1) {a9as:Array Value} {ρ:Mp} {w:World}:∀(n i:Nat) (xs:List aa),
  cm (List.replicate n l).flatten xs xs=some true→az ρ xs (a9as.toList.drop (i * l.length))→ ∀j∈List.range' i n,∃a,(part e a9as (j * l.length)).run P w= .ok a w∧(Instr.checkKey em dd e a).run P w= .ok () w
 | 0,i,xs,hr,ha,j,hj=>by simp at hj
 | n+1,i,xs,hr,ha,j,hj=>by
  simp only [List.replicate_succ,List.flatten_cons] at hr
  have hmul:(n+1) * l.length=n * l.length+l.length:=Nat.succ_mul _ _
  obtain ⟨r1,r2,q1,q2,q3⟩:=vM hr
  obtain ⟨rfl,rfl⟩:r1=true∧r2=true:=by simpa using q3.symm
  obtain ⟨e1,e2⟩:=nw hr
  have la:=ha.1
  simp at la e1
  rw [List.range'_succ] at hj
  rcases List.mem_cons.1 hj with rfl | hj
  ·have hpa:=tI (off:=j * l.length) (cs:=a9as) hu hsz (by omega) hsc w
   exact ⟨_,hpa,hE _ q1 ρ _ (ha.take l.length) w⟩
  ·exact I7 hE hsz hpos hu hsc n (i+1) _ q2 (by have:=ha.drop l.length;rwa [List.drop_drop,←Nat.succ_mul] at this) j hj
theorem CV (em:Bool):∀(d:Nat) (t:TypeId) (ls:List bE),fU P d t=some ls→ ∀dd,d≤dd→CT P em dd t ls
 | 0,t,ls,h=>by simp [fU] at h
 | d+1,t,ls,h=>by
  intro dd jr xs hr ρ a9as ha w
  obtain ⟨dd,rfl⟩:∃m,dd=m+1:=⟨dd - 1,by omega⟩
  unfold fU at h
  split at h
  ·rename_i k hu
   simp [gH,hu,Instr.checkKey,bL hu]
  ·rename_i hu
   simp [gH,hu,Instr.checkKey,bL hu]
  ·rename_i hu
   simp [gH,hu,Instr.checkKey,bL hu]
  ·rename_i n e hu
   split at h
   ·rename_i l hl
    split at h <;>simp at h
    rename_i hs
    subst h
    obtain ⟨iZ,rL,hsc⟩:=zB hl
    have hE:=CV em d e l hl dd (by omega)
    simp only [gH,hu,Instr.checkKey,Sem.run_bind,bL hu,Result.andThen_ok]
    simp only [Std.Legacy.Range.forIn_eq_forIn_range',Std.Legacy.Range.size,Nat.sub_zero,Nat.add_one_sub_one,Nat.div_one]
    rw [CU (P:=P) (w:=w) (List.range' 0 n) ?_]
    ·rfl
    ·intro j hj u
     obtain ⟨a,p1,p2⟩:=I7 (a9as:=a9as.toArray) (w:=w) hE hs.1 hs.2.2 rL hsc n 0 xs hr (by simpa using ha) j hj
     simp only [Sem.run_bind,gG hs.1,p1,Result.andThen_ok,p2,Sem.run_pure]
   ·simp at h
  ·rename_i fs hu
   split at h
   ·simp at h
   ·rename_i hst
    split at h
    ·rename_i l hl
     split at h <;>simp at h
     subst h
     simp only [gH,hu,Instr.checkKey,Sem.run_bind,bL hu,Result.andThen_ok]
     rw [←Array.forIn_toList,CU (P:=P) (w:=w) fs.toList ?_]
     ·rfl
     ·intro f hf u
      obtain ⟨hn,a,p1,p2⟩:=I6 (a9as:=a9as.toArray) (w:=w) (fun t' ls' h'=>CV em d t' ls' h' dd (by omega)) fs.toList 0 l hl xs hr (by simpa using ha) f hf
      simp only [Sem.run_bind,hn,ne_eq,not_false_eq_true,if_true,p1,Result.andThen_ok,p2,Sem.run_pure]
    ·simp at h
  ·simp at h
theorem tP {t:TypeId} {g:Bool} {ls:List bE} (ht:gj P t=some (g,ls)) {x:aa} (h:eE g ls x x=some true) {a:Value} (hx:aJ ρ x a) (em:Bool) (w:World):
  (Instr.checkKey em 10000 t a).run P w= .ok () w:=by
 obtain ⟨xs,ys,h1,h2,h3⟩:=tO h
 rw [h1] at h2;simp at h2;subst h2
 obtain ⟨l1,p1⟩:=CS ht hx h1
 have:=CV em 100 t ls (I5 ht) 10000 (by omega) xs h3 ρ _ l1 w
 rw [p1] at this
 exact this
theorem I8 {l:bE} {x:aa} (h:lg l x x=some true) {a b:Value} (ha:aJ ρ x a) (hb:aJ ρ x b):a=b∧ ∀n,Instr.sameBits n a a=true:=by
 rcases tJ h with ⟨k,c,d,rfl,rfl,_,_⟩ | ⟨c,d,rfl,rfl,_,_⟩ | ⟨c,d,rfl,rfl,_,_⟩
 ·cases ha;cases hb;exact ⟨rfl,fun n=>by cases n <;>simp [Instr.sameBits]⟩
 ·cases ha;cases hb;exact ⟨rfl,fun n=>by cases n <;>simp [Instr.sameBits]⟩
 ·cases ha with | str h1=>cases hb with | str h2=>
  rw [bytes_eq h1,bytes_eq h2]
  exact ⟨rfl,fun n=>by cases n <;>simp [Instr.sameBits,Go.MapKept.bytes_beq]⟩
theorem I9:∀{ls:List bE} {xs:List aa},cm ls xs xs=some true→ ∀{a9as bs:List Value},az ρ xs a9as→az ρ xs bs→a9as=bs∧ ∀n,(a9as.zip a9as).all (fun (x,y)=>Instr.sameBits n x y)=true
 | [],[],_,[],[],_,_=>⟨rfl,fun _=>rfl⟩
 | [],[],_,_::_,_,h,_=>by have:=h.1;simp at this
 | [],[],_,[],_::_,_,h=>by have:=h.1;simp at this
 | l::ls,x::xs,h,[],_,h1,_=>by have:=h1.1;simp at this
 | l::ls,x::xs,h,_::_,[],_,h1=>by have:=h1.1;simp at this
 | l::ls,x::xs,h,a::a9as,b::bs,h1,h2=>by
  unfold cm at h
  split at h
  ·rename_i p q hp hq
   simp at h
   obtain ⟨rfl,rfl⟩:=h
   obtain ⟨e1,e2⟩:=I8 hp h1.head h2.head
   obtain ⟨e3,e4⟩:=I9 hq h1.tail h2.tail
   subst e1 e3
   exact ⟨rfl,fun n=>by simp [e2 n];simpa using e4 n⟩
  ·simp at h
 | [],_::_,h,_,_,_,_=>by simp [cm] at h
 | _::_,[],h,_,_,_,_=>by simp [cm] at h
theorem Ja {g:Bool} {ls:List bE} {x:aa} (h:eE g ls x x=some true) {a b:Value} (ha:aJ ρ x a) (hb:aJ ρ x b):a=b∧Instr.sameBits 10000 a a=true:=by
 obtain ⟨xs,ys,h1,h2,h3⟩:=tO h
 rw [h1] at h2;simp at h2;subst h2
 cases g with
 | true=>
  cases x <;>simp [iW] at h1
  subst h1
  obtain ⟨a9as,rfl,l1⟩:=ha.qc
  obtain ⟨bs,rfl,l2⟩:=hb.qc
  obtain ⟨e1,e2⟩:=I9 h3 l1 l2
  refine ⟨by rw [Array.toList_inj.1 e1],?_⟩
  show (a9as.size==a9as.size && (a9as.toList.zip a9as.toList).all fun (x,y)=>Instr.sameBits 9999 x y)=true
  rw [e2];simp
 | false=>
  have hx:xs=[x]:=by cases x <;>simp [iW] at h1 <;>exact h1.symm
  subst hx
  match ls,h3 with
  | [l],h3=>
   unfold cm at h3
   split at h3
   ·rename_i p q hp hq
    simp at h3
    obtain ⟨rfl,rfl⟩:=h3
    obtain ⟨e1,e2⟩:=I8 hp ha hb
    exact ⟨e1,e2 _⟩
   ·simp at h3
  | [],h3=>simp [cm] at h3
  | _::_::_,h3=>
   have:=nw h3
   simp at this
def findAt (g:Bool) (ls:List bE) (k:aa) (l:List (aa × aa)):Option Nat:=l.findIdx? (isKey g ls k)
theorem Jb {t:TypeId} {g:Bool} {ls:List bE} (ht:gj P t=some (g,ls)) {k:aa} {a:Value} (hk:aJ ρ k a) (w:World):∀(l:List (aa × aa)) (es:List MapEntry) (i:Nat),
  (∀e∈l,(eE g ls k e.1).isSome=true)→jX ρ l es→(Instr.findAsking t a es i).run P w= .ok ((findAt g ls k l).bind fun j=>(es[j]?).map fun e=>(i+j,e.val)) w
 | [],[],i,_,_=>by simp [Instr.findAsking,findAt]
 | [],_::_,i,_,h=>by have:=h.1;simp at this
 | _::_,[],i,_,h=>by have:=h.1;simp at this
 | (k',v')::l,e::es,i,hok,h=>by
  obtain ⟨v1,v2⟩:=h.2 0 k' v' e rfl rfl
  have hs:=hok (k',v') (by simp)
  obtain ⟨r,hr⟩:=Option.isSome_iff_exists.1 hs
  have he:=RW ht hr hk v1 w
  have CW:jX ρ l es:=⟨by have:=h.1;simpa using this,fun j k v e h1 h2=>h.2 (j+1) k v e (by simpa using h1) (by simpa using h2)⟩
  have ih:=Jb ht hk w l es (i+1) (fun e he=>hok e (by simp [he])) CW
  simp only [Instr.findAsking,Sem.run_bind,he,Result.andThen_ok]
  have hkey:isKey g ls k (k',v')=r:=by simp only at hr;simp [isKey,hr]
  cases r with
  | true=>simp [findAt,List.findIdx?_cons,hkey]
  | false=>
   simp only [Bool.false_eq_true,if_false,ih]
   simp only [findAt,List.findIdx?_cons,hkey,Bool.false_eq_true,if_false]
   cases hf:List.findIdx? (isKey g ls k) l with
   | none=>simp
   | some j=>simp only [Option.map_some,Option.bind_some,List.getElem?_cons_succ];congr 2;funext e;congr 1;omega
theorem Jc {t:TypeId} {g:Bool} {ls:List bE} (ht:gj P t=some (g,ls)) {d:TypeDesc} (hd:P.underlying t=some d) {x y:aa} {r r':Bool} (h:eE g ls x y=some r) {a b:Value} (hx:aJ ρ x a) (hy:aJ ρ y b)
  (hs:Instr.sameNow d a b=some r'):r'=r:=by
 obtain ⟨xs,ys,h1,h2,h3⟩:=tO h
 have hiff:=zM h
 unfold Instr.sameNow at hs
 split at hs
 ·cases hx;cases hy
  split at hs <;>simp at hs
  subst hs
  rename_i k' a' b' hkk
  subst hkk
  rw [Bool.eq_iff_iff,hiff];simp
 ·cases hx with | str e1=>cases hy with | str e2=>
  rename_i s1 s2
  simp at hs
  subst hs
  rw [Bool.eq_iff_iff,hiff,Go.MapKept.bytes_beq]
  simp only [aa.str.injEq,←e1,←e2]
  constructor
  ·rintro rfl;rfl
  ·intro he
   rw [bytes_eq e1,bytes_eq e2,←e1,←e2,he]
 ·cases hx;cases hy
  simp at hs
  subst hs
  rw [Bool.eq_iff_iff,hiff];simp
 ·simp at hs
theorem Jd {t:TypeId} {g:Bool} {ls:List bE} (ht:gj P t=some (g,ls)) {d:TypeDesc} (hd:P.underlying t=some d) {k:aa} {a:Value} (hk:aJ ρ k a):∀(l:List (aa × aa)) (es:List MapEntry) (i:Nat) (r:Option (Nat × Value)),
  (∀e∈l,(eE g ls k e.1).isSome=true)→jX ρ l es→Instr.findNow d a es i=some r→r=(findAt g ls k l).bind fun j=>(es[j]?).map fun e=>(i+j,e.val)
 | [],[],i,r,_,_,h=>by simp [Instr.findNow] at h;simp [findAt,←h]
 | [],_::_,i,r,_,h,_=>by have:=h.1;simp at this
 | _::_,[],i,r,_,h,_=>by have:=h.1;simp at this
 | (k',v')::l,e::es,i,r,hok,h,hf=>by
  obtain ⟨v1,v2⟩:=h.2 0 k' v' e rfl rfl
  have hs:=hok (k',v') (by simp)
  obtain ⟨r0,hr⟩:=Option.isSome_iff_exists.1 hs
  have CW:jX ρ l es:=⟨by have:=h.1;simpa using this,fun j k v e h1 h2=>h.2 (j+1) k v e (by simpa using h1) (by simpa using h2)⟩
  have hkey:isKey g ls k (k',v')=r0:=by simp only at hr;simp [isKey,hr]
  unfold Instr.findNow at hf
  split at hf
  ·rename_i zN
   have:=Jc ht hd hr hk v1 zN
   subst this
   simp at hf
   simp [findAt,List.findIdx?_cons,hkey,←hf]
  ·rename_i zN
   have:=Jc ht hd hr hk v1 zN
   subst this
   have ih:=Jd ht hd hk l es (i+1) r (fun e he=>hok e (by simp [he])) CW hf
   rw [ih]
   simp only [findAt,List.findIdx?_cons,hkey,Bool.false_eq_true,if_false]
   cases hf:List.findIdx? (isKey g ls k) l with
   | none=>simp
   | some j=>simp only [Option.map_some,Option.bind_some,List.getElem?_cons_succ];congr 1;funext e;congr 1;omega
  ·simp at hf
theorem vS {t:TypeId} {g:Bool} {ls:List bE} (ht:gj P t=some (g,ls)) {k:aa} {a:Value} (hk:aJ ρ k a) (w:World) {l:List (aa × aa)} {es:List MapEntry}
  (hok:∀e∈l,(eE g ls k e.1).isSome=true) (h:jX ρ l es):(Instr.findKey t a es).run P w= .ok ((findAt g ls k l).bind fun j=>(es[j]?).map fun e=>(j,e.val)) w:=by
 obtain ⟨d,hd⟩:∃d,P.underlying t=some d:=by
  unfold gj at ht
  split at ht <;>simp at ht <;>exact ⟨_,by assumption⟩
 simp only [Instr.findKey,Sem.run_bind,bL hd,Result.andThen_ok]
 split
 ·rename_i r hr
  have:=Jd ht hd hk l es 0 r hok h hr
  rw [this]
  simp
 ·have:=Jb ht hk w l es 0 hok h
  simpa using this
end
end Go.au
end
section
set_option linter.unusedSimpArgs false
set_option linter.unusedVariables false
set_option linter.unusedSectionVars false
namespace Go.au
variable [Gl]
theorem RX {es:List (aa × aa)} (h:(es.map (·.1)).Nodup) {k v v':aa} (h1:(k,v)∈es) (h2:(k,v')∈es):v=v':=by
 induction es with
 | nil=>simp at h1
 | cons e es ih=>
  rw [List.map_cons,List.nodup_cons] at h
  rcases List.mem_cons.1 h1 with e1 | e1
  ·rcases List.mem_cons.1 h2 with e2 | e2
   ·rw [←e1] at e2;exact (by simpa using e2.symm)
   ·exact absurd (List.mem_map.2 ⟨_,e2,by rw [←e1]⟩) h.1
  ·rcases List.mem_cons.1 h2 with e2 | e2
   ·exact absurd (List.mem_map.2 ⟨_,e1,by rw [←e2]⟩) h.1
   ·exact ih h.2 e1 e2
section
variable {P:Program} {n0 lim:Nat} {ρ:Mp} {H H':ah} {w:World} {v:aa}
theorem zO {g:Bool} {ls:List bE} {k:aa} {e:aa × aa} (h:isKey g ls k e=true):k=e.1:=by
 unfold isKey at h
 rw [beq_iff_eq] at h
 exact (zM h).1 rfl
theorem RY {g:Bool} {ls:List bE} {k:aa} {e:aa × aa} (h:(eE g ls k e.1).isSome=true) (hn:isKey g ls k e=false):k≠e.1:=by
 obtain ⟨r,hr⟩:=Option.isSome_iff_exists.1 h
 unfold isKey at hn
 rw [hr] at hn
 cases r with
 | true=>simp at hn
 | false=>exact fun e=>by have:=(zM hr).2 e;simp at this
theorem vT {g:Bool} {ls:List bE} {k:aa} {es:List (aa × aa)} (h:nZ g ls k es=true):eE g ls k k=some true∧ ∀e∈es,(eE g ls k e.1).isSome=true:=by
 unfold nZ at h
 rw [Bool.and_eq_true,beq_iff_eq,List.all_eq_true] at h
 exact h
theorem vU {g:Bool} {ls:List bE} {k:aa} {es l:List (aa × aa)} (hn:(es.map (·.1)).Nodup) (hp:l.Perm es) (hok:∀e∈es,(eE g ls k e.1).isSome=true):
  (findAt g ls k l=none∧oa g ls k es=none∧es.any (isKey g ls k)=false∧ ∀e∈es,isKey g ls k e=false)∨
  ∃j v,findAt g ls k l=some j∧l[j]? =some (k,v)∧oa g ls k es=some v∧es.any (isKey g ls k)=true∧ ∀i e,l[i]? =some e→i≠j→isKey g ls k e=false:=by
 have hnl:(l.map (·.1)).Nodup:=(hp.map _).nodup_iff.2 hn
 cases hf:findAt g ls k l with
 | none=>
  unfold findAt at hf
  rw [List.findIdx?_eq_none_iff] at hf
  have all:∀e∈es,isKey g ls k e=false:=fun e he=>by have:=hf e (hp.mem_iff.2 he);simpa using this
  refine .inl ⟨rfl,?_,?_,all⟩
  ·unfold oa
   rw [List.find?_eq_none.2 (fun e he=>by rw [all e he];simp)];rfl
  ·rw [List.any_eq_false]
   intro e he;rw [all e he];simp
 | some j=>
  unfold findAt at hf
  rw [List.findIdx?_eq_some_iff_getElem] at hf
  obtain ⟨hj,hk,_⟩:=hf
  have ek:=zO hk
  have hlj:l[j]? =some (k,l[j].2):=by rw [List.getElem?_eq_getElem hj,ek]
  have hmem:(k,l[j].2)∈es:=hp.mem_iff.1 (List.mem_of_getElem? hlj)
  refine .inr ⟨j,l[j].2,rfl,hlj,?_,?_,?_⟩
  ·unfold oa
   cases hq:es.find? (isKey g ls k) with
   | none=>
    rw [List.find?_eq_none] at hq
    exact absurd hk (hq _ (hp.mem_iff.1 (List.getElem_mem hj)))
   | some e=>
    have h1:=List.find?_some hq
    have h2:=List.mem_of_find?_eq_some hq
    have e1:=zO h1
    rw [Option.map_some]
    congr 1
    refine RX hn (k:=k) ?_ hmem
    rw [e1];exact h2
  ·rw [List.any_eq_true]
   exact ⟨_,hp.mem_iff.1 (List.getElem_mem hj),hk⟩
  ·intro i e hi hne
   cases hb:isKey g ls k e with
   | false=>rfl
   | true=>
    exfalso
    have e1:=zO hb
    have hil:i <l.length:=by
     rcases Nat.lt_or_ge i l.length with h | h
     ·exact h
     ·rw [List.getElem?_eq_none h] at hi;simp at hi
    have RZ:l[i]=e:=by rw [List.getElem?_eq_getElem hil] at hi;simpa using hi
    have hp':=List.pairwise_iff_getElem.1 hnl
    have e3:(l.map (·.1))[i]'(by simpa using hil)=(l.map (·.1))[j]'(by simpa using hj):=by
     rw [List.getElem_map,List.getElem_map,RZ,←e1,←ek]
    rcases Nat.lt_or_gt_of_ne hne with h | h
    ·exact hp' i j (by simpa using hil) (by simpa using hj) h e3
    ·exact hp' j i (by simpa using hj) (by simpa using hil) h e3.symm
theorem jX.get {l:List (aa × aa)} {es:List MapEntry} (h:jX ρ l es) {j:Nat} {k v:aa} (hj:l[j]? =some (k,v)):∃e,es[j]? =some e∧aJ ρ k e.key∧aJ ρ v e.val:=by
 have hl:j <l.length:=by
  rcases Nat.lt_or_ge j l.length with h | h
  ·exact h
  ·rw [List.getElem?_eq_none h] at hj;simp at hj
 have hl':j <es.length:=h.1 ▸ hl
 exact ⟨es[j],List.getElem?_eq_getElem hl',h.2 j k v _ hj (List.getElem?_eq_getElem hl')⟩
theorem Je (hr:Rel P n0 ρ H w) {m:aa} {m':Value} (hm:aJ ρ m m') {es:List (aa × aa)} (h:m8 H m=some es):
  (m= .map none∧m'= .map none∧es=[])∨ ∃b L clock es',m= .map (some b)∧m'= .map (some L.blk)∧ρ b=some L∧H.get b=some (.map es clock)∧w.heap[L.blk]? =some (.map es' clock.n)∧iM ρ es clock es'.toList:=by
 unfold m8 at h
 split at h
 ·cases hm;simp at h;exact .inl ⟨rfl,rfl,h⟩
 ·rename_i b
  split at h <;>simp at h
  rename_i R1 clock hg
  subst h
  cases hm with | map hρ=>
  rename_i L
  obtain ⟨es',q1,q2⟩:=hr.map b L _ clock hρ hg
  exact .inr ⟨b,L,clock,es',rfl,rfl,hρ,hg,q1,q2⟩
 ·simp at h
theorem Jf (ρ:Mp) {t:TypeId} {z:aa} (h:tF P t=some z):∃i v,P.info? t=some i∧i.zero=some v∧aJ ρ z v:=by
 unfold tF at h
 split at h
 ·rename_i i hi
  split at h
  ·rename_i v hv
   exact ⟨i,v,hi,hv,IB ρ h⟩
  ·simp at h
 ·simp at h
theorem R2 (hr:Rel P n0 ρ H w) {t kt e:TypeId} (ht:P.underlying t=some (.map kt e)) {g:Bool} {ls:List bE} (hk:gj P kt=some (g,ls)) {z:aa} (hz:tF P e=some z) {ok:Bool} {m k:aa} {m' k':Value}
  (hm:aJ ρ m m') (hkk:aJ ρ k k') (h:jV H g ls z ok m k=some v):dN P n0 lim ρ H w (Instr.lookup t m' k' ok) v H:=by
 unfold jV at h
 split at h
 case h_2=>simp at h
 rename_i es lE
 split at h
 case isFalse=>simp at h
 rename_i hok
 obtain ⟨eU,jc⟩:=vT hok
 obtain ⟨i,zv,hi,iB,gn⟩:=Jf ρ hz
 rcases Je hr hm lE with ⟨rfl,rfl,rfl⟩ | ⟨b,L,clock,es',rfl,rfl,hρ,hg,hw,dG⟩
 ·have hf:=vS hk hkk w (l:=[]) (es:=[]) (fun e he=>by simp at he) ⟨rfl,fun i k v e h=>by simp at h⟩
  have kP:=tP hk eU hkk true w
  simp [oa] at h
  subst h
  refine .same hr (v':=if ok=true then .tuple #[zv,.bool false] else zv) ?_ ?_
  ·have hf':(Instr.findKey kt k' []).run P w= .ok none w:=by simpa [findAt] using hf
   have e1:(#[]:Array MapEntry).isEmpty=true:=rfl
   have e2:(#[]:Array MapEntry).toList=[]:=rfl
   simp only [Instr.lookup,Sem.run_bind,bL ht,Result.andThen_ok,Sem.run_pure,e1,e2,kP,hf',kL hi iB]
  ·cases ok
   ·exact gn
   ·exact aJ.qb (az.cons gn (az.cons (.bool false) (az.nil ρ)))
 ·obtain ⟨l,hp,bU⟩:=dG.perm
  have hf:=vS hk hkk w (fun e he=>jc e (hp.mem_iff.1 he)) bU
  have kP:=tP hk eU hkk es'.isEmpty w
  rcases vU dG.keys hp jc with ⟨f1,f2,_,_⟩ | ⟨j,vj,f1,f2,f3,_,_⟩
  ·rw [f2] at h
   rw [f1] at hf
   simp at h
   subst h
   refine .same hr (v':=if ok=true then .tuple #[zv,.bool false] else zv) ?_ ?_
   ·simp only [Instr.lookup,Sem.run_bind,bL ht,Result.andThen_ok,Go.MapKept.run_getObj_map hw,Sem.run_pure,kP,hf,Option.bind_none,kL hi iB]
   ·cases ok
    ·exact gn
    ·exact aJ.qb (az.cons gn (az.cons (.bool false) (az.nil ρ)))
  ·rw [f3] at h
   obtain ⟨ej,g1,g2,g3⟩:=bU.get f2
   rw [f1,Option.bind_some,g1,Option.map_some] at hf
   simp at h
   subst h
   refine .same hr (v':=if ok=true then .tuple #[ej.val,.bool true] else ej.val) ?_ ?_
   ·simp only [Instr.lookup,Sem.run_bind,bL ht,Result.andThen_ok,Go.MapKept.run_getObj_map hw,Sem.run_pure,kP,hf]
   ·cases ok
    ·exact g3
    ·exact aJ.qb (az.cons g3 (az.cons (.bool true) (az.nil ρ)))
theorem qm {r:Nat} {o:Obj} {es:Array MapEntry} {clock:Nat} (h:w.heap[r]? =some (.map es clock)):(setObj r o).run P w= .ok () (w.putObj r o):=by
 rw [Go.MapKept.run_setObj_map o h];rfl
theorem R3 {g:Bool} {ls:List bE} {k v:aa} {es:List (aa × aa)}:(es.map fun e=>if isKey g ls k e=true then (k,v) else e).map (·.1)=es.map (·.1):=by
 rw [List.map_map]
 refine List.map_congr_left fun e he=> ?_
 simp only [Function.comp]
 split
 ·rename_i h;exact zO h
 ·rfl
theorem Rel.CX (hr:Rel P n0 ρ H w) (hl:n0≤lim) {b:Nat} (hlb:lim≤b) {L:Loc} {es:List (aa × aa)} {clock:ku} (hρ:ρ b=some L) (hg:H.get b=some (.map es clock)) (hlt:L.blk <w.heap.size) (tQ:List (aa × aa)) (qo:ku) (qp:Array MapEntry) (hm2:iM ρ tQ qo qp.toList):
  Post P n0 lim ρ H w ρ (H.set b (.map tQ qo)) (w.putObj L.blk (.map qp qo.n)):=by
 refine hr.rJ hl hlb hρ hg (by simp) (by simp) (fun r _ hne=>World.putObj_heap_other hne) ⟨fun _ h=>by simp at h,fun Jg c3 h=> ?_,fun _ h=>by simp at h⟩ ⟨rfl,rfl,rfl⟩
 simp at h
 obtain ⟨rfl,rfl⟩:=h
 exact ⟨qp,World.putObj_heap_same hlt,hm2⟩
theorem Jh {dQ:Mp} {l:bE} {x y:aa} (h:lg l x x=some true) {a:Value} (hx:aJ ρ x a) (hy:aJ dQ y a):y=x:=by
 rcases tJ h with ⟨k,c,d,rfl,rfl,_,_⟩ | ⟨c,d,rfl,rfl,_,_⟩ | ⟨c,d,rfl,rfl,_,_⟩
 ·cases hx;cases hy;rfl
 ·cases hx;cases hy;rfl
 ·cases hx with | str h1=>cases hy with | str h2=>
  rw [←h1,←h2]
theorem Ji {ρ dQ:Mp}:∀{ls:List bE} {xs ys:List aa} {a9as:List Value},cm ls xs xs=some true→az ρ xs a9as→az dQ ys a9as→ys=xs
 | [],[],[],[],_,_,_=>rfl
 | [],[],_::_,[],_,_,h=>by have:=h.1;simp at this
 | [],[],_,_::_,_,h,_=>by have:=h.1;simp at this
 | l::ls,x::xs,_,[],h,h1,_=>by have:=h1.1;simp at this
 | l::ls,x::xs,[],a::a9as,h,_,h1=>by have:=h1.1;simp at this
 | l::ls,x::xs,y::ys,a::a9as,h,h1,h2=>by
  unfold cm at h
  split at h
  ·rename_i p q hp hq
   simp at h
   obtain ⟨rfl,rfl⟩:=h
   rw [Jh hp h1.head h2.head,Ji hq h1.tail h2.tail]
  ·simp at h
 | [],_::_,_,_,h,_,_=>by simp [cm] at h
 | _::_,[],_,_,h,_,_=>by simp [cm] at h
theorem CY {dQ:Mp} {g:Bool} {ls:List bE} {x y:aa} (h:eE g ls x x=some true) {a:Value} (hx:aJ ρ x a) (hy:aJ dQ y a):y=x:=by
 obtain ⟨xs,ys,h1,h2,h3⟩:=tO h
 rw [h1] at h2;simp at h2;subst h2
 cases g with
 | true=>
  cases x <;>simp [iW] at h1
  subst h1
  obtain ⟨a9as,rfl,l1⟩:=hx.qc
  cases hy with
  | agg e1 e2=>
   rename_i cs
   have l2:az dQ cs a9as.toList:=⟨by simpa using e1,fun i v v' q q'=>e2 i v v' q (by simpa using q')⟩
   rw [Ji h3 l1 l2]
 | false=>
  have hxs:xs=[x]:=by cases x <;>simp [iW] at h1 <;>exact h1.symm
  subst hxs
  match ls,h3 with
  | [l],h3=>
   unfold cm at h3
   split at h3
   ·rename_i p q hp hq
    simp at h3
    obtain ⟨rfl,rfl⟩:=h3
    exact Jh hp hx hy
   ·simp at h3
  | [],h3=>simp [cm] at h3
  | _::_::_,h3=>
   have:=nw h3
   simp at this
theorem iM.more {g:Bool} {ls:List bE} {k x:aa} {k' x':Value} {es l:List (aa × aa)} {clock:ku} {r:List MapEntry} (dG:iM ρ es clock r) (hp:l.Perm es) (bU:jX ρ l r) (eU:eE g ls k k=some true) (jc:∀e∈es,(eE g ls k e.1).isSome=true)
  (f3:es.any (isKey g ls k)=false) (f4:∀e∈es,isKey g ls k e=false) (hkk:aJ ρ k k') (hx:aJ ρ x x'):iM ρ (m7 g ls k x es) (clock.put g ls k false) (r++[{key:=k',val:=x',born:=clock.n}]):=by
 have hn:(clock.put g ls k false).n=clock.n+1:=rfl
 unfold m7
 rw [f3]
 simp only [Bool.false_eq_true,if_false]
 refine ⟨?_,⟨l++[(k,x)],hp.append_right _,?_,?_⟩,?_,?_,?_⟩
 ·rw [List.map_append,List.nodup_append]
  refine ⟨dG.keys,by simp,?_⟩
  intro a ha c hc
  simp at hc
  subst hc
  obtain ⟨e,he,rfl⟩:=List.mem_map.1 ha
  exact fun e2=>RY (jc e he) (f4 e he) e2.symm
 ·simp [bU.1]
 ·intro i k1 v1 e1 h1 h2
  rw [List.getElem?_append] at h1 h2
  rw [←bU.1] at h2
  split at h1
  ·rename_i hi;rw [if_pos hi] at h2;exact bU.2 i k1 v1 e1 h1 h2
  ·rename_i hi
   rw [if_neg hi] at h2
   have:i - l.length=0:=by
    rcases Nat.eq_zero_or_pos (i - l.length) with h | h
    ·exact h
    ·rw [List.getElem?_eq_none (by simp;omega)] at h1;simp at h1
   rw [this] at h1 h2
   simp at h1 h2
   obtain ⟨rfl,rfl⟩:=h1
   subst h2
   exact ⟨hkk,hx⟩
 ·rw [List.map_append,List.nodup_append]
  refine ⟨dG.born,by simp,?_⟩
  intro a ha c hc
  simp at hc
  subst hc
  obtain ⟨e,he,rfl⟩:=List.mem_map.1 ha
  have:=dG.tH e he
  omega
 ·intro e he
  rw [hn]
  rcases List.mem_append.1 he with he | he
  ·have:=dG.tH e he;omega
  ·simp at he;subst he;simp
 ·intro p hp2 e he dQ hv
  have hkn:p=(k,clock.n)∨(p∈clock.kn∧eE g ls k p.1=some false):=by
   simp only [ku.put,Bool.false_eq_true,if_false,List.mem_cons,List.mem_filter,beq_iff_eq] at hp2
   exact hp2
  rcases hkn with rfl | ⟨hp2,hne⟩
  ·rcases List.mem_append.1 he with he | he
   ·exfalso
    obtain ⟨i,hi,rfl⟩:=List.getElem_of_mem he
    have hil:i <l.length:=by rw [bU.1];exact hi
    have:=bU.2 i l[i].1 l[i].2 r[i] (by rw [List.getElem?_eq_getElem hil]) (by rw [List.getElem?_eq_getElem hi])
    have e1:l[i].1=k:=CY eU hv this.1
    have hm:=hp.mem_iff.1 (List.getElem_mem hil)
    have:=f4 _ hm
    unfold isKey at this
    rw [e1,eU] at this
    simp at this
   ·simp at he;subst he;rfl
  ·rcases List.mem_append.1 he with he | he
   ·exact dG.known p hp2 e he dQ hv
   ·exfalso
    simp at he;subst he
    have e1:p.1=k:=CY eU hkk hv
    rw [e1,eU] at hne
    simp at hne
theorem iM.over {g:Bool} {ls:List bE} {k x vj:aa} {k' x':Value} {es l:List (aa × aa)} {clock:ku} {r:List MapEntry} {j:Nat} {ej:MapEntry} (dG:iM ρ es clock r) (hp:l.Perm es) (bU:jX ρ l r) (eU:eE g ls k k=some true)
  (f2:l[j]? =some (k,vj)) (f4:es.any (isKey g ls k)=true) (f5:∀i e,l[i]? =some e→i≠j→isKey g ls k e=false) (g1:r[j]? =some ej) (g2:aJ ρ k ej.key) (hkk:aJ ρ k k') (hx:aJ ρ x x'):iM ρ (m7 g ls k x es) clock (r.modify j fun e=>{e with key:=k',val:=x'}):=by
 unfold m7
 rw [f4]
 simp only [if_true]
 have rP:(r.modify j fun e=>{e with key:=k',val:=x'}).map (·.born)=r.map (·.born):=by
  apply List.ext_getElem?
  intro i
  rw [List.getElem?_map,List.getElem?_map,List.getElem?_modify]
  split
  ·cases r[i]? <;>rfl
  ·simp
 refine ⟨by rw [R3];exact dG.keys,⟨l.map fun e=>if isKey g ls k e=true then (k,x) else e,hp.map _,?_,?_⟩,by rw [rP];exact dG.born,?_,?_⟩
 ·rw [List.length_map,List.length_modify];exact bU.1
 ·intro i k1 v1 e1 h1 h2
  rw [List.getElem?_map] at h1
  rw [List.getElem?_modify] at h2
  by_cases hij:j=i
  ·subst hij
   rw [f2] at h1
   rw [g1] at h2
   have hkey:isKey g ls k (k,vj)=true:=by simp [isKey,eU]
   simp [hkey] at h1 h2
   obtain ⟨rfl,rfl⟩:=h1
   subst h2
   exact ⟨hkk,hx⟩
  ·simp [hij] at h2
   cases oB:l[i]? with
   | none=>rw [oB] at h1;simp at h1
   | some e2=>
    have:=f5 i e2 oB (Ne.symm hij)
    rw [oB] at h1
    simp [this] at h1
    subst h1
    exact bU.2 i k1 v1 e1 oB (by simpa using h2)
 ·intro e he
  have:e.born∈(r.modify j fun e=>{e with key:=k',val:=x'}).map (·.born):=List.mem_map.2 ⟨e,he,rfl⟩
  rw [rP] at this
  obtain ⟨e2,tR,hb⟩:=List.mem_map.1 this
  rw [←hb];exact dG.tH e2 tR
 ·intro p hp2 e he dQ hv
  obtain ⟨i,hi⟩:=List.getElem?_of_mem he
  rw [List.getElem?_modify] at hi
  by_cases hij:j=i
  ·subst hij
   rw [g1] at hi
   simp at hi
   subst hi
   have e1:p.1=k:=CY eU hkk hv
   exact dG.known p hp2 ej (List.mem_of_getElem? g1) ρ (by rw [e1];exact g2)
  ·simp [hij] at hi
   exact dG.known p hp2 e (List.mem_of_getElem? hi) dQ hv
theorem R4 (hr:Rel P n0 ρ H w) (hl:n0≤lim) {t kt e:TypeId} (ht:P.underlying t=some (.map kt e)) {g:Bool} {ls:List bE} (hk:gj P kt=some (g,ls)) {m k x:aa} {m' k' x':Value}
  (hm:aJ ρ m m') (hkk:aJ ρ k k') (hx:aJ ρ x x') (h:lp lim H g ls m k x=some H'):∃w',(Instr.mapUpdate t m' k' x').run P w= .ok () w'∧Post P n0 lim ρ H w ρ H' w':=by
 unfold lp at h
 split at h
 case h_2=>simp at h
 rename_i b
 split at h
 case h_2=>simp at h
 rename_i es clock hg
 split at h
 case isFalse=>simp at h
 rename_i hc
 obtain ⟨hlb,hok⟩:=hc
 simp at h
 obtain ⟨eU,jc⟩:=vT hok
 cases hm with | map hρ=>
 rename_i L
 obtain ⟨es',hw,dG⟩:=hr.map b L es clock hρ hg
 obtain ⟨l,hp,bU⟩:=dG.perm
 have hf:=vS hk hkk w (fun e he=>jc e (hp.mem_iff.1 he)) bU
 have kP:=tP hk eU hkk false w
 have hlt:=(Array.getElem?_eq_some_iff.1 hw).1
 have nD:=hr.CX hl hlb hρ hg hlt
 rcases vU dG.keys hp jc with ⟨f1,f2,f3,f4⟩ | ⟨j,vj,f1,f2,f3,f4,f5⟩
 ·rw [f1] at hf
  rw [f3] at h
  subst h
  refine ⟨w.putObj L.blk (.map (es'.push {key:=k',val:=x',born:=clock.n}) (clock.n+1)),?_,nD _ (clock.put g ls k false) _ ?_⟩
  ·simp only [Instr.mapUpdate,Sem.run_bind,bL ht,Result.andThen_ok,Go.MapKept.run_getObj_map hw,kP,hf,Option.bind_none]
   exact qm hw
  ·rw [Array.toList_push]
   exact dG.more hp bU eU jc f3 f4 hkk hx
 ·obtain ⟨ej,g1,g2,g3⟩:=bU.get f2
  rw [f1,Option.bind_some,g1,Option.map_some] at hf
  rw [f4] at h
  subst h
  obtain ⟨q1,q2⟩:=Ja eU hkk g2
  have qq:es'[j]? =some ej:=by simpa using g1
  refine ⟨w.putObj L.blk (.map (es'.modify j fun e=>{e with key:=k',val:=x'}) clock.n),?_,nD _ clock _ ?_⟩
  ·simp only [Instr.mapUpdate,Sem.run_bind,bL ht,Result.andThen_ok,Go.MapKept.run_getObj_map hw,kP,hf,qq,Option.map_some,Option.getD_some,Instr.keyThatStays,←q1,q2,if_true,Sem.run_pure]
   exact qm hw
  ·rw [Array.toList_modify]
   exact dG.over hp bU eU f2 f4 f5 g1 g2 hkk hx
theorem R5 (hr:Rel P n0 ρ H w) (hl:n0≤lim) {t kt e:TypeId} (ht:P.underlying t=some (.map kt e)) {g:Bool} {ls:List bE} (hk:gj P kt=some (g,ls)) {z:aa} (hz:tF P e=some z) {m k:aa} {m' k':Value}
  (hm:aJ ρ m m') (hkk:aJ ρ k k') (h:vo lim H g ls z m k=some (v,H')):dN P n0 lim ρ H w (Instr.mapEntry t m' k') v H':=by
 unfold vo at h
 split at h
 case h_2=>simp at h
 rename_i b
 split at h
 case h_2=>simp at h
 rename_i es clock hg
 split at h
 case isFalse=>simp at h
 rename_i hc
 obtain ⟨hlb,hok⟩:=hc
 obtain ⟨eU,jc⟩:=vT hok
 obtain ⟨i,zv,hi,iB,gn⟩:=Jf ρ hz
 cases hm with | map hρ=>
 rename_i L
 obtain ⟨es',hw,dG⟩:=hr.map b L es clock hρ hg
 obtain ⟨l,hp,bU⟩:=dG.perm
 have hf:=vS hk hkk w (fun e he=>jc e (hp.mem_iff.1 he)) bU
 have kP:=tP hk eU hkk false w
 have hlt:=(Array.getElem?_eq_some_iff.1 hw).1
 have nD:=hr.CX hl hlb hρ hg hlt
 rcases vU dG.keys hp jc with ⟨f1,f2,f3,f4⟩ | ⟨j,vj,f1,f2,f3,f4,f5⟩
 ·rw [f1] at hf
  rw [f2] at h
  simp only [Option.some.injEq,Prod.mk.injEq] at h
  obtain ⟨rfl,rfl⟩:=h
  refine ⟨.tuple #[zv,goInt clock.n],w.putObj L.blk (.map (es'.push {key:=k',val:=zv,born:=clock.n}) (clock.n+1)),ρ,?_,nD _ (clock.put g ls k false) _ ?_,aJ.qb (az.cons gn (az.cons (.int _ _) (az.nil ρ)))⟩
  ·simp only [Instr.mapEntry,Sem.run_bind,bL ht,Result.andThen_ok,Go.MapKept.run_getObj_map hw,kP,hf,Option.bind_none,kL hi iB,qm hw,Sem.run_pure]
  ·rw [Array.toList_push]
   exact dG.more hp bU eU jc f3 f4 hkk gn
 ·obtain ⟨ej,g1,g2,g3⟩:=bU.get f2
  rw [f1,Option.bind_some,g1,Option.map_some] at hf
  rw [f3] at h
  simp only at h
  split at h
  case h_2=>simp at h
  rename_i p hp2
  simp only [Option.some.injEq,Prod.mk.injEq] at h
  obtain ⟨rfl,rfl⟩:=h
  obtain ⟨q1,q2⟩:=Ja eU hkk g2
  have qq:es'[j]? =some ej:=by simpa using g1
  have hpk:p.1=k:=by
   have:=List.find?_some hp2
   simp only [beq_iff_eq] at this
   exact ((zM this).1 rfl).symm
  have rP:ej.born=p.2:=dG.known p (List.mem_of_find?_eq_some hp2) ej (List.mem_of_getElem? g1) ρ (by rw [hpk];exact g2)
  refine ⟨.tuple #[ej.val,goInt ej.born],w.putObj L.blk (.map (es'.modify j fun e=>{e with key:=k'}) clock.n),ρ,?_,nD _ clock _ ?_,?_⟩
  ·simp only [Instr.mapEntry,Sem.run_bind,bL ht,Result.andThen_ok,Go.MapKept.run_getObj_map hw,kP,hf,qq,Option.map_some,Option.getD_some,Instr.keyThatStays,←q1,q2,if_true,Sem.run_pure,qm hw]
  ·rw [Array.toList_modify]
   have hm2:=dG.over (x:=vj) (x':=ej.val) hp bU eU f2 f4 f5 g1 g2 hkk g3
   have:(es'.toList.modify j fun e=>{e with key:=k',val:=ej.val})=es'.toList.modify j fun e=>{e with key:=k'}:=by
    apply List.ext_getElem?
    intro i
    rw [List.getElem?_modify,List.getElem?_modify]
    by_cases hij:j=i
    ·subst hij;rw [g1];simp
    ·simp [hij]
   rw [←this];exact hm2
  ·rw [rP]
   exact aJ.qb (az.cons g3 (az.cons (.int _ _) (az.nil ρ)))
theorem R6 (hr:Rel P n0 ρ H w) (hl:n0≤lim) {t:TypeId} {g:Bool} {ls:List bE} {m s x:aa} {m' s' x':Value}
  (hm:aJ ρ m m') (hs:aJ ρ s s') (hx:aJ ρ x x') (h:vp lim H g ls m s x=some H'):∃w',(Instr.entryStore t m' s' x').run P w= .ok () w'∧Post P n0 lim ρ H w ρ H' w':=by
 unfold vp at h
 split at h
 case h_2=>simp at h
 rename_i b n
 split at h
 case h_2=>simp at h
 rename_i es clock hg
 split at h
 case h_2=>simp at h
 rename_i p hp2
 split at h
 case isFalse=>simp at h
 rename_i hc
 obtain ⟨hlb,hok,zP⟩:=hc
 simp at h
 obtain ⟨eU,jc⟩:=vT hok
 cases hm with | map hρ=>
 cases hs with | int=>
 rename_i L
 obtain ⟨es',hw,dG⟩:=hr.map b L es clock hρ hg
 obtain ⟨l,hp,bU⟩:=dG.perm
 have hlt:=(Array.getElem?_eq_some_iff.1 hw).1
 have nD:=hr.CX hl hlb hρ hg hlt
 rcases vU dG.keys hp jc with ⟨f1,f2,f3,f4⟩ | ⟨j,vj,f1,f2,f3,f4,f5⟩
 ·rw [f3] at zP;simp at zP
 ·obtain ⟨ej,g1,g2,g3⟩:=bU.get f2
  have qq:es'[j]? =some ej:=by simpa using g1
  have R7:(p.2:Int)=n:=by simpa using List.find?_some hp2
  have rP:ej.born=p.2:=dG.known p (List.mem_of_find?_eq_some hp2) ej (List.mem_of_getElem? g1) ρ g2
  have hj:j <es'.toList.length:=by
   rcases Nat.lt_or_ge j es'.toList.length with h | h
   ·exact h
   ·rw [List.getElem?_eq_none h] at g1;simp at g1
  have hfind:es'.findIdx? (fun e=>(e.born:Int)==n)=some j:=by
   have Jj:j <es'.size:=by simpa using hj
   rw [Array.findIdx?_eq_some_iff_getElem]
   have Jk:es'[j]=ej:=by rw [Array.getElem?_eq_getElem Jj] at qq;simpa using qq
   refine ⟨Jj,by rw [Jk,rP,R7];simp,fun i hi=> ?_⟩
   simp only [Bool.not_eq_true,beq_eq_false_iff_ne,ne_eq]
   intro he
   have hb:=List.pairwise_iff_getElem.1 dG.born i j (by simp;omega) (by simpa using hj) hi
   rw [List.getElem_map,List.getElem_map,Array.getElem_toList,Array.getElem_toList,Jk,rP] at hb
   exact hb (by omega)
  subst h
  refine ⟨w.putObj L.blk (.map (es'.modify j fun e=>{e with val:=x'}) clock.n),?_,nD _ clock _ ?_⟩
  ·simp only [Instr.entryStore,Sem.run_bind,Result.andThen_ok,Go.MapKept.run_getObj_map hw,asInt,asIntOf,Sem.run_pure,hfind]
   exact qm hw
  ·rw [Array.toList_modify]
   have hm2:=dG.over (x:=x) (x':=x') (k':=ej.key) hp bU eU f2 f4 f5 g1 g2 g2 hx
   have:(es'.toList.modify j fun e=>{e with key:=ej.key,val:=x'})=es'.toList.modify j fun e=>{e with val:=x'}:=by
    apply List.ext_getElem?
    intro i
    rw [List.getElem?_modify,List.getElem?_modify]
    by_cases hij:j=i
    ·subst hij;rw [g1];simp
    ·simp [hij]
   rw [←this];exact hm2
theorem Jl {α:Type} (p:α→Bool):∀(l:List α) (j:Nat) (x:α),l[j]? =some x→p x=false→(∀i y,l[i]? =some y→i≠j→p y=true)→l.filter p=l.eraseIdx j
 | [],j,x,h,_,_=>by simp at h
 | y::l,0,x,h,hx,ho=>by
  simp at h;subst h
  rw [List.filter_cons_of_neg (by simp [hx]),List.eraseIdx_cons_zero]
  exact List.filter_eq_self.2 fun z hz=>by
   obtain ⟨i,hi,rfl⟩:=List.getElem_of_mem hz
   exact ho (i+1) l[i] (by simp [hi]) (by omega)
 | y::l,j+1,x,h,hx,ho=>by
  rw [List.filter_cons_of_pos (ho 0 y rfl (by omega)),List.eraseIdx_cons_succ]
  congr 1
  exact Jl p l j x (by simpa using h) hx fun i z hz hne=>ho (i+1) z (by simpa using hz) (by omega)
theorem iM.del {g:Bool} {ls:List bE} {k:aa} {es:List (aa × aa)} {clock:ku} {es' l:List (aa × aa)} {r:List MapEntry} (h:iM ρ es clock r) (hp:l.Perm es) (bU:jX ρ l r) {j:Nat} {vj:aa} (hok:eE g ls k k=some true)
  (f2:l[j]? =some (k,vj)) (f5:∀i e,l[i]? =some e→i≠j→isKey g ls k e=false):iM ρ (rG g ls k es) clock (r.eraseIdx j):=by
 have hkey:isKey g ls k (k,vj)=true:=by simp [isKey,hok]
 have hle:l.filter (fun e=> !isKey g ls k e)=l.eraseIdx j:=Jl _ l j (k,vj) f2 (by simp [hkey]) fun i e hi hne=>by simp [f5 i e hi hne]
 have hsub:(r.eraseIdx j).Sublist r:=List.eraseIdx_sublist _ _
 refine ⟨?_,⟨l.eraseIdx j,?_,?_,?_⟩,(hsub.map _).nodup h.born,fun e he=>h.tH e (hsub.subset he),fun p hp e he=>h.known p hp e (hsub.subset he)⟩
 ·unfold rG
  exact ((List.filter_sublist (l:=es)).map _).nodup h.keys
 ·rw [←hle]
  exact hp.filter _
 ·have hj:j <l.length:=by
   rcases Nat.lt_or_ge j l.length with h | h
   ·exact h
   ·rw [List.getElem?_eq_none h] at f2;simp at f2
  rw [List.length_eraseIdx,List.length_eraseIdx,←bU.1]
 ·intro i k1 v1 e1 h1 h2
  rw [List.getElem?_eraseIdx] at h1 h2
  split at h1
  ·rename_i hi;rw [if_pos hi] at h2;exact bU.2 i k1 v1 e1 h1 h2
  ·rename_i hi;rw [if_neg hi] at h2;exact bU.2 (i+1) k1 v1 e1 h1 h2
theorem R8 (hr:Rel P n0 ρ H w) (hl:n0≤lim) {t kt e ty:TypeId} {argTypes:Array TypeId} (h0:argTypes[0]? =some t) (ht:P.underlying t=some (.map kt e)) {g:Bool} {ls:List bE} (hk:gj P kt=some (g,ls)) {m k:aa} {m' k':Value}
  (hm:aJ ρ m m') (hkk:aJ ρ k k') (h:pX lim H g ls m k=some H'):dN P n0 lim ρ H w (Builtin.delete_ argTypes ty #[m',k']) bA H':=by
 unfold pX at h
 split at h
 case h_3=>simp at h
 ·split at h
  case isFalse=>simp at h
  rename_i eU
  simp at h
  subst h
  cases hm
  refine .same hr (v':= .tuple #[]) ?_ (aJ.bA ρ)
  simp only [Builtin.delete_,h0,List.getElem?_toArray,List.getElem?_cons_zero,List.getElem?_cons_succ,Sem.run_bind,bL ht,Result.andThen_ok,tP hk eU hkk true w,Sem.run_pure]
 rename_i b
 split at h
 case h_2=>simp at h
 rename_i es clock hg
 split at h
 case isFalse=>simp at h
 rename_i hc
 obtain ⟨hlb,hok⟩:=hc
 simp at h
 obtain ⟨eU,jc⟩:=vT hok
 cases hm with | map hρ=>
 rename_i L
 obtain ⟨es',hw,dG⟩:=hr.map b L es clock hρ hg
 obtain ⟨l,hp,bU⟩:=dG.perm
 have hf:=vS hk hkk w (fun e he=>jc e (hp.mem_iff.1 he)) bU
 have kP:=tP hk eU hkk es'.isEmpty w
 have hlt:=(Array.getElem?_eq_some_iff.1 hw).1
 have nD:∀(tQ:List (aa × aa)) (qo:ku) (qp:Array MapEntry),iM ρ tQ qo qp.toList→
   Post P n0 lim ρ H w ρ (H.set b (.map tQ qo)) (w.putObj L.blk (.map qp qo.n)):=by
  intro tQ qo qp hm2
  refine hr.rJ hl hlb hρ hg (by simp) (by simp) (fun r _ hne=>World.putObj_heap_other hne) ⟨fun _ h=>by simp at h,fun Jg c3 h=> ?_,fun _ h=>by simp at h⟩ ⟨rfl,rfl,rfl⟩
  simp at h
  obtain ⟨rfl,rfl⟩:=h
  exact ⟨qp,World.putObj_heap_same hlt,hm2⟩
 subst h
 rcases vU dG.keys hp jc with ⟨f1,f2,f3,f4⟩ | ⟨j,vj,f1,f2,f3,f4,f5⟩
 ·rw [f1] at hf
  have hd:rG g ls k es=es:=by
   unfold rG
   exact List.filter_eq_self.2 fun e he=>by rw [f4 e he];rfl
  rw [hd]
  refine ⟨.tuple #[],w.putObj L.blk (.map es' clock.n),ρ,?_,nD _ _ _ dG,aJ.bA ρ⟩
  simp only [Builtin.delete_,h0,List.getElem?_toArray,List.getElem?_cons_zero,List.getElem?_cons_succ,Sem.run_bind,bL ht,Result.andThen_ok,Go.MapKept.run_getObj_map hw,kP,hf,Option.bind_none,qm hw,Sem.run_pure]
 ·obtain ⟨ej,g1,g2,g3⟩:=bU.get f2
  rw [f1,Option.bind_some,g1,Option.map_some] at hf
  have hj:j <es'.size:=by
   rcases Nat.lt_or_ge j es'.size with h | h
   ·exact h
   ·rw [List.getElem?_eq_none (by simpa using h)] at g1;simp at g1
  have he:(es'.eraseIdxIfInBounds j).toList=es'.toList.eraseIdx j:=by simp [Array.eraseIdxIfInBounds,hj]
  refine ⟨.tuple #[],w.putObj L.blk (.map (es'.eraseIdxIfInBounds j) clock.n),ρ,?_,nD _ _ _ ?_,aJ.bA ρ⟩
  ·simp only [Builtin.delete_,h0,List.getElem?_toArray,List.getElem?_cons_zero,List.getElem?_cons_succ,Sem.run_bind,bL ht,Result.andThen_ok,Go.MapKept.run_getObj_map hw,kP,hf,qm hw,Sem.run_pure]
  ·rw [he]
   exact iM.del (es':=[]) dG hp bU eU f2 f5
theorem R9 (hr:Rel P n0 ρ H w) (hlim:lim≤H.next) (hf:ρ H.next=none) {t kt e:TypeId} (ht:P.underlying t=some (.map kt e)) {hint:Option aa} {hint':Option Value}
  (hh:match hint,hint' with | none,none=>True | some x,some x'=>aJ ρ x x' | _,_=>False) (h:vu hint=true):dN P n0 lim ρ H w (Instr.makeMap t hint') (.map (some H.next)) (H.push (.map [] ⟨0,[]⟩)):=by
 have grown:Post P n0 lim ρ H w (upd ρ H.next ⟨w.heap.size,0,0⟩) (H.push (.map [] ⟨0,[]⟩)) (w.alloc (.map #[] 0)):=by
  have hsz:(w.alloc (.map #[] 0)).heap.size=w.heap.size+1:=World.size_alloc _ _
  refine hr.grow hlim hf ⟨w.heap.size,0,0⟩ _ (Nat.le_refl _) (by rw [hsz];exact Nat.lt_succ_self _) (fun r hr'=> ?_) ⟨fun _ h=>by simp at h,fun es c h=> ?_,fun _ h=>by simp at h⟩ ⟨rfl,rfl,rfl⟩
  ·show (w.heap.push _)[r]? =_
   rw [Array.getElem?_push,if_neg (by omega)]
  ·simp at h
   obtain ⟨rfl,rfl⟩:=h
   exact ⟨#[],World.alloc_heap_new w _,⟨by simp,⟨[],.refl _,rfl,fun i k v e h=>by simp at h⟩,by simp,fun e h=>by simp at h,fun p _ e h=>by simp at h⟩⟩
 refine ⟨.map (some w.heap.size),_,_,?_,grown,.map (L:=⟨w.heap.size,0,0⟩) (eG _ _ _)⟩
 cases hint with
 | none=>
  cases hint' with
  | none=>simp [Instr.makeMap]
  | some x'=>exact hh.elim
 | some x=>
  cases hint' with
  | none=>exact hh.elim
  | some x'=>
   cases x <;>simp [vu] at h
   cases hh
   simp [Instr.makeMap,bL ht,asInt,asIntOf]
theorem Sa (hr:Rel P n0 ρ H w) {t kt e ty:TypeId} {argTypes:Array TypeId} (h0:argTypes[0]? =some t) (ht:P.underlying t=some (.map kt e)) {m:aa} {m':Value} (hm:aJ ρ m m') (h:tD H m=some v):
  dN P n0 lim ρ H w (Builtin.len_ argTypes ty #[m']) v H:=by
 unfold tD at h
 rw [Option.map_eq_some_iff] at h
 obtain ⟨es,lE,rfl⟩:=h
 rcases Je hr hm lE with ⟨rfl,rfl,rfl⟩ | ⟨b,L,clock,es',rfl,rfl,hρ,hg,hw,dG⟩
 ·exact .same hr (v':=goInt 0) (by simp only [Builtin.len_,h0,List.getElem?_toArray,List.getElem?_cons_zero,Sem.run_bind,bL ht,Result.andThen_ok,Sem.run_pure]) (.int _ _)
 ·refine .same hr (v':=goInt es'.size) (by simp only [Builtin.len_,h0,List.getElem?_toArray,List.getElem?_cons_zero,Sem.run_bind,bL ht,Result.andThen_ok,Go.MapKept.run_getObj_map hw,Sem.run_pure]) ?_
  obtain ⟨l,hp,bU⟩:=dG.perm
  have:es.length=es'.size:=by
   rw [←hp.length_eq,bU.1];simp
  rw [this];exact .int _ _
theorem Sb (hr:Rel P n0 ρ H w) (hl:n0≤lim) {t kt e ty:TypeId} {argTypes:Array TypeId} (h0:argTypes[0]? =some t) (ht:P.underlying t=some (.map kt e)) {m:aa} {m':Value} (hm:aJ ρ m m') (h:vq lim H m=some H'):
  dN P n0 lim ρ H w (Builtin.clear_ argTypes ty #[m']) bA H':=by
 unfold vq at h
 split at h
 case h_3=>simp at h
 ·simp at h;subst h
  cases hm
  exact .same hr (v':= .tuple #[]) (by simp only [Builtin.clear_,h0,List.getElem?_toArray,List.getElem?_cons_zero,Sem.run_bind,bL ht,Result.andThen_ok,Sem.run_pure]) (aJ.bA ρ)
 rename_i b
 split at h
 case h_2=>simp at h
 rename_i es clock hg
 split at h
 case isFalse=>simp at h
 rename_i hlb
 simp at h;subst h
 cases hm with | map hρ=>
 rename_i L
 obtain ⟨es',hw,dG⟩:=hr.map b L es clock hρ hg
 have hlt:=(Array.getElem?_eq_some_iff.1 hw).1
 refine ⟨.tuple #[],w.putObj L.blk (.map #[] clock.n),ρ,?_,?_,aJ.bA ρ⟩
 ·simp only [Builtin.clear_,h0,List.getElem?_toArray,List.getElem?_cons_zero,Sem.run_bind,bL ht,Result.andThen_ok,Go.MapKept.run_getObj_map hw,qm hw,Sem.run_pure]
 ·refine hr.rJ hl hlb hρ hg (by simp) (by simp) (fun r _ hne=>World.putObj_heap_other hne) ⟨fun _ h=>by simp at h,fun Jg c3 h=> ?_,fun _ h=>by simp at h⟩ ⟨rfl,rfl,rfl⟩
  simp at h
  obtain ⟨rfl,rfl⟩:=h
  exact ⟨#[],World.putObj_heap_same hlt,⟨by simp,⟨[],.refl _,rfl,fun i k v e h=>by simp at h⟩,by simp,fun e h=>by simp at h,fun p _ e h=>by simp at h⟩⟩
theorem Sc (hr:Rel P n0 ρ H w) (hl:n0≤lim) {t e ty:TypeId} {argTypes:Array TypeId} (h0:argTypes[0]? =some t) (ht:P.underlying t=some (.slice e)) {zl:List aa} (hz:lz P e=some zl) (hpos:0 <zl.length)
  {x:aa} {x':Value} (hx:aJ ρ x x') (h:vr lim H zl x=some H'):dN P n0 lim ρ H w (Builtin.clear_ argTypes ty #[x']) bA H':=by
 obtain ⟨i,z,hi,iB,hzl,jH,gn,oA⟩:=rK ρ hz
 have Jm:∀(a:Option (Nat × Nat)) (n:Nat) (c:Cap),x= .sl a n c→n=0→H'=H→dN P n0 lim ρ H w (Builtin.clear_ argTypes ty #[x']) bA H':=by
  rintro a n c rfl rfl rfl
  obtain ⟨a',cp,rfl,_⟩:=rN hx
  refine .same hr (v':= .tuple #[]) ?_ (aJ.bA ρ)
  cases a' <;>simp only [Builtin.clear_,h0,List.getElem?_toArray,List.getElem?_cons_zero,Sem.run_bind,bL ht,Result.andThen_ok,Sem.run_pure]
 unfold vr at h
 split at h
 case h_3=>simp at h
 ·split at h <;>simp at h
  rename_i n c hn
  exact Jm _ _ _ rfl hn h.symm
 rename_i b o n c
 split at h
 ·rename_i hn
  simp at h
  exact Jm _ _ _ rfl hn h.symm
 rename_i hn
 split at h
 case h_2=>simp at h
 rename_i cs hc
 split at h
 case isFalse=>simp at h
 rename_i gm
 simp at h;subst h
 obtain ⟨a',cp,rfl,_⟩:=rN hx
 have:∃L,ρ b=some L∧a'=some ⟨L.blk,L.d+o,none⟩:=by
  cases hx <;>first | exact ⟨_,by assumption,rfl⟩ | exact absurd rfl hn
 obtain ⟨L,hb,rfl⟩:=this
 have hzs:0 <z.cells.size:=by omega
 have bU:az ρ (rep n zl) (Builtin.zeroCells z.cells n).toList:=by
  rw [CI _ _ hzs];exact zG gn n
 have hlen:(rep n zl).length=n * zl.length:=by simp [rep]
 have h1:(rep n zl).all (·.one)=true:=by
  rw [List.all_eq_true]
  intro y hy
  unfold rep at hy
  obtain ⟨q,hq,hy⟩:=List.mem_flatten.1 hy
  rw [List.mem_replicate] at hq
  rw [hq.2] at hy
  exact oA y hy
 obtain ⟨w',r1,r2⟩:=zD (P:=P) (o:=o) hr hl gm.1 hb hc bU h1 (by rw [hlen];exact gm.2.1)
 refine ⟨.tuple #[],w',ρ,?_,r2,aJ.bA ρ⟩
 have hn':∃m,n=m+1:=⟨n - 1,by omega⟩
 obtain ⟨m,rfl⟩:=hn'
 simp only [Builtin.clear_,h0,List.getElem?_toArray,List.getElem?_cons_zero,Sem.run_bind,bL ht,Result.andThen_ok,kL hi iB,r1,Sem.run_pure]
end
end Go.au
end
section
set_option linter.unusedSimpArgs false
set_option linter.unusedVariables false
set_option linter.unusedSectionVars false
namespace Go.au
variable [Gl]
section
variable {P:Program} {n0 lim:Nat} {ρ:Mp} {H H':ah} {w:World} {R:aq} {ev:aP→aa} {ev':Operand→Value} {v:aa}
theorem ny.CZ (hr:Rel P n0 ρ H w) {s:Sem Unit} {w':World} (h:s.run P w= .ok () w') (hp:Post P n0 lim ρ H w ρ H' w'):ny P n0 lim ρ H w (do s;pure .skip) bA H':=
 ⟨.skip,w',ρ,by simp [h],hp,.inr ⟨rfl,rfl⟩⟩
theorem ny.kQ {s:Sem Value} (h:dN P n0 lim ρ H w s v H'):ny P n0 lim ρ H w (do pure (.value (←s))) v H':= .eH h
theorem Sd (hr:Rel P n0 ρ H w) (hl:n0≤lim) (hlim:lim≤H.next) (hfr:H.next <H'.next→ρ H.next=none) (he:oy ρ ev ev') {b:Builtin} {argTypes:Array TypeId} {args:Array Operand} {type:TypeId} {consts:Array Bool}
  {ys:List aP} {cI:bG} (ha:fF bR args.toList=some ys) (hc:vB P b argTypes ys=some cI) (h:step R lim ev H cI=some (v,H')):
  ny P n0 lim ρ H w (builtin b argTypes type consts (args.map ev')) v H':=by
 have hall:=tN (ρ:=ρ) he ha
 have hargs:∀{a9as:List Value},args.toList.map ev'=a9as→args.map ev'=a9as.toArray:=by
  intro a9as e;apply Array.ext';simpa using e
 unfold vB at hc
 split at hc
 ·
  rename_i s x
  generalize e1:args.toList.map ev'=a9as at hall
  match a9as,hall with
  | [],hall=>have:=hall.1;simp at this
  | [_],hall=>have:=hall.1;simp at this
  | _::_::_::_,hall=>have:=hall.1;simp at this
  | [s',x'],hall=>
   have hs:=hall.head
   have hx:=hall.tail.head
   split at hc
   ·rename_i t tx h0 h1
    rw [hargs e1]
    split at hc
    ·rename_i e k ht eu
     split at hc
     ·rename_i z i hz hi
      simp at hc;subst hc
      exact .kQ (CN (zeros:=true) hr hl hlim hfr h0 h1 ht (by simpa using ⟨_,eu⟩) hi hz hs hx h)
     ·simp at hc
    ·rename_i e k ht eu
     split at hc
     ·rename_i z i hz hi
      simp at hc;subst hc
      exact .kQ (CN (zeros:=false) hr hl hlim hfr h0 h1 ht (by simpa using .inl ⟨_,eu⟩) hi hz hs hx h)
     ·simp at hc
    ·rename_i e ht eu
     split at hc
     ·rename_i z i hz hi
      simp at hc;subst hc
      exact .kQ (CN (zeros:=false) hr hl hlim hfr h0 h1 ht (by simpa using .inr eu) hi hz hs hx h)
     ·simp at hc
    ·simp at hc
   ·simp at hc
 ·
  rename_i d s
  generalize e1:args.toList.map ev'=a9as at hall
  match a9as,hall with
  | [],hall=>have:=hall.1;simp at this
  | [_],hall=>have:=hall.1;simp at this
  | _::_::_::_,hall=>have:=hall.1;simp at this
  | [d',s'],hall=>
   split at hc
   ·rename_i t h0
    split at hc
    ·rename_i e ht
     simp at hc
     obtain ⟨z,hz,rfl⟩:=hc
     rw [hargs e1]
     exact .kQ (RG hr hl h0 ht hz hall.head hall.tail.head h)
    ·simp at hc
   ·simp at hc
 ·
  rename_i x
  generalize e1:args.toList.map ev'=a9as at hall
  match a9as,hall with
  | [],hall=>have:=hall.1;simp at this
  | _::_::_,hall=>have:=hall.1;simp at this
  | [x'],hall=>
   split at hc
   ·rename_i t h0
    rw [hargs e1]
    have hx:=hall.head
    split at hc
    ·rename_i ht
     simp at hc;subst hc
     obtain ⟨h1,rfl⟩:=fk h
     unfold bh at h1
     split at h1 <;>simp at h1
     subst h1
     rename_i sx heq
     rw [heq] at hx
     cases hx with | str hs=>
     refine .kQ (.same hr (v':=goInt _) (by simp only [Builtin.len_,h0,Sem.run_bind,bL ht,Result.andThen_ok,List.getElem?_toArray,List.getElem?_cons_zero,Sem.run_pure];rfl) ?_)
     rw [qg hs];exact .int _ _
    ·rename_i e ht
     simp at hc;subst hc
     obtain ⟨h1,rfl⟩:=fk h
     unfold bh at h1
     split at h1 <;>simp at h1
     subst h1
     rename_i a n c heq
     rw [heq] at hx
     obtain ⟨a',cp,rfl,_⟩:=rN hx
     exact .kQ (.same hr (v':=goInt n) (by simp only [Builtin.len_,h0,Sem.run_bind,bL ht,Result.andThen_ok,List.getElem?_toArray,List.getElem?_cons_zero,Sem.run_pure]) (.int _ _))
    ·rename_i kt e ht
     simp at hc;subst hc
     obtain ⟨h1,rfl⟩:=fk h
     exact .kQ (Sa hr h0 ht hx h1)
    ·simp at hc
   ·simp at hc
 ·
  rename_i m k
  generalize e1:args.toList.map ev'=a9as at hall
  match a9as,hall with
  | [],hall=>have:=hall.1;simp at this
  | [_],hall=>have:=hall.1;simp at this
  | _::_::_::_,hall=>have:=hall.1;simp at this
  | [m',k'],hall=>
   split at hc
   ·rename_i t h0
    rw [hargs e1]
    split at hc
    ·rename_i kt e ht
     rw [Option.map_eq_some_iff] at hc
     obtain ⟨⟨g,ls⟩,hk,rfl⟩:=hc
     simp only [step,Option.map_eq_some_iff] at h
     obtain ⟨H1,h1,h2⟩:=h
     simp at h2;obtain ⟨rfl,rfl⟩:=h2
     exact .kQ (R8 hr hl h0 ht hk hall.head hall.tail.head h1)
    ·simp at hc
   ·simp at hc
 ·
  rename_i m
  generalize e1:args.toList.map ev'=a9as at hall
  match a9as,hall with
  | [],hall=>have:=hall.1;simp at this
  | _::_::_,hall=>have:=hall.1;simp at this
  | [m'],hall=>
   split at hc
   ·rename_i t h0
    rw [hargs e1]
    split at hc
    ·rename_i kt e ht
     simp at hc;subst hc
     simp only [step,Option.map_eq_some_iff] at h
     obtain ⟨H1,h1,h2⟩:=h
     simp at h2;obtain ⟨rfl,rfl⟩:=h2
     exact .kQ (Sb hr hl h0 ht hall.head h1)
    ·rename_i e ht
     split at hc
     ·rename_i z hz
      split at hc <;>simp at hc
      rename_i hpos
      subst hc
      simp only [step,Option.map_eq_some_iff] at h
      obtain ⟨H1,h1,h2⟩:=h
      simp at h2;obtain ⟨rfl,rfl⟩:=h2
      exact .kQ (Sc hr hl h0 ht hz hpos hall.head h1)
     ·simp at hc
    ·simp at hc
   ·simp at hc
 ·
  rename_i x
  generalize e1:args.toList.map ev'=a9as at hall
  match a9as,hall with
  | [],hall=>have:=hall.1;simp at this
  | _::_::_,hall=>have:=hall.1;simp at this
  | [x'],hall=>
   split at hc
   ·rename_i t h0
    rw [hargs e1]
    have hx:=hall.head
    split at hc
    ·rename_i e ht
     simp at hc;subst hc
     obtain ⟨h1,rfl⟩:=fk h
     unfold Cu at h1
     split at h1 <;>simp at h1
     subst h1
     rename_i a n c heq
     rw [heq] at hx
     cases hx <;>
     exact .kQ (.same hr (v':=goInt _) (by simp only [Builtin.cap_,h0,Sem.run_bind,bL ht,Result.andThen_ok,List.getElem?_toArray,List.getElem?_cons_zero,Sem.run_pure] <;>rfl) (.int _ _))
    ·simp at hc
   ·simp at hc
 ·simp at hc;subst hc
  obtain ⟨h1,rfl⟩:=fk h
  exact .kQ (I2 (P:=P) (isMax:=true) hr (by simpa using hall) h1 argTypes type)
 ·simp at hc;subst hc
  obtain ⟨h1,rfl⟩:=fk h
  exact .kQ (I2 (P:=P) (isMax:=false) hr (by simpa using hall) h1 argTypes type)
 ·simp at hc
theorem Jn {name:String} {t:TypeId} {f:FuncId} (h:oh P name t=some f):
  ∃i e m,P.info? t=some i∧P.underlying t=some (.pointer e)∧i.methods.find? (·.name==name)=some m∧m.path.toList=[]∧m.func=some (f,true):=by
 unfold oh at h
 split at h
 case h_2=>simp at h
 rename_i i e hi hu
 split at h
 case h_2=>simp at h
 rename_i m hm
 split at h
 case h_2=>simp at h
 rename_i f' hp hf
 simp at h;subst h
 exact ⟨i,e,m,hi,hu,hm,hp,hf⟩
theorem Se {name:String} {t:TypeId} {f:FuncId} (h:oh P name t=some f) (k:Nat) (v:Value) (w:World):(nilAhead (k+1) t v name).run P w= .ok (some false) w:=by
 obtain ⟨i,e,m,hi,hu,hm,hp,hf⟩:=Jn h
 simp only [nilAhead,Sem.run_bind,l5 hi,Result.andThen_ok,hm,Sem.run_pure,hp,followBlind,hf]
theorem Sf {name:String} {t:TypeId} {f:FuncId} (h:oh P name t=some f) (k:Nat) (v:Value) (w:World):(method (k+1) t v name).run P w= .ok (f,v) w:=by
 obtain ⟨i,e,m,hi,hu,hm,hp,hf⟩:=Jn h
 simp only [method,Sem.run_bind,l5 hi,Result.andThen_ok,hm,Sem.run_pure,hp,follow,hf,receiverAt,bL hu,Place.get]
theorem Sg {ty:TypeId} {name:String} {t:TypeId} (h:(Cx P ty).contains (name,t)=true):∃f,oh P name t=some f:=by
 rw [List.contains_iff_mem] at h
 unfold Cx at h
 rw [List.mem_flatMap] at h
 obtain ⟨⟨i,t'⟩,_,h⟩:=h
 rw [List.mem_filterMap] at h
 obtain ⟨m,_,h⟩:=h
 split at h
 ·rename_i hc
  simp only [Option.some.injEq,Prod.mk.injEq] at h
  obtain ⟨rfl,rfl⟩:=h
  simp only [Bool.and_eq_true] at hc
  exact Option.isSome_iff_exists.1 hc.2
 ·simp at h
theorem Jo {α:Type}:∀{l:List (Nat × α)} {t:Nat} {x:α},l.lookup t=some x→(t,x)∈l
 | [],t,x,h=>by simp at h
 | (a,b)::l,t,x,h=>by
  rw [List.lookup_cons] at h
  split at h
  ·rename_i e
   simp at h e;subst h;subst e;simp
  ·exact List.mem_cons_of_mem _ (Jo h)
theorem Sh {name:String} {a9as:List TypeId} {t:TypeId} {f:FuncId} (h:(Cw P name a9as).lookup t=some f):oh P name t=some f:=by
 have:=Jo h
 unfold Cw at this
 rw [List.mem_filterMap] at this
 obtain ⟨⟨i,t'⟩,_,h'⟩:=this
 replace h':(if takes P a9as i=true then (oh P name t').map (fun f=>(t',f)) else none)=some (t,f):=h'
 by_cases hc:takes P a9as i=true
 case neg=>rw [if_neg hc] at h';simp at h'
 rw [if_pos hc,Option.map_eq_some_iff] at h'
 obtain ⟨f',h1,h2⟩:=h'
 simp at h2
 obtain ⟨rfl,rfl⟩:=h2
 exact h1
theorem aJ.Jp {ρ:Mp} {t:TypeId} {v:aa} {v':Value} (h:aJ ρ (.iface t v) v'):∃x,v'= .iface t x∧aJ ρ v x:=by
 cases h with | iface h=>exact ⟨_,rfl,h⟩
theorem mh {x:Operand} {o:Option bG} {f:aP→bG} {cI:bG} (h:(bR x).map f=some cI):∃y,bR x=some y∧cI=f y:=by
 rw [Option.map_eq_some_iff] at h
 obtain ⟨y,h1,h2⟩:=h
 exact ⟨y,h1,h2.symm⟩
theorem Si (hr:Rel P n0 ρ H w) (hl:n0≤lim) (hlim:lim≤H.next) (hfr:H.next <H'.next→ρ H.next=none) (he:oy ρ ev ev') {o:Oper} {cI:bG} (hc:dg P o.type o.op=some cI) (iC:cI.jF=false)
  (h:step R lim ev H cI=some (v,H')):ny P n0 lim ρ H w (Go.execOp ev' o) v H':=by
 obtain ⟨dst,op,type,pos,after,guard⟩:=o
 simp only at hc
 cases op
 case move x=>
  obtain ⟨y,hy,rfl⟩:=mh (o:=none) hc
  simp [step] at h;obtain ⟨rfl,rfl⟩:=h
  exact .value hr (he _ _ hy)
 case assign x=>
  obtain ⟨y,hy,rfl⟩:=mh (o:=none) hc
  simp [step] at h;obtain ⟨rfl,rfl⟩:=h
  exact .value hr (he _ _ hy)
 case pick c a b=>
  simp only [dg] at hc
  split at hc <;>simp at hc
  rename_i c' a' b' h1 h2 h3
  subst hc
  have r1:=he _ _ h1
  simp only [step] at h
  split at h <;>simp at h
  rename_i t ht
  obtain ⟨rfl,rfl⟩:=h
  rw [ht] at r1
  simp only [Go.execOp]
  generalize ev' c=cv at r1
  cases r1
  refine ⟨.value (if t then ev' a else ev' b),w,ρ,by simp [asBool],.refl hr,.inl ⟨_,rfl,?_⟩⟩
  cases t
  ·exact he _ _ h3
  ·exact he _ _ h2
 case alloc e=>
  simp only [dg,Option.map_eq_some_iff] at hc
  obtain ⟨z,hz,rfl⟩:=hc
  simp [step] at h;obtain ⟨rfl,rfl⟩:=h
  obtain ⟨i,zv,hi,iB,hzl,jH,gn,oA⟩:=rK ρ hz
  obtain ⟨s1,s2⟩:=zE (P:=P) (lim:=lim) hr hlim (hfr (Nat.lt_succ_self _)) e gn
  refine .eH ⟨.pointer (some ⟨w.heap.size,0,none⟩),_,_,?_,s2,.ptr (eG _ _ _)⟩
  simp only [Instr.alloc,Sem.run_bind,kL hi iB,Result.andThen_ok,newVar,s1,Sem.run_pure]
 case box e x=>
  obtain ⟨y,hy,rfl⟩:=mh (o:=none) hc
  simp only [step] at h
  split at h <;>simp at h
  obtain ⟨rfl,rfl⟩:=h
  obtain ⟨s1,s2⟩:=zE (P:=P) (lim:=lim) hr hlim (hfr (Nat.lt_succ_self _)) e (he _ _ hy).cells
  refine .eH ⟨.pointer (some ⟨w.heap.size,0,none⟩),_,_,?_,s2,.ptr (eG _ _ _)⟩
  simp only [Instr.box,Sem.run_bind,newVar,s1,Result.andThen_ok,Sem.run_pure]
 case build t parts=>exact .eH (RQ hr he hc h)
 case buildSlice t len parts=>exact .eH (RS hr hlim hfr he hc h)
 case load t a=>
  simp only [dg] at hc
  split at hc <;>simp at hc
  rename_i g a' h1 h2
  subst hc
  obtain ⟨h3,rfl⟩:=fk h
  obtain ⟨p,v',e1,e2,e3⟩:=IF (P:=P) hr h1 (he _ _ h2) h3
  refine .eH (.same hr (v':=v') ?_ e3)
  simp only [Instr.loadAt,e1,Instr.sureAddr,Sem.run_bind,Sem.run_pure,Result.andThen_ok,e2]
 case store t a x=>
  simp only [dg] at hc
  split at hc <;>simp at hc
  rename_i n a' x' h1 h2 h3
  subst hc
  simp only [step,Option.map_eq_some_iff] at h
  obtain ⟨H1,h4,h5⟩:=h
  simp at h5;obtain ⟨rfl,rfl⟩:=h5
  obtain ⟨w',q1,q2⟩:=Rh (P:=P) hr hl h1 (he _ _ h2) (he _ _ h3) h4
  exact .CZ hr q1 q2
 case nilCheck x=>
  simp only [dg] at hc
  split at hc
  ·obtain ⟨y,hy,rfl⟩:=mh (o:=none) hc
   have r1:=he _ _ hy
   simp only [step] at h
   split at h
   ·rename_i f a b hf
    simp at h;obtain ⟨rfl,rfl⟩:=h
    rw [hf] at r1
    simp only [Go.execOp]
    generalize ev' x=cv at r1
    have r2:=r1
    cases r1
    exact .value hr r2
   ·rename_i name t v0 hm
    split at h <;>simp at h
    rename_i hin
    obtain ⟨rfl,rfl⟩:=h
    rw [hm] at r1
    obtain ⟨f,hf⟩:=Sg hin
    simp only [Go.execOp]
    generalize ev' x=cv at r1
    have r2:=r1
    cases r1 with
    | lW h0=>
     have hn:=fun (v':Value)=>Se hf (P.types.size+99) v' w
     refine ⟨_,w,ρ,?_,.refl hr,.inl ⟨_,rfl,r2⟩⟩
     simp only [List.getElem?_toArray,List.getElem?_cons_zero,Sem.run_bind,run_program,Result.andThen_ok,show P.types.size+Made.depth=P.types.size+99+1 from rfl,hn,bne_self_eq_false,Bool.false_eq_true,if_false,Sem.run_pure]
   ·simp at h
  ·obtain ⟨y,hy,rfl⟩:=mh (o:=none) hc
   have r1:=he _ _ hy
   simp only [step] at h
   split at h <;>simp at h
   rename_i a ha
   obtain ⟨rfl,rfl⟩:=h
   rw [ha] at r1
   simp only [Go.execOp]
   generalize ev' x=cv at r1
   have r2:=r1
   cases r1
   exact .value hr r2
 case binOp op t x y yt=>
  simp only [dg] at hc
  split at hc
  ·rename_i x' y' h1 h2
   exact .eH (Rt hr h1 h2 hc (he _ _ h1) (he _ _ h2) h)
  ·simp at hc
 case unOp op t x=>
  obtain ⟨y,hy,rfl⟩:=mh (o:=none) hc
  obtain ⟨h1,rfl⟩:=fk h
  unfold fE at h1
  split at h1
  ·rename_i u hu
   obtain ⟨v',q1,q2⟩:=IC (P:=P) h1 ρ w
   rw [←toV_rel (he _ _ hy) hu] at q1
   exact .eH (.same hr q1 q2)
  ·simp at h1
 case convert src dst x=>
  simp only [dg] at hc
  split at hc
  ·rename_i k1 k2 y h1 h2 h3
   simp at hc;subst hc
   have r1:=he _ _ h3
   simp only [step] at h
   split at h <;>simp at h
   rename_i k n hy
   obtain ⟨rfl,rfl⟩:=h
   rw [hy] at r1
   simp only [Go.execOp]
   generalize ev' x=cv at r1
   cases r1
   refine .eH (.same hr (v':= .int k2 (k2.wrap n)) ?_ (.int _ _))
   simp only [convert,Sem.run_bind,bL h1,bL h2,Result.andThen_ok,Conv.intToInt,Sem.run_pure]
  ·rename_i y h1 h2 h3
   simp at hc;subst hc
   have r1:=he _ _ h3
   simp only [step] at h
   split at h <;>simp at h
   rename_i s hy
   obtain ⟨rfl,rfl⟩:=h
   rw [hy] at r1
   simp only [Go.execOp]
   generalize ev' x=cv at r1
   cases r1 with | str hs=>
   refine .eH (.same hr (v':= .string _) ?_ (.str hs))
   simp only [convert,Sem.run_bind,bL h1,bL h2,Result.andThen_ok,Sem.run_pure]
  ·rename_i e y h1 h2 h3
   split at hc <;>simp at hc
   rename_i C0
   subst hc
   obtain ⟨s,e1,e2⟩:=RL (P:=P) (lim:=lim) hr hlim (hfr (by
    simp only [step,jT] at h
    split at h
    ·split at h <;>simp at h
     rw [←h.2,ah.bK];omega
    ·simp at h)) e (he _ _ h3) h
   have hu:P.underlying e=some (.int .u8):=C0
   obtain ⟨v',w',ρ',q1,q2,q3⟩:=e2
   refine .eH ⟨v',w',ρ',?_,q2,q3⟩
   simp only [convert,e1,Sem.run_bind,bL h1,bL h2,bL hu,Result.andThen_ok,q1]
  ·rename_i e y h1 h2 h3
   split at hc <;>simp at hc
   rename_i C0
   subst hc
   obtain ⟨h4,rfl⟩:=fk h
   have hu:P.underlying e=some (.int .u8):=C0
   have hx:=he _ _ h3
   obtain ⟨v',w',ρ',q1,q2,q3⟩:=RK (P:=P) (lim:=lim) hr hx h4
   refine .eH ⟨v',w',ρ',?_,q2,q3⟩
   have eM:∃a n c,ev' x= .slice a n c:=by
    generalize ev y=A at hx h4
    unfold e8 at h4
    split at h4
    ·obtain ⟨a,c,e,_⟩:=rN hx;exact ⟨_,_,_,e⟩
    ·obtain ⟨a,c,e,_⟩:=rN hx;exact ⟨_,_,_,e⟩
    ·simp at h4
   obtain ⟨a,n,c,eM⟩:=eM
   rw [eM] at q1 ⊢
   simp only [convert,Sem.run_bind,bL h1,bL h2,bL hu,Result.andThen_ok,q1]
  ·simp at hc
 case makeInterface t x=>
  simp only [dg] at hc
  split at hc
  ·simp at hc
  ·rename_i d y hn h1 h2
   simp at hc;subst hc
   simp [step] at h;obtain ⟨rfl,rfl⟩:=h
   refine .eH (.same hr (v':= .iface t (ev' x)) ?_ (.iface (he _ _ h2)))
   simp only [Instr.makeInterface,Sem.run_bind,bL h1,Result.andThen_ok]
   cases d <;>first | rfl | exact absurd h1 (hn _)
  ·simp at hc
 case makeFunc fn first captured=>
  cases fn <;>simp only [dg] at hc <;>try (simp at hc;done)
  case method name=>
   split at hc
   case h_2=>simp at hc
   rename_i x h1 h2
   obtain ⟨y,hy,rfl⟩:=mh (o:=none) hc
   simp only [step] at h
   split at h <;>simp at h
   rename_i t v0 hv
   obtain ⟨rfl,rfl⟩:=h
   have r1:=he _ _ hy
   rw [hv] at r1
   obtain ⟨x',e1,r2⟩:=r1.Jp
   have CP:first= #[x]:=by
    have:=congrArg List.toArray h1;simpa using this
   have hcap:captured= #[]:=by
    have:=congrArg List.toArray h2;simpa using this
   subst CP hcap
   refine .eH (.same hr (v':= .func (.method name) #[.iface t x'] #[]) ?_ (.lW r2))
   simp only [Instr.makeFunc,List.map_toArray,List.map_cons,List.map_nil,e1,Sem.run_pure]
  rename_i f
  split at hc <;>simp at hc
  rename_i a b h1 h2
  subst hc
  simp [step] at h;obtain ⟨rfl,rfl⟩:=h
  exact .eH (.same hr (v':= .func (.func f) (first.map ev') (captured.map ev')) rfl (aJ.Iw (by simpa using tN he h1) (by simpa using tN he h2)))
 case makeSlice t l c=>
  simp only [dg] at hc
  split at hc
  ·rename_i e l' c' h1 h2 h3
   split at hc
   ·rename_i z i hz hi
    split at hc <;>simp at hc
    rename_i hpos
    subst hc
    refine .eH (RH hr hlim (hfr ?_) h1 hi hz (he _ _ h2) (he _ _ h3) hpos h)
    simp only [step,pW] at h
    split at h
    ·split at h <;>simp at h
     rw [←h.2,ah.bK];omega
    ·simp at h
   ·simp at hc
  ·simp at hc
 case slice t x lo hi mx=>
  simp only [dg] at hc
  split at hc
  ·rename_i x' lo' hi' kO h1 h2 h3 h4
   split at hc
   ·rename_i e hu
    simp at hc
    obtain ⟨s,hs,rfl⟩:=hc
    obtain ⟨h5,rfl⟩:=fk h
    exact .eH (RA hr hu hs (he _ _ h1) (ql he h2) (ql he h3) (ql he h4) h5)
   ·rename_i hu
    split at hc <;>simp at hc
    rename_i nA
    subst hc
    obtain ⟨h5,rfl⟩:=fk h
    have:mx=none:=by
     cases mx with
     | none=>rfl
     | some z=>simp [nh] at h4;obtain ⟨q,_,rfl⟩:=h4;simp at nA
    subst this
    exact .eH (RB hr hu (he _ _ h1) (ql he h2) (ql he h3) h5)
   ·rename_i n e hu
    simp at hc
    obtain ⟨s,hs,rfl⟩:=hc
    obtain ⟨h5,rfl⟩:=fk h
    exact .eH (RC hr hu hs (he _ _ h1) (ql he h2) (ql he h3) (ql he h4) h5)
   ·simp at hc
  ·simp at hc
 case fieldAddr s x f=>
  simp only [dg] at hc
  split at hc
  ·rename_i fs y hu hy
   split at hc
   ·rename_i fd C1
    split at hc
    ·rename_i z hz
     split at hc <;>simp at hc
     rename_i hz0
     subst hc
     have r1:=he _ _ hy
     simp only [step] at h
     split at h <;>simp at h
     rename_i b o hb
     obtain ⟨rfl,rfl⟩:=h
     rw [hb] at r1
     simp only [Go.execOp]
     generalize ev' x=cv at r1
     cases r1 with | ptr hρ=>
     rename_i L
     refine .eH (.same hr (v':= .pointer (some ⟨L.blk,L.d+o+fd.offset,none⟩)) ?_ (by rw [Nat.add_assoc];exact .ptr hρ))
     simp only [Instr.fieldAt,Sem.run_bind,bL hu,Result.andThen_ok,C1,Instr.sureAddr,Sem.run_pure,fieldPlace,gG hz,hz0,if_false,add_eq]
    ·simp at hc
   ·simp at hc
  ·simp at hc
 case field t x f=>
  simp only [dg] at hc
  split at hc
  ·rename_i fs y hu hy
   split at hc
   ·rename_i fd C1
    simp at hc
    obtain ⟨g,hg,rfl⟩:=hc
    have r1:=he _ _ hy
    simp only [step] at h
    split at h
    ·rename_i cs hcs
     obtain ⟨h5,rfl⟩:=fk h
     rw [hcs] at r1
     obtain ⟨c,e1,e2⟩:=r1.qc
     obtain ⟨v',q1,q2⟩:=IG (P:=P) fd.type hg e2 h5 w
     refine .eH (.same hr (v':=v') ?_ q2)
     simp only [Instr.field,Sem.run_bind,bL hu,Result.andThen_ok,C1,e1,asAgg,Sem.run_pure,q1]
    ·simp at h
   ·simp at hc
  ·simp at hc
 case indexAddr t x i=>
  simp only [dg] at hc
  split at hc
  ·rename_i e y z hu h1 h2
   simp at hc
   obtain ⟨s,hs,rfl⟩:=hc
   obtain ⟨h5,rfl⟩:=fk h
   exact .eH (IZ (arr:=none) hr hu hs (he _ _ h1) (he _ _ h2) h5)
  ·rename_i n e y z hu h1 h2
   simp at hc
   obtain ⟨s,hs,rfl⟩:=hc
   obtain ⟨h5,rfl⟩:=fk h
   exact .eH (IZ (arr:=some n) hr hu hs (he _ _ h1) (he _ _ h2) h5)
  ·simp at hc
 case index t x i=>
  simp only [dg] at hc
  split at hc
  ·rename_i n e y z hu h1 h2
   split at hc
   ·rename_i g s hg hs
    simp at hc;subst hc
    obtain ⟨h5,rfl⟩:=fk h
    exact .eH (RD hr hu hs hg (he _ _ h1) (he _ _ h2) h5)
   ·simp at hc
  ·rename_i y z hu h1 h2
   simp at hc;subst hc
   obtain ⟨h5,rfl⟩:=fk h
   exact .eH (RE hr hu (he _ _ h1) (he _ _ h2) h5)
  ·simp at hc
 case extract x i=>
  obtain ⟨y,hy,rfl⟩:=mh (o:=none) hc
  have r1:=he _ _ hy
  simp only [step] at h
  split at h
  ·rename_i vs hvs
   obtain ⟨h5,rfl⟩:=fk h
   rw [hvs] at r1
   obtain ⟨c,e1,e2⟩:=r1.Q8
   obtain ⟨v',q1,q2⟩:=e2.get h5
   have C2:c[i]? =some v':=by simpa using q1
   refine .eH (.same hr (v':=v') ?_ q2)
   simp only [Instr.extract,e1,C2,Sem.run_pure]
  ·simp at h
 case call c=>
  simp only [dg] at hc
  split at hc
  ·rename_i ys hys
   split at hc
   ·simp at hc;subst hc;simp [bG.jF] at iC
   ·simp at hc
    obtain ⟨y,_,rfl⟩:=hc
    simp [bG.jF] at iC
   ·rename_i b hb
    have:=Sd (P:=P) (type:=type) (consts:=c.args.map fun | .const _=>true | _=>false) hr hl hlim hfr he hys hc h
    obtain ⟨x,w',ρ',q1,q2,q3⟩:=this
    refine ⟨x,w',ρ',?_,q2,q3⟩
    simp only [Go.execOp,resolve,hb,Sem.run_bind,Sem.run_pure,Result.andThen_ok,invoke]
    exact q1
   ·simp at hc
    obtain ⟨y,_,rfl⟩:=hc
    simp [bG.jF] at iC
  ·simp at hc
 case makeMap t hint=>
  simp only [dg] at hc
  split at hc <;>simp at hc
  rename_i kt e hint' hu hh
  subst hc
  simp only [step] at h
  split at h <;>simp at h
  rename_i hok
  obtain ⟨rfl,rfl⟩:=h
  have bU:(match hint'.map ev,hint.map ev' with | none,none=>True | some x,some x'=>aJ ρ x x' | _,_=>False):=by
   cases hint with
   | none=>simp [nh] at hh;subst hh;trivial
   | some x=>
    simp [nh] at hh
    obtain ⟨y,hy,rfl⟩:=hh
    exact he _ _ hy
  exact .eH (R9 hr hlim (hfr (by rw [ah.bK];omega)) hu bU hok)
 case lookup t m k ok=>
  simp only [dg] at hc
  split at hc
  ·rename_i kt e m' k' hu h1 h2
   split at hc <;>simp at hc
   rename_i q z hq hz
   subst hc
   obtain ⟨h5,rfl⟩:=fk h
   exact .eH (R2 hr hu hq hz (he _ _ h1) (he _ _ h2) h5)
  ·simp at hc
 case mapEntry t m k=>
  simp only [dg] at hc
  split at hc
  ·rename_i kt e m' k' hu h1 h2
   split at hc <;>simp at hc
   rename_i q z hq hz
   subst hc
   exact .eH (R5 hr hl hu hq hz (he _ _ h1) (he _ _ h2) h)
  ·simp at hc
 case entryStore t m s x=>
  simp only [dg] at hc
  split at hc
  ·rename_i kt e m' s' x' hu h1 h2 h3
   rw [Option.map_eq_some_iff] at hc
   obtain ⟨⟨g,ls⟩,hq,rfl⟩:=hc
   simp only [step,Option.map_eq_some_iff] at h
   obtain ⟨H1,h4,h5⟩:=h
   simp at h5;obtain ⟨rfl,rfl⟩:=h5
   obtain ⟨w',q1,q2⟩:=R6 (t:=t) hr hl (he _ _ h1) (he _ _ h2) (he _ _ h3) h4
   exact .CZ hr q1 q2
  ·simp at hc
 case mapUpdate t m k x=>
  simp only [dg] at hc
  split at hc
  ·rename_i kt e m' k' x' hu h1 h2 h3
   rw [Option.map_eq_some_iff] at hc
   obtain ⟨⟨g,ls⟩,hq,rfl⟩:=hc
   simp only [step,Option.map_eq_some_iff] at h
   obtain ⟨H1,h4,h5⟩:=h
   simp at h5;obtain ⟨rfl,rfl⟩:=h5
   obtain ⟨w',q1,q2⟩:=R4 hr hl hu hq (he _ _ h1) (he _ _ h2) (he _ _ h3) h4
   exact .CZ hr q1 q2
  ·simp at hc
 case range t m=>
  simp only [dg] at hc
  split at hc
  ·obtain ⟨y,hy,rfl⟩:=mh (o:=none) hc
   simp [step] at h
  ·simp at hc
 case next it s=>
  simp only [dg] at hc
  split at hc
  ·simp at hc
  ·obtain ⟨y,hy,rfl⟩:=mh (o:=none) hc
   simp [step] at h
 case entry it=>
  obtain ⟨y,hy,rfl⟩:=mh (o:=none) hc
  simp [step] at h
 case panic x=>
  simp [dg] at hc;subst hc
  simp [step] at h
 all_goals (simp [dg] at hc)
end
end Go.au
end
section
set_option linter.unusedSimpArgs false
set_option linter.unusedVariables false
set_option linter.unusedSectionVars false
namespace Go.au
variable [Gl]
def nE (R:aq):Prop:=
  ∀lim f args H v H',lim≤H.next→R lim f args H=some (v,H')→H.next≤H'.next∧ ∀b,b <lim→H'.get b=H.get b
section
variable {R:aq} {lim:Nat} {ev qu:aP→aa} {H H':ah} {v:aa}
theorem oC (x:dB) (hl:lim≤H.next):H.next≤(H.push x).next∧ ∀b,b <lim→(H.push x).get b=H.get b:=
  ⟨by rw [ah.bK];omega,fun b hb=>ah.gi _ _ _ (by omega)⟩
theorem oD (x:dB) {c:Nat} (hc:lim≤c):H.next≤(H.set c x).next∧ ∀b,b <lim→(H.set c x).get b=H.get b:=
  ⟨Nat.le_refl _,fun b hb=>ah.eD _ _ _ _ (by omega)⟩
theorem mj:H.next≤H.next∧ ∀b,b <lim→H.get b=H.get b:=⟨Nat.le_refl _,fun _ _=>rfl⟩
theorem Sj {zero:List aa} {bytes:Nat} {zeros:Bool} {s x:aa} (hl:lim≤H.next) (h:fO lim H zero bytes zeros s x=some (v,H')):H.next≤H'.next∧ ∀b,b <lim→H'.get b=H.get b:=by
  simp only [fO,Option.bind_eq_bind,Option.bind_eq_some_iff] at h
  obtain ⟨⟨m,new⟩,_,h⟩:=h
  simp only at h
  split at h
  · simp at h
  split at h
  case h_2=>simp at h
  split at h
  · simp at h;obtain ⟨rfl,rfl⟩:=h;exact mj
  split at h
  · simp at h
  split at h
  · split at h <;>simp at h
    obtain ⟨rfl,rfl⟩:=h;exact oC _ hl
  · simp only [Option.bind_eq_some_iff] at h
    obtain ⟨cs,_,h⟩:=h
    split at h
    · split at h <;>simp at h
      rename_i hc
      obtain ⟨rfl,rfl⟩:=h;exact oD _ hc.1
    · simp only [Option.bind_eq_some_iff] at h
      obtain ⟨old,_,h⟩:=h
      split at h <;>simp at h
      obtain ⟨rfl,rfl⟩:=h;exact oC _ hl
  · simp only [Option.bind_eq_some_iff] at h
    obtain ⟨cs,_,h⟩:=h
    split at h
    case isFalse=>simp at h
    rename_i hc
    split at h
    · simp at h;obtain ⟨rfl,rfl⟩:=h;exact oD _ hc.1
    · split at h <;>simp at h
      obtain ⟨rfl,rfl⟩:=h
      obtain ⟨a1,a2⟩:=oD (H:=H) .dead hc.1
      obtain ⟨b1,b2⟩:=oC (H:=H.set _ .dead) _ hl
      exact ⟨Nat.le_trans a1 b1,fun b hb=>(b2 b hb).trans (a2 b hb)⟩
  · simp at h
theorem Sk {sz:Nat} {d s:aa} (h:nW lim H sz d s=some (v,H')):H.next≤H'.next∧ ∀b,b <lim→H'.get b=H.get b:=by
  unfold nW at h
  split at h
  case h_2=>simp at h
  simp only [Option.bind_eq_bind,Option.bind_eq_some_iff] at h
  obtain ⟨⟨m,new⟩,_,h⟩:=h
  simp only at h
  split at h
  · simp at h;obtain ⟨rfl,rfl⟩:=h;exact mj
  · split at h
    case h_2=>simp at h
    simp only [Option.bind_eq_some_iff] at h
    obtain ⟨cs,_,h⟩:=h
    split at h <;>simp at h
    rename_i hc
    obtain ⟨rfl,rfl⟩:=h;exact oD _ hc.1
theorem Sm {n:Nat} {a x:aa} (h:bp lim H n a x=some H'):H.next≤H'.next∧ ∀b,b <lim→H'.get b=H.get b:=by
  unfold bp at h
  split at h
  · split at h
    · split at h <;>simp at h
      rename_i hc
      subst h;exact oD _ hc.1
    · simp at h
  · simp at h
theorem Sn {g:Bool} {ls:List bE} {m k x:aa} (h:lp lim H g ls m k x=some H'):H.next≤H'.next∧ ∀b,b <lim→H'.get b=H.get b:=by
  unfold lp at h
  split at h
  · split at h
    · split at h <;>simp at h
      rename_i hc
      subst h;exact oD _ hc.1
    · simp at h
  · simp at h
theorem Sp {g:Bool} {ls:List bE} {z m k:aa} (h:vo lim H g ls z m k=some (v,H')):H.next≤H'.next∧ ∀b,b <lim→H'.get b=H.get b:=by
  unfold vo at h
  split at h
  · split at h
    · split at h
      · rename_i hc
        split at h
        · split at h <;>simp at h
          obtain ⟨_,rfl⟩:=h
          exact ⟨Nat.le_refl _,fun b hb=>ah.eD _ _ _ _ (by have:=hc.1;omega)⟩
        · simp at h
          obtain ⟨_,rfl⟩:=h
          exact ⟨Nat.le_refl _,fun b hb=>ah.eD _ _ _ _ (by have:=hc.1;omega)⟩
      · simp at h
    · simp at h
  · simp at h
theorem Sq {g:Bool} {ls:List bE} {m s x:aa} (h:vp lim H g ls m s x=some H'):H.next≤H'.next∧ ∀b,b <lim→H'.get b=H.get b:=by
  unfold vp at h
  split at h
  · split at h
    · split at h
      · split at h <;>simp at h
        rename_i hc
        subst h
        exact ⟨Nat.le_refl _,fun b hb=>ah.eD _ _ _ _ (by have:=hc.1;omega)⟩
      · simp at h
    · simp at h
  · simp at h
theorem Sr {g:Bool} {ls:List bE} {m k:aa} (h:pX lim H g ls m k=some H'):H.next≤H'.next∧ ∀b,b <lim→H'.get b=H.get b:=by
  unfold pX at h
  split at h
  · split at h <;>simp at h
    subst h;exact mj
  · split at h
    · split at h <;>simp at h
      rename_i hc
      subst h;exact oD _ hc.1
    · simp at h
  · simp at h
theorem Ss {m:aa} (h:vq lim H m=some H'):H.next≤H'.next∧ ∀b,b <lim→H'.get b=H.get b:=by
  unfold vq at h
  split at h
  · simp at h;subst h;exact mj
  · split at h
    · split at h <;>simp at h
      rename_i hc
      subst h;exact oD _ hc
    · simp at h
  · simp at h
theorem Su {z:List aa} {x:aa} (h:vr lim H z x=some H'):H.next≤H'.next∧ ∀b,b <lim→H'.get b=H.get b:=by
  unfold vr at h
  split at h
  · split at h <;>simp at h
    subst h;exact mj
  · split at h
    · simp at h;subst h;exact mj
    · split at h
      · split at h <;>simp at h
        rename_i hc
        subst h;exact oD _ hc.1
      · simp at h
  · simp at h
theorem Sv (hR:nE R) (hl:lim≤H.next) {cI:bG} (h:step R lim ev H cI=some (v,H')):H.next≤H'.next∧ ∀b,b <lim→H'.get b=H.get b:=by
  have hv:∀{o:Option aa},val H o=some (v,H')→H.next≤H'.next∧ ∀b,b <lim→H'.get b=H.get b:=fun h=>by
    obtain ⟨_,rfl⟩:=fk h;exact mj
  cases cI
  case alloc z=>simp [step] at h;obtain ⟨rfl,rfl⟩:=h;exact oC _ hl
  case box x=>
    simp only [step] at h
    split at h <;>simp at h
    obtain ⟨rfl,rfl⟩:=h;exact oC _ hl
  case buildSlice z n ps=>
    simp only [step,Option.map_eq_some_iff] at h
    obtain ⟨cs,_,h⟩:=h
    simp at h;obtain ⟨rfl,rfl⟩:=h;exact oC _ hl
  case store n a x=>
    simp only [step,Option.map_eq_some_iff] at h
    obtain ⟨H1,h1,h⟩:=h
    simp at h;obtain ⟨rfl,rfl⟩:=h;exact Sm h1
  case jT x=>
    simp only [step,jT] at h
    split at h
    · split at h <;>simp at h
      obtain ⟨rfl,rfl⟩:=h;exact oC _ hl
    · simp at h
  case makeSlice z b l c=>
    simp only [step,pW] at h
    split at h
    · split at h <;>simp at h
      obtain ⟨rfl,rfl⟩:=h;exact oC _ hl
    · simp at h
  case append z b zs s x=>exact Sj hl h
  case makeMap hint=>
    simp only [step] at h
    split at h <;>simp at h
    obtain ⟨rfl,rfl⟩:=h;exact oC _ hl
  case mapUpdate g ls m k x=>
    simp only [step,Option.map_eq_some_iff] at h
    obtain ⟨H1,h1,h⟩:=h
    simp at h;obtain ⟨rfl,rfl⟩:=h;exact Sn h1
  case tC g ls z m k=>exact Sp h
  case rF g ls m s x=>
    simp only [step,Option.map_eq_some_iff] at h
    obtain ⟨H1,h1,h⟩:=h
    simp at h;obtain ⟨rfl,rfl⟩:=h;exact Sq h1
  case vh g ls m k=>
    simp only [step,Option.map_eq_some_iff] at h
    obtain ⟨H1,h1,h⟩:=h
    simp at h;obtain ⟨rfl,rfl⟩:=h;exact Sr h1
  case vk m=>
    simp only [step,Option.map_eq_some_iff] at h
    obtain ⟨H1,h1,h⟩:=h
    simp at h;obtain ⟨rfl,rfl⟩:=h;exact Ss h1
  case vm z x=>
    simp only [step,Option.map_eq_some_iff] at h
    obtain ⟨H1,h1,h⟩:=h
    simp at h;obtain ⟨rfl,rfl⟩:=h;exact Su h1
  case copy sz d s=>exact Sk h
  case call f args=>exact hR _ _ _ _ _ _ hl h
  case m6 x args=>
    simp only [step] at h
    split at h
    · exact hR _ _ _ _ _ _ hl h
    · exact hR _ _ _ _ _ _ hl h
    · simp at h
  case invoke tab x args=>
    simp only [step] at h
    split at h
    · split at h
      · exact hR _ _ _ _ _ _ hl h
      · simp at h
    · simp at h
  case nilFn tab x=>
    simp only [step] at h
    split at h
    · simp at h;obtain ⟨rfl,rfl⟩:=h;exact mj
    · split at h <;>simp at h
      obtain ⟨rfl,rfl⟩:=h;exact mj
    · simp at h
  all_goals
    simp only [step] at h
    first
      | exact hv h
      | (simp at h;obtain ⟨rfl,rfl⟩:=h;exact mj)
      | (split at h
         · first
             | exact hv h
             | (simp at h;obtain ⟨rfl,rfl⟩:=h;exact mj)
         · simp at h)
      | (simp at h;done)
theorem Jq {cI:bG} (hp:cI.pure=true) (h:step R lim ev H cI=some (v,H')):H'=H∧ ∀(dm:Nat) (H2:ah),step R dm ev H2 cI=some (v,H2):=by
  have hv:∀{o:Option aa},val H o=some (v,H')→H'=H∧ ∀(dm:Nat) (H2:ah),val H2 o=some (v,H2):=fun h=>by
    obtain ⟨h1,rfl⟩:=fk h;exact ⟨rfl,fun _ _=>by simp [val,h1]⟩
  cases cI <;>simp [bG.pure] at hp
  case nilFn tab x=>
    simp only [step] at h ⊢
    split at h
    · simp at h;obtain ⟨rfl,rfl⟩:=h;exact ⟨rfl,fun _ _=>rfl⟩
    · split at h
      · rename_i hin
        simp at h;obtain ⟨rfl,rfl⟩:=h;exact ⟨rfl,fun _ _=>by rw [if_pos hin]⟩
      · simp at h
    · simp at h
  all_goals
    simp only [step] at h ⊢
    first
      | exact hv h
      | (simp at h;obtain ⟨rfl,rfl⟩:=h;exact ⟨rfl,fun _ _=>rfl⟩)
      | (split at h
         · first
             | exact hv h
             | (simp at h;obtain ⟨rfl,rfl⟩:=h;exact ⟨rfl,fun _ _=>rfl⟩)
         · simp at h)
      | (simp at h;done)
theorem C3:∀(ps:List (Nat × Nat × aP)) (cs:List aa),(∀x∈ps.map (fun p=>p.2.2),ev x=qu x)→jo ev cs ps=jo qu cs ps
  | [],cs,_=>rfl
  | (off,size,x)::ps,cs,h=>by
    have h1:=h x (by simp)
    simp only [jo,h1]
    split
    · exact C3 ps _ fun y hy=>h y (by simp at hy ⊢;exact .inr hy)
    · rfl
theorem tS {xs:List aP} (h:∀x∈xs,ev x=qu x):xs.map ev=xs.map qu:=List.map_congr_left h
theorem oF {x:Option aP} (h:∀y∈x.toList,ev y=qu y):x.map ev=x.map qu:=by
  cases x with
  | none=>rfl
  | some y=>simp [h y (by simp)]
theorem Sw {cI:bG} (h:∀x∈cI.zk,ev x=qu x):step R lim ev H cI=step R lim qu H cI:=by
  cases cI <;>simp only [bG.zk] at h <;>simp only [step]
  case build z ps=>rw [C3 ps z h]
  case buildSlice z n ps=>rw [C3 ps z h]
  case rE f xs ys=>rw [tS fun x hx=>h x (by simp [hx]),tS fun x hx=>h x (by simp [hx])]
  case slice sz x lo hi mx=>rw [h x (by simp),oF fun y hy=>h y (by simp [hy]),oF fun y hy=>h y (by simp [hy]),oF fun y hy=>h y (by simp [hy])]
  case iV n sz x lo hi mx=>rw [h x (by simp),oF fun y hy=>h y (by simp [hy]),oF fun y hy=>h y (by simp [hy]),oF fun y hy=>h y (by simp [hy])]
  case dP x lo hi=>rw [h x (by simp),oF fun y hy=>h y (by simp [hy]),oF fun y hy=>h y (by simp [hy])]
  case call f xs=>rw [tS h]
  case kr m xs=>rw [tS h]
  case m6 x xs=>rw [h x (by simp),tS fun y hy=>h y (by simp [hy])]
  case invoke tab x xs=>rw [h x (by simp),tS fun y hy=>h y (by simp [hy])]
  case pick a b c=>rw [h a (by simp),h b (by simp),h c (by simp)]
  case makeMap hint=>rw [oF fun y hy=>h y (by simp at hy ⊢;exact hy)]
  case mapUpdate g ls m k x=>rw [h m (by simp),h k (by simp),h x (by simp)]
  case rF g ls m k x=>rw [h m (by simp),h k (by simp),h x (by simp)]
  all_goals (first | rfl | (simp only [List.mem_cons,List.not_mem_nil,or_false,forall_eq,forall_eq_or_imp] at h;simp only [h]))
end
end Go.au
end
