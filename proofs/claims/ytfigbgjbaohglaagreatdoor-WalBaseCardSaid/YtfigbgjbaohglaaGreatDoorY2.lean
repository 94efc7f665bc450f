/- Parts of the proof. -/
import Derived.Test.YtfigbgjbaohglaaGreatDoorY1
import Derived.ChangeKeysEq
import Derived.Laws.Append
section
set_option linter.unusedSimpArgs false
set_option linter.unusedVariables false
set_option linter.unusedSectionVars false
namespace Go.au
variable [Gl]
def gH (P:Program) (t:TypeId) (a9as:List Value):Value:=
 match P.underlying t with
 | some (.struct _) | some (.array _ _)=> .agg a9as.toArray
 | _=>a9as.headD undef
section
variable {P:Program}
theorem tI {t:TypeId} {d:TypeDesc} {n off:Nat} {cs:Array Value} (hu:P.underlying t=some d) (hn:cZ P t=some n) (hle:off+n≤cs.size)
  (h1:(∀fs,d≠ .struct fs)→(∀k e,d≠ .array k e)→n=1) (w:World):(part t cs off).run P w= .ok (gH P t ((cs.toList.drop off).take n)) w:=by
 unfold part gH
 simp only [Sem.run_bind,zA hu,Result.andThen_ok,hu]
 have dR:cs.extract off (off+n)=((cs.toList.drop off).take n).toArray:=by
  apply Array.ext'
  simp [Array.toList_extract,List.extract_eq_take_drop]
 cases d
 case struct fs=>simp [gG hn,dR]
 case array k e=>simp [gG hn,dR]
 all_goals
  have hn1:n=1:=h1 (fun _=>by simp) (fun _ _=>by simp)
  subst hn1
  have hlt:off <cs.size:=by omega
  simp only [Bool.false_eq_true,if_false,Array.getElem?_eq_getElem hlt]
  have hlt':off <cs.toList.length:=by simpa using hlt
  rw [List.drop_eq_getElem_cons hlt']
  simp
theorem aev:∀{d:Nat} {t:TypeId} {ls:List bE},fU P d t=some ls→cZ P t=some ls.length
 | 0,t,ls,h=>by simp [fU] at h
 | d+1,t,ls,h=>by
  unfold fU at h
  split at h
  ·split at h <;>simp at h;subst h;assumption
  ·split at h <;>simp at h;subst h;assumption
  ·split at h <;>simp at h;subst h;assumption
  ·split at h
   ·split at h <;>simp at h
    rename_i l _ hs
    rw [hs.2.1,←h];simp
   ·simp at h
  ·split at h
   ·simp at h
   ·split at h
    ·split at h <;>simp at h;subst h;assumption
    ·simp at h
  ·simp at h
theorem nw:∀{ls:List bE} {xs ys:List aa} {r:Bool},cm ls xs ys=some r→xs.length=ls.length∧ys.length=ls.length
 | [],[],[],r,h=>⟨rfl,rfl⟩
 | l::ls,x::xs,y::ys,r,h=>by
  unfold cm at h
  split at h
  ·rename_i a b h1 h2
   obtain ⟨e1,e2⟩:=nw h2
   simp [e1,e2]
  ·simp at h
 | [],[],_::_,r,h=>by simp [cm] at h
 | [],_::_,_,r,h=>by simp [cm] at h
 | _::_,[],_,r,h=>by simp [cm] at h
 | _::_,_::_,[],r,h=>by simp [cm] at h
theorem vM:∀{l1 l2:List bE} {xs ys:List aa} {r:Bool},cm (l1++l2) xs ys=some r→
  ∃r1 r2,cm l1 (xs.take l1.length) (ys.take l1.length)=some r1∧cm l2 (xs.drop l1.length) (ys.drop l1.length)=some r2∧r=(r1 && r2)
 | [],l2,xs,ys,r,h=>⟨true,r,by simp [cm],by simpa using h,by simp⟩
 | l::l1,l2,xs,ys,r,h=>by
  cases xs with
  | nil=>simp [cm] at h
  | cons x xs=>
   cases ys with
   | nil=>simp [cm] at h
   | cons y ys=>
    simp only [List.cons_append,cm] at h
    split at h
    ·rename_i a b h1 h2
     obtain ⟨r1,r2,e1,e2,e3⟩:=vM h2
     simp at h
     refine ⟨a && r1,r2,?_,by simpa using e2,by rw [←h,e3,Bool.and_assoc]⟩
     simp [cm,h1,e1]
    ·simp at h
def CB (P:Program) (dd:Nat) (t:TypeId) (ls:List bE):Prop:=
 ∀(xs ys:List aa) (r:Bool),cm ls xs ys=some r→ ∀(ρ:Mp) (a9as bs:List Value),az ρ xs a9as→az ρ ys bs→ ∀w,(Op.equalIn dd t (gH P t a9as) (gH P t bs)).run P w= .ok r w
theorem zB {d:Nat} {t:TypeId} {ls:List bE} (h:fU P d t=some ls):∃iZ,P.underlying t=some iZ∧((∀fs,iZ≠ .struct fs)→(∀k e,iZ≠ .array k e)→ls.length=1):=by
 cases d with
 | zero=>simp [fU] at h
 | succ d=>
  unfold fU at h
  split at h
  ·split at h <;>simp at h;subst h;exact ⟨_,by assumption,fun _ _=>rfl⟩
  ·split at h <;>simp at h;subst h;exact ⟨_,by assumption,fun _ _=>rfl⟩
  ·split at h <;>simp at h;subst h;exact ⟨_,by assumption,fun _ _=>rfl⟩
  ·exact ⟨_,by assumption,fun _ h2=>absurd rfl (h2 _ _)⟩
  ·exact ⟨_,by assumption,fun h1 _=>absurd rfl (h1 _)⟩
  ·simp at h
theorem ID {d dd:Nat} (ih:∀t ls,fU P d t=some ls→CB P dd t ls) {a9as bs:Array Value} {ρ:Mp}:∀(fs:List Field) (off:Nat) (ls:List bE),rH P (fU P d) off fs=some ls→
  ∀(xs ys:List aa) (r:Bool),cm ls xs ys=some r→az ρ xs (a9as.toList.drop off)→az ρ ys (bs.toList.drop off)→ ∀w,(Op.eqFields dd a9as bs fs).run P w= .ok r w
 | [],off,ls,h,xs,ys,r,hr,ha,hb,w=>by
  simp [rH] at h;subst h
  obtain ⟨e1,e2⟩:=nw hr
  have e1:xs=[]:=List.eq_nil_of_length_eq_zero e1
  have e2:ys=[]:=List.eq_nil_of_length_eq_zero e2
  subst e1 e2
  simp [cm] at hr;subst hr
  simp [Op.eqFields]
 | f::fs,off,ls,h,xs,ys,r,hr,ha,hb,w=>by
  unfold rH at h
  split at h
  ·rename_i l hl
   split at h
   ·rename_i hc
    obtain ⟨rfl,hsz,hnm,hpos⟩:=hc
    simp at h
    obtain ⟨ls',h1,h2⟩:=h
    subst h2
    obtain ⟨r1,r2,q1,q2,q3⟩:=vM hr
    obtain ⟨e1,e2⟩:=nw hr
    obtain ⟨iZ,hu,hsc⟩:=zB hl
    have la:=ha.1
    have lb:=hb.1
    simp at la lb e1 e2
    have hpa:=tI (off:=f.offset) (cs:=a9as) hu hsz (by omega) hsc w
    have hpb:=tI (off:=f.offset) (cs:=bs) hu hsz (by omega) hsc w
    have he:=ih f.type l hl _ _ _ q1 ρ _ _ (ha.take l.length) (hb.take l.length) w
    simp only [Op.eqFields,hnm,ne_eq,not_false_eq_true,if_true,Sem.run_bind,hpa,hpb,Result.andThen_ok,he]
    subst q3
    cases r1
    ·simp
    ·have CC:=ID ih fs (f.offset+l.length) ls' h1 _ _ _ q2 (by have:=ha.drop l.length;rwa [List.drop_drop] at this) (by have:=hb.drop l.length;rwa [List.drop_drop] at this) w
     simpa using CC
   ·simp at h
  ·simp at h
theorem IE {dd:Nat} {e:TypeId} {l:List bE} (hE:CB P dd e l) (hsz:cZ P e=some l.length) (hpos:0 <l.length) {iZ:TypeDesc} (hu:P.underlying e=some iZ)
  (hsc:(∀fs,iZ≠ .struct fs)→(∀k e,iZ≠ .array k e)→l.length=1) {a9as bs:Array Value} {ρ:Mp}:∀(n i:Nat) (xs ys:List aa) (r:Bool),
  cm (List.replicate n l).flatten xs ys=some r→az ρ xs (a9as.toList.drop (i * l.length))→az ρ ys (bs.toList.drop (i * l.length))→ ∀w,(Op.eqItems dd e l.length a9as bs (List.range' i n)).run P w= .ok r w
 | 0,i,xs,ys,r,hr,ha,hb,w=>by
  obtain ⟨e1,e2⟩:=nw hr
  have e1:xs=[]:=List.eq_nil_of_length_eq_zero e1
  have e2:ys=[]:=List.eq_nil_of_length_eq_zero e2
  subst e1 e2
  simp [cm] at hr;subst hr
  simp [Op.eqItems]
 | n+1,i,xs,ys,r,hr,ha,hb,w=>by
  simp only [List.replicate_succ,List.flatten_cons] at hr
  have hmul:(n+1) * l.length=n * l.length+l.length:=Nat.succ_mul _ _
  obtain ⟨r1,r2,q1,q2,q3⟩:=vM hr
  obtain ⟨e1,e2⟩:=nw hr
  have la:=ha.1
  have lb:=hb.1
  simp at la lb e1 e2
  have hpa:=tI (off:=i * l.length) (cs:=a9as) hu hsz (by omega) hsc w
  have hpb:=tI (off:=i * l.length) (cs:=bs) hu hsz (by omega) hsc w
  have he:=hE _ _ _ q1 ρ _ _ (ha.take l.length) (hb.take l.length) w
  simp only [List.range'_succ,Op.eqItems,Sem.run_bind,hpa,hpb,Result.andThen_ok,he]
  subst q3
  cases r1
  ·simp
  ·have CC:=IE hE hsz hpos hu hsc n (i+1) _ _ _ q2 (by have:=ha.drop l.length;rwa [List.drop_drop,←Nat.succ_mul] at this) (by have:=hb.drop l.length;rwa [List.drop_drop,←Nat.succ_mul] at this) w
   simpa using CC
theorem tJ {l:bE} {x y:aa} {r:Bool} (h:lg l x y=some r):
  (∃k a b,l= .int k∧x= .int k a∧y= .int k b∧r=(a==b))∨(∃a b,l= .bool∧x= .bool a∧y= .bool b∧r=(a==b))∨(∃a b,l= .str∧x= .str a∧y= .str b∧r=(a==b)):=by
 unfold lg at h
 split at h
 ·split at h
  ·rename_i hk;obtain ⟨rfl,rfl⟩:=hk;simp at h;exact .inl ⟨_,_,_,rfl,rfl,rfl,h.symm⟩
  ·simp at h
 ·simp at h;exact .inr (.inl ⟨_,_,rfl,rfl,rfl,h.symm⟩)
 ·simp at h;exact .inr (.inr ⟨_,_,rfl,rfl,rfl,h.symm⟩)
 ·simp at h
theorem CD {l:bE} {xs ys:List aa} {r:Bool} (h:cm [l] xs ys=some r):∃x y,xs=[x]∧ys=[y]∧lg l x y=some r:=by
 obtain ⟨e1,e2⟩:=nw h
 match xs,ys with
 | [x],[y]=>
  simp only [cm] at h
  split at h
  ·rename_i a b h1 h2
   simp at h2 h;subst h2
   exact ⟨x,y,rfl,rfl,by rw [h1];simpa using h⟩
  ·simp at h
theorem az.tK {ρ:Mp} {x:aa} {a9as:List Value} (h:az ρ [x] a9as):∃a,a9as=[a]∧aJ ρ x a:=by
 match a9as with
 | [a]=>exact ⟨a,rfl,h.head⟩
 | []=>have:=h.1;simp at this
 | _::_::_=>have:=h.1;simp at this
theorem zC:∀(d:Nat) (t:TypeId) (ls:List bE),fU P d t=some ls→ ∀dd,d≤dd→CB P dd t ls
 | 0,t,ls,h=>by simp [fU] at h
 | d+1,t,ls,h=>by
  intro dd jr xs ys r hr ρ a9as bs ha hb w
  obtain ⟨dd,rfl⟩:∃m,dd=m+1:=⟨dd - 1,by omega⟩
  unfold fU at h
  split at h
  ·rename_i k hu
   split at h <;>simp at h
   subst h
   obtain ⟨x,y,rfl,rfl,hl⟩:=CD hr
   obtain ⟨a,rfl,va⟩:=ha.tK
   obtain ⟨b,rfl,vb⟩:=hb.tK
   rcases tJ hl with ⟨k',a',b',e1,rfl,rfl,rfl⟩ | ⟨_,_,e1,_⟩ | ⟨_,_,e1,_⟩ <;>simp at e1
   subst e1
   cases va;cases vb
   simp [gH,hu,Op.equalIn,bL hu]
  ·rename_i hu
   split at h <;>simp at h
   subst h
   obtain ⟨x,y,rfl,rfl,hl⟩:=CD hr
   obtain ⟨a,rfl,va⟩:=ha.tK
   obtain ⟨b,rfl,vb⟩:=hb.tK
   rcases tJ hl with ⟨k',a',b',e1,_⟩ | ⟨_,_,e1,rfl,rfl,rfl⟩ | ⟨_,_,e1,_⟩ <;>simp at e1
   cases va;cases vb
   simp [gH,hu,Op.equalIn,bL hu]
  ·rename_i hu
   split at h <;>simp at h
   subst h
   obtain ⟨x,y,rfl,rfl,hl⟩:=CD hr
   obtain ⟨a,rfl,va⟩:=ha.tK
   obtain ⟨b,rfl,vb⟩:=hb.tK
   rcases tJ hl with ⟨k',a',b',e1,_⟩ | ⟨_,_,e1,_⟩ | ⟨_,_,e1,rfl,rfl,rfl⟩ <;>simp at e1
   cases va with | str h1=>cases vb with | str h2=>
   rename_i s1 s2
   have hb':=beq_toListBytes s1 s2
   rw [toList_data,toList_data,h1,h2] at hb'
   simp only [gH,hu,List.headD_cons,Op.equalIn,Sem.run_bind,bL hu,Result.andThen_ok,Sem.run_pure,hb']
  ·rename_i n e hu
   split at h
   ·rename_i l hl
    split at h <;>simp at h
    rename_i hs
    subst h
    obtain ⟨iZ,rL,hsc⟩:=zB hl
    have hE:=zC d e l hl dd (by omega)
    obtain ⟨i,hi⟩:∃i,P.info? e=some i:=by
     cases hi:P.info? e with
     | none=>simp [cZ,hi] at hs
     | some i=>exact ⟨i,rfl⟩
    have hc:P.cellsOf e=l.length:=by
     have:=hs.1
     simp [cZ,hi] at this
     simp [Program.cellsOf,hi,this]
    simp only [gH,hu]
    rw [run_equalIn_array w dd a9as.toArray bs.toArray hu hi,hc,List.range_eq_range']
    exact IE hE hs.1 hs.2.2 rL hsc n 0 xs ys r hr (by simpa using ha) (by simpa using hb) w
   ·simp at h
  ·rename_i fs hu
   split at h
   ·simp at h
   ·rename_i hst
    split at h
    ·rename_i l hl
     split at h <;>simp at h
     subst h
     have hf:P.fieldsOf t=fs:=by simp [Program.fieldsOf,hu]
     simp only [gH,hu]
     rw [run_equalIn_struct w dd t a9as.toArray bs.toArray (by rw [hf];exact hu) (by simpa using hst),hf]
     exact ID (fun t' ls' h'=>zC d t' ls' h' dd (by omega)) fs.toList 0 l hl xs ys r hr (by simpa using ha) (by simpa using hb) w
    ·simp at h
  ·simp at h
end
end Go.au
end
section
set_option linter.unusedSimpArgs false
set_option linter.unusedVariables false
set_option linter.unusedSectionVars false
namespace Go.au
variable [Gl]
def ny (P:Program) (n0 lim:Nat) (ρ:Mp) (H:ah) (w:World) (s:Sem Next) (v:aa) (H':ah):Prop:=
 ∃x w' ρ',s.run P w= .ok x w'∧Post P n0 lim ρ H w ρ' H' w'∧((∃v',x= .value v'∧aJ ρ' v v')∨(x= .skip∧v=bA))
def oy (ρ:Mp) (ev:aP→aa) (ev':Operand→Value):Prop:= ∀x x',bR x=some x'→aJ ρ (ev x') (ev' x)
section
variable {P:Program} {n0 lim:Nat} {ρ:Mp} {H H':ah} {w:World} {R:aq} {ev:aP→aa} {ev':Operand→Value} {v:aa}
theorem ny.eH {s:Sem Value} (h:dN P n0 lim ρ H w s v H'):ny P n0 lim ρ H w (do pure (.value (←s))) v H':=by
 obtain ⟨v',w',ρ',h1,h2,h3⟩:=h
 exact ⟨.value v',w',ρ',by simp [h1],h2,.inl ⟨v',rfl,h3⟩⟩
theorem ny.value (hr:Rel P n0 ρ H w) {v':Value} (hv:aJ ρ v v'):ny P n0 lim ρ H w (pure (.value v')) v H:=
 ⟨.value v',w,ρ,rfl,.refl hr,.inl ⟨v',rfl,hv⟩⟩
theorem fk {H:ah} {o:Option aa} {v:aa} {H':ah} (h:val H o=some (v,H')):o=some v∧H'=H:=by
 unfold val at h
 cases o <;>simp at h
 exact ⟨by rw [h.1],h.2.symm⟩
theorem vN {cs:List aa} {o n:Nat} {r:List aa} (h:cut cs o n=some r):o+n≤cs.length∧r=(cs.drop o).take n:=by
 unfold cut at h
 split at h <;>simp at h
 exact ⟨by assumption,h.symm⟩
theorem vO {v:aa} {v':Value} {n:Nat} (h:aJ ρ v v') (hn:kA v=some n):∃k i,v'= .int k i∧0≤i∧i.toNat=n:=by
 unfold kA at hn
 split at hn
 ·split at hn <;>simp at hn
  cases h
  exact ⟨_,_,rfl,by assumption,hn⟩
 ·simp at hn
theorem az.drop_take {ρ:Mp} {cs:List aa} {c:Array Value} {d:Nat} (h:az ρ cs ((c.toList.drop d).take cs.length)) {o n:Nat} (ho:o+n≤cs.length):
  az ρ ((cs.drop o).take n) ((c.toList.drop (d+o)).take n):=by
 have h1:=(h.drop o).take n
 rw [List.drop_take,List.drop_drop,List.take_take] at h1
 rwa [Nat.min_eq_left (by omega)] at h1
theorem IF (hr:Rel P n0 ρ H w) {t:TypeId} {g:Option Nat} (ht:ni P t=some g) {a:aa} {a':Value} (ha:aJ ρ a a') (h:aB H g a=some v):
  ∃p v',a'= .pointer (some p)∧(loadVar t p).run P w= .ok v' w∧aJ ρ v v':=by
 unfold aB at h
 split at h
 ·rename_i b o
  cases ha with | ptr hb=>
  rename_i L
  obtain ⟨iZ,hu,l8,hsz⟩:=Iy ht
  split at h
  ·rename_i cs n hc
   simp at h
   obtain ⟨r,iA,rfl⟩:=h
   obtain ⟨hle,rfl⟩:=vN iA
   obtain ⟨c,e,fr,h1,h2,h3,h4,h5⟩:=hr.cells hb hc
   refine ⟨_,.agg ((c.toList.drop (L.d+o)).take n).toArray,rfl,?_,aJ.tG (by simpa using h5.drop_take hle)⟩
   simp only [loadVar,Sem.run_bind,l8,Option.isSome_some,if_true,Result.andThen_ok,hsz n rfl]
   rw [vJ h1 (by omega)]
   rfl
  ·rename_i cs hc
   obtain ⟨c,e,fr,h1,h2,h3,h4,h5⟩:=hr.cells hb hc
   obtain ⟨u,rM,CE⟩:=h5.get h
   have hlt:o <cs.length:=by
    rcases Nat.lt_or_ge o cs.length with h | h'
    ·exact h
    ·rw [List.getElem?_eq_none h'] at h;simp at h
   refine ⟨_,u,rfl,?_,CE⟩
   rw [List.getElem?_take,if_pos hlt,List.getElem?_drop] at rM
   simp only [loadVar,Sem.run_bind,l8,Option.isSome_none,Bool.false_eq_true,if_false,Result.andThen_ok,run_load,cell_of h1]
   rw [show c[L.d+o]? =some u by simpa using rM]
  ·simp at h
 ·simp at h
theorem CF {cs xs:List aa} {o:Nat} (h:o+xs.length≤cs.length):(put cs o xs).length=cs.length:=by
 unfold put;simp;omega
theorem Rg {cs xs:List aa} {c c':Array Value} {a9as:List Value} {d o:Nat} (hd:d+cs.length≤c.size) (h:az ρ cs ((c.toList.drop d).take cs.length)) (hx:az ρ xs a9as) (ho:o+xs.length≤cs.length)
  (hc:c'.toList=c.toList.take (d+o)++a9as++c.toList.drop (d+o+a9as.length)):
  az ρ (put cs o xs) ((c'.toList.drop d).take (put cs o xs).length)∧c'.size=c.size:=by
 have hl:a9as.length=xs.length:=hx.1.symm
 have cR:c.toList.length=c.size:=by simp
 have hsz:c'.size=c.size:=by
  rw [←Array.length_toList,hc];simp;omega
 refine ⟨?_,hsz⟩
 rw [CF ho]
 have e:(c'.toList.drop d).take cs.length=((c.toList.drop d).take cs.length).take o++a9as++((c.toList.drop d).take cs.length).drop (o+xs.length):=by
  rw [hc]
  apply List.ext_getElem?
  intro i
  simp only [List.getElem?_take,List.getElem?_drop,List.getElem?_append,List.length_append,List.length_take,List.length_drop,cR,hl]
  by_cases h1:i <cs.length
  ·by_cases h2:i <o
   ·have g1:d+i <d+o:=by omega
    have g2:d+i <min (d+o) c.size+xs.length:=by omega
    have g3:d+i <min (d+o) c.size:=by omega
    have g4:i <min o (min cs.length (c.size - d))+xs.length:=by omega
    have g5:i <min o (min cs.length (c.size - d)):=by omega
    simp [h1,h2,g1,g2,g3,g4,g5]
   ·by_cases h3:i <o+xs.length
    ·have g2:d+i <min (d+o) c.size+xs.length:=by omega
     have g3:¬d+i <min (d+o) c.size:=by omega
     have g4:i <min o (min cs.length (c.size - d))+xs.length:=by omega
     have g5:¬i <min o (min cs.length (c.size - d)):=by omega
     have e1:d+i - min (d+o) c.size=i - o:=by omega
     have e2:i - min o (min cs.length (c.size - d))=i - o:=by omega
     simp [h1,g2,g3,g4,g5,e1,e2]
    ·have g2:¬d+i <min (d+o) c.size+xs.length:=by omega
     have g4:¬i <min o (min cs.length (c.size - d))+xs.length:=by omega
     have e1:d+o+xs.length+(d+i - (min (d+o) c.size+xs.length))=d+i:=by omega
     have e2:o+xs.length+(i - (min o (min cs.length (c.size - d))+xs.length))=i:=by omega
     simp [h1,g2,g4,e1,e2]
  ·have g4:¬i <min o (min cs.length (c.size - d))+xs.length:=by omega
   have e2:o+xs.length+(i - (min o (min cs.length (c.size - d))+xs.length))=i:=by omega
   simp [h1,g4,e2]
 rw [e]
 exact az.append (az.append (h.take o) hx) (h.drop _)
theorem az.one {xs:List aa} {a9as:List Value} (h:az ρ xs a9as) (h1:xs.all (·.one)=true):∀a∈a9as,a.oneCell'=true:=by
 intro a ha
 obtain ⟨i,hi,rfl⟩:=List.getElem_of_mem ha
 have hi':i <xs.length:=by rw [h.1];exact hi
 rw [(h.2 i xs[i] a9as[i] (List.getElem?_eq_getElem hi') (List.getElem?_eq_getElem hi)).one]
 exact List.all_eq_true.1 h1 _ (List.getElem_mem hi')
theorem zD (hr:Rel P n0 ρ H w) (hl:n0≤lim) {b o:Nat} {L:Loc} {cs xs:List aa} {a9as:List Value} (hb:lim≤b) (hρ:ρ b=some L) (hc:H.cells b=some cs) (hx:az ρ xs a9as)
  (h1:xs.all (·.one)=true) (ho:o+xs.length≤cs.length):
  ∃w',(storeCells ⟨L.blk,L.d+o,none⟩ a9as).run P w= .ok () w'∧Post P n0 lim ρ H w ρ (H.set b (.cells (put cs o xs))) w':=by
 obtain ⟨c,e,fr,g1,g2,g3,g4,g5⟩:=hr.cells hρ hc
 obtain ⟨w',c',r1,r2,r3,r4,r6,r5⟩:=Cz (P:=P) (blk:=L.blk) (o:=L.d+o) a9as 0 w c g1 (by rw [←hx.1];omega) (fun k _ hk=>g3 (by omega) k (by rw [←hx.1] at hk;omega)) (hx.one h1)
 simp only [Nat.add_zero] at r5
 obtain ⟨q1,q2⟩:=Rg g4 g5 hx ho r5
 exact ⟨w',r1,hr.write hl hb hρ hc (CF ho) g1 r2 r3 r4 q2 q1 r6⟩
theorem Rh (hr:Rel P n0 ρ H w) (hl:n0≤lim) {t:TypeId} {n:Nat} (ht:cZ P t=some n) {a x:aa} {a' x':Value} (ha:aJ ρ a a') (hx:aJ ρ x x') (h:bp lim H n a x=some H'):
  ∃w',(Instr.storeAt t a' x').run P w= .ok () w'∧Post P n0 lim ρ H w ρ H' w':=by
 unfold bp at h
 split at h
 ·rename_i b o
  cases ha with | ptr hb=>
  rename_i L
  split at h
  ·rename_i cs hc
   split at h
   ·rename_i gm
    obtain ⟨c1,c2,c3,c4⟩:=gm
    simp at h;subst h
    obtain ⟨w',r1,r2⟩:=zD (P:=P) (o:=o) hr hl c1 hb hc hx.cells c4 (by omega)
    refine ⟨w',?_,r2⟩
    have hsz:x'.cells.size=n:=by have:=hx.cells.1;simp at this;omega
    simp only [Instr.storeAt,Instr.sureAddr,Sem.run_bind,Sem.run_pure,Result.andThen_ok,storeVar,gG ht,hsz,ne_eq,not_true_eq_false,if_false]
    exact r1
   ·simp at h
  ·simp at h
 ·simp at h
theorem zE (hr:Rel P n0 ρ H w) (hlim:lim≤H.next) (hf:ρ H.next=none) {cs:List aa} {c:Array Value} (e:TypeId) (hc:az ρ cs c.toList):
  (newRow e c).run P w= .ok ⟨w.heap.size,0,none⟩ {w with heap:=w.heap.push (.cells c e)}∧
  Post P n0 lim ρ H w (upd ρ H.next ⟨w.heap.size,0,c.size⟩) (H.push (.cells cs)) {w with heap:=w.heap.push (.cells c e)}:=by
 have hlen:cs.length=c.size:=by simpa using hc.1
 refine ⟨by simp [newRow],?_⟩
 refine hr.alloc hlim hf cs c e (0,0) (by omega) ?_ (fun i _ h=>by simp at h) rfl ⟨rfl,rfl,rfl⟩
 rw [List.take_of_length_le (by simp;omega)];exact hc
theorem IG (t:TypeId) {g:Option Nat} (ht:ni P t=some g) {cs:List aa} {c:Array Value} (hc:az ρ cs c.toList) {off:Nat} (h:partOf cs off g=some v) (w:World):
  ∃v',(part t c off).run P w= .ok v' w∧aJ ρ v v':=by
 obtain ⟨iZ,hu,l8,hsz⟩:=Iy ht
 have hlen:cs.length=c.size:=by simpa using hc.1
 unfold partOf at h
 split at h
 ·rename_i n
  simp at h
  obtain ⟨r,iA,rfl⟩:=h
  obtain ⟨hle,rfl⟩:=vN iA
  refine ⟨.agg (c.extract off (off+n)),?_,aJ.tG ?_⟩
  ·simp only [part,Sem.run_bind,l8,Option.isSome_some,if_true,Result.andThen_ok,hsz n rfl,Sem.run_pure]
  ·have:=(hc.drop off).take n
   simpa [Array.toList_extract,List.extract_eq_take_drop] using this
 ·obtain ⟨u,h1,h2⟩:=hc.get h
  refine ⟨u,?_,h2⟩
  have h1':c[off]? =some u:=by simpa using h1
  simp only [part,Sem.run_bind,l8,Option.isSome_none,Bool.false_eq_true,if_false,Result.andThen_ok,h1',Sem.run_pure]
def lD (P:Program) (t:TypeId):rC→Prop
 | .bool=>P.underlying t=some .bool
 | .ptr=> ∃e,P.underlying t=some (.pointer e)
 | .sl=> ∃e,P.underlying t=some (.slice e)
 | .map=> ∃k e,P.underlying t=some (.map k e)
 | .fn=> ∃a b c,P.underlying t=some (.func a b c)
 | .iface | .nil=> ∃ms,P.underlying t=some (.interface ms)
 | .cells l=>P.eqGuardType P.depth t=false∧fU P 100 t=some l∧((∃fs,P.underlying t=some (.struct fs))∨(∃n e,P.underlying t=some (.array n e)))
def l9 (P:Program) (t:TypeId) (a b:Value) (r:Bool) (w:World):Prop:=
 (Op.equal t a b).run P w= .ok r w∧(∀op x y,(a= .nilIface→b= .nilIface→(∃v,x= .const v)∨ ∃v,y= .const v)→(eqGuard op t x y a b).run P w= .ok () w)∧
  binOp .eql t a b=(do pure (.bool (←Op.equal t a b)))∧binOp .neq t a b=(do pure (.bool (!(←Op.equal t a b))))
theorem l9.of {t:TypeId} {a b:Value} {r:Bool} (h:∀d,(Op.equalIn (d+1) t a b).run P w= .ok r w) (h1:∀cs,a≠ .agg cs) (h2:a≠ .nilIface∨b≠ .nilIface)
  (h3:binOp .eql t a b=(do pure (.bool (←Op.equal t a b)))) (h4:binOp .neq t a b=(do pure (.bool (!(←Op.equal t a b))))):l9 P t a b r w:=
 ⟨h 9999,fun _ _ _ _=>vL h1 h2 w,h3,h4⟩
theorem Ri {t:TypeId} {A B:aa} {a b:Value} {r:Bool} (hu:lD P t .bool) (h:aeq .bool A B=some r) (hx:aJ ρ A a) (hy:aJ ρ B b):l9 P t a b r w:=by
 simp only [lD] at hu
 simp only [aeq] at h
 split at h <;>simp at h
 subst h
 cases hx;cases hy
 exact .of (fun d=>by simp only [Op.equalIn,Sem.run_bind,bL hu,Result.andThen_ok,Sem.run_pure]) (by simp) (.inl (by simp)) rfl rfl
theorem Rj {t:TypeId} {A B:aa} {a b:Value} {r:Bool} (hu:lD P t .ptr) (h:aeq .ptr A B=some r) (hx:aJ ρ A a) (hy:aJ ρ B b):l9 P t a b r w:=by
 obtain ⟨e,hu⟩:=hu
 simp only [aeq] at h
 split at h <;>simp at h <;>subst h <;>cases hx <;>cases hy <;>
  exact .of (fun d=>by simp only [Op.equalIn,Sem.run_bind,bL hu,Result.andThen_ok,Sem.run_pure] <;>rfl) (by simp) (.inl (by simp)) rfl rfl
theorem Rk {t:TypeId} {A B:aa} {a b:Value} {r:Bool} (hu:lD P t .sl) (h:aeq .sl A B=some r) (hx:aJ ρ A a) (hy:aJ ρ B b):l9 P t a b r w:=by
 obtain ⟨e,hu⟩:=hu
 simp only [aeq] at h
 split at h <;>simp at h <;>subst h <;>cases hx <;>cases hy <;>
  exact .of (fun d=>by simp only [Op.equalIn,Sem.run_bind,bL hu,Result.andThen_ok,Sem.run_pure] <;>rfl) (by simp) (.inl (by simp)) rfl rfl
theorem Rl {t:TypeId} {A B:aa} {a b:Value} {r:Bool} (hu:lD P t .map) (h:aeq .map A B=some r) (hx:aJ ρ A a) (hy:aJ ρ B b):l9 P t a b r w:=by
 obtain ⟨k,e,hu⟩:=hu
 simp only [aeq] at h
 split at h <;>simp at h <;>subst h <;>cases hx <;>cases hy <;>
  exact .of (fun d=>by simp only [Op.equalIn,Sem.run_bind,bL hu,Result.andThen_ok,Sem.run_pure] <;>rfl) (by simp) (.inl (by simp)) rfl rfl
theorem Rm {t:TypeId} {A B:aa} {a b:Value} {r:Bool} (hu:lD P t .fn) (h:aeq .fn A B=some r) (hx:aJ ρ A a) (hy:aJ ρ B b):l9 P t a b r w:=by
 obtain ⟨x,y,z,hu⟩:=hu
 simp only [aeq] at h
 split at h <;>simp at h <;>subst h <;>cases hx <;>cases hy <;>
  exact .of (fun d=>by simp only [Op.equalIn,Sem.run_bind,bL hu,Result.andThen_ok,Sem.run_pure]) (by simp) (.inl (by simp)) rfl rfl
theorem Rn {t:TypeId} {A B:aa} {a b:Value} {r:Bool} (hu:lD P t .iface) (h:aeq .iface A B=some r) (hx:aJ ρ A a) (hy:aJ ρ B b):l9 P t a b r w:=by
 obtain ⟨ms,hu⟩:=hu
 simp only [aeq] at h
 split at h <;>simp at h <;>subst h <;>cases hx <;>cases hy <;>
  exact .of (fun d=>by simp only [Op.equalIn,Sem.run_bind,bL hu,Result.andThen_ok,Sem.run_pure]) (by simp) (by simp) rfl rfl
theorem Ro {t:TypeId} {l:List bE} {A B:aa} {a b:Value} {r:Bool} (hu:lD P t (.cells l)) (h:aeq (.cells l) A B=some r) (hx:aJ ρ A a) (hy:aJ ρ B b):l9 P t a b r w:=by
 obtain ⟨hg,hl,hu⟩:=hu
 simp only [aeq] at h
 split at h
 ·rename_i xs ys
  obtain ⟨a9as,rfl,la⟩:=hx.qc
  obtain ⟨bs,rfl,lb⟩:=hy.qc
  have hp:∀zs:Array Value,gH P t zs.toList= .agg zs:=by
   intro zs
   unfold gH
   rcases hu with ⟨fs,hu⟩ | ⟨n,e,hu⟩ <;>simp [hu]
  have:=zC 100 t l hl 10000 (by omega) xs ys r h ρ a9as.toList bs.toList la lb w
  rw [hp,hp] at this
  refine ⟨this,fun op x y _=> ?_,rfl,rfl⟩
  unfold eqGuard
  cases op <;>simp [hg]
 ·simp at h
theorem Rp {op:BinOp} {t:TypeId} {x y:Operand} {a b:Value} (ha:∀cs,a≠ .agg cs) (h:a= .nilIface→b= .nilIface→(∃v,x= .const v)∨ ∃v,y= .const v) (w:World):(eqGuard op t x y a b).run P w= .ok () w:=by
 by_cases h1:a= .nilIface
 ·by_cases h2:b= .nilIface
  ·subst h1 h2
   unfold eqGuard
   rcases h rfl rfl with ⟨v,rfl⟩ | ⟨v,rfl⟩
   ·cases op <;>rfl
   ·cases op <;>cases x <;>rfl
  ·exact vL ha (.inr h2) w
 ·exact vL ha (.inl h1) w
theorem Rq {t:TypeId} {A B:aa} {a b:Value} {r:Bool} (hu:lD P t .nil) (h:aeq .nil A B=some r) (hx:aJ ρ A a) (hy:aJ ρ B b):l9 P t a b r w:=by
 obtain ⟨ms,hu⟩:=hu
 simp only [aeq] at h
 have key:(∀d,(Op.equalIn (d+1) t a b).run P w= .ok r w)∧(∀cs,a≠ .agg cs)∧binOp .eql t a b=(do pure (.bool (←Op.equal t a b)))∧binOp .neq t a b=(do pure (.bool (!(←Op.equal t a b)))):=by
  split at h <;>simp at h <;>subst h <;>cases hx <;>cases hy <;>
   exact ⟨fun d=>by simp only [Op.equalIn,Sem.run_bind,bL hu,Result.andThen_ok,Sem.run_pure],by simp,rfl,rfl⟩
 exact ⟨key.1 9999,fun _ _ _ h=>Rp key.2.1 h w,key.2.2.1,key.2.2.2⟩
theorem Rr {k:rC} {A B:aa} {a b:Value} {r:Bool} (h:aeq k A B=some r) (hx:aJ ρ A a) (hy:aJ ρ B b) (ha:a= .nilIface) (hb:b= .nilIface):k= .nil:=by
 subst ha hb
 cases hx
 cases hy
 cases k <;>first | rfl | (simp [aeq] at h)
theorem II {xo:Operand} {x:aP} (h:bR xo=some x) (hn:jW x=true):∃v,xo= .const v:=by
 cases xo with
 | const v=>exact ⟨v,rfl⟩
 | tmp t=>simp [bR] at h;subst h;simp [jW] at hn
 | func f=>simp [bR] at h;subst h;simp [jW] at hn
 | «global» g=>
  simp only [bR] at h
  split at h
  ·simp at h;subst h;simp [jW] at hn
  ·simp at h
theorem Rs {t:TypeId} {k:rC} {A B:aa} {a b:Value} {r:Bool} (hu:lD P t k) (h:aeq k A B=some r) (hx:aJ ρ A a) (hy:aJ ρ B b):l9 P t a b r w:=by
 cases k
 ·exact Ri hu h hx hy
 ·exact Rj hu h hx hy
 ·exact Rk hu h hx hy
 ·exact Rl hu h hx hy
 ·exact Rm hu h hx hy
 ·exact Rn hu h hx hy
 ·exact Ro hu h hx hy
 ·exact Rq hu h hx hy
theorem IJ {op:BinOp} {t:TypeId} {x y:aP} {cI:bG} (hc:zo P op t x y=some cI):
  cI= .bin op x y∨((op= .eql∨op= .neq)∧ ∃k,(lD P t k∧(k= .nil→jW x=true∨jW y=true))∧cI= .eqv (op== .neq) k x y):=by
 have key:(op= .eql∨op= .neq)→(match P.underlying t with
  | some (.int _) | some .string=>some (.bin op x y)
  | some .bool=>some (.eqv (op== .neq) .bool x y)
  | some (.struct _) | some (.array _ _)=>
   if P.eqGuardType P.depth t then none else (fU P 100 t).map fun l=> .eqv (op== .neq) (.cells l) x y
  | some (.pointer _)=>some (.eqv (op== .neq) .ptr x y)
  | some (.slice _)=>some (.eqv (op== .neq) .sl x y)
  | some (.map _ _)=>some (.eqv (op== .neq) .map x y)
  | some (.func _ _ _)=>some (.eqv (op== .neq) .fn x y)
  | some (.interface _)=>some (.eqv (op== .neq) (if (jW x || jW y)=true then .nil else .iface) x y)
  | _=>none)=some cI→cI= .bin op x y∨((op= .eql∨op= .neq)∧ ∃k,(lD P t k∧(k= .nil→jW x=true∨jW y=true))∧cI= .eqv (op== .neq) k x y):=by
  intro hop hc
  split at hc
  ·simp at hc;exact .inl hc.symm
  ·simp at hc;exact .inl hc.symm
  ·simp at hc;exact .inr ⟨hop,.bool,⟨by assumption,by simp⟩,hc.symm⟩
  ·split at hc
   ·simp at hc
   ·rename_i hg
    simp at hc
    obtain ⟨l,hl,e⟩:=hc
    exact .inr ⟨hop,.cells l,⟨⟨by simpa using hg,hl,.inl ⟨_,by assumption⟩⟩,by simp⟩,e.symm⟩
  ·split at hc
   ·simp at hc
   ·rename_i hg
    simp at hc
    obtain ⟨l,hl,e⟩:=hc
    exact .inr ⟨hop,.cells l,⟨⟨by simpa using hg,hl,.inr ⟨_,_,by assumption⟩⟩,by simp⟩,e.symm⟩
  ·simp at hc;exact .inr ⟨hop,.ptr,⟨⟨_,by assumption⟩,by simp⟩,hc.symm⟩
  ·simp at hc;exact .inr ⟨hop,.sl,⟨⟨_,by assumption⟩,by simp⟩,hc.symm⟩
  ·simp at hc;exact .inr ⟨hop,.map,⟨⟨_,_,by assumption⟩,by simp⟩,hc.symm⟩
  ·simp at hc;exact .inr ⟨hop,.fn,⟨⟨_,_,_,by assumption⟩,by simp⟩,hc.symm⟩
  ·rename_i ms hu
   by_cases hn:(jW x || jW y)=true
   ·rw [if_pos hn] at hc
    simp only [Option.some.injEq] at hc
    exact .inr ⟨hop,.nil,⟨⟨_,hu⟩,fun _=>by simpa using hn⟩,hc.symm⟩
   ·rw [if_neg hn] at hc
    simp only [Option.some.injEq] at hc
    exact .inr ⟨hop,.iface,⟨⟨_,hu⟩,by simp⟩,hc.symm⟩
  ·simp at hc
 cases op
 case eql=>exact key (.inl rfl) hc
 case neq=>exact key (.inr rfl) hc
 all_goals (simp [zo] at hc;exact .inl hc.symm)
theorem Rt (hr:Rel P n0 ρ H w) {op:BinOp} {t:TypeId} {x y:aP} {xo yo:Operand} {cI:bG} (hcx:bR xo=some x) (Ru:bR yo=some y) (hc:zo P op t x y=some cI)
  (hx:aJ ρ (ev x) (ev' xo)) (hy:aJ ρ (ev y) (ev' yo)) (h:step R lim ev H cI=some (v,H')):
  dN P n0 lim ρ H w (do eqGuard op t xo yo (ev' xo) (ev' yo);binOp op t (ev' xo) (ev' yo)) v H':=by
 rcases IJ hc with rfl | ⟨hop,k,⟨hk,hkn⟩,rfl⟩
 ·obtain ⟨h1,rfl⟩:=fk h
  have hg:(eqGuard op t xo yo (ev' xo) (ev' yo)).run P w= .ok () w:=by
   generalize ev' xo=a' at *
   generalize ev' yo=b' at *
   generalize ev x=a at *
   generalize ev y=b at *
   unfold av at h1
   split at h1
   ·cases hx;cases hy;exact vL (by simp) (.inl (by simp)) w
   ·cases hx;cases hy;exact vL (by simp) (.inl (by simp)) w
   ·simp at h1
  obtain ⟨v',w',ρ',q1,q2,q3⟩:=Rf (P:=P) (lim:=lim) hr (t:=t) h1 hx hy
  exact ⟨v',w',ρ',by simp only [Sem.run_bind,hg,Result.andThen_ok,q1],q2,q3⟩
 ·obtain ⟨h1,rfl⟩:=fk h
  rw [Option.map_eq_some_iff] at h1
  obtain ⟨r,h1,rfl⟩:=h1
  obtain ⟨e1,e2,e3,e4⟩:=Rs (P:=P) (w:=w) hk h1 hx hy
  have e2:∀op,(eqGuard op t xo yo (ev' xo) (ev' yo)).run P w= .ok () w:=fun op=>e2 op xo yo fun ha hb=>by
   rcases hkn (Rr h1 hx hy ha hb) with q | q
   ·exact .inl (II hcx q)
   ·exact .inr (II Ru q)
  rcases hop with rfl | rfl
  ·exact .same hr (v':= .bool r) (by simp only [Sem.run_bind,e2,Result.andThen_ok,e3,e1,Sem.run_pure]) (.bool _)
  ·exact .same hr (v':= .bool (!r)) (by simp only [Sem.run_bind,e2,Result.andThen_ok,e4,e1,Sem.run_pure]) (.bool _)
end
end Go.au
end
section
set_option linter.unusedSimpArgs false
set_option linter.unusedVariables false
set_option linter.unusedSectionVars false
namespace Go.au
variable [Gl]
section
variable {P:Program} {n0 lim:Nat} {ρ:Mp} {H H':ah} {w:World} {R:aq} {ev:aP→aa} {ev':Operand→Value} {v:aa}
theorem aew {cs xs:List aa} {o:Nat} (h:∀x∈cs,x.one=true) (hx:∀x∈xs,x.one=true):∀x∈put cs o xs,x.one=true:=by
 intro x h1
 unfold put at h1
 simp only [List.mem_append] at h1
 rcases h1 with (h1 | h1) | h1
 ·exact h x (List.mem_of_mem_take h1)
 ·exact hx x h1
 ·exact h x (List.mem_of_mem_drop h1)
theorem IK (off:Nat):∀(vs:List Value) (k:Nat) (cs:Array Value),off+k+vs.length≤cs.size→
  ((vs.zipIdx k).foldl (fun (cs:Array Value) (p:Value × Nat)=>cs.setIfInBounds (off+p.2) p.1) cs).toList=cs.toList.take (off+k)++vs++cs.toList.drop (off+k+vs.length)
 | [],k,cs,_=>by simp
 | v::vs,k,cs,h=>by
  simp only [List.length_cons] at h
  simp only [List.zipIdx_cons,List.foldl_cons]
  rw [IK off vs (k+1) (cs.setIfInBounds (off+k) v) (by rw [Array.size_setIfInBounds];omega)]
  simp only [Array.toList_setIfInBounds,List.length_cons]
  have hlt:off+k <cs.toList.length:=by simpa using (by omega:off+k <cs.size)
  have hlt':off+k <cs.size:=by omega
  rw [show off+(k+1)=off+k+1 from rfl,List.take_set,List.drop_set]
  rw [if_pos (by omega:off+k <off+k+1+vs.length)]
  rw [List.take_succ_eq_append_getElem hlt,List.set_append]
  simp only [List.length_take,Array.length_toList,Nat.min_eq_left (Nat.le_of_lt hlt'),Nat.lt_irrefl,if_false,Nat.sub_self,List.set_cons_zero,
    List.append_assoc,show off+k+1+vs.length=off+k+(vs.length+1) by omega,List.cons_append,List.nil_append]
theorem Rv {cs xs:List aa} {c:List Value} {a9as:List Value} {o:Nat} (h:az ρ cs c) (hx:az ρ xs a9as):az ρ (put cs o xs) (c.take o++a9as++c.drop (o+a9as.length)):=by
 unfold put
 rw [hx.1]
 exact az.append (az.append (h.take o) hx) (h.drop _)
theorem zF (place:Nat→Option (Nat × Nat)):∀(ps:List (Nat × Operand)) (qs:List (Nat × Nat × aP)) (cs:List aa) (c:Array Value) (r:List aa),
  qs.length=ps.length→(∀(i:Nat) p q,ps[i]? =some p→qs[i]? =some q→place p.1=some (q.1,q.2.1)∧aJ ρ (ev q.2.2) (ev' p.2))→az ρ cs c.toList→jo ev cs qs=some r→
  ∃c',Instr.fill place c (ps.map fun p=>(p.1,ev' p.2))=some c'∧az ρ r c'.toList
 | [],[],cs,c,r,_,_,hc,h=>by
  simp [jo] at h;subst h
  exact ⟨c,by simp [Instr.fill],hc⟩
 | p::ps,q::qs,cs,c,r,hl,hp,hc,h=>by
  obtain ⟨h1,h2⟩:=hp 0 p q rfl rfl
  obtain ⟨off,size,x⟩:=q
  simp only [jo] at h
  split at h
  ·rename_i gm
   obtain ⟨e1,e2⟩:=gm
   have hv:=h2.cells
   have hlen:((ev' p.2).cells).size=size:=by have:=hv.1;simp at this;omega
   have hcs:cs.length=c.size:=by simpa using hc.1
   have IL:=IK off (ev' p.2).cells.toList 0 c (by simp;omega)
   simp only [Nat.add_zero] at IL
   obtain ⟨c',q1,q2⟩:=zF place ps qs (put cs off (ev x).cells) ((ev' p.2).cells.zipIdx.foldl (fun cs (c,j)=>cs.setIfInBounds (off+j) c) c) r (by simpa using hl)
    (fun i p' q' a b=>hp (i+1) p' q' (by simpa using a) (by simpa using b)) (by
     have:((ev' p.2).cells.zipIdx.foldl (fun cs (c,j)=>cs.setIfInBounds (off+j) c) c).toList=c.toList.take off++(ev' p.2).cells.toList++c.toList.drop (off+(ev' p.2).cells.toList.length):=by
      rw [←IL,←Array.foldl_toList,Array.toList_zipIdx]
     rw [this]
     exact Rv hc hv) h
   refine ⟨c',?_,q2⟩
   simp only [List.map_cons,Instr.fill,h1]
   rw [if_neg (by simp [hlen];omega)]
   exact q1
  ·simp at h
 | [],_::_,_,_,_,hl,_,_,_=>by simp at hl
 | _::_,[],_,_,_,hl,_,_,_=>by simp at hl
theorem zG {z:List aa} {v:Value} (h:az ρ z v.cells.toList) (n:Nat):az ρ (rep n z) (List.replicate n v.cells.toList).flatten:=az.flat n h
theorem CG {α:Type} [Inhabited α] (z:Array α) (n:Nat) (hz:0 <z.size):((Array.range (n * z.size)).map fun i=>z[i % z.size]!).toList=(List.replicate n z.toList).flatten:=by
 simp only [Array.toList_map,Array.toList_range]
 induction n with
 | zero=>simp
 | succ n ih=>
  rw [Nat.succ_mul,List.range_add,List.map_append,ih,List.replicate_succ',List.flatten_append]
  congr 1
  simp only [List.flatten_cons,List.flatten_nil,List.append_nil,List.map_map]
  apply List.ext_getElem
  ·simp
  ·intro i h1 h2
   simp at h1 h2
   have:(n * z.size+i) % z.size=i:=by rw [Nat.mul_comm,Nat.mul_add_mod];exact Nat.mod_eq_of_lt h1
   simp [this,getElem!_pos z i h1]
theorem CI (z:Array Value) (n:Nat) (hz:0 <z.size):(Builtin.zeroCells z n).toList=(List.replicate n z.toList).flatten:=CG z n hz
theorem IM (hr:Rel P n0 ρ H w) {sz m:Nat} {x:aa} {x':Value} {new:List aa} (hx:aJ ρ x x') (h:source H sz x=some (m,new)):
  (Builtin.lenOf x').run P w= .ok m w∧new.length=m * sz∧ ∀k,k≤m→ ∃c:Array Value,(∀w':World,w'.heap=w.heap→(Builtin.firstCells sz k x').run P w'= .ok c w')∧az ρ (new.take (k * sz)) c.toList:=by
 unfold source at h
 split at h
 ·split at h <;>simp at h
  rename_i hn
  obtain ⟨rfl,rfl⟩:=h
  subst hn
  cases hx
  exact ⟨rfl,by simp,fun k hk=>⟨#[],fun _ _=>by simp [Builtin.firstCells],by simpa using az.nil ρ⟩⟩
 ·rename_i b o n c
  split at h
  ·rename_i hn
   simp at h
   obtain ⟨rfl,rfl⟩:=h
   subst hn
   have:∃a cp,x'= .slice (some a) 0 cp:=by cases hx <;>exact ⟨_,_,rfl⟩
   obtain ⟨a,cp,rfl⟩:=this
   refine ⟨rfl,by simp,fun k hk=> ?_⟩
   obtain rfl:k=0:=by omega
   exact ⟨#[],fun _ _=>by simp [Builtin.firstCells,loadCells,loadCellsFrom],by simpa using az.nil ρ⟩
  ·rename_i hn
   have:∃L cp,ρ b=some L∧x'= .slice (some ⟨L.blk,L.d+o,none⟩) n cp:=by
    cases hx <;>first | exact ⟨_,_,by assumption,rfl⟩ | (exact absurd rfl hn)
   obtain ⟨L,cp,hb,rfl⟩:=this
   split at h
   ·rename_i cs hc
    simp at h
    obtain ⟨iA,rfl⟩:=h
    obtain ⟨hle,rfl⟩:=vN iA
    obtain ⟨cc,e,fr,h1,h2,h3,h4,h5⟩:=hr.cells hb hc
    refine ⟨rfl,by simp;omega,fun k hk=> ?_⟩
    have hks:k * sz≤n * sz:=Nat.mul_le_mul_right _ hk
    refine ⟨_,fun w' hw'=>by simp only [Builtin.firstCells];exact vJ (by rw [hw'];exact h1) (by omega),?_⟩
    rw [List.take_take,Nat.min_eq_left hks]
    simpa using h5.drop_take (by omega)
   ·simp at h
 ·rename_i s
  split at h <;>simp at h
  rename_i hsz
  obtain ⟨rfl,rfl⟩:=h
  subst hsz
  cases hx with | str hs=>
  rename_i s'
  refine ⟨by simp [Builtin.lenOf,qg hs],by simp,fun k hk=> ?_⟩
  refine ⟨_,fun _ _=>by simp only [Builtin.firstCells];rfl,?_⟩
  have hd:(s'.extract 0 k).data.toList=s.take k:=by
   rw [ByteArray.data_extract,Array.toList_extract,List.extract_eq_take_drop,hs];simp
  simp only [Array.toList_map,hd,Nat.mul_one,←List.map_take]
  exact az.Iu _ _ _ fun c _=> .int _ _
 ·simp at h
theorem aex {b o n:Nat} {c:Cap} {x':Value} (h:aJ ρ (.sl (some (b,o)) n c) x'):∃a cp,x'= .slice (some a) n cp:=by
 cases h <;>exact ⟨_,_,rfl⟩
end
end Go.au
end
section
set_option linter.unusedSimpArgs false
set_option linter.unusedVariables false
set_option linter.unusedSectionVars false
namespace Go.au
variable [Gl]
section
variable {P:Program} {n0 lim:Nat} {ρ:Mp} {H H':ah} {w:World} {v:aa}
structure CJ (P:Program) (t tx e:TypeId) (i:TypeInfo) (z:Value) (zeros:Bool) (argTypes:Array TypeId) (x':Value) (m:Nat) (w:World) (news:Array Value):Prop where
 h0:argTypes[0]? =some t
 h1:argTypes[1]? =some tx
 ht:P.underlying t=some (.slice e)
 eu:if zeros then (∃k,P.underlying tx=some (.int k)) else ((∃k,P.underlying tx=some (.slice k))∨P.underlying tx=some .string)
 hi:P.info? e=some i
 hz:i.zero=some z
 hsz:0 <i.size
 jH:z.cells.size=i.size
 src:if zeros then (∃l:Int,x'= .int .i64 l∧0≤l∧l.toNat=m∧l≤140737488355328∧l * i.bytes≤281474976710656∧news=Builtin.zeroCells z.cells m) else
  ((Builtin.lenOf x').run P w= .ok m w∧ ∀w':World,w'.heap=w.heap→(Builtin.firstCells i.size m x').run P w'= .ok news w')
theorem wrap_small {l:Int} (h0:0≤l) (h:l≤140737488355328):IntKind.i64.wrap l=l:=by
 unfold IntKind.wrap IntKind.bits IntKind.signed
 have:l % (2 ^ 64:Int)=l:=Int.emod_eq_of_lt h0 (by omega)
 simp only [this]
 rw [if_neg]
 simp;omega
theorem IN (z:Array Value) {n:Nat} (h:n * z.size=0):Builtin.zeroCells z n= #[]:=by
 unfold Builtin.zeroCells;rw [h];simp
theorem CK {t tx e ty:TypeId} {i:TypeInfo} {z:Value} {zeros:Bool} {argTypes:Array TypeId} {x':Value} {m:Nat} {news:Array Value} (F:CJ P t tx e i z zeros argTypes x' m w news)
  {a:Option Addr} {n c:Nat} (hc:n+m≤c):
  (Builtin.append_ argTypes ty #[.slice a n c,x']).run P w=
   (match a with
    | some p=>(storeCells (p.add (n * i.size)) news.toList).run P w |>.andThen fun _ w'=> .ok (.slice a (n+m) c) w'
    | none=> .ok (.slice a (n+m) c) w):=by
 obtain ⟨h0,h1,ht,eu,hi,hz,hsz,jH,src⟩:=F
 have hsize:cZ P e=some i.size:=by simp [cZ,hi]
 unfold Builtin.append_
 cases zeros
 ·simp only [Bool.false_eq_true,if_false] at src eu
  obtain ⟨hlen,hnew⟩:=src
  rcases eu with ⟨k,eu⟩ | eu
  all_goals
   simp only [h0,h1,Sem.run_bind,bL ht,bL eu,Result.andThen_ok,gG hsize,Sem.run_pure,List.getElem?_toArray,List.getElem?_cons_zero,List.getElem?_cons_succ,l5 hi,Bool.false_eq_true,if_false,hlen,Bool.not_false,if_true]
   rw [if_pos hc]
   simp only [Sem.run_bind,hnew w rfl,Result.andThen_ok]
   cases a <;>simp
 ·simp only [if_true] at src eu
  obtain ⟨l,rfl,hl0,rfl,hl1,hl2,rfl⟩:=src
  obtain ⟨k,eu⟩:=eu
  simp only [h0,h1,bL ht,bL eu,gG hsize,List.getElem?_toArray,List.getElem?_cons_zero,List.getElem?_cons_succ,if_true,Bool.not_true,Bool.false_eq_true,if_false,asInt,asIntOf,Sem.run_bind,Sem.run_pure,Result.andThen_ok,wrap_small hl0 hl1,l5 hi,Sem.run_ite]
  rw [if_neg (by omega)]
  rw [if_neg (by omega)]
  try simp only [Result.andThen_ok]
  rw [if_pos hc]
  by_cases oz:l.toNat * i.size=0
  ·simp only [oz,if_true,Sem.run_bind,Sem.run_pure,Result.andThen_ok]
   rw [IN _ (by rw [jH];exact oz)]
   cases a <;>simp
  ·simp only [oz,if_false,Sem.run_bind,Sem.run_pure,Result.andThen_ok,kL hi hz]
   cases a <;>simp
theorem Rw {t tx e ty:TypeId} {i:TypeInfo} {z:Value} {zeros:Bool} {argTypes:Array TypeId} {x':Value} {m:Nat} {news olds:Array Value} (F:CJ P t tx e i z zeros argTypes x' m w news)
  {a:Option Addr} {n c:Nat} (hc:c <n+m) (hroom:(n+m) * i.bytes≤room) (hn:n+m≤room) (hold:∀w':World,w'.heap=w.heap→(Builtin.firstCells i.size n (.slice a n c)).run P w'= .ok olds w'):
  ∃k,n+m≤k∧(Builtin.append_ argTypes ty #[.slice a n c,x']).run P w=
   .ok (.slice (some ⟨w.heap.size,0,none⟩) (n+m) k) {w with heap:=w.heap.push (.cells (olds++news++Builtin.zeroCells z.cells (k - (n+m))) e),drawn:=w.drawn+1}:=by
 obtain ⟨h0,h1,ht,eu,hi,hz,hsz,jH,src⟩:=F
 have hsize:cZ P e=some i.size:=by simp [cZ,hi]
 refine ⟨(Question.appendCap (n+m) c e).cut (w.tape w.drawn (.appendCap (n+m) c e)),by simp [Question.cut],?_⟩
 have hg:=growslice_fits hc (bytes:=i.bytes) (by unfold room at hroom;omega)
 have zH:¬((n+m:Nat):Int) >IntKind.i64.max:=by
  unfold room at hn
  have:IntKind.i64.max=9223372036854775807:=by decide
  omega
 have hgrow:∀(w1:World),w1.heap=w.heap→(∀w':World,w'.heap=w.heap→(Builtin.firstCells i.size n (.slice a n c)).run P w'= .ok olds w'):=fun _ _=>hold
 have hf:(Question.appendCap (n+m) c e).forced=false:=rfl
 unfold Builtin.append_
 cases zeros
 ·simp only [Bool.false_eq_true,if_false] at src eu
  obtain ⟨hlen,hnew⟩:=src
  rcases eu with ⟨k,eu⟩ | eu
  all_goals
   simp only [h0,h1,Sem.run_bind,bL ht,bL eu,Result.andThen_ok,gG hsize,Sem.run_pure,List.getElem?_toArray,List.getElem?_cons_zero,List.getElem?_cons_succ,l5 hi,Bool.false_eq_true,if_false,hlen,Bool.not_false,if_true]
   rw [if_neg (by omega)]
   simp only [Sem.run_bind,Sem.run_ite,l5 hi,Result.andThen_ok]
   rw [if_neg (by rintro ⟨q,_⟩;exact zH q),if_neg (by omega)]
   simp only [run_choose,hf,Bool.false_eq_true,if_false,Result.andThen_ok,run_askRoom,l5 hi,Sem.run_bind,Sem.run_pure]
   rw [hold {w with drawn:=w.drawn+1} rfl]
   simp only [Result.andThen_ok]
   rw [hnew {w with drawn:=w.drawn+1} rfl]
   simp only [Result.andThen_ok,kL hi hz,newRow,Sem.run_bind,run_newObj,Sem.run_pure]
 ·simp only [if_true] at src eu
  obtain ⟨l,rfl,hl0,rfl,hl1,hl2,rfl⟩:=src
  obtain ⟨k,eu⟩:=eu
  simp only [h0,h1,bL ht,bL eu,gG hsize,List.getElem?_toArray,List.getElem?_cons_zero,List.getElem?_cons_succ,if_true,Bool.not_true,Bool.false_eq_true,if_false,asInt,asIntOf,Sem.run_bind,Sem.run_pure,Result.andThen_ok,wrap_small hl0 hl1,l5 hi,Sem.run_ite]
  rw [if_neg (by omega)]
  rw [if_neg (by omega)]
  try simp only [Result.andThen_ok]
  rw [if_neg (by omega)]
  try simp only [Sem.run_bind,Sem.run_ite,l5 hi,Result.andThen_ok]
  rw [if_neg (by rintro ⟨q,_⟩;exact zH q),if_neg (by omega)]
  try simp only [run_choose,hf,Bool.false_eq_true,if_false,Result.andThen_ok,run_askRoom,l5 hi,Sem.run_bind,Sem.run_pure]
  rw [hold {w with drawn:=w.drawn+1} rfl]
  by_cases oz:l.toNat * i.size=0
  ·simp only [oz,if_true,Sem.run_bind,Sem.run_pure,Result.andThen_ok]
   rw [IN _ (by rw [jH];exact oz)]
   simp only [Result.andThen_ok,kL hi hz,newRow,Sem.run_bind,run_newObj,Sem.run_pure]
  ·simp only [oz,if_false,Sem.run_bind,Sem.run_pure,Result.andThen_ok,kL hi hz,newRow,run_newObj]
theorem rN {a:Option (Nat × Nat)} {n:Nat} {c:Cap} {s':Value} (h:aJ ρ (.sl a n c) s'):∃a' cp,s'= .slice a' n cp∧n≤cp:=by
 cases h
 ·exact ⟨_,_,rfl,Nat.le_refl _⟩
 ·exact ⟨_,_,rfl,by assumption⟩
 ·exact ⟨_,_,rfl,by assumption⟩
 ·exact ⟨_,_,rfl,Nat.le_refl _⟩
 ·exact ⟨_,_,rfl,by assumption⟩
 ·exact ⟨_,_,rfl,Nat.le_refl _⟩
 ·exact ⟨_,_,rfl,Nat.le_refl _⟩
theorem IP (p:Addr):(storeCells p [] 0).run P w= .ok () w:=by simp [storeCells]
theorem CL (sz:Nat) (a:Option Addr) (n c:Nat) (h:n=0) (w':World):(Builtin.firstCells sz n (.slice a n c)).run P w'= .ok #[] w':=by
 subst h
 cases a <;>simp [Builtin.firstCells,loadCells,loadCellsFrom]
theorem CN (hr:Rel P n0 ρ H w) (hl:n0≤lim) (hlim:lim≤H.next) (jt:H.next <H'.next→ρ H.next=none) {t tx e ty:TypeId} {i:TypeInfo} {zl:List aa} {zeros:Bool} {argTypes:Array TypeId}
  (h0:argTypes[0]? =some t) (h1:argTypes[1]? =some tx) (ht:P.underlying t=some (.slice e))
  (eu:if zeros then (∃k,P.underlying tx=some (.int k)) else ((∃k,P.underlying tx=some (.slice k))∨P.underlying tx=some .string))
  (hi:P.info? e=some i) (hz:lz P e=some zl) {s x:aa} {s' x':Value} (hs:aJ ρ s s') (hx:aJ ρ x x') (h:fO lim H zl i.bytes zeros s x=some (v,H')):
  dN P n0 lim ρ H w (Builtin.append_ argTypes ty #[s',x']) v H':=by
 obtain ⟨i',z,hi',iB,hzl,jH,gn,oA⟩:=rK ρ hz
 rw [hi] at hi';simp at hi';subst hi'
 simp only [fO,Option.bind_eq_bind,Option.bind_eq_some_iff] at h
 obtain ⟨⟨m,new⟩,hsrc,h⟩:=h
 simp only at h
 split at h
 ·simp at h
 rename_i gm
 simp only [Bool.or_eq_true,Bool.not_eq_true',decide_eq_true_eq,not_or,Bool.not_eq_false] at gm
 obtain ⟨hall,aey⟩:=gm
 have hall:new.all (·.one)=true:=by simpa using hall
 have hsz:0 <i.size:=by omega
 split at h
 case h_2=>simp at h
 rename_i a n c
 obtain ⟨a',cp,rfl,Rx⟩:=rN hs
 have hnew:∃news:Array Value,new.length=m * zl.length∧az ρ new news.toList∧((n+m) * i.bytes≤room∨m=0→CJ P t tx e i z zeros argTypes x' m w news):=by
  cases zeros
  ·simp only [Bool.false_eq_true,if_false] at hsrc eu
   obtain ⟨q1,q2,q3⟩:=IM (P:=P) hr hx hsrc
   obtain ⟨news,q4,q5⟩:=q3 m (Nat.le_refl _)
   refine ⟨news,q2,by rw [List.take_of_length_le (by omega)] at q5;exact q5,fun _=>⟨h0,h1,ht,by simpa using eu,hi,iB,hsz,jH,?_⟩⟩
   rw [hzl] at q4
   simp only [Bool.false_eq_true,if_false]
   exact ⟨q1,q4⟩
  ·simp only [if_true] at hsrc eu
   split at hsrc
   ·rename_i l
    split at hsrc <;>simp at hsrc
    rename_i hl0
    obtain ⟨rfl,rfl⟩:=hsrc
    cases hx
    refine ⟨Builtin.zeroCells z.cells l.toNat,by simp [rep],?_,fun hb=>⟨h0,h1,ht,by simpa using eu,hi,iB,hsz,jH,?_⟩⟩
    ·rw [CI _ _ (by omega)];exact zG gn _
    ·simp only [if_true]
     refine ⟨l,rfl,hl0.1,rfl,hl0.2,?_,trivial⟩
     rcases hb with hb | hb
     ·have h2:l.toNat * i.bytes≤room:=Nat.le_trans (Nat.mul_le_mul_right _ (by omega)) hb
      have h3:((l.toNat * i.bytes:Nat):Int)≤(room:Nat):=by exact_mod_cast h2
      rw [Int.natCast_mul,Int.toNat_of_nonneg hl0.1] at h3
      unfold room at h3;omega
     ·have:l=0:=by omega
      subst this;simp
   ·simp at hsrc
 obtain ⟨news,hlen,qh,hF⟩:=hnew
 split at h
 ·rename_i hm
  subst hm
  simp at h
  obtain ⟨rfl,rfl⟩:=h
  have F:=hF (.inr rfl)
  have mg:news.toList=[]:=by
   have:=qh.1;rw [hlen] at this;simp at this
   exact List.eq_nil_of_length_eq_zero (by simpa using this.symm)
  refine .same hr (v':= .slice a' n cp) ?_ hs
  rw [CK F (by omega:n+0≤cp)]
  cases a' with
  | none=>rfl
  | some p=>simp only [mg,IP,Result.andThen_ok];rfl
 rename_i hm0
 split at h
 ·simp at h
 rename_i hroom
 have IQ:(n+m) * i.bytes≤room:=by omega
 have zI:n+m≤room:=by omega
 have F:=hF (.inl IQ)
 have grow:∀(old:List aa) (olds:Array Value),az ρ old olds.toList→old.length=n * zl.length→cp <n+m→(∀w':World,w'.heap=w.heap→(Builtin.firstCells i.size n (.slice a' n cp)).run P w'= .ok olds w')→
   ∀{H1:ah},Post P n0 lim ρ H w ρ H1 w→H1.next=H.next→v= .sl (some (H.next,0)) (n+m) (.op zl.length 0)→H'=H1.push (.cells (old++new))→
   dN P n0 lim ρ H w (Builtin.append_ argTypes ty #[.slice a' n cp,x']) v H':=by
  intro old olds ho zJ qj hrun H1 hp lZ hv hH
  have hf:ρ H.next=none:=jt (by rw [hH,ah.bK,lZ];omega)
  obtain ⟨k,hk,he⟩:=Rw (ty:=ty) F qj IQ zI hrun
  have hc1:(olds++news++Builtin.zeroCells z.cells (k - (n+m))).toList=(olds.toList++news.toList)++(List.replicate (k - (n+m)) z.cells.toList).flatten:=by
   simp [CI _ _ (by omega:0 <z.cells.size)]
  have hlo:olds.toList.length=n * zl.length:=by rw [←ho.1,zJ]
  have zK:news.toList.length=m * zl.length:=by rw [←qh.1,hlen]
  have oA:z.cells.toList.length=zl.length:=gn.1.symm
  have IS:(olds++news++Builtin.zeroCells z.cells (k - (n+m))).size=k * zl.length:=by
   rw [←Array.length_toList,hc1]
   simp only [List.length_append,hlo,zK,List.length_flatten,List.map_replicate,List.sum_replicate_nat,oA]
   rw [←Nat.add_mul,←Nat.add_mul];congr 1;omega
  have vP:=hp.rel
  have CO:=vP.alloc (lim:=lim) (by omega) (by rw [lZ];exact hf) (old++new) (olds++news++Builtin.zeroCells z.cells (k - (n+m))) e (0,0)
   (by rw [IS,List.length_append,zJ,hlen,←Nat.add_mul];exact Nat.mul_le_mul_right _ hk)
   (by
    rw [hc1,List.length_append,ho.1,qh.1,←List.length_append,List.take_left]
    exact az.append ho qh)
   (fun i _ h=>by simp at h)
   (w':={w with heap:=w.heap.push (.cells (olds++news++Builtin.zeroCells z.cells (k - (n+m))) e),drawn:=w.drawn+1}) rfl ⟨rfl,rfl,rfl⟩
  refine ⟨_,_,_,he,hp.trans (Nat.le_refl _) (fun b g1 g2=> ?_) (hH ▸ CO),?_⟩
  ·rw [hH,ah.bK,lZ] at g2
   obtain rfl:b=H.next:=by omega
   exact hf
  ·rw [hv,lZ]
   exact .iz (eG _ _ _) hk (by simp only [IS];omega) (Nat.zero_le _)
 have IT:∀(b o:Nat) (L:Loc) (cs:List aa),a=some (b,o)→a'=some ⟨L.blk,L.d+o,none⟩→ρ b=some L→H.cells b=some cs→lim≤b→o+(n+m) * zl.length≤cs.length→n+m≤cp→aJ ρ (.sl a (n+m) c) (.slice a' (n+m) cp)→
   v= .sl a (n+m) c→H'=H.set b (.cells (put cs (o+n * zl.length) new))→dN P n0 lim ρ H w (Builtin.append_ argTypes ty #[.slice a' n cp,x']) v H':=by
  intro b o L cs ha ha' hb hc hlb hle hcap kM hv hH
  have hmul:(n+m) * zl.length=n * zl.length+m * zl.length:=Nat.add_mul _ _ _
  obtain ⟨w',r1,r2⟩:=zD (P:=P) (o:=o+n * zl.length) hr hl hlb hb hc qh hall (by omega)
  refine ⟨.slice a' (n+m) cp,w',ρ,?_,hH ▸ r2,hv ▸ kM⟩
  rw [CK F hcap,ha']
  simp only [add_eq]
  rw [←hzl,show L.d+o+n * zl.length=L.d+(o+n * zl.length) by omega,r1]
  rfl
 split at h
 ·
  rename_i k
  split at h <;>simp at h
  rename_i hn0
  subst hn0
  obtain ⟨rfl,rfl⟩:=h
  cases hs
  exact grow [] #[] (az.nil ρ) (by simp) (by omega) (fun w' _=>CL _ _ _ _ rfl w') (.refl hr) rfl (by simp) (by simp)
 ·
  rename_i b o k
  simp only [Option.bind_eq_some_iff] at h
  obtain ⟨cs,hc,h⟩:=h
  obtain ⟨L,hb,IU⟩:∃L,ρ b=some L∧(a'=some ⟨L.blk,L.d+o,none⟩∧cp=k∨n=0∧k=0∧cp=0):=by
   cases hs with
   | gX hb hnk=>exact ⟨_,hb,.inl ⟨rfl,rfl⟩⟩
   | kJ hb=>exact ⟨_,hb,.inr ⟨rfl,rfl,rfl⟩⟩
  split at h
  ·rename_i hk
   obtain ⟨rfl,rfl⟩:a'=some ⟨L.blk,L.d+o,none⟩∧cp=k:=by
    rcases IU with q | ⟨rfl,rfl,rfl⟩
    ·exact q
    ·exact absurd hm0 (by omega)
   split at h <;>simp at h
   rename_i gm
   obtain ⟨rfl,rfl⟩:=h
   exact IT b o L cs rfl rfl hb hc gm.1 gm.2 hk (.gX hb hk) rfl rfl
  ·rename_i hk
   simp only [Option.bind_eq_some_iff] at h
   obtain ⟨old,iA,h⟩:=h
   split at h <;>simp at h
   rename_i gm
   obtain ⟨rfl,rfl⟩:=h
   obtain ⟨hle,rfl⟩:=vN iA
   obtain ⟨cc,e',fr,g1,g2,g3,g4,g5⟩:=hr.cells hb hc
   refine grow _ ((cc.toList.drop (L.d+o)).take (n * zl.length)).toArray (by simpa using g5.drop_take hle) (by simp;omega) (by omega) (fun w' hw'=> ?_) (.refl hr) rfl rfl rfl
   rcases IU with ⟨rfl,rfl⟩ | ⟨rfl,rfl,rfl⟩
   ·simp only [Builtin.firstCells]
    rw [←hzl]
    exact vJ (by rw [hw'];exact g1) (by omega)
   ·rw [CL _ _ _ _ rfl]
    simp
 ·
  rename_i b o Q7 kn
  simp only [Option.bind_eq_some_iff] at h
  obtain ⟨cs,hc,h⟩:=h
  split at h
  case isFalse=>simp at h
  rename_i gm
  obtain ⟨hlb,rfl⟩:=gm
  have hmul:(n+m) * zl.length=n * zl.length+m * zl.length:=Nat.add_mul _ _ _
  obtain ⟨L,hb⟩:∃L,ρ b=some L:=by cases hs with | iz h1 _ _ _=>exact ⟨_,h1⟩ | jq h1 _=>exact ⟨_,h1⟩
  obtain ⟨cc,e',fr,g1,g2,g3,g4,g5⟩:=hr.cells hb hc
  have hpos:0 <m * zl.length:=Nat.mul_pos (by omega) (by omega)
  split at h
  ·rename_i hle
   simp at h
   obtain ⟨rfl,rfl⟩:=h
   cases hs with
   | iz hb' hn' hcz hkn=>
    rename_i L'
    rw [hb] at hb';simp at hb';subst hb'
    have hcap:n+m≤cp:=by
     rcases Nat.lt_or_ge cp (n+m) with q | q
     ·have:(cp+1) * zl.length≤(n+m) * zl.length:=Nat.mul_le_mul_right _ q
      have e1:(cp+1) * zl.length=cp * zl.length+zl.length:=Nat.succ_mul _ _
      omega
     ·exact q
    exact IT b o L cs rfl rfl hb hc hlb hle hcap (.iz hb hcap hcz hkn) rfl rfl
   | jq hb' hcz=>
    rename_i a1 L'
    rw [hb] at hb';simp at hb';subst hb'
    exact (by exfalso;omega)
  ·rename_i aez
   split at h <;>simp at h
   rename_i hend
   obtain ⟨hend,hone⟩:=hend
   obtain ⟨rfl,rfl⟩:=h
   by_cases hcap:n+m≤cp
   ·
    cases hs with
    | iz hb' hn' hcz hkn=>
     rename_i L'
     rw [hb] at hb';simp at hb';subst hb'
     have hf:ρ H.next=none:=jt (Nat.lt_succ_self _)
     have cR:cc.toList.length=cc.size:=by simp
     have hfit:L.d+o+(n+m) * zl.length≤cc.size:=by
      have:(n+m) * zl.length≤cp * zl.length:=Nat.mul_le_mul_right _ hcap
      omega
     have hnl:news.toList.length=m * zl.length:=by rw [←qh.1,hlen]
     obtain ⟨w',c',r1,r2,r3,r4,r6,r5⟩:=Cz (P:=P) (blk:=L.blk) (o:=L.d+(o+n * zl.length)) news.toList 0 w cc g1 (by rw [hnl];omega) (fun k _ hk=>g3 (by omega) k (by rw [hnl] at hk;omega)) (qh.one hall)
     simp only [Nat.add_zero] at r5
     have rO:news.size=m * zl.length:=by rw [←Array.length_toList];exact hnl
     have Ry:c'.size=cc.size:=by rw [←Array.length_toList,r5];simp;omega
     have zL:(cs.drop o++new).length=(n+m) * zl.length:=by rw [List.length_append,List.length_drop,hlen];omega
     refine ⟨.slice (some ⟨L.blk,L.d+o,none⟩) (n+m) cp,w',_,?_,hr.Ra hlim hf hl hlb hb hc g1 r2 r3 r4 Ry (o:=o) (by rw [zL];omega) ?_ r6,?_⟩
     ·rw [CK F hcap]
      simp only [add_eq]
      rw [←hzl,show L.d+o+n * zl.length=L.d+(o+n * zl.length) by omega,r1]
      rfl
     ·have e1:(c'.toList.drop (L.d+o)).take (cs.drop o++new).length=((cc.toList.drop (L.d+o)).take (n * zl.length))++news.toList:=by
       rw [r5,zL]
       apply List.ext_getElem?
       intro j
       simp only [List.getElem?_take,List.getElem?_drop,List.getElem?_append,List.length_append,List.length_take,List.length_drop,cR,hnl]
       by_cases j1:j <n * zl.length
       ·have a1:j <(n+m) * zl.length:=by omega
        have a2:L.d+o+j <min (L.d+(o+n * zl.length)) cc.size+m * zl.length:=by omega
        have a3:L.d+o+j <min (L.d+(o+n * zl.length)) cc.size:=by omega
        have a4:L.d+o+j <L.d+(o+n * zl.length):=by omega
        have a5:j <min (n * zl.length) (cc.size - (L.d+o)):=by omega
        simp [j1,a1,a2,a3,a4,a5]
       ·by_cases j2:j <(n+m) * zl.length
        ·have a2:L.d+o+j <min (L.d+(o+n * zl.length)) cc.size+m * zl.length:=by omega
         have a3:¬L.d+o+j <min (L.d+(o+n * zl.length)) cc.size:=by omega
         have a5:¬j <min (n * zl.length) (cc.size - (L.d+o)):=by omega
         have e1:L.d+o+j - min (L.d+(o+n * zl.length)) cc.size=j - n * zl.length:=by omega
         have e2:j - min (n * zl.length) (cc.size - (L.d+o))=j - n * zl.length:=by omega
         simp [j2,a2,a3,a5,e1,e2]
        ·have a5:¬j <min (n * zl.length) (cc.size - (L.d+o)):=by omega
         have a6:¬j - min (n * zl.length) (cc.size - (L.d+o)) <m * zl.length:=by omega
         have:news.toList[j - min (n * zl.length) (cc.size - (L.d+o))]? =none:=List.getElem?_eq_none (by omega)
         rw [if_neg j2,if_neg a5,this]
      rw [e1]
      refine az.append ?_ qh
      have:=g5.drop_take (o:=o) (n:=n * zl.length) (by omega)
      rwa [List.take_of_length_le (by simp;omega)] at this
     ·exact .iz (eG _ _ _) hcap (by simp only;omega) (Nat.zero_le _)
    | jq hb' hcz=>exact (by exfalso;omega)
   ·
    have hk:=hr.kill (n0:=n0) (lim:=lim) (w:=w) hlb hc
    have CP:∃olds:Array Value,az ρ (cs.drop o) olds.toList∧ ∀w':World,w'.heap=w.heap→(Builtin.firstCells i.size n (.slice a' n cp)).run P w'= .ok olds w':=by
     cases hs with
     | iz hb' hn' hcz _=>
      rename_i L'
      rw [hb] at hb';simp at hb';subst hb'
      refine ⟨((cc.toList.drop (L.d+o)).take (n * zl.length)).toArray,?_,fun w' hw'=> ?_⟩
      ·have:=g5.drop_take (o:=o) (n:=n * zl.length) (by omega)
       rw [List.take_of_length_le (by simp;omega)] at this
       simpa using this
      ·simp only [Builtin.firstCells]
       rw [←hzl]
       exact vJ (by rw [hw'];exact g1) (by omega)
     | jq hb' hcz=>
      refine ⟨#[],?_,fun w' _=>CL _ _ _ _ rfl w'⟩
      rw [List.drop_eq_nil_of_le (by omega)];exact az.nil ρ
    obtain ⟨olds,ho,hrun⟩:=CP
    exact grow _ olds ho (by simp;omega) (by omega) hrun hk rfl rfl rfl
 ·simp at h
end
end Go.au
end
section
set_option linter.unusedSimpArgs false
set_option linter.unusedVariables false
set_option linter.unusedSectionVars false
namespace Go.au
variable [Gl]
def kN (ρ:Mp):Option aa→Option Value→Prop
 | none,none=>True
 | some v,some v'=>aJ ρ v v'
 | _,_=>False
section
variable {P:Program} {n0 lim:Nat} {ρ:Mp} {H H':ah} {w:World} {v:aa}
theorem tL {d n:Nat} {o:Option aa} {o':Option Value} (h:kN ρ o o') (hn:dD d o=some n):
  (o'=none∧o=none∧n=d)∨(∃k i,o'=some (.int k i)∧o.isSome∧0≤i∧i.toNat=n):=by
 cases o with
 | none=>cases o' with
  | none=>simp [dD] at hn;exact .inl ⟨rfl,rfl,hn.symm⟩
  | some v'=>exact h.elim
 | some v=>cases o' with
  | none=>exact h.elim
  | some v'=>
   obtain ⟨k,i,rfl,h0,h1⟩:=vO h hn
   exact .inr ⟨k,i,rfl,rfl,h0,h1⟩
theorem run_sliceBound {k:IntKind} {i:Int} {y n:Nat} {code:BoundsCode} (h0:0≤i) (h1:i.toNat=n) (h2:n≤y):(Instr.sliceBound (.int k i) y code).run P w= .ok n w:=by
 simp only [Instr.sliceBound,asIntOf,Sem.run_bind,Sem.run_pure,Result.andThen_ok]
 rw [if_pos (by omega)]
 simp [h1]
theorem CQ {isSlice:Bool} {len cap l h m:Nat} {lo hi mx:Option aa} {lo' hi' kO:Option Value} (hlo:kN ρ lo lo') (hhi:kN ρ hi hi') (nA:kN ρ mx kO)
  (h1:dD 0 lo=some l) (h2:dD len hi=some h) (h3:dD cap mx=some m) (hno:¬(hi.isNone=true∧mx.isSome=true)) (CR:l≤h) (IV:hi.isSome=true→h≤m) (Rz:m≤cap):
  (Instr.sliceBounds isSlice len cap lo' hi' kO).run P w= .ok (l,h,m) w:=by
 unfold Instr.sliceBounds
 rcases tL nA h3 with ⟨rfl,rfl,rfl⟩ | ⟨k3,i3,rfl,s3,a3,b3⟩
 ·rcases tL hhi h2 with ⟨rfl,rfl,rfl⟩ | ⟨k2,i2,rfl,s2,a2,b2⟩
  ·rcases tL hlo h1 with ⟨rfl,rfl,rfl⟩ | ⟨k1,i1,rfl,s1,a1,b1⟩
   ·simp
   ·simp [run_sliceBound a1 b1 CR]
  ·have q2:∀code,(Instr.sliceBound (.int k2 i2) m code).run P w= .ok h w:=fun code=>run_sliceBound a2 b2 (IV s2)
   rcases tL hlo h1 with ⟨rfl,rfl,rfl⟩ | ⟨k1,i1,rfl,s1,a1,b1⟩
   ·simp [q2]
   ·simp [q2,run_sliceBound a1 b1 CR]
 ·have q3:∀code,(Instr.sliceBound (.int k3 i3) cap code).run P w= .ok m w:=fun code=>run_sliceBound a3 b3 Rz
  rcases tL hhi h2 with ⟨rfl,rfl,rfl⟩ | ⟨k2,i2,rfl,s2,a2,b2⟩
  ·exact absurd ⟨rfl,s3⟩ hno
  ·have q2:∀code,(Instr.sliceBound (.int k2 i2) m code).run P w= .ok h w:=fun code=>run_sliceBound a2 b2 (IV s2)
   rcases tL hlo h1 with ⟨rfl,rfl,rfl⟩ | ⟨k1,i1,rfl,s1,a1,b1⟩
   ·simp [q3,q2]
   ·simp [q3,q2,run_sliceBound a1 b1 CR]
theorem IW {n h:Nat} {hi mx:Option aa} (e:(if (hi.isNone && mx.isSome)=true then none else dD n hi)=some h):dD n hi=some h∧ ¬(hi.isNone=true∧mx.isSome=true):=by
 split at e
 ·simp at e
 ·rename_i hc
  exact ⟨e,by simpa using hc⟩
theorem RA (hr:Rel P n0 ρ H w) {t e:TypeId} {sz:Nat} (ht:P.underlying t=some (.slice e)) (hsz:cZ P e=some sz) {x:aa} {x':Value} {lo hi mx:Option aa} {lo' hi' kO:Option Value}
  (hx:aJ ρ x x') (hlo:kN ρ lo lo') (hhi:kN ρ hi hi') (nA:kN ρ mx kO) (h:fN sz x lo hi mx=some v):
  dN P n0 lim ρ H w (Instr.sliceAt t x' lo' hi' kO) v H:=by
 have real:∀(a:Option Addr) (n cp l h m:Nat),x'= .slice a n cp→dD 0 lo=some l→dD n hi=some h→dD cp mx=some m→ ¬(hi.isNone=true∧mx.isSome=true)→l≤h→(hi.isSome=true→h≤m)→m≤cp→
   aJ ρ v (.slice (if m=l then a else a.map (·.add (l * sz))) (h - l) (m - l))→dN P n0 lim ρ H w (Instr.sliceAt t x' lo' hi' kO) v H:=by
  rintro a n cp l h m rfl h1 h2 h3 h4 h5 h6 h7 hv
  refine .same hr ?_ hv
  simp only [Instr.sliceAt,Sem.run_bind,bL ht,Result.andThen_ok,Instr.slice,CQ (P:=P) (w:=w) (isSlice:=true) hlo hhi nA h1 h2 h3 h4 h5 h6 h7,gG hsz,Sem.run_pure]
 unfold fN at h
 split at h
 case h_2=>simp at h
 rename_i a n c
 simp only [Option.bind_eq_bind,Option.bind_eq_some_iff] at h
 obtain ⟨hh,e0,l,e2,h⟩:=h
 obtain ⟨e1,hno⟩:=IW e0
 clear e0
 split at h
 ·rename_i k
  simp only [Option.bind_eq_some_iff] at h
  obtain ⟨m,e3,h⟩:=h
  split at h <;>simp at h
  rename_i hc
  obtain ⟨c1,c2,c3⟩:=hc
  subst h
  cases hx with
  | lB=>exact real none 0 0 l hh m rfl e2 e1 e3 hno c3 (fun _=>c2) c1 (by
    obtain rfl:m=0:=by omega
    obtain rfl:hh=0:=by omega
    obtain rfl:l=0:=by omega
    exact .lB)
  | kJ hb=>exact real _ 0 0 l hh m rfl e2 e1 e3 hno c3 (fun _=>c2) c1 (by
    obtain rfl:m=0:=by omega
    obtain rfl:hh=0:=by omega
    obtain rfl:l=0:=by omega
    exact .kJ hb)
  | gX hb hn=>
   rename_i b o L
   refine real _ n k l hh m rfl e2 e1 e3 hno c3 (fun _=>c2) c1 ?_
   split
   ·exact .gX hb (by omega)
   ·simp only [shift,Option.map_some,add_eq]
    rw [Nat.add_assoc]
    exact .gX hb (by omega)
 ·rename_i tM
  split at h
  ·rename_i hmn
   obtain rfl:mx=none:=by simpa using hmn
   have e3:∀cp,dD cp (none:Option aa)=some cp:=fun cp=>rfl
   split at h
   ·rename_i ez kn
    split at h <;>simp at h
    rename_i hc
    obtain ⟨c1,c2,rfl⟩:=hc
    subst h
    cases hx with
    | iz hb hn hcz hkn=>
     rename_i b o cp L
     have nA:max n kn≤cp:=by omega
     refine real _ n cp l hh cp rfl e2 e1 (e3 cp) hno c2 (fun _=>by omega) (Nat.le_refl _) ?_
     split
     ·rename_i cR
      obtain rfl:hh=l:=by omega
      simp only [shift,Option.map_some,Nat.sub_self]
      subst cR
      rw [show max n kn - cp=0 by omega]
      simp only [Nat.sub_self]
      exact .jq hb (by omega)
     ·simp only [shift,Option.map_some,add_eq]
      rw [Nat.add_assoc]
      refine .iz hb (by omega) ?_ (by omega)
      have:cp * ez=l * ez+(cp - l) * ez:=by rw [←Nat.add_mul];congr 1;omega
      omega
    | jq hb hcz=>
     obtain rfl:hh=0:=by omega
     obtain rfl:l=0:=by omega
     refine real _ 0 0 0 0 0 rfl e2 e1 (e3 0) hno c2 (fun _=>by omega) (Nat.le_refl _) ?_
     simp only [shift,Option.map_some,Nat.zero_mul,Nat.add_zero,if_true,Nat.sub_self,Nat.max_self]
     exact .jq hb hcz
   ·rename_i IX
    split at h <;>simp at h
    rename_i hc
    obtain ⟨c1,c2,c3⟩:=hc
    subst h
    cases hx with
    | lB=>exact absurd rfl (tM 0)
    | kJ=>exact absurd rfl (tM 0)
    | gX=>exact absurd rfl (tM _)
    | iz=>exact absurd rfl (IX _ _)
    | jq=>exact absurd rfl (IX _ _)
    | kH hb hn=>
     rename_i b o cp L
     refine real _ n cp l hh cp rfl e2 e1 (e3 cp) hno c2 (fun _=>by omega) (Nat.le_refl _) ?_
     split
     ·rename_i cR
      obtain rfl:hh=l:=by omega
      simp only [shift,Option.map_some,Nat.sub_self]
      subst cR
      simp only [Nat.sub_self]
      exact .lC hb
     ·simp only [shift,Option.map_some,add_eq]
      rw [Nat.add_assoc]
      exact .kH hb (by omega)
    | lC hb=>
     obtain rfl:hh=0:=by omega
     obtain rfl:l=0:=by omega
     refine real _ 0 0 0 0 0 rfl e2 e1 (e3 0) hno c2 (fun _=>by omega) (Nat.le_refl _) ?_
     simp only [shift,Option.map_some,Nat.zero_mul,Nat.add_zero,if_true,Nat.sub_self]
     exact .lC hb
  ·rename_i hmn
   simp only [Option.bind_eq_some_iff] at h
   obtain ⟨m,e3,h⟩:=h
   split at h <;>simp at h
   rename_i hc
   obtain ⟨c1,c2,c3⟩:=hc
   subst h
   have IY:∀cp,dD cp mx=some m:=by
    intro cp
    cases mx with
    | none=>simp at hmn
    | some x=>exact e3
   have fin:∀(b o cp:Nat) (L:Loc),ρ b=some L→a=some (b,o)→n≤cp→x'= .slice (some ⟨L.blk,L.d+o,none⟩) n cp→dN P n0 lim ρ H w (Instr.sliceAt t x' lo' hi' kO) (.sl (if m=l then a else shift a (l * sz)) (hh - l) (.ex (m - l))) H:=by
    intro b o cp L hb ha hn hx'
    refine real _ n cp l hh m hx' e2 e1 (IY cp) hno c3 (fun _=>c2) (by omega) ?_
    subst ha
    split
    ·exact .gX hb (by omega)
    ·simp only [shift,Option.map_some,add_eq]
     rw [Nat.add_assoc]
     exact .gX hb (by omega)
   have zero:∀(b o:Nat) (ad:Addr) (L:Loc),ρ b=some L→a=some (b,o)→n=0→x'= .slice (some ad) 0 0→dN P n0 lim ρ H w (Instr.sliceAt t x' lo' hi' kO) (.sl (if m=l then a else shift a (l * sz)) (hh - l) (.ex (m - l))) H:=by
    intro b o ad L hb ha hn hx'
    subst hn
    obtain rfl:m=0:=by omega
    obtain rfl:hh=0:=by omega
    obtain rfl:l=0:=by omega
    refine real _ 0 0 0 0 0 hx' e2 e1 (IY 0) hno c3 (fun _=>c2) (by omega) ?_
    subst ha
    exact .kJ hb
   cases hx with
   | lB=>exact absurd rfl (tM 0)
   | kJ=>exact absurd rfl (tM 0)
   | gX=>exact absurd rfl (tM _)
   | iz hb hn hcz _=>exact fin _ _ _ _ hb rfl hn rfl
   | jq hb hcz=>exact zero _ _ _ _ hb rfl rfl rfl
   | kH hb hn=>exact fin _ _ _ _ hb rfl hn rfl
   | lC hb=>exact zero _ _ _ _ hb rfl rfl rfl
theorem RB (hr:Rel P n0 ρ H w) {t:TypeId} (ht:P.underlying t=some .string) {x:aa} {x':Value} {lo hi:Option aa} {lo' hi':Option Value}
  (hx:aJ ρ x x') (hlo:kN ρ lo lo') (hhi:kN ρ hi hi') (h:dS x lo hi=some v):
  dN P n0 lim ρ H w (Instr.sliceAt t x' lo' hi' none) v H:=by
 unfold dS at h
 split at h
 case h_2=>simp at h
 rename_i s
 simp only [Option.bind_eq_bind,Option.bind_eq_some_iff] at h
 obtain ⟨hh,e1,l,e2,h⟩:=h
 split at h <;>simp at h
 rename_i hc
 subst h
 cases hx with | str hs=>
 rename_i s'
 have hl:=qg hs
 have hb:=CQ (P:=P) (w:=w) (isSlice:=false) (len:=s'.size) (cap:=s'.size) (mx:=none) (kO:=none) hlo hhi trivial e2 (by rw [hl];exact e1) rfl (by simp) hc.2 (fun _=>by omega) (Nat.le_refl _)
 refine .same hr (v':= .string (s'.extract l hh)) ?_ (.str ?_)
 ·simp only [Instr.sliceAt,Sem.run_bind,bL ht,Result.andThen_ok,Instr.slice,Option.isSome_none,Bool.false_eq_true,if_false,hb,Sem.run_pure]
 ·rw [ByteArray.data_extract,Array.toList_extract,List.extract_eq_take_drop,hs]
theorem RC (hr:Rel P n0 ρ H w) {t e:TypeId} {n sz:Nat} (ht:P.underlying t=some (.array n e)) (hsz:cZ P e=some sz) {x:aa} {x':Value} {lo hi mx:Option aa} {lo' hi' kO:Option Value}
  (hx:aJ ρ x x') (hlo:kN ρ lo lo') (hhi:kN ρ hi hi') (nA:kN ρ mx kO) (h:kD n sz x lo hi mx=some v):
  dN P n0 lim ρ H w (Instr.sliceAt t x' lo' hi' kO) v H:=by
 unfold kD at h
 split at h
 case h_2=>simp at h
 rename_i b o
 simp only [Option.bind_eq_bind,Option.bind_eq_some_iff] at h
 obtain ⟨hh,e0,l,e2,m,e3,h⟩:=h
 obtain ⟨e1,hno⟩:=IW e0
 clear e0
 split at h <;>simp at h
 rename_i hc
 subst h
 cases hx with | ptr hb=>
 rename_i L
 have hbd:=CQ (P:=P) (w:=w) (isSlice:=false) hlo hhi nA e2 e1 e3 hno hc.2.2 (fun _=>hc.2.1) hc.1
 refine .same hr (v':= .slice (some (if m=l then (⟨L.blk,L.d+o,none⟩:Addr) else (⟨L.blk,L.d+o,none⟩:Addr).add (l * sz))) (hh - l) (m - l)) ?_ ?_
 ·simp only [Instr.sliceAt,Sem.run_bind,bL ht,Result.andThen_ok,Instr.sureAddr,hbd,gG hsz,Sem.run_pure]
 ·split
  ·exact .gX hb (by omega)
  ·rw [add_eq,Nat.add_assoc];exact .gX hb (by omega)
theorem IZ (hr:Rel P n0 ρ H w) {t e:TypeId} {arr:Option Nat} {sz:Nat} (ht:match arr with | none=>P.underlying t=some (.slice e) | some n=>P.underlying t=some (.array n e)) (hsz:cZ P e=some sz)
  {x i:aa} {x' i':Value} (hx:aJ ρ x x') (hi:aJ ρ i i') (h:cD arr sz x i=some v):dN P n0 lim ρ H w (Instr.indexAt t x' i') v H:=by
 unfold cD at h
 split at h
 ·rename_i j b o n c hj
  split at h <;>simp at h
  rename_i hjn
  subst h
  obtain ⟨k,ii,rfl,h0,h1⟩:=vO hi hj
  have:∃L cp,ρ b=some L∧x'= .slice (some ⟨L.blk,L.d+o,none⟩) n cp:=by
   cases hx <;>first | exact ⟨_,_,by assumption,rfl⟩ | (exact absurd hjn (Nat.not_lt_zero _))
  obtain ⟨L,cp,hb,rfl⟩:=this
  refine .same hr (v':= .pointer (some ⟨L.blk,L.d+o+ii.toNat * sz,none⟩)) ?_ ?_
  ·simp only [Instr.indexAt,asIntOf,Sem.run_bind,Sem.run_pure,Result.andThen_ok,bL ht]
   rw [if_pos (by omega)]
   simp only [Sem.run_bind,gG hsz,Result.andThen_ok,Sem.run_pure,add_eq]
  ·rw [Nat.add_assoc,h1];exact .ptr hb
 ·rename_i j b o n hj
  split at h <;>simp at h
  rename_i hjn
  subst h
  obtain ⟨k,ii,rfl,h0,h1⟩:=vO hi hj
  cases hx with | ptr hb=>
  rename_i L
  refine .same hr (v':= .pointer (some ⟨L.blk,L.d+o+ii.toNat * sz,none⟩)) ?_ ?_
  ·simp only [Instr.indexAt,asIntOf,Sem.run_bind,Sem.run_pure,Result.andThen_ok,bL ht,Instr.sureAddr]
   rw [if_pos (by omega)]
   simp only [Sem.run_bind,gG hsz,Result.andThen_ok,Sem.run_pure,add_eq]
  ·rw [Nat.add_assoc,h1];exact .ptr hb
 ·simp at h
theorem RD (hr:Rel P n0 ρ H w) {t e:TypeId} {n sz:Nat} {g:Option Nat} (ht:P.underlying t=some (.array n e)) (hsz:cZ P e=some sz) (hg:ni P e=some g)
  {x i:aa} {x' i':Value} (hx:aJ ρ x x') (hi:aJ ρ i i') (h:zn n sz g.isSome x i=some v):dN P n0 lim ρ H w (Instr.index t x' i') v H:=by
 unfold zn at h
 split at h
 ·rename_i j cs hj
  split at h
  ·rename_i hjn
   obtain ⟨k,ii,rfl,h0,h1⟩:=vO hi hj
   obtain ⟨c,rfl,hc⟩:=hx.qc
   have hg':(if g.isSome=true then some sz else none)=g:=by
    cases g with
    | none=>rfl
    | some m=>
     unfold ni at hg
     split at hg <;>simp [hsz] at hg <;>simp [hg]
   rw [hg'] at h
   obtain ⟨v',q1,q2⟩:=IG (P:=P) e hg hc h w
   refine .same hr (v':=v') ?_ q2
   simp only [Instr.index,asIntOf,Sem.run_bind,Sem.run_pure,Result.andThen_ok,bL ht]
   rw [if_pos (by omega)]
   simp only [Sem.run_bind,gG hsz,Result.andThen_ok,h1,q1]
  ·simp at h
 ·simp at h
theorem RE (hr:Rel P n0 ρ H w) {t:TypeId} (ht:P.underlying t=some .string) {x i:aa} {x' i':Value} (hx:aJ ρ x x') (hi:aJ ρ i i') (h:e7 x i=some v):
  dN P n0 lim ρ H w (Instr.index t x' i') v H:=by
 unfold e7 at h
 split at h
 ·rename_i j s hj
  rw [Option.map_eq_some_iff] at h
  obtain ⟨c,hc,rfl⟩:=h
  obtain ⟨k,ii,rfl,h0,h1⟩:=vO hi hj
  cases hx with | str hs=>
  rename_i s'
  have hlt:j <s.length:=by
   rcases Nat.lt_or_ge j s.length with h | h
   ·exact h
   ·rw [List.getElem?_eq_none h] at hc;simp at hc
  have hlt':j <s'.size:=by rw [qg hs];exact hlt
  have dX:s'[j]=c:=by
   subst hs
   rw [List.getElem?_eq_getElem hlt] at hc
   simp at hc
   rw [←hc];rfl
  refine .same hr (v':= .int .u8 c.toNat) ?_ (.int _ _)
  simp only [Instr.index,asIntOf,Sem.run_bind,Sem.run_pure,Result.andThen_ok,bL ht]
  rw [if_pos h0,h1,getElem?_pos s' j hlt',dX]
  rfl
 ·simp at h
theorem RG (hr:Rel P n0 ρ H w) (hl:n0≤lim) {t e ty:TypeId} {sz:Nat} {argTypes:Array TypeId} (h0:argTypes[0]? =some t) (ht:P.underlying t=some (.slice e)) (hsz:cZ P e=some sz)
  {d s:aa} {d' s':Value} (hd:aJ ρ d d') (hs:aJ ρ s s') (h:nW lim H sz d s=some (v,H')):dN P n0 lim ρ H w (Builtin.copy_ argTypes ty #[d',s']) v H':=by
 unfold nW at h
 split at h
 case h_2=>simp at h
 rename_i a n c
 simp only [Option.bind_eq_bind,Option.bind_eq_some_iff] at h
 obtain ⟨⟨m,new⟩,hsrc,h⟩:=h
 simp only at h
 obtain ⟨a',cp,rfl,Rx⟩:=rN hd
 obtain ⟨q1,q2,q3⟩:=IM (P:=P) hr hs hsrc
 have hk:Nat.min m n=min m n:=rfl
 obtain ⟨news,q4,q5⟩:=q3 (min m n) (Nat.min_le_left _ _)
 have head:(Builtin.copy_ argTypes ty #[.slice a' n cp,s']).run P w=(match a' with
   | some p=>((storeCells p news.toList).run P w).andThen fun _ w'=> .ok (goInt ((min m n:Nat):Int)) w'
   | none=> .ok (goInt ((min m n:Nat):Int)) w):=by
  unfold Builtin.copy_
  simp only [h0,Sem.run_bind,bL ht,Result.andThen_ok,q1,hk,gG hsz,q4 w rfl,List.getElem?_toArray,List.getElem?_cons_zero,List.getElem?_cons_succ]
  cases a' <;>simp only [Sem.run_pure,Sem.run_bind] <;>rfl
 split at h
 ·rename_i hk0
  simp at h
  obtain ⟨rfl,rfl⟩:=h
  have mg:news.toList=[]:=by
   have:=q5.1
   simp [hk0] at this
   exact List.eq_nil_of_length_eq_zero (by simpa using this.symm)
  refine .same hr (v':=goInt ((min m n:Nat):Int)) ?_ (by rw [hk0];exact .int _ _)
  rw [head]
  cases a' with
  | none=>rfl
  | some p=>simp only [mg,IP,Result.andThen_ok]
 ·rename_i hk0
  split at h
  case h_2=>simp at h
  rename_i b o
  simp only [Option.bind_eq_some_iff] at h
  obtain ⟨cs,hc,h⟩:=h
  split at h <;>simp at h
  rename_i gm
  obtain ⟨rfl,rfl⟩:=h
  have:∃L,ρ b=some L∧a'=some ⟨L.blk,L.d+o,none⟩:=by
   cases hd <;>first | exact ⟨_,by assumption,rfl⟩ | (exact absurd (Nat.min_zero _) hk0)
  obtain ⟨L,hb,rfl⟩:=this
  have hlen:(new.take (min m n * sz)).length=min m n * sz:=by
   rw [List.length_take,q2];exact Nat.min_eq_left (Nat.mul_le_mul_right _ (Nat.min_le_left _ _))
  obtain ⟨w',r1,r2⟩:=zD (P:=P) (o:=o) hr hl gm.1 hb hc q5 (by simpa using gm.2.2) (by rw [hlen];exact gm.2.1)
  refine ⟨goInt ((min m n:Nat):Int),w',ρ,?_,r2,.int _ _⟩
  rw [head]
  simp only [r1,Result.andThen_ok]
theorem RH (hr:Rel P n0 ρ H w) (hlim:lim≤H.next) (hf:ρ H.next=none) {t e:TypeId} {i:TypeInfo} {zl:List aa} (ht:P.underlying t=some (.slice e)) (hi:P.info? e=some i) (hz:lz P e=some zl)
  {l c:aa} {l' c':Value} (hl:aJ ρ l l') (hc:aJ ρ c c') (hpos:0 <zl.length) (h:pW H zl i.bytes l c=some (v,H')):dN P n0 lim ρ H w (Instr.makeSlice t l' c') v H':=by
 obtain ⟨i',z,hi',iB,hzl,jH,gn,oA⟩:=rK ρ hz
 rw [hi] at hi';simp at hi';subst hi'
 unfold pW at h
 split at h
 case h_2=>simp at h
 rename_i a b
 split at h <;>simp at h
 rename_i gm
 obtain ⟨h1,h2,h3,h4⟩:=gm
 obtain ⟨rfl,rfl⟩:=h
 cases hl;cases hc
 unfold room at h3 h4
 have I0:=wrap_small h1 (by omega)
 have RI:=wrap_small (l:=b) (by omega) (by omega)
 have hsize:cZ P e=some i.size:=by simp [cZ,hi]
 obtain ⟨n,rfl⟩:=Int.eq_ofNat_of_zero_le (by omega:0≤b)
 simp only [Int.toNat_natCast] at *
 have hbytes:((i.bytes:Int) * (n:Int) >2 ^ 48)↔False:=by
  simp only [iff_false,Int.not_lt,gt_iff_lt]
  rw [Int.mul_comm];omega
 let cells:Array Value:=if n * i.size=0 then #[] else ((Array.range (n * i.size)).map (z.cells[· % z.cells.size]!))
 have hcells:cells.toList=(List.replicate n z.cells.toList).flatten:=by
  have hp:0 <z.cells.size:=by omega
  by_cases h0:n * i.size=0
  ·have:n=0:=by
    rcases Nat.mul_eq_zero.1 h0 with q | q
    ·exact q
    ·omega
   subst this
   simp [cells]
  ·simp only [cells,if_neg h0]
   have:=CG z.cells n hp
   rw [jH] at this ⊢
   exact this
 have bU:az ρ (rep n zl) cells.toList:=by rw [hcells];exact zG gn _
 obtain ⟨r1,r2⟩:=zE (P:=P) (lim:=lim) hr hlim hf e bU
 refine ⟨.slice (some ⟨w.heap.size,0,none⟩) a.toNat n,_,_,?_,r2,.gX (eG _ _ _) (by omega)⟩
 unfold Instr.makeSlice
 simp only [Sem.run_bind,bL ht,Result.andThen_ok,asInt,asIntOf,Sem.run_pure,l5 hi,I0,RI,hbytes,decide_false,Bool.or_false]
 rw [if_neg (by simp;omega)]
 simp only [run_askRoom,Sem.run_bind,Result.andThen_ok,gG hsize,Int.toNat_natCast]
 by_cases h0:n * i.size=0
 ·simp only [h0,if_true,Sem.run_pure,Result.andThen_ok]
  have:cells= #[]:=by simp [cells,h0]
  simp only [newRow,Sem.run_bind,run_newObj,Result.andThen_ok,Sem.run_pure]
  rw [this]
  have e0:∀f:Nat→Value,Array.map f (Array.range 0)= #[]:=fun f=>by simp
  simp [e0]
 ·simp only [h0,if_false,Sem.run_bind,kL hi iB,Sem.run_pure,Result.andThen_ok,newRow,run_newObj]
  simp [cells,h0]
theorem RJ {c:List aa} {s:List UInt8} {a9as:List Value} (h:nY c=some s) (hr:az ρ c a9as) (acc:ByteArray):
  ∃r:ByteArray,(forIn a9as acc (fun (c:Value) (s:ByteArray)=>(match c with
   | .int .u8 n=>pure (ForInStep.yield (s.push (UInt8.ofNat n.toNat)))
   | _=>stuck "bytesToString: byte expected" :Sem (ForInStep ByteArray)))).run P w= .ok r w∧r.data.toList=acc.data.toList++s:=by
 induction c generalizing s a9as acc with
 | nil=>
  simp [nY] at h;subst h
  have:a9as=[]:=List.eq_nil_of_length_eq_zero hr.1.symm
  subst this
  exact ⟨acc,by simp,by simp⟩
 | cons x xs ih=>
  match a9as with
  | []=>have:=hr.1;simp at this
  | a::a9as=>
   have hx:=hr.head
   unfold nY at h
   split at h
   ·rename_i heq;simp at heq
   ·rename_i n rest heq
    simp at heq
    obtain ⟨rfl,rfl⟩:=heq
    rw [Option.map_eq_some_iff] at h
    obtain ⟨s',h1,rfl⟩:=h
    cases hx
    obtain ⟨r,q1,q2⟩:=ih h1 hr.tail (acc.push (UInt8.ofNat n.toNat))
    refine ⟨r,?_,?_⟩
    ·simp only [List.forIn_cons,Sem.run_bind,Sem.run_pure,Result.andThen_ok]
     exact q1
    ·rw [q2,ByteArray.data_push];simp
   ·simp at h
theorem RK (hr:Rel P n0 ρ H w) {x:aa} {x':Value} (hx:aJ ρ x x') (h:e8 H x=some v):dN P n0 lim ρ H w (Conv.bytesToString x') v H:=by
 unfold e8 at h
 split at h
 ·simp at h;subst h
  cases hx
  exact .same hr (v':= .string .empty) rfl (.str rfl)
 ·rename_i b o n c
  simp only [Option.bind_eq_bind,Option.bind_eq_some_iff] at h
  obtain ⟨cs,hc,cells,iA,s,hs,h⟩:=h
  simp at h;subst h
  obtain ⟨hle,rfl⟩:=vN iA
  have fin:∀(a9as:Array Value) (a:Addr) (cp:Nat),x'= .slice (some a) n cp→(loadCells a n).run P w= .ok a9as w→az ρ ((cs.drop o).take n) a9as.toList→dN P n0 lim ρ H w (Conv.bytesToString x') (.str s) H:=by
   rintro a9as a cp rfl h1 h2
   obtain ⟨r,q1,q2⟩:=RJ (P:=P) (w:=w) hs h2 .empty
   refine .same hr (v':= .string r) ?_ (.str (by simpa using q2))
   simp only [Conv.bytesToString,Sem.run_bind,h1,Result.andThen_ok]
   rw [←Array.forIn_toList]
   refine Eq.trans (congrArg (fun z=>Result.andThen z _) (Eq.trans ?_ q1)) rfl
   rfl
  have zero:n=0→ ∀(a:Addr) cp,x'= .slice (some a) n cp→dN P n0 lim ρ H w (Conv.bytesToString x') (.str s) H:=by
   rintro rfl a cp hx'
   exact fin #[] a cp hx' (by simp [loadCells,loadCellsFrom]) (by simpa using az.nil ρ)
  have full:∀(L:Loc) cp,ρ b=some L→x'= .slice (some ⟨L.blk,L.d+o,none⟩) n cp→dN P n0 lim ρ H w (Conv.bytesToString x') (.str s) H:=by
   intro L cp hb hx'
   obtain ⟨cc,e,fr,h1,h2,h3,h4,h5⟩:=hr.cells hb hc
   exact fin _ _ cp hx' (vJ h1 (by omega)) (by simpa using h5.drop_take hle)
  cases hx with
  | gX hb hn=>exact full _ _ hb rfl
  | iz hb hn hc _=>exact full _ _ hb rfl
  | jq hb hc=>exact zero rfl _ _ rfl
  | kH hb hn=>exact full _ _ hb rfl
  | lC hb=>exact zero rfl _ _ rfl
  | kJ hb=>exact zero rfl _ _ rfl
 ·simp at h
theorem RL (hr:Rel P n0 ρ H w) (hlim:lim≤H.next) (hf:ρ H.next=none) (e:TypeId) {x:aa} {x':Value} (hx:aJ ρ x x') (h:jT H x=some (v,H')):
  ∃s,x'= .string s∧dN P n0 lim ρ H w (Conv.stringToBytes e s) v H':=by
 unfold jT at h
 split at h
 case h_2=>simp at h
 rename_i l
 split at h <;>simp at h
 rename_i hroom
 obtain ⟨rfl,rfl⟩:=h
 cases hx with | str hs=>
 rename_i s
 refine ⟨s,rfl,?_⟩
 have hl:=qg hs
 let k:=(Question.appendCap s.size 0 e).cut (w.tape w.drawn (.appendCap s.size 0 e))
 have hk:s.size≤k:=by simp [k,Question.cut]
 have RM:(Question.appendCap s.size 0 e).forced=false:=rfl
 let cells:Array Value:=(s.data.map fun b=>Value.int .u8 b.toNat)++Array.replicate (k - s.size) (.int .u8 0)
 have hds:s.data.size=s.size:=rfl
 have hsz:cells.size=k:=by simp [cells];omega
 let w1:World:={w with heap:=w.heap.push (.cells cells e),drawn:=w.drawn+1}
 let w2:World:=w1.freeze {block:=w.heap.size,off:=cells.size} 1
 have RN:w2.heap=w.heap.push (.cells cells e (cells.size,cells.size+1)):=by
  have h1:w2.heap=(w.heap.push (.cells cells e)).modify w.heap.size fun
    | .cells c elem (lo,hi)=> .cells c elem (if lo==hi then (cells.size,cells.size+1) else (min lo cells.size,max hi (cells.size+1)))
    | o=>o:=by
   show (w1.freeze {block:=w.heap.size,off:=cells.size} 1).heap=_
   unfold World.freeze
   rw [if_neg (by omega)]
   rfl
  rw [h1]
  apply Array.ext
  ·simp
  ·intro j h1 h2
   simp only [Array.getElem_modify,Array.getElem_push]
   have h3:j <w.heap.size+1:=by simpa using h2
   by_cases hj:j <w.heap.size
   ·rw [if_neg (by omega)];simp [hj]
   ·have:j=w.heap.size:=by omega
    subst this
    simp
 have hrun:(Conv.stringToBytes e s).run P w= .ok (.slice (some ⟨w.heap.size,0,none⟩) s.size k) w2:=by
  unfold Conv.stringToBytes
  simp only [Sem.run_bind,run_choose,RM,Bool.false_eq_true,if_false,Result.andThen_ok,newRow,run_newObj,Sem.run_pure,markStringish,run_shape]
  have RO:w1.shape? w.heap.size=some (e,cells.size):=by simp [World.shape?,w1]
  show (Sem.run P (match w1.shape? w.heap.size with
   | some (_,n)=>freeze {block:=w.heap.size,off:=n} 1
   | x=>pure ()) w1).andThen _=_
  rw [RO]
  rfl
 have CO:=hr.alloc (lim:=lim) hlim hf (l.map fun c=> .int .u8 c.toNat) cells e (cells.size,cells.size+1) (by simp [hsz];omega) (by
   have:cells.toList.take (l.map fun c=>aa.int .u8 c.toNat).length=l.map fun b=>Value.int .u8 b.toNat:=by
    simp only [cells,Array.toList_append,Array.toList_map,hs,List.length_map]
    rw [List.take_left' (by simp)]
   rw [this]
   exact az.Iu _ _ _ fun c _=> .int _ _) (fun i hi hh=>by omega) RN ⟨rfl,rfl,rfl⟩
 refine ⟨_,w2,_,hrun,CO,?_⟩
 rw [hl]
 refine .iz (eG _ _ _) (by omega) ?_ (Nat.zero_le _)
 simp only [hsz];omega
end
end Go.au
end
section
set_option linter.unusedSimpArgs false
set_option linter.unusedVariables false
set_option linter.unusedSectionVars false
namespace Go.au
variable [Gl]
section
variable {P:Program} {n0 lim:Nat} {ρ:Mp} {H H':ah} {w:World} {R:aq} {ev:aP→aa} {ev':Operand→Value} {v:aa}
theorem tN (he:oy ρ ev ev') {xs:List Operand} {ys:List aP} (h:fF bR xs=some ys):az ρ (ys.map ev) (xs.map ev'):=by
 refine ⟨by simp [nu h],fun i v v' e e'=> ?_⟩
 rw [List.getElem?_map,Option.map_eq_some_iff] at e e'
 obtain ⟨y,hy,rfl⟩:=e
 obtain ⟨x,hx,rfl⟩:=e'
 obtain ⟨y',h1,h2⟩:=qd h i x hx
 rw [hy] at h1;simp at h1;subst h1
 exact he _ _ h2
theorem I1 {isMax:Bool} {k:IntKind}:∀(xs:List aa) (a9as:List Value) (a:Int) (v:aa),nX isMax k a xs=some v→az ρ xs a9as→
  ∃v',(a9as.foldlM (if isMax then Builtin.max2 else Builtin.min2) (.int k a)).run P w= .ok v' w∧aJ ρ v v'
 | [],a9as,a,v,h,hr=>by
  simp [nX] at h;subst h
  have:a9as=[]:=List.eq_nil_of_length_eq_zero hr.1.symm
  subst this
  exact ⟨_,rfl,.int _ _⟩
 | x::xs,a9as,a,v,h,hr=>by
  match a9as with
  | []=>have:=hr.1;simp at this
  | b::a9as=>
   have hx:=hr.head
   unfold nX at h
   split at h
   ·rename_i heq;simp at heq
   ·rename_i a1 k' b' rest heq
    simp at heq
    obtain ⟨rfl,rfl⟩:=heq
    split at h
    ·rename_i hk
     subst hk
     cases hx
     obtain ⟨v',q1,q2⟩:=I1 _ _ _ _ h hr.tail
     refine ⟨v',?_,q2⟩
     rw [List.foldlM_cons]
     cases isMax <;>simpa [Builtin.max2,Builtin.min2] using q1
    ·simp at h
   ·simp at h
theorem I2 (hr:Rel P n0 ρ H w) {isMax:Bool} {xs:List aa} {a9as:Array Value} (hx:az ρ xs a9as.toList) (h:iL isMax xs=some v) (ts:Array TypeId) (t:TypeId):
  dN P n0 lim ρ H w (if isMax then Builtin.max_ ts t a9as else Builtin.min_ ts t a9as) v H:=by
 unfold iL at h
 split at h
 ·rename_i k a rest
  obtain ⟨l⟩:=a9as
  cases l with
  | nil=>have:=hx.1;simp at this
  | cons b bs=>
   have h1:=az.head hx
   cases h1
   obtain ⟨v',q1,q2⟩:=I1 (P:=P) (w:=w) _ _ _ _ h (az.tail hx)
   refine .same hr (v':=v') ?_ q2
   cases isMax <;>simpa [Builtin.max_,Builtin.min_] using q1
 ·simp at h
theorem ql (he:oy ρ ev ev') {x:Option Operand} {y:Option aP} (h:nh x=some y):kN ρ (y.map ev) (x.map ev'):=by
 cases x with
 | none=>simp [nh] at h;subst h;trivial
 | some x=>
  simp [nh] at h
  obtain ⟨a,h1,rfl⟩:=h
  exact he _ _ h1
theorem RP (he:oy ρ ev ev') {fs:Array Field} {ps:List (Nat × Operand)} {qs:List (Nat × Nat × aP)} (h:Ir P fs ps=some qs):
  qs.length=ps.length∧ ∀(i:Nat) p q,ps[i]? =some p→qs[i]? =some q→(∃f,fs[p.1]? =some f∧q.1=f.offset∧cZ P f.type=some q.2.1)∧aJ ρ (ev q.2.2) (ev' p.2):=by
 refine ⟨nu h,fun i p q hp hq=> ?_⟩
 obtain ⟨q',h1,h2⟩:=qd h i p hp
 rw [hq] at h1;simp at h1;subst h1
 split at h2
 ·rename_i f x hf hx
  simp at h2
  obtain ⟨s,h3,rfl⟩:=h2
  exact ⟨⟨f,hf,rfl,h3⟩,he _ _ hx⟩
 ·simp at h2
theorem I3 (he:oy ρ ev ev') {sz:Nat} {ps:List (Nat × Operand)} {qs:List (Nat × Nat × aP)} (h:Cv sz ps=some qs):
  qs.length=ps.length∧ ∀(i:Nat) p q,ps[i]? =some p→qs[i]? =some q→q.1=p.1 * sz∧q.2.1=sz∧aJ ρ (ev q.2.2) (ev' p.2):=by
 refine ⟨nu h,fun i p q hp hq=> ?_⟩
 obtain ⟨q',h1,h2⟩:=qd h i p hp
 rw [hq] at h1;simp at h1;subst h1
 simp at h2
 obtain ⟨s,h3,rfl⟩:=h2
 exact ⟨rfl,rfl,he _ _ h3⟩
theorem run_places:∀(fs:List Field) (ps:List (Nat × Nat)),(∀(i:Nat) f,fs[i]? =some f→ ∃s,cZ P f.type=some s)→ ∃ps:List (Nat × Nat),(fs.mapM (fun f=>do pure (f.offset,←sizeOf f.type):Field→Sem (Nat × Nat))).run P w= .ok ps w∧
  ∀(i:Nat) f,fs[i]? =some f→ ∃s,cZ P f.type=some s∧ps[i]? =some (f.offset,s)
 | [],_,_=>⟨[],by simp,fun i f h=>by simp at h⟩
 | f::fs,_,h=>by
  obtain ⟨s,hs⟩:=h 0 f rfl
  obtain ⟨ps,h1,h2⟩:=run_places fs [] fun i g hg=>h (i+1) g (by simpa using hg)
  refine ⟨(f.offset,s)::ps,?_,fun i g hg=> ?_⟩
  ·rw [List.mapM_cons]
   simp only [Sem.run_bind,gG hs,Result.andThen_ok,Sem.run_pure,h1]
  ·cases i with
   | zero=>simp at hg;subst hg;exact ⟨s,hs,rfl⟩
   | succ i=>simpa using h2 i g (by simpa using hg)
theorem RQ (hr:Rel P n0 ρ H w) (he:oy ρ ev ev') {ty t:TypeId} {parts:Array (Nat × Operand)} {cI:bG} (hc:dg P ty (.build t parts)=some cI) (h:step R lim ev H cI=some (v,H')):
  dN P n0 lim ρ H w (Instr.build t (parts.map fun (i,x)=>(i,ev' x))) v H':=by
 simp only [dg] at hc
 have vQ:(parts.map fun (i,x)=>(i,ev' x)).toList=parts.toList.map fun p=>(p.1,ev' p.2):=by simp
 split at hc
 ·rename_i fs z hu hz
  split at hc
  ·rename_i hall
   simp at hc
   obtain ⟨qs,hq,rfl⟩:=hc
   obtain ⟨h1,h2⟩:=fk h
   rw [Option.map_eq_some_iff] at h1
   obtain ⟨r,h1,rfl⟩:=h1
   subst h2
   obtain ⟨i,zv,hi,iB,hzl,jH,gn,oA⟩:=rK ρ hz
   obtain ⟨ps,hp1,hp2⟩:=run_places (P:=P) (w:=w) fs.toList [] fun i f hf=>by
    have:=Array.all_eq_true_iff_forall_mem.1 hall f (by
     obtain ⟨hlt,e⟩:=List.getElem?_eq_some_iff.1 hf
     rw [←e];simp)
    exact Option.isSome_iff_exists.1 this
   obtain ⟨hl,vR⟩:=RP he hq
   obtain ⟨c',r1,r2⟩:=zF (ev:=ev) (ev':=ev') (fun i=>ps.toArray[i]?) parts.toList qs z zv.cells r hl (fun k p q a b=>by
    obtain ⟨⟨f,e1,e2,e3⟩,e4⟩:=vR k p q a b
    obtain ⟨s,e5,e6⟩:=hp2 p.1 f (by simpa using e1)
    rw [e3] at e5;simp at e5
    exact ⟨by simp [e6,e2,e5],e4⟩) gn h1
   refine .same hr (v':= .agg c') ?_ (aJ.tG r2)
   unfold Instr.build
   simp only [Sem.run_bind,kL hi iB,Result.andThen_ok,bL hu]
   rw [Array.mapM_eq_mapM_toList]
   simp only [Sem.run_map,hp1,Result.andThen_ok]
   rw [vQ,r1]
   rfl
  ·simp at hc
 ·rename_i n e z hu hz
  split at hc
  ·rename_i s hs
   simp at hc
   obtain ⟨qs,hq,rfl⟩:=hc
   obtain ⟨h1,h2⟩:=fk h
   rw [Option.map_eq_some_iff] at h1
   obtain ⟨r,h1,rfl⟩:=h1
   subst h2
   obtain ⟨i,zv,hi,iB,hzl,jH,gn,oA⟩:=rK ρ hz
   obtain ⟨hl,vR⟩:=I3 he hq
   obtain ⟨c',r1,r2⟩:=zF (ev:=ev) (ev':=ev') (fun i=>some (i * s,s)) parts.toList qs z zv.cells r hl (fun k p q a b=>by
    obtain ⟨e1,e2,e3⟩:=vR k p q a b
    exact ⟨by rw [e1,e2],e3⟩) gn h1
   refine .same hr (v':= .agg c') ?_ (aJ.tG r2)
   unfold Instr.build
   simp only [Sem.run_bind,kL hi iB,Result.andThen_ok,bL hu,gG hs]
   rw [vQ,r1]
   rfl
  ·simp at hc
 ·simp at hc
theorem RR:∀{qs:List (Nat × Nat × aP)} {cs r:List aa},jo ev cs qs=some r→r.length=cs.length
 | [],cs,r,h=>by simp [jo] at h;subst h;rfl
 | (off,size,x)::qs,cs,r,h=>by
  simp only [jo] at h
  split at h
  ·rename_i hc
   rw [RR h,CF (by omega)]
  ·simp at h
theorem RS (hr:Rel P n0 ρ H w) (hlim:lim≤H.next) (hf:H.next <H'.next→ρ H.next=none) (he:oy ρ ev ev') {ty t:TypeId} {len:Nat} {parts:Array (Nat × Operand)} {cI:bG} (hc:dg P ty (.buildSlice t len parts)=some cI)
  (h:step R lim ev H cI=some (v,H')):dN P n0 lim ρ H w (Instr.buildSlice t len (parts.map fun (i,x)=>(i,ev' x))) v H':=by
 simp only [dg] at hc
 have vQ:(parts.map fun (i,x)=>(i,ev' x)).toList=parts.toList.map fun p=>(p.1,ev' p.2):=by simp
 split at hc
 ·rename_i e hu
  split at hc
  ·rename_i z hz
   split at hc
   ·rename_i gm
    simp at hc
    obtain ⟨qs,hq,rfl⟩:=hc
    simp only [step,Option.map_eq_some_iff] at h
    obtain ⟨r,h1,h2⟩:=h
    simp at h2
    obtain ⟨rfl,rfl⟩:=h2
    obtain ⟨i,zv,hi,iB,hzl,jH,gn,oA⟩:=rK ρ hz
    have hsize:cZ P e=some i.size:=by simp [cZ,hi]
    obtain ⟨hl,vR⟩:=I3 he hq
    have hpos:0 <i.size:=by omega
    let zero:Array Value:=if len * i.size=0 then #[] else zv.cells
    have hzero:((Array.range (len * i.size)).map (zero[· % zero.size]!)).toList=(List.replicate len zv.cells.toList).flatten:=by
     by_cases h0:len * i.size=0
     ·have:len=0:=by
       rcases Nat.mul_eq_zero.1 h0 with q | q
       ·exact q
       ·omega
      subst this
      simp
     ·simp only [zero,if_neg h0]
      have:=CG zv.cells len (by omega)
      rw [jH] at this ⊢
      exact this
    obtain ⟨c',r1,r2⟩:=zF (ρ:=ρ) (ev:=ev) (ev':=ev') (fun k=>some (k * i.size,i.size)) parts.toList qs (rep len z) ((Array.range (len * i.size)).map (zero[· % zero.size]!)) r hl (fun k p q a b=>by
     obtain ⟨e1,e2,e3⟩:=vR k p q a b
     exact ⟨by rw [e1,e2,hzl],e3⟩) (by rw [hzero];exact zG gn len) h1
    obtain ⟨s1,s2⟩:=zE (P:=P) (lim:=lim) hr hlim (hf (by rw [ah.bK];omega)) e r2
    refine ⟨.slice (some ⟨w.heap.size,0,none⟩) len len,_,_,?_,s2,.gX (eG _ _ _) (Nat.le_refl _)⟩
    unfold Instr.buildSlice
    simp only [Sem.run_bind,bL hu,Result.andThen_ok,gG hsize]
    rw [if_neg (by rw [←hzl];omega)]
    by_cases h0:len * i.size=0
    ·simp only [h0,if_true,Sem.run_bind,Sem.run_pure,Result.andThen_ok]
     have hz0:zero= #[]:=by simp [zero,h0]
     rw [hz0,h0] at r1
     rw [vQ,r1]
     simp only [Sem.run_bind,s1,Result.andThen_ok,Sem.run_pure]
    ·simp only [h0,if_false,Sem.run_bind,kL hi iB,Sem.run_pure,Result.andThen_ok]
     have hz0:zero=zv.cells:=by simp [zero,h0]
     rw [hz0] at r1
     rw [vQ,r1]
     simp only [Sem.run_bind,s1,Result.andThen_ok,Sem.run_pure]
   ·simp at hc
  ·simp at hc
 ·simp at hc
end
end Go.au
end
