/- Parts of the proof. -/
import Derived.Test.YtfigbgjbaohglaaGreatDoorY7
import Derived.Test.YtfigbgjbaohglaaGreatDoorY10
import Derived.Test.YtfigbgjbaohglaaGreatDoorY11
section
set_option linter.unusedSimpArgs false
set_option linter.unusedVariables false
set_option linter.unusedSectionVars false
namespace Go.au
variable [Gl]
theorem agI (k:IntKind) (a b:Nat):iL true [.int k (a:Int),.int k (b:Int)]=some (.int k ((max a b:Nat):Int)):=by
 simp only [iL,nX,if_true]
 congr 2
 split <;>omega
theorem agJ (k:IntKind) (a b:Nat):iL false [.int k (a:Int),.int k (b:Int)]=some (.int k ((min a b:Nat):Int)):=by
 simp only [iL,nX,if_true,Bool.false_eq_true,if_false]
 congr 2
 split <;>omega
theorem abX {cs:List aa} {o:Nat} (ho:o <cs.length) (x:aa):put cs o [x]=cs.set o x:=by
 unfold put
 rw [List.set_eq_take_append_cons_drop,if_pos ho]
 simp
theorem lM {lim:Nat} {H:ah} {b:Nat} {cs cs':List aa} (h:H.cells b=some cs) (hl:lim≤b) {o:Nat} {x:aa} (hx:x.cells=[x]) (h1:x.one=true) (ho:o <cs.length) (hcs:cs.set o x=cs'):
  bp lim H 1 (.ptr (some (b,o))) x=some (H.set b (.cells cs')):=by
 rw [r9 h hl (n:=1) (o:=o) (x:=x) (by rw [hx];rfl) (by omega) (by rw [hx];simp [h1]),hx,abX ho,hcs]
theorem GO {lim:Nat} {H:ah} {b:Nat} {cs xs:List aa} (h:H.cells b=some cs) (hl:lim≤b) {n:Nat} (h1:xs.all (·.one)=true) (ho:xs.length=n) (hcs:cs.length=n):
  bp lim H n (.ptr (some (b,0))) (.agg xs)=some (H.set b (.cells xs)):=by
 have e:(aa.agg xs).cells=xs:=rfl
 rw [r9 h hl (n:=n) (o:=0) (x:= .agg xs) (by rw [e,ho]) (by omega) (by rw [e,h1]),e,DX (by omega)]
structure bu (S:Nat→Prop) (H H':ah):Prop where
 next:H.next≤H'.next
 get:∀c,c <H.next→ ¬S c→H'.get c=H.get c
theorem bu.of {S:Nat→Prop} {H H':ah} (h:aO H H'):bu S H H':=⟨h.next,fun c hc _=>h.get c hc⟩
theorem bu.trans {S S':Nat→Prop} {H H1 H2:ah} (h:bu S H H1) (h':bu S' H1 H2) (hs:∀c,c <H.next→S' c→S c):bu S H H2:=
 ⟨Nat.le_trans h.next h'.next,fun c hc hn=>(h'.get c (by have:=h.next;omega) (fun fm=>hn (hs c hc fm))).trans (h.get c hc hn)⟩
theorem bu.weaken {S S':Nat→Prop} {H H':ah} (h:bu S H H') (hs:∀c,c <H.next→S c→S' c):bu S' H H':=⟨h.next,fun c hc hn=>h.get c hc (fun h'=>hn (hs c hc h'))⟩
theorem bu.keeps {S:Nat→Prop} {H0 H H':ah} (h:aO H0 H) (h':bu S H H') (hs:∀c,c <H0.next→ ¬S c):aO H0 H':=
 ⟨Nat.le_trans h.next h'.next,fun c hc=>(h'.get c (by have:=h.next;omega) (hs c hc)).trans (h.get c hc)⟩
theorem bu.cells {S:Nat→Prop} {H H':ah} (h:bu S H H') {b:Nat} {cs:List aa} (hc:H.cells b=some cs) (hn:¬S b):H'.cells b=some cs:=
 ah.cells_eq.2 (by rw [h.get b (ah.jf hc) hn];exact ah.cells_eq.1 hc)
theorem bu.refl (S:Nat→Prop) (H:ah):bu S H H:=⟨Nat.le_refl _,fun _ _ _=>rfl⟩
theorem bu.set {S:Nat→Prop} {H:ah} {b:Nat} {x:dB} (hb:S b):bu S H (H.set b x):=
 ⟨Nat.le_refl _,fun c hc hn=>ah.eD _ _ _ _ (fun e=>hn (e ▸ hb))⟩
theorem bu.set' {S:Nat→Prop} {H H1:ah} {b:Nat} {x:dB} (h:bu S H H1) (hb:S b∨H.next≤b):bu S H (H1.set b x):=
 ⟨h.next,fun c hc hn=>by
  rw [ah.eD _ _ _ _ (fun e=>by
   subst e
   rcases hb with hb | hb
   ·exact hn hb
   ·omega)]
  exact h.get c hc hn⟩
theorem bu.agK {S:Nat→Prop} {H H1:ah} {x:dB} (h:bu S H H1):bu S H (H1.push x):=
 ⟨by rw [ah.bK];have:=h.next;omega,fun c hc hn=>by rw [ah.gi _ _ _ (by have:=h.next;omega)];exact h.get c hc hn⟩
theorem bu.keeps' {S:Nat→Prop} {H H1 H2:ah} (h:bu S H H1) (h':aO H1 H2):bu S H H2:=h.trans (.of (S:=fun _=>False) h') (fun _ _ e=>e.elim)
def bC:aa→Option Nat
 | .sl (some (b,_)) _ _=>some b
 | _=>none
theorem Sl.frame {S:Nat→Prop} {H H':ah} (hf:bu S H H') {sz:Nat} {v:aa} {xs:List (List aa)} (h:Sl H sz v xs) (hn:∀b,bC v=some b→ ¬S b):Sl H' sz v xs:=by
 refine ⟨?_,h.each⟩
 rcases h.at' with h1 | ⟨b,o,c,cs,rfl,hc,h2,h3,h4⟩
 ·exact .inl h1
 ·exact .inr ⟨b,o,c,cs,rfl,hc,hf.cells h2 (hn b rfl),h3,h4⟩
theorem Sl.source {H:ah} {sz:Nat} {v:aa} {xs:List (List aa)} (h:Sl H sz v xs):source H sz v=some (xs.length,xs.flatten):=by
 rcases h.at' with ⟨a,c,rfl,_,rfl⟩ | ⟨b,o,c,cs,rfl,_,h2,h3,h4⟩
 ·cases a with
  | none=>rfl
  | some p=>obtain ⟨b,o⟩:=p;rfl
 ·simp only [au.source]
  by_cases h0:xs.length=0
  ·have:xs=[]:=List.length_eq_zero_iff.1 h0
   subst this;rfl
  ·rw [if_neg h0,h2]
   simp only [au.cut,h3,if_true,h4,Option.map_some]
theorem agL {c:Cap} {n m sz:Nat} (h:mG c n sz) (hm:m≤n):mG c m sz:=by
 cases c with
 | ex k=>exact Nat.le_trans hm h
 | op e=>exact h
 | un=>trivial
theorem Sl.slice {H:ah} {sz:Nat} {v:aa} {xs:List (List aa)} (h:Sl H sz v xs) {lo hi:Option aa} {l k:Nat} (hl:dD 0 lo=some l) (hk:dD xs.length hi=some k) (h1:l≤k) (h2:k≤xs.length):
  ∃v',fN sz v lo hi none=some v'∧Sl H sz v' ((xs.drop l).take (k - l))∧(∀b,bC v'=some b→bC v=some b):=by
 have each:∀x∈(xs.drop l).take (k - l),x.length=sz:=fun x hx=>h.each x (List.mem_of_mem_drop (List.mem_of_mem_take hx))
 have hlen:((xs.drop l).take (k - l)).length=k - l:=by simp;omega
 rcases h.at' with ⟨a,c,rfl,hc,rfl⟩ | ⟨b,o,c,cs,rfl,hc,h3,h4,h5⟩
 ·have hk0:k=0:=by simpa using h2
  subst hk0
  have hl0:l=0:=by omega
  subst hl0
  cases c with
  | ex m=>
   refine ⟨.sl (if m=0 then a else shift a (0 * sz)) (0 - 0) (.ex (m - 0)),?_,?_,?_⟩
   ·simp only [fN,Option.isNone_none,Option.isSome_none,Bool.and_false,Bool.false_eq_true,if_false,Option.bind_eq_bind]
    rw [show dD 0 hi=some 0 from hk,show dD 0 lo=some 0 from hl]
    simp [dD]
   ·simpa using Sl.zero H sz _ (.ex (m - 0)) (Nat.zero_le _)
   ·intro b hb
    cases a with
    | none=>simp [shift,bC] at hb
    | some p=>
     obtain ⟨b',o⟩:=p
     simp only [bC]
     by_cases hm:m=0
     ·simp [hm,bC] at hb;exact congrArg some hb
     ·simp [hm,shift,bC] at hb;exact congrArg some hb
  | op e kn=>
   have he:e=sz:=hc
   subst he
   refine ⟨.sl (shift a (0 * e)) (0 - 0) (.op e (max 0 kn - 0)),?_,?_,?_⟩
   ·simp only [fN,Option.isNone_none,Option.isSome_none,Bool.and_false,Bool.false_eq_true,if_false,Option.bind_eq_bind]
    rw [show dD 0 hi=some 0 from hk,show dD 0 lo=some 0 from hl]
    simp
   ·simpa using Sl.zero H e _ (.op e _) rfl
   ·intro b hb
    cases a with
    | none=>simp [shift,bC] at hb
    | some p=>
     obtain ⟨b',o⟩:=p
     simp [shift,bC] at hb ⊢;exact hb
  | un=>
   refine ⟨.sl (shift a (0 * sz)) (0 - 0) .un,?_,?_,?_⟩
   ·simp only [fN,Option.isNone_none,Option.isSome_none,Bool.and_false,Bool.false_eq_true,if_false,Option.bind_eq_bind]
    rw [show dD 0 hi=some 0 from hk,show dD 0 lo=some 0 from hl]
    simp
   ·simpa using Sl.zero H sz _ .un trivial
   ·intro b hb
    cases a with
    | none=>simp [shift,bC] at hb
    | some p=>
     obtain ⟨b',o⟩:=p
     simp [shift,bC] at hb ⊢;exact hb
 ·have hmul:l * sz+(k - l) * sz=k * sz:=by rw [←Nat.add_mul];congr 1;omega
  have hle:k * sz≤xs.length * sz:=Nat.mul_le_mul_right _ h2
  have abY:((xs.drop l).take (k - l)).flatten=(xs.flatten.drop (l * sz)).take ((k - l) * sz):=by
   have e1:∀(ys:List (List aa)) (j:Nat),(∀y∈ys,y.length=sz)→(ys.drop j).flatten=ys.flatten.drop (j * sz):=by
    intro ys
    induction ys with
    | nil=>intro j _;simp
    | cons y ys ih=>
     intro j hy
     cases j with
     | zero=>simp
     | succ j=>
      have jZ:=hy y (by simp)
      rw [List.drop_succ_cons,ih j (fun z hz=>hy z (by simp [hz])),List.flatten_cons,Nat.succ_mul,Nat.add_comm,←jZ,←List.drop_drop,List.drop_left,jZ]
   have e2:∀(ys:List (List aa)) (j:Nat),(∀y∈ys,y.length=sz)→(ys.take j).flatten=ys.flatten.take (j * sz):=by
    intro ys
    induction ys with
    | nil=>intro j _;simp
    | cons y ys ih=>
     intro j hy
     cases j with
     | zero=>simp
     | succ j=>
      have jZ:=hy y (by simp)
      rw [List.take_succ_cons,List.flatten_cons,ih j (fun z hz=>hy z (by simp [hz])),List.flatten_cons,Nat.succ_mul,Nat.add_comm,←jZ,List.take_length_add_append,jZ]
   rw [e2 _ _ (fun y hy=>h.each y (List.mem_of_mem_drop hy)),e1 _ _ h.each]
  have hcells:(cs.drop (o+l * sz)).take ((k - l) * sz)=((xs.drop l).take (k - l)).flatten:=by
   rw [abY,←h5,List.drop_take,List.take_take,List.drop_drop,Nat.min_eq_left (by omega)]
  have fin:∀c',mG c' (k - l) sz→Sl H sz (.sl (some (b,o+l * sz)) (k - l) c') ((xs.drop l).take (k - l)):=by
   intro c' fm
   refine ⟨.inr ⟨b,o+l * sz,c',cs,by rw [hlen],by rw [hlen];exact fm,h3,by rw [hlen];omega,by rw [hlen];exact hcells⟩,each⟩
  cases c with
  | ex m=>
   have hm:xs.length≤m:=hc
   have hval:fN sz (.sl (some (b,o)) xs.length (.ex m)) lo hi none=some (.sl (if m=l then some (b,o) else shift (some (b,o)) (l * sz)) (k - l) (.ex (m - l))):=by
    simp only [fN,Option.isNone_none,Option.isSome_none,Bool.and_false,Bool.false_eq_true,if_false,Option.bind_eq_bind]
    rw [hk,hl]
    simp only [Option.bind_some,dD]
    rw [if_pos ⟨Nat.le_refl _,by omega,h1⟩]
   refine ⟨_,hval,?_,?_⟩
   ·by_cases hml:m=l
    ·have sj:k=l:=by omega
     subst sj
     simp only [hml,if_true,Nat.sub_self,List.take_zero]
     exact Sl.zero H sz _ (.ex _) (Nat.zero_le _)
    ·rw [if_neg hml]
     exact fin (.ex (m - l)) (show k - l≤m - l by omega)
   ·intro b' hb
    by_cases hml:m=l
    ·rw [if_pos hml] at hb;exact hb
    ·rw [if_neg hml] at hb;exact hb
  | op e kn=>
   have he:e=sz:=hc
   subst he
   have hval:fN e (.sl (some (b,o)) xs.length (.op e kn)) lo hi none=some (.sl (shift (some (b,o)) (l * e)) (k - l) (.op e (max xs.length kn - l))):=by
    simp only [fN,Option.isNone_none,Option.isSome_none,Bool.and_false,Bool.false_eq_true,if_false,Option.bind_eq_bind]
    rw [hk,hl]
    simp only [Option.bind_some,if_true]
    rw [if_pos ⟨Nat.le_trans h2 (Nat.le_max_left _ _),h1,trivial⟩]
   exact ⟨_,hval,fin (.op e _) rfl,fun b' hb=>hb⟩
  | un=>
   have hval:fN sz (.sl (some (b,o)) xs.length .un) lo hi none=some (.sl (shift (some (b,o)) (l * sz)) (k - l) .un):=by
    simp only [fN,Option.isNone_none,Option.isSome_none,Bool.and_false,Bool.false_eq_true,if_false,Option.bind_eq_bind]
    rw [hk,hl]
    simp only [Option.bind_some,if_true]
    rw [if_pos ⟨h2,h1,trivial⟩]
   exact ⟨_,hval,fin .un trivial,fun b' hb=>hb⟩
def Own (H:ah) (sz:Nat) (v:aa) (xs:List (List aa)) (bv:Nat):Prop:=
 (∀x∈xs,x.length=sz∧x.all (·.one)=true)∧
 ((v= .sl none 0 (.ex 0)∧xs=[])∨(∃o cs,v= .sl (some (bv,o)) 0 (.ex 0)∧xs=[]∧H.cells bv=some cs∧o≤cs.length)∨(v= .sl (some (bv,0)) xs.length (.op sz 0)∧H.cells bv=some xs.flatten))
theorem Own.sl {H:ah} {sz:Nat} {v:aa} {xs:List (List aa)} {bv:Nat} (h:Own H sz v xs bv):Sl H sz v xs:=by
 obtain ⟨he,h⟩:=h
 rcases h with ⟨rfl,rfl⟩ | ⟨o,cs,rfl,rfl,_⟩ | ⟨rfl,hc⟩
 ·exact Sl.nil H sz
 ·exact Sl.zero H sz _ (.ex 0) (Nat.zero_le _)
 ·have hl:=qI (fun x hx=>(he x hx).1)
  exact ⟨.inr ⟨bv,0,.op sz 0,_,rfl,rfl,hc,by rw [hl];omega,by rw [List.drop_zero,List.take_of_length_le (by omega)]⟩,fun x hx=>(he x hx).1⟩
theorem Own.blk {H:ah} {sz:Nat} {v:aa} {xs:List (List aa)} {bv:Nat} (h:Own H sz v xs bv):∀b,bC v=some b→b=bv:=by
 intro b hb
 rcases h.2 with ⟨rfl,rfl⟩ | ⟨o,cs,rfl,rfl,_⟩ | ⟨rfl,hc⟩ <;>simp [bC] at hb
 ·exact hb.symm
 ·exact hb.symm
theorem Own.frame {S:Nat→Prop} {H H':ah} {sz:Nat} {v:aa} {xs:List (List aa)} {bv:Nat} (h:Own H sz v xs bv) (hf:bu S H H') (hn:¬S bv):Own H' sz v xs bv:=by
 refine ⟨h.1,?_⟩
 rcases h.2 with h1 | ⟨o,cs,h1,h2,h3,h4⟩ | ⟨h1,h2⟩
 ·exact .inl h1
 ·exact .inr (.inl ⟨o,cs,h1,h2,hf.cells h3 hn,h4⟩)
 ·exact .inr (.inr ⟨h1,hf.cells h2 hn⟩)
theorem Own.one {H:ah} {sz:Nat} {v:aa} {xs:List (List aa)} {bv:Nat} (h:Own H sz v xs bv):v.one=true∧v.cells=[v]:=by
 rcases h.2 with ⟨rfl,_⟩ | ⟨o,cs,rfl,_⟩ | ⟨rfl,_⟩ <;>exact ⟨rfl,rfl⟩
theorem Own.pick {H:ah} {sz:Nat} {v:aa} {xs:List (List aa)} {bv:Nat} (h:Own H sz v xs bv):∃b,Own H sz v xs b∧(b <H.next→bC v=some b):=by
 rcases h.2 with ⟨rfl,rfl⟩ | ⟨o,cs,rfl,rfl,h3,h4⟩ | ⟨rfl,h4⟩
 ·exact ⟨H.next,⟨h.1,.inl ⟨rfl,rfl⟩⟩,fun hb=>by omega⟩
 ·exact ⟨bv,h,fun _=>rfl⟩
 ·exact ⟨bv,h,fun _=>rfl⟩
theorem BI {xs:List (List aa)} (h:∀x∈xs,x.all (·.one)=true):xs.flatten.all (·.one)=true:=by
 induction xs with
 | nil=>rfl
 | cons x xs ih=>rw [List.flatten_cons,List.all_append,h x (by simp),ih (fun y hy=>h y (by simp [hy]))];rfl
theorem Ow {lim:Nat} {H:ah} {zero:List aa} {bytes:Nat} {s x:aa} {m:Nat} {new:List aa} (hsrc:source H zero.length x=some (m,new)) (hnew:new.all (·.one)=true) (hz:zero.length≠0):
  fO lim H zero bytes false s x=(match s with
   | .sl a n c=>
    if m=0 then some (.sl a n c,H) else
    if (n+m) * bytes >room∨n+m >room then none else
    match a,c with
    | none,.ex _=>if n=0 then some (.sl (some (H.next,0)) m (.op zero.length 0),H.push (.cells new)) else none
    | some (b,o),.ex k=>do
     let cs ←H.cells b
     if n+m≤k then
      if lim≤b∧o+(n+m) * zero.length≤cs.length then some (.sl a (n+m) c,H.set b (.cells (put cs (o+n * zero.length) new))) else none
     else do
      let old ←cut cs o (n * zero.length)
      if n≤k∧old.all (·.one) then some (.sl (some (H.next,0)) (n+m) (.op zero.length 0),H.push (.cells (old++new))) else none
    | some (b,o),.op e _=>do
     let cs ←H.cells b
     if lim≤b∧e=zero.length then
      if o+(n+m) * zero.length≤cs.length then some (.sl a (n+m) c,H.set b (.cells (put cs (o+n * zero.length) new)))
      else if o+n * zero.length=cs.length∧cs.all (·.one) then some (.sl (some (H.next,0)) (n+m) (.op zero.length 0),(H.set b .dead).push (.cells (cs.drop o++new)))
      else none
     else none
    | _,_=>none
   | _=>none):=by
 unfold fO
 simp only [Bool.false_eq_true,if_false,hsrc,Option.bind_eq_bind,Option.bind_some,hnew,Bool.not_true,Bool.false_or,hz,decide_false]
 rfl
theorem uP {lim:Nat} {H:ah} {sz:Nat} {v x:aa} {xs ys:List (List aa)} {bv bytes:Nat} {zero:List aa} (h:Own H sz v xs bv) (hz:zero.length=sz) (hs:0 <sz)
  (hsrc:source H sz x=some (ys.length,ys.flatten)) (hy:∀y∈ys,y.length=sz∧y.all (·.one)=true) (hroom:(xs.length+ys.length) * bytes≤room) (zI:xs.length+ys.length≤room) (hl:bC v=some bv→lim≤bv):
  ∃v' H' bv',fO lim H zero bytes false v x=some (v',H')∧Own H' sz v' (xs++ys) bv'∧bu (fun c=>bC v=some c) H H'∧((bv'=bv∧(ys=[]∨False))∨H.next≤bv')∧(bC v'=some bv'→bv' <H'.next):=by
 subst hz
 have jZ:=qI (fun y hy'=>(hy y hy').1)
 rw [Ow hsrc (BI fun y hy'=>(hy y hy').2) (by omega)]
 have GP:∀z∈xs++ys,z.length=zero.length∧z.all (·.one)=true:=by
  intro z hz
  rcases List.mem_append.1 hz with hz | hz
  ·exact h.1 z hz
  ·exact hy z hz
 by_cases h0:ys.length=0
 ·have mg:ys=[]:=List.length_eq_zero_iff.1 h0
  subst mg
  have hlt:bC v=some bv→bv <H.next:=by
   intro hb
   rcases h.2 with ⟨rfl,rfl⟩ | ⟨o,cs,rfl,rfl,hc,_⟩ | ⟨rfl,hc⟩
   ·simp [bC] at hb
   ·exact ah.jf hc
   ·exact ah.jf hc
  refine ⟨v,H,bv,?_,by simpa using h,.refl _ _,.inl ⟨rfl,.inl rfl⟩,hlt⟩
  rcases h.2 with ⟨rfl,rfl⟩ | ⟨o,cs,rfl,rfl,_⟩ | ⟨rfl,hc⟩ <;>simp
 ·rcases h.2 with ⟨rfl,rfl⟩ | ⟨o,cs,rfl,rfl,hc,ho⟩ | ⟨rfl,hc⟩
  ·simp only [List.length_nil,Nat.zero_add] at hroom zI
   refine ⟨.sl (some (H.next,0)) ys.length (.op zero.length 0),H.push (.cells ys.flatten),H.next,?_,⟨GP,.inr (.inr ⟨rfl,ct H _⟩)⟩,.of (.push _ _),.inr (Nat.le_refl _),fun _=>by rw [ah.bK];omega⟩
   simp only [h0,if_false,Nat.zero_add,if_true]
   rw [if_neg (by omega)]
  ·simp only [List.length_nil,Nat.zero_add] at hroom zI
   refine ⟨.sl (some (H.next,0)) ys.length (.op zero.length 0),H.push (.cells ys.flatten),H.next,?_,⟨GP,.inr (.inr ⟨rfl,ct H _⟩)⟩,.of (.push _ _),.inr (Nat.le_refl _),fun _=>by rw [ah.bK];omega⟩
   simp only [h0,if_false,Nat.zero_add]
   rw [if_neg (by omega),hc]
   simp only [Option.bind_eq_bind,Option.bind_some]
   rw [if_neg (by omega)]
   simp only [au.cut,Nat.zero_mul,Nat.add_zero,ho,if_true,List.take_zero,Option.bind_some,List.all_nil,Nat.le_refl,and_self,List.nil_append]
  ·have hxl:=qI (fun y hy'=>(h.1 y hy').1)
   have hlt:=ah.jf hc
   refine ⟨.sl (some (H.next,0)) (xs.length+ys.length) (.op zero.length 0),(H.set bv .dead).push (.cells (xs.flatten++ys.flatten)),H.next,?_,⟨GP,.inr (.inr ⟨by rw [List.length_append],?_⟩)⟩,?_,.inr (Nat.le_refl _),fun _=>by rw [ah.bK,ah.gh];omega⟩
   ·simp only [h0,if_false]
    rw [if_neg (by omega),hc]
    simp only [Option.bind_eq_bind,Option.bind_some,Nat.zero_add]
    rw [if_pos ⟨hl rfl,trivial⟩,hxl,if_neg (by rw [Nat.add_mul];have:=Nat.mul_pos (Nat.pos_of_ne_zero h0) hs;omega),if_pos ⟨rfl,BI fun y hy'=>(h.1 y hy').2⟩]
    rw [List.drop_zero]
   ·have:=ct (H.set bv .dead) (xs.flatten++ys.flatten)
    rw [List.flatten_append]
    exact this
   ·exact ⟨by rw [ah.bK,ah.gh];omega,fun c cR hn=>by rw [ah.gi _ _ _ (by rw [ah.gh];omega),ah.eD _ _ _ _ (fun e=>hn (by rw [e];rfl))]⟩
theorem Ox {sz f:Nat} {y:aa} (hf:f <sz):∀{xs:List (List aa)},(∀x∈xs,x.length=sz)→ ∀(k:Nat) (x:List aa),xs[k]? =some x→(xs.set k (x.set f y)).flatten=xs.flatten.set (k * sz+f) y
 | [],_,k,x,h=>by simp at h
 | z::zs,he,0,x,h=>by
  simp at h;subst h
  have hz:=he z (by simp)
  rw [List.set_cons_zero,List.flatten_cons,List.flatten_cons,Nat.zero_mul,Nat.zero_add,List.set_append_left _ _ (by omega)]
 | z::zs,he,k+1,x,h=>by
  simp at h
  have hz:=he z (by simp)
  have ih:=Ox hf (y:=y) (fun x hx=>he x (by simp [hx])) k x h
  rw [List.set_cons_succ,List.flatten_cons,List.flatten_cons,ih,List.set_append_right _ _ (by rw [Nat.succ_mul];omega)]
  congr 2
  rw [Nat.succ_mul];omega
theorem agM {lim:Nat} {H:ah} {sz:Nat} {v:aa} {xs:List (List aa)} {bv:Nat} (h:Own H sz v xs bv) (hl:bC v=some bv→lim≤bv) {k:Nat} {x:List aa} (hx:xs[k]? =some x) {f:Nat} (hf:f <sz) {y:aa} (hy:y.cells=[y]) (h1:y.one=true):
  ∃H',bp lim H 1 (slot v (k * sz+f)) y=some H'∧Own H' sz v (xs.set k (x.set f y)) bv∧bu (fun c=>bC v=some c) H H'∧H'.next=H.next:=by
 have hk:k <xs.length:=by
  rcases Nat.lt_or_ge k xs.length with h | h
  ·exact h
  ·rw [List.getElem?_eq_none h] at hx;simp at hx
 rcases h.2 with ⟨_,h2⟩ | ⟨o,cs,_,h2,_⟩ | ⟨h2,h3⟩
 ·rw [h2] at hk;simp at hk
 ·rw [h2] at hk;simp at hk
 ·have hfl:=qI (fun y hy'=>(h.1 y hy').1)
  have hle:(k+1) * sz≤xs.length * sz:=Nat.mul_le_mul_right _ hk
  rw [Nat.succ_mul] at hle
  have eM:slot v (k * sz+f)= .ptr (some (bv,k * sz+f)):=by rw [h2];simp [slot]
  have DU:=Ox (y:=y) hf (fun y hy'=>(h.1 y hy').1) k x hx
  refine ⟨H.set bv (.cells (xs.set k (x.set f y)).flatten),?_,⟨?_,.inr (.inr ⟨by rw [List.length_set];exact h2,jJ (ah.jf h3)⟩)⟩,bu.set (by rw [h2];rfl),ah.gh _ _ _⟩
  ·rw [eM]
   exact lM h3 (hl (by rw [h2];rfl)) hy h1 (by omega) DU.symm
  ·intro z hz
   rcases List.mem_or_eq_of_mem_set hz with hz | rfl
   ·exact h.1 z hz
   ·have hm:=h.1 x (List.mem_of_getElem? hx)
    refine ⟨by rw [List.length_set];exact hm.1,?_⟩
    rw [List.all_eq_true] at hm ⊢
    intro c hc
    rcases List.mem_or_eq_of_mem_set hc with hc | rfl
    ·exact hm.2 c hc
    ·exact h1
end Go.au
end
section
set_option linter.unusedSimpArgs false
set_option linter.unusedVariables false
set_option linter.unusedSectionVars false
namespace Go.au
variable [Gl]
structure yC (K:Type) [DecidableEq K] where
 agg:Bool
 ls:List bE
 enc:K→aa
 eq:∀a b,eE agg ls (enc a) (enc b)=some (decide (a=b))
def BJ:yC (List UInt8) where
 agg:=false
 ls:=[.str]
 enc:= .str
 eq:=fun a b=>by
  simp only [eE,iW,Bool.false_eq_true,if_false,cm,lg,Bool.and_true]
  congr 1
  by_cases h:a=b <;>simp [h]
def lk {K α:Type} [DecidableEq K] (fs:List (K × α)) (k:K):Option α:=(fs.find? fun x=>decide (x.1=k)).map (·.2)
theorem abZ {K α:Type} {fs:List (K × α)} (h:(fs.map (·.1)).Nodup) {k:K} {a b:α} (ha:(k,a)∈fs) (hb:(k,b)∈fs):a=b:=by
 induction fs with
 | nil=>simp at ha
 | cons x fs ih=>
  rw [List.map_cons,List.nodup_cons] at h
  rcases List.mem_cons.1 ha with ha | ha <;>rcases List.mem_cons.1 hb with hb | hb
  ·rw [←ha] at hb;simp at hb;exact hb.symm
  ·exfalso;apply h.1;rw [←ha];exact List.mem_map.2 ⟨_,hb,rfl⟩
  ·exfalso;apply h.1;rw [←hb];exact List.mem_map.2 ⟨_,ha,rfl⟩
  ·exact ih h.2 ha hb
theorem Oy {K:Type} {l l':List K} (h:l.Nodup) (h':l'.Nodup) (hm:∀x,x∈l↔x∈l'):l.Perm l':=(List.perm_ext_iff_of_nodup h h').2 hm
theorem mem_keys {K α:Type} {fs:List (K × α)} {k:K}:k∈fs.map (·.1)↔ ∃a,(k,a)∈fs:=by
 rw [List.mem_map]
 constructor
 ·rintro ⟨⟨k',a⟩,h,rfl⟩;exact ⟨a,h⟩
 ·rintro ⟨a,h⟩;exact ⟨_,h,rfl⟩
section
variable {K:Type} [DecidableEq K] {α:Type}
theorem BK {fs:List (K × α)} {k:K}:lk fs k=none↔k ∉ fs.map (·.1):=by
 unfold lk
 simp only [Option.map_eq_none_iff,List.find?_eq_none,decide_eq_true_eq,List.mem_map,not_exists,not_and]
theorem mW {fs:List (K × α)} {k:K} {a:α} (h:lk fs k=some a):(k,a)∈fs:=by
 unfold lk at h
 rw [Option.map_eq_some_iff] at h
 obtain ⟨⟨k',a'⟩,h1,rfl⟩:=h
 have:=List.find?_some h1
 simp at this
 subst this
 exact List.mem_of_find?_eq_some h1
theorem GQ {fs:List (K × α)} (h:(fs.map (·.1)).Nodup) {k:K} {a:α} (ha:(k,a)∈fs):lk fs k=some a:=by
 cases hl:lk fs k with
 | none=>exact absurd (List.mem_map.2 ⟨_,ha,rfl⟩) (BK.1 hl)
 | some b=>rw [abZ h ha (mW hl)]
def br (kk:yC K) (vs:List (K × aa)):List (aa × aa):=vs.map fun x=>(kk.enc x.1,x.2)
variable {kk:yC K}
theorem BL (k:K) (x:K × aa):isKey kk.agg kk.ls (kk.enc k) (kk.enc x.1,x.2)=decide (k=x.1):=by
 unfold isKey
 rw [kk.eq]
 by_cases h:k=x.1 <;>simp [h]
theorem BM (k:K) (vs:List (K × aa)):nZ kk.agg kk.ls (kk.enc k) (br kk vs)=true:=by
 unfold nZ br
 rw [kk.eq]
 simp [kk.eq]
theorem Oz (k:K) (vs:List (K × aa)):oa kk.agg kk.ls (kk.enc k) (br kk vs)=lk vs k:=by
 unfold oa br lk
 induction vs with
 | nil=>rfl
 | cons x vs ih=>
  rw [List.map_cons,List.find?_cons,List.find?_cons,BL]
  by_cases h:k=x.1
  ·simp [h]
  ·have h':¬x.1=k:=fun e=>h e.symm
   simp only [decide_eq_false h,decide_eq_false h']
   exact ih
theorem ab0 (k:K) (vs:List (K × aa)):(br kk vs).any (isKey kk.agg kk.ls (kk.enc k))=decide (k∈vs.map (·.1)):=by
 unfold br
 rw [List.any_map]
 have:((isKey kk.agg kk.ls (kk.enc k)) ∘ fun x:K × aa=>(kk.enc x.1,x.2))=fun x=>decide (k=x.1):=by
  funext x;exact BL k x
 rw [this]
 by_cases h:k∈vs.map (·.1)
 ·simp only [h,decide_true]
  rw [List.any_eq_true]
  obtain ⟨x,h1,h2⟩:=List.mem_map.1 h
  exact ⟨x,h1,by simp [h2]⟩
 ·simp only [h,decide_false]
  rw [List.any_eq_false]
  intro x hx
  simp only [decide_eq_true_eq]
  intro e;apply h;rw [e];exact List.mem_map.2 ⟨x,hx,rfl⟩
def lN (k:K) (v:aa) (vs:List (K × aa)):List (K × aa):=if k∈vs.map (·.1) then vs.map fun x=>if x.1=k then (k,v) else x else vs++[(k,v)]
def q8 (k:K) (vs:List (K × aa)):List (K × aa):=vs.filter fun x=> !decide (x.1=k)
theorem ab1 (k:K) (v:aa) (vs:List (K × aa)):m7 kk.agg kk.ls (kk.enc k) v (br kk vs)=br kk (lN k v vs):=by
 unfold m7
 rw [ab0]
 unfold lN
 by_cases h:k∈vs.map (·.1)
 ·simp only [h,decide_true,if_true]
  unfold br
  rw [List.map_map,List.map_map]
  apply List.map_congr_left
  intro x hx
  simp only [Function.comp,BL,decide_eq_true_eq]
  by_cases e:x.1=k
  ·rw [if_pos e.symm,if_pos e]
  ·rw [if_neg (fun q=>e q.symm),if_neg e]
 ·simp only [h,decide_false,Bool.false_eq_true,if_false]
  unfold br;simp
theorem ab2 (k:K) (vs:List (K × aa)):rG kk.agg kk.ls (kk.enc k) (br kk vs)=br kk (q8 k vs):=by
 unfold rG q8 br
 rw [List.filter_map]
 congr 1
 apply List.filter_congr
 intro x _
 simp only [Function.comp,BL]
 by_cases h:k=x.1
 ·simp [h]
 ·have h':¬x.1=k:=fun e=>h e.symm
  simp [h,h']
theorem OA {k:K} {v:aa} {vs:List (K × aa)} (h:k∈vs.map (·.1)):(lN k v vs).map (·.1)=vs.map (·.1):=by
 unfold lN
 rw [if_pos h,List.map_map]
 apply List.map_congr_left
 intro x _
 simp only [Function.comp]
 split
 ·rename_i e;exact e.symm
 ·rfl
theorem OB {k:K} {v:aa} {vs:List (K × aa)} (h:k ∉ vs.map (·.1)):(lN k v vs).map (·.1)=vs.map (·.1)++[k]:=by
 unfold lN
 rw [if_neg h];simp
theorem ab3 {k k':K} {v v':aa} {vs:List (K × aa)} (h:(k',v')∈lN k v vs):(k'=k∧v'=v)∨(k'≠k∧(k',v')∈vs):=by
 unfold lN at h
 split at h
 ·obtain ⟨x,h1,h2⟩:=List.mem_map.1 h
  split at h2
  ·simp at h2;exact .inl ⟨h2.1.symm,h2.2.symm⟩
  ·rename_i hne
   subst h2;exact .inr ⟨hne,h1⟩
 ·rename_i hn
  rcases List.mem_append.1 h with h | h
  ·refine .inr ⟨fun e=>hn ?_,h⟩
   rw [←e];exact List.mem_map.2 ⟨_,h,rfl⟩
  ·simp at h;exact .inl h
structure gS (kk:yC K) (H:ah) (m:Nat) (R:aa→α→Prop) (fs:List (K × α)):Prop where
 ex:∃vs jy,H.get m=some (.map (br kk vs) jy)∧(vs.map (·.1)).Perm (fs.map (·.1))∧ ∀k v a,(k,v)∈vs→(k,a)∈fs→R v a
 nodup:(fs.map (·.1)).Nodup
structure BN (fs:List (K × α)) (k:K) (a:α) (fs':List (K × α)):Prop where
 nodup:(fs'.map (·.1)).Nodup
 mem:∀k' a',(k',a')∈fs'↔(k'=k∧a'=a)∨(k'≠k∧(k',a')∈fs)
structure OC (fs:List (K × α)) (k:K) (fs':List (K × α)):Prop where
 nodup:(fs'.map (·.1)).Nodup
 mem:∀k' a',(k',a')∈fs'↔(k'≠k∧(k',a')∈fs)
variable {H:ah} {m:Nat} {R:aa→α→Prop} {fs:List (K × α)}
theorem gS.mono {R':aa→α→Prop} {H':ah} (h:gS kk H m R fs) (hg:H'.get m=H.get m) (hR:∀k v a,(k,a)∈fs→R v a→R' v a):gS kk H' m R' fs:=by
 obtain ⟨vs,jy,h1,h2,h3⟩:=h.ex
 exact ⟨⟨vs,jy,by rw [hg];exact h1,h2,fun k v a hv ha=>hR k v a ha (h3 k v a hv ha)⟩,h.nodup⟩
theorem gS.lt (h:gS kk H m R fs):m <H.next:=by
 obtain ⟨vs,jy,h1,_⟩:=h.ex
 exact ah.jm h1
theorem gS.ab4 (h:gS kk H m R fs) {k:K} {a:α} (hl:lk fs k=some a) (z:aa):
  ∃v,R v a∧ ∀ok,jV H kk.agg kk.ls z ok (.map (some m)) (kk.enc k)=some (if ok=true then .bq [v,.bool true] else v):=by
 obtain ⟨vs,jy,h1,h2,h3⟩:=h.ex
 have ha:=mW hl
 have hk:k∈vs.map (·.1):=h2.mem_iff.2 (mem_keys.2 ⟨a,ha⟩)
 have hn:(vs.map (·.1)).Nodup:=h2.nodup_iff.2 h.nodup
 obtain ⟨v,hv⟩:=mem_keys.1 hk
 refine ⟨v,h3 k v a hv ha,fun ok=> ?_⟩
 unfold jV m8
 simp only [h1,BM,if_true,Oz,GQ hn hv]
theorem gS.ab5 (h:gS kk H m R fs) {k:K} (hl:lk fs k=none) (z:aa):
  ∀ok,jV H kk.agg kk.ls z ok (.map (some m)) (kk.enc k)=some (if ok=true then .bq [z,.bool false] else z):=by
 obtain ⟨vs,jy,h1,h2,h3⟩:=h.ex
 have hk:k ∉ vs.map (·.1):=fun e=>BK.1 hl (h2.mem_iff.1 e)
 intro ok
 unfold jV m8
 simp only [h1,BM,if_true,Oz,BK.2 hk]
theorem gS.len (h:gS kk H m R fs):tD H (.map (some m))=some (.int .i64 (fs.length:Nat)):=by
 obtain ⟨vs,jy,h1,h2,h3⟩:=h.ex
 unfold tD m8
 have:(br kk vs).length=fs.length:=by
  have:=h2.length_eq
  simpa [br] using this
 simp only [h1,Option.map_some,this]
theorem gS.update (h:gS kk H m R fs) {lim:Nat} (hlim:lim≤m) (k:K) {v:aa} {a:α} (hv:R v a):
  ∃x,lp lim H kk.agg kk.ls (.map (some m)) (kk.enc k) v=some (H.set m x)∧ ∀fs',BN fs k a fs'→gS kk (H.set m x) m R fs':=by
 obtain ⟨vs,jy,h1,h2,h3⟩:=h.ex
 have hm:=h.lt
 refine ⟨.map (br kk (lN k v vs)) (jy.put kk.agg kk.ls (kk.enc k) ((br kk vs).any (isKey kk.agg kk.ls (kk.enc k)))),?_,fun fs' hp=>⟨⟨lN k v vs,_,ah.lX _ _ _ hm,?_,?_⟩,hp.nodup⟩⟩
 ·unfold lp
  simp only [h1,BM,and_true,hlim,if_true,ab1]
 ·have hn:(vs.map (·.1)).Nodup:=h2.nodup_iff.2 h.nodup
  have hn':((lN k v vs).map (·.1)).Nodup:=by
   by_cases hk:k∈vs.map (·.1)
   ·rw [OA hk];exact hn
   ·rw [OB hk]
    rw [List.nodup_append]
    exact ⟨hn,by simp,fun x hx y hy e=>by simp at hy;subst hy;subst e;exact hk hx⟩
  refine Oy hn' hp.nodup fun x=> ?_
  have e1:x∈(lN k v vs).map (·.1)↔x=k∨x∈vs.map (·.1):=by
   by_cases hk:k∈vs.map (·.1)
   ·rw [OA hk]
    constructor
    ·exact .inr
    ·rintro (rfl | h)
     ·exact hk
     ·exact h
   ·rw [OB hk];simp [or_comm]
  rw [e1,h2.mem_iff,mem_keys,mem_keys]
  constructor
  ·rintro (rfl | ⟨a',h'⟩)
   ·exact ⟨a,(hp.mem _ _).2 (.inl ⟨rfl,rfl⟩)⟩
   ·by_cases e:x=k
    ·exact ⟨a,(hp.mem _ _).2 (.inl ⟨e,rfl⟩)⟩
    ·exact ⟨a',(hp.mem _ _).2 (.inr ⟨e,h'⟩)⟩
  ·rintro ⟨a',h'⟩
   rcases (hp.mem _ _).1 h' with ⟨e,_⟩ | ⟨_,h'⟩
   ·exact .inl e
   ·exact .inr ⟨a',h'⟩
 ·intro k' v' a' kM ha'
  rcases ab3 kM with ⟨rfl,rfl⟩ | ⟨hne,ab6⟩
  ·rcases (hp.mem _ _).1 ha' with ⟨_,rfl⟩ | ⟨hne,_⟩
   ·exact hv
   ·exact absurd rfl hne
  ·rcases (hp.mem _ _).1 ha' with ⟨e,_⟩ | ⟨_,ab7⟩
   ·exact absurd e hne
   ·exact h3 k' v' a' ab6 ab7
theorem gS.delete (h:gS kk H m R fs) {lim:Nat} (hlim:lim≤m) (k:K):
  ∃x,pX lim H kk.agg kk.ls (.map (some m)) (kk.enc k)=some (H.set m x)∧ ∀fs',OC fs k fs'→gS kk (H.set m x) m R fs':=by
 obtain ⟨vs,jy,h1,h2,h3⟩:=h.ex
 have hm:=h.lt
 refine ⟨.map (br kk (q8 k vs)) jy,?_,fun fs' hp=>⟨⟨q8 k vs,_,ah.lX _ _ _ hm,?_,?_⟩,hp.nodup⟩⟩
 ·unfold pX
  simp only [h1,BM,and_true,hlim,if_true,ab2]
 ·have hn:(vs.map (·.1)).Nodup:=h2.nodup_iff.2 h.nodup
  have hn':((q8 k vs).map (·.1)).Nodup:=hn.sublist (List.Sublist.map _ List.filter_sublist)
  refine Oy hn' hp.nodup fun x=> ?_
  have e1:x∈(q8 k vs).map (·.1)↔x≠k∧x∈vs.map (·.1):=by
   unfold q8
   rw [mem_keys,mem_keys]
   constructor
   ·rintro ⟨a',h'⟩
    rw [List.mem_filter] at h'
    exact ⟨by simpa using h'.2,a',h'.1⟩
   ·rintro ⟨hne,a',h'⟩
    exact ⟨a',List.mem_filter.2 ⟨h',by simpa using hne⟩⟩
  rw [e1,h2.mem_iff,mem_keys,mem_keys]
  constructor
  ·rintro ⟨hne,a',h'⟩;exact ⟨a',(hp.mem _ _).2 ⟨hne,h'⟩⟩
  ·rintro ⟨a',h'⟩
   obtain ⟨hne,h''⟩:=(hp.mem _ _).1 h'
   exact ⟨hne,a',h''⟩
 ·intro k' v' a' kM ha'
  unfold q8 at kM
  exact h3 k' v' a' (List.mem_filter.1 kM).1 ((hp.mem _ _).1 ha').2
theorem gS.new (R:aa→α→Prop):gS kk (H.push (.map [] ⟨0,[]⟩)) H.next R ([]:List (K × α)):=
 ⟨⟨[],⟨0,[]⟩,ah.jU _ _,.refl _,fun _ _ _ h=>by simp at h⟩,by simp⟩
end
end Go.au
end
section
set_option linter.unusedSimpArgs false
set_option linter.unusedVariables false
set_option linter.unusedSectionVars false
namespace Go.au
variable [Gl]
theorem wrap_i64 {n:Int} (h0: -9223372036854775808≤n) (h1:n≤9223372036854775807):IntKind.i64.wrap n=n:=Ah h0 h1
theorem wrap_u64 {n:Int} (h0:0≤n) (h1:n≤18446744073709551615):IntKind.u64.wrap n=n:=Ah h0 h1
theorem iR {i:Nat} (h:i <9223372036854775807):IntKind.i64.wrap ((i:Int)+1)=((i+1:Nat):Int):=wrap_i64 (by omega) (by omega)
theorem dT {p:Prop} [Decidable p] (h:p):decide p=true:=decide_eq_true h
theorem dF {p:Prop} [Decidable p] (h:¬p):decide p=false:=decide_eq_false h
theorem ab8 (neg:Bool) (b:Nat):dZ neg .map (.map (some b)) (.map none)=some (.bool (if neg then !false else false)):=rfl
theorem agN (neg:Bool):dZ neg .map (.map none) (.map none)=some (.bool (if neg then !true else true)):=rfl
theorem OD (k:IntKind) (a b:Int):iL true [.int k a,.int k b]=some (.int k (max a b)):=by
 simp only [iL,nX,if_true]
 congr 2
 by_cases h:b >a
 ·rw [if_pos h];omega
 ·rw [if_neg h];omega
theorem ab9 (k:IntKind) (a b:Int):iL false [.int k a,.int k b]=some (.int k (min a b)):=by
 simp only [iL,nX,if_true,Bool.false_eq_true,if_false]
 congr 2
 by_cases h:b <a
 ·rw [if_pos h];omega
 ·rw [if_neg h];omega
theorem OE (a:Option (Nat × Nat)):(aa.ptr a).cells=[aa.ptr a]:=rfl
theorem OF (a:Option (Nat × Nat)):([aa.ptr a].all fun v=>v.one)=true:=rfl
theorem OG (s:List UInt8):(aa.str s).cells=[aa.str s]:=rfl
theorem OH (s:List UInt8):([aa.str s].all fun v=>v.one)=true:=rfl
theorem OI (k:IntKind) (n:Int):(aa.int k n).cells=[aa.int k n]:=rfl
theorem OJ (k:IntKind) (n:Int):([aa.int k n].all fun v=>v.one)=true:=rfl
theorem OK (b:Bool):(aa.bool b).cells=[aa.bool b]:=rfl
theorem OL (b:Bool):([aa.bool b].all fun v=>v.one)=true:=rfl
theorem OM (b:Option Nat):(aa.map b).cells=[aa.map b]:=rfl
theorem ON (b:Option Nat):([aa.map b].all fun v=>v.one)=true:=rfl
theorem OO (a:Option (Nat × Nat)) (n:Nat) (c:Cap):(aa.sl a n c).cells=[aa.sl a n c]:=rfl
theorem OP (a:Option (Nat × Nat)) (n:Nat) (c:Cap):([aa.sl a n c].all fun v=>v.one)=true:=rfl
theorem OQ (f:FuncId) (xs ys:List aa):(aa.fn f xs ys).cells=[aa.fn f xs ys]:=rfl
theorem OS (f:FuncId) (xs ys:List aa):([aa.fn f xs ys].all fun v=>v.one)=true:=rfl
theorem OT (t:TypeId) (v:aa):(aa.iface t v).cells=[aa.iface t v]:=rfl
theorem OU (t:TypeId) (v:aa):([aa.iface t v].all fun v=>v.one)=true:=rfl
theorem acd:(type_of% @OE)∧(type_of% @OF)∧(type_of% @OG)∧(type_of% @OH)∧(type_of% @OI)∧(type_of% @OJ)∧(type_of% @OK)∧(type_of% @OL)∧(type_of% @OM)∧(type_of% @ON)∧(type_of% @OO)∧(type_of% @OP)∧(type_of% @OQ)∧(type_of% @OS)∧(type_of% @OT)∧(type_of% @OU):=
 ⟨@OE,@OF,@OG,@OH,@OI,@OJ,@OK,@OL,@OM,@ON,@OO,@OP,@OQ,@OS,@OT,@OU⟩
theorem yD {H H':ah} (hk:aO H H') {g:Option Nat} {x v:aa} (h:aB H g x=some v):aB H' g x=some v:=by
 cases x with
 | ptr a=>
  cases a with
  | none=>simp [aB] at h
  | some bo=>
   obtain ⟨b,o⟩:=bo
   cases hc:H.cells b with
   | none=>simp [aB,hc] at h
   | some cs=>
    have fm:=hk.cells hc
    simp only [aB,hc] at h
    simp only [aB,fm]
    exact h
 | _=>simp [aB] at h
theorem kX {H:ah} {b n:Nat} {cs:List aa} (h:H.cells b=some cs) (hn:cs.length=n):aB H (some n) (.ptr (some (b,0)))=some (.agg cs):=by
 rw [uq h]
 simp only [au.cut,Nat.zero_add,hn,Nat.le_refl,if_true,List.drop_zero,Option.map_some]
 rw [List.take_of_length_le (by omega)]
structure Fz (H:ah) (sz:Nat) (v:aa) (xs:List (List aa)):Prop where
 each:∀x∈xs,x.length=sz∧x.all (·.one)=true
 at':(v= .sl none 0 (.ex 0)∧xs=[])∨ ∃b o c cs,v= .sl (some (b,o)) xs.length c∧mG c xs.length sz∧H.cells b=some cs∧o+xs.length * sz≤cs.length∧(cs.drop o).take (xs.length * sz)=xs.flatten
section
variable {H:ah} {sz:Nat} {v:aa} {xs:List (List aa)}
theorem Fz.nil (H:ah) (sz:Nat):Fz H sz (.sl none 0 (.ex 0)) []:=⟨fun _ h=>by simp at h,.inl ⟨rfl,rfl⟩⟩
theorem Fz.sl (h:Fz H sz v xs):Sl H sz v xs:=by
 refine ⟨?_,fun x hx=>(h.each x hx).1⟩
 rcases h.at' with ⟨rfl,rfl⟩ | ⟨b,o,c,cs,h1,h2,h3,h4,h5⟩
 ·exact .inl ⟨none,.ex 0,rfl,Nat.le_refl 0,rfl⟩
 ·exact .inr ⟨b,o,c,cs,h1,h2,h3,h4,h5⟩
theorem Fz.one (h:Fz H sz v xs):v.one=true∧v.cells=[v]:=by
 rcases h.at' with ⟨rfl,_⟩ | ⟨b,o,c,cs,rfl,_⟩ <;>exact ⟨rfl,rfl⟩
theorem Fz.lt (h:Fz H sz v xs):∀b,bC v=some b→b <H.next:=by
 intro b hb
 rcases h.at' with ⟨rfl,_⟩ | ⟨b',o,c,cs,rfl,_,h3,_⟩
 ·simp [bC] at hb
 ·simp [bC] at hb;subst hb;exact ah.jf h3
theorem Fz.frame {S:Nat→Prop} {H':ah} (h:Fz H sz v xs) (hf:bu S H H') (hn:∀b,bC v=some b→ ¬S b):Fz H' sz v xs:=by
 refine ⟨h.each,?_⟩
 rcases h.at' with h1 | ⟨b,o,c,cs,h1,h2,h3,h4,h5⟩
 ·exact .inl h1
 ·exact .inr ⟨b,o,c,cs,h1,h2,hf.cells h3 (hn b (by rw [h1];rfl)),h4,h5⟩
theorem Fz.keep {H':ah} (h:Fz H sz v xs) (hk:aO H H'):Fz H' sz v xs:=h.frame (.of (S:=fun _=>False) hk) fun _ _ e=>e
theorem Fz.take (h:Fz H sz v xs) {k:Nat} (hk:k≤xs.length):∃v',fN sz v none (some (.int .i64 (k:Int))) none=some v'∧Fz H sz v' (xs.take k)∧bC v'=bC v:=by
 have each:∀x∈xs.take k,x.length=sz∧x.all (·.one)=true:=fun x hx=>h.each x (List.mem_of_mem_take hx)
 rcases h.at' with ⟨rfl,rfl⟩ | ⟨b,o,c,cs,rfl,h2,h3,h4,h5⟩
 ·have hk0:k=0:=by simpa using hk
  subst hk0
  exact ⟨.sl none 0 (.ex 0),rfl,⟨each,.inl ⟨rfl,rfl⟩⟩,rfl⟩
 ·have hlen:(xs.take k).length=k:=by simp;omega
  have hfl:∀ys:List (List aa),(∀y∈ys,y.length=sz)→ ∀j,(ys.take j).flatten=ys.flatten.take (j * sz):=by
   intro ys
   induction ys with
   | nil=>intro _ j;simp
   | cons y ys ih=>
    intro hy j
    cases j with
    | zero=>simp
    | succ j=>
     have jZ:=hy y (by simp)
     rw [List.take_succ_cons,List.flatten_cons,ih (fun z hz=>hy z (by simp [hz])),List.flatten_cons,Nat.succ_mul,Nat.add_comm,←jZ,List.take_length_add_append,jZ]
  have hle:k * sz≤xs.length * sz:=Nat.mul_le_mul_right _ hk
  have hcells:(cs.drop o).take ((xs.take k).length * sz)=(xs.take k).flatten:=by
   rw [hlen,hfl xs (fun y hy=>(h.each y hy).1),←h5,List.take_take,Nat.min_eq_left hle]
  have fin:∀o' c',mG c' k sz→o'=o→Fz H sz (.sl (some (b,o')) k c') (xs.take k):=by
   rintro o' c' fm rfl
   exact ⟨each,.inr ⟨b,o',c',cs,by rw [hlen],by rw [hlen];exact fm,h3,by rw [hlen];omega,hcells⟩⟩
  cases c with
  | ex m=>
   have hm:xs.length≤m:=h2
   refine ⟨.sl (if m=0 then some (b,o) else shift (some (b,o)) (0 * sz)) (k - 0) (.ex (m - 0)),?_,?_,?_⟩
   ·simp only [fN,Option.isNone_some,Option.isSome_none,Bool.and_false,Bool.false_eq_true,if_false,Option.bind_eq_bind,dD,jw,Option.bind_some]
    rw [if_pos ⟨Nat.le_refl _,by omega,Nat.zero_le _⟩]
   ·by_cases hm0:m=0
    ·rw [if_pos hm0];exact fin o _ (show k - 0≤m - 0 by omega) rfl
    ·rw [if_neg hm0];exact fin _ _ (show k - 0≤m - 0 by omega) (by simp)
   ·split <;>rfl
  | op e kn=>
   have he:e=sz:=h2
   subst he
   refine ⟨.sl (shift (some (b,o)) (0 * e)) (k - 0) (.op e (max xs.length kn - 0)),?_,fin _ _ rfl (by simp),rfl⟩
   simp only [fN,Option.isNone_some,Option.isNone_none,Option.isSome_none,Bool.and_false,Bool.false_eq_true,if_false,Option.bind_eq_bind,dD,jw,Option.bind_some,if_true]
   rw [if_pos ⟨Nat.le_trans hk (Nat.le_max_left _ _),Nat.zero_le _,trivial⟩]
  | un=>
   refine ⟨.sl (shift (some (b,o)) (0 * sz)) (k - 0) .un,?_,fin _ _ trivial (by simp),rfl⟩
   simp only [fN,Option.isNone_some,Option.isNone_none,Option.isSome_none,Bool.and_false,Bool.false_eq_true,if_false,Option.bind_eq_bind,dD,jw,Option.bind_some,if_true]
   rw [if_pos ⟨hk,Nat.zero_le _,trivial⟩]
def Full (v:aa):Prop:= ∃a n,v= .sl a n (.ex n)
theorem Fz.clip (h:Fz H sz v xs):∃v',fN sz v none (some (.int .i64 (xs.length:Nat))) (some (.int .i64 (xs.length:Nat)))=some v'∧Fz H sz v' xs∧Full v'∧bC v'=bC v:=by
 rcases h.at' with ⟨rfl,rfl⟩ | ⟨b,o,c,cs,rfl,h2,h3,h4,h5⟩
 ·exact ⟨.sl none 0 (.ex 0),rfl,h,⟨none,0,rfl⟩,rfl⟩
 ·have fin:∀o',o'=o→Fz H sz (.sl (some (b,o')) xs.length (.ex xs.length)) xs:=by
   rintro o' rfl
   exact ⟨h.each,.inr ⟨b,o',_,cs,rfl,Nat.le_refl _,h3,h4,h5⟩⟩
  have val:(fN sz (.sl (some (b,o)) xs.length c) none (some (.int .i64 (xs.length:Nat))) (some (.int .i64 (xs.length:Nat))))=
    some (.sl (if xs.length=0 then some (b,o) else shift (some (b,o)) (0 * sz)) (xs.length - 0) (.ex (xs.length - 0))):=by
   simp only [fN,Option.isNone_some,Option.isSome_some,Bool.and_true,Bool.false_and,Bool.false_eq_true,if_false,Option.bind_eq_bind,dD,jw,Option.bind_some]
   cases c with
   | ex m=>simp only [Option.bind_some];rw [if_pos ⟨h2,Nat.le_refl _,Nat.zero_le _⟩]
   | op e k=>simp only [Option.bind_some];rw [if_pos ⟨Nat.le_refl _,Nat.le_refl _,Nat.zero_le _⟩]
   | un=>simp only [Option.bind_some];rw [if_pos ⟨Nat.le_refl _,Nat.le_refl _,Nat.zero_le _⟩]
  refine ⟨_,val,?_,⟨_,_,rfl⟩,?_⟩
  ·by_cases h0:xs.length=0
   ·rw [if_pos h0];exact fin o rfl
   ·rw [if_neg h0];exact fin _ (by simp)
  ·split <;>rfl
theorem BO (H:ah) {sz n:Nat} {cs:List aa} {c:Cap} (h:cs.length=n * sz) (hn:n≠0):source (H.push (.cells cs)) sz (.sl (some (H.next,0)) n c)=some (n,cs):=by
 simp only [source,hn,if_false,ct,au.cut,Nat.zero_add,h,Nat.le_refl,if_true,List.drop_zero,Option.map_some]
 rw [List.take_of_length_le (by omega)]
theorem Fz.append {lim:Nat} (h:Fz H sz v xs) (hfull:Full v) {x:aa} {ys:List (List aa)} {bytes:Nat} {zero:List aa} (hz:zero.length=sz) (hs:0 <sz) (hsrc:source H sz x=some (ys.length,ys.flatten))
  (hy:∀y∈ys,y.length=sz∧y.all (·.one)=true) (hne:ys≠[]) (vP:(xs.length+ys.length) * bytes≤room) (hr2:xs.length+ys.length≤room):
  fO lim H zero bytes false v x=some (.sl (some (H.next,0)) (xs.length+ys.length) (.op sz 0),H.push (.cells (xs.flatten++ys.flatten)))∧
   Fz (H.push (.cells (xs.flatten++ys.flatten))) sz (.sl (some (H.next,0)) (xs.length+ys.length) (.op sz 0)) (xs++ys):=by
 subst hz
 have h0:ys.length≠0:=fun e=>hne (List.length_eq_zero_iff.1 e)
 have hxl:=qI (fun y hy'=>(h.each y hy').1)
 have jZ:=qI (fun y hy'=>(hy y hy').1)
 constructor
 ·rw [Ow hsrc (BI fun y hy'=>(hy y hy').2) (by omega)]
  obtain ⟨a,n,rfl⟩:=hfull
  rcases h.at' with ⟨e,rfl⟩ | ⟨b,o,c,cs,e,h2,h3,h4,h5⟩
  ·simp only [aa.sl.injEq,Cap.ex.injEq] at e
   obtain ⟨rfl,rfl,_⟩:=e
   simp only [h0,if_false]
   rw [if_neg (by simp at vP hr2 ⊢;omega)]
   simp
  ·simp only [aa.sl.injEq] at e
   obtain ⟨rfl,rfl,rfl⟩:=e
   simp only [h0,if_false]
   rw [if_neg (by omega),h3]
   simp only [Option.bind_eq_bind,Option.bind_some]
   rw [if_neg (by omega)]
   have iA:cut cs o (xs.length * zero.length)=some xs.flatten:=by
    unfold au.cut
    rw [if_pos h4,h5]
   simp only [iA,Option.bind_some,Nat.le_refl,BI fun y hy'=>(h.each y hy').2,and_self,if_true]
 ·refine ⟨fun y hy'=> ?_,.inr ⟨H.next,0,.op zero.length 0,_,by rw [List.length_append],rfl,ct H _,?_,?_⟩⟩
  ·rcases List.mem_append.1 hy' with g | g
   ·exact h.each y g
   ·exact hy y g
  ·rw [List.length_append,List.length_append,hxl,jZ,Nat.add_mul];omega
  ·rw [List.drop_zero,List.flatten_append,List.take_of_length_le (by rw [List.length_append,List.length_append,hxl,jZ,Nat.add_mul];omega)]
end
end Go.au
end
section
set_option linter.unusedSimpArgs false
set_option linter.unusedVariables false
set_option linter.unusedSectionVars false
namespace Go.au
variable [Gl]
def dz (l:List UInt8):List aa:=l.map fun c=> .int .u8 (c.toNat:Int)
theorem sS (l:List UInt8):(dz l).length=l.length:=by unfold dz;simp
theorem agO (l m:List UInt8):dz (l++m)=dz l++dz m:=by unfold dz;simp
theorem agP {l m:List UInt8} (h:dz l=dz m):l=m:=by
 unfold dz at h
 refine List.map_inj_right (f:=fun c:UInt8=>aa.int .u8 (c.toNat:Int)) (fun a b e=> ?_) |>.1 h
 simp only [aa.int.injEq,true_and] at e
 exact UInt8.toNat_inj.1 (by omega)
theorem agQ (l:List UInt8):(dz l).all (·.one)=true:=by
 unfold dz
 rw [List.all_eq_true]
 intro x hx
 obtain ⟨c,_,rfl⟩:=List.mem_map.1 hx
 rfl
theorem GR:∀(xs ys:List UInt8),xs.length=ys.length→cm (List.replicate xs.length (.int .u8)) (dz xs) (dz ys)=some (decide (xs=ys))
 | [],[],_=>rfl
 | x::xs,y::ys,h=>by
  have ih:=GR xs ys (by simpa using h)
  show (match lg (.int .u8) (.int .u8 (x.toNat:Int)) (.int .u8 (y.toNat:Int)),cm (List.replicate xs.length (.int .u8)) (dz xs) (dz ys) with
   | some a,some b=>some (a && b)
   | _,_=>none)=_
  rw [ih]
  have hx:((x.toNat:Int)==(y.toNat:Int))=decide (x=y):=by
   rw [Bool.eq_iff_iff]
   simp only [beq_iff_eq,decide_eq_true_eq]
   exact ⟨fun e=>UInt8.toNat_inj.1 (by omega),fun e=>by rw [e]⟩
  simp only [lg,and_self,if_true,hx]
  congr 1
  rw [Bool.eq_iff_iff]
  simp
 | [],_::_,h=>by simp at h
 | _::_,[],h=>by simp at h
abbrev Tok:={l:List UInt8 // l.length=8}
def agR:yC Tok where
 agg:=true
 ls:=List.replicate 8 (.int .u8)
 enc t:= .agg (dz t.1)
 eq:=fun a b=>by
  have h:=GR a.1 b.1 (by rw [a.2,b.2])
  rw [a.2] at h
  simp only [eE,iW,if_true,h]
  congr 1
  rw [Bool.eq_iff_iff]
  simp [Subtype.ext_iff]
end Go.au
namespace Go.au
variable [Gl]
theorem jM {n:Nat} (h:n <18446744073709551616):IntKind.u64.wrap (n:Int)=(n:Int):=wrap_u64 (by omega) (by omega)
theorem BP {n:Nat} (h:n <256):IntKind.u8.wrap (n:Int)=(n:Int):=Ah (by show (0:Int)≤_;omega) (by show _≤(255:Int);omega)
theorem ace {a b:Nat} (ha:a <18446744073709551616) (hb:b <18446744073709551616):kU .u64 (a:Int) (b:Int)=((a &&& b:Nat):Int):=by
 unfold kU ju
 show IntKind.u64.wrap (((BitVec.ofInt 64 (a:Int)) &&& (BitVec.ofInt 64 (b:Int))).toNat:Int)=_
 have e:((BitVec.ofInt 64 (a:Int)) &&& (BitVec.ofInt 64 (b:Int))).toNat=a &&& b:=by
  rw [BitVec.toNat_and,BitVec.ofInt_natCast,BitVec.ofInt_natCast,BitVec.toNat_ofNat,BitVec.toNat_ofNat,Nat.mod_eq_of_lt ha,Nat.mod_eq_of_lt hb]
 rw [e]
 exact jM (Nat.lt_of_le_of_lt Nat.and_le_left ha)
theorem OV {a b:Nat} (ha:a <18446744073709551616) (hb:b <18446744073709551616):mB .u64 (a:Int) (b:Int)=((a ||| b:Nat):Int):=by
 unfold mB ju
 show IntKind.u64.wrap (((BitVec.ofInt 64 (a:Int)) ||| (BitVec.ofInt 64 (b:Int))).toNat:Int)=_
 have e:((BitVec.ofInt 64 (a:Int)) ||| (BitVec.ofInt 64 (b:Int))).toNat=a ||| b:=by
  rw [BitVec.toNat_or,BitVec.ofInt_natCast,BitVec.ofInt_natCast,BitVec.toNat_ofNat,BitVec.toNat_ofNat,Nat.mod_eq_of_lt ha,Nat.mod_eq_of_lt hb]
 rw [e]
 exact jM (Nat.or_lt_two_pow (n:=64) ha hb)
theorem OW {a b:Nat} (ha:a <256) (hb:b <256):kU .u8 (a:Int) (b:Int)=((a &&& b:Nat):Int):=by
 unfold kU ju
 show IntKind.u8.wrap (((BitVec.ofInt 8 (a:Int)) &&& (BitVec.ofInt 8 (b:Int))).toNat:Int)=_
 have e:((BitVec.ofInt 8 (a:Int)) &&& (BitVec.ofInt 8 (b:Int))).toNat=a &&& b:=by
  rw [BitVec.toNat_and,BitVec.ofInt_natCast,BitVec.ofInt_natCast,BitVec.toNat_ofNat,BitVec.toNat_ofNat,Nat.mod_eq_of_lt ha,Nat.mod_eq_of_lt hb]
 rw [e]
 exact BP (Nat.lt_of_le_of_lt Nat.and_le_left ha)
theorem acf {a b:Nat} (ha:a <256) (hb:b <256):mB .u8 (a:Int) (b:Int)=((a ||| b:Nat):Int):=by
 unfold mB ju
 show IntKind.u8.wrap (((BitVec.ofInt 8 (a:Int)) ||| (BitVec.ofInt 8 (b:Int))).toNat:Int)=_
 have e:((BitVec.ofInt 8 (a:Int)) ||| (BitVec.ofInt 8 (b:Int))).toNat=a ||| b:=by
  rw [BitVec.toNat_or,BitVec.ofInt_natCast,BitVec.ofInt_natCast,BitVec.toNat_ofNat,BitVec.toNat_ofNat,Nat.mod_eq_of_lt ha,Nat.mod_eq_of_lt hb]
 rw [e]
 exact BP (Nat.or_lt_two_pow (n:=8) ha hb)
theorem OX {n:Nat} (h:n <18446744073709551616):kU .u64 (n:Int) 127=((n % 128:Nat):Int):=by
 have:=ace h (b:=127) (by decide)
 rw [show n &&& 127=n % 128 from Nat.and_two_pow_sub_one_eq_mod n 7] at this
 exact this
theorem BQ {n:Nat} (h:n <256):kU .u8 (n:Int) 127=((n % 128:Nat):Int):=by
 have:=OW h (b:=127) (by decide)
 rw [show n &&& 127=n % 128 from Nat.and_two_pow_sub_one_eq_mod n 7] at this
 exact this
set_option maxRecDepth 100000 in
theorem BR {n:Nat} (h:n <256):(kU .u8 (n:Int) 128==0)=decide (n <128):=by
 have:=OW h (b:=128) (by decide)
 have e:kU .u8 (n:Int) 128=((n &&& 128:Nat):Int):=this
 rw [e]
 have hd:∀n,n <256→(((n &&& 128:Nat)==0)=decide (n <128)):=by decide
 rw [←hd n h,Bool.eq_iff_iff]
 simp only [beq_iff_eq]
 omega
theorem acg {m:Nat} (h:m <128):mB .u8 (m:Int) 128=((m+128:Nat):Int):=by
 have:=acf (a:=m) (b:=128) (by omega) (by decide)
 have e:=Nat.two_pow_add_eq_or_of_lt (i:=7) (b:=m) h 1
 rw [show (2:Nat) ^ 7 * 1=128 from rfl] at e
 rw [show m ||| 128=m+128 by rw [Nat.or_comm,←e];omega] at this
 exact this
theorem BS {n m:Nat} (h:n <144115188075855872) (hm:m <128):mB .u64 ((n * 128:Nat):Int) (m:Int)=((n * 128+m:Nat):Int):=by
 rw [OV (by omega) (by omega)]
 have e:=Nat.two_pow_add_eq_or_of_lt (i:=7) (b:=m) hm n
 rw [show (2:Nat) ^ 7 * n=n * 128 by rw [Nat.mul_comm]] at e
 rw [e]
theorem BT {n:Nat} (h:n <144115188075855872):av .shl (.int .u64 (n:Int)) (.int .u64 7)=some (.int .u64 ((n * 128:Nat):Int)):=by
 refine (JZ (k:= .u64) (a:=(n:Int)) (b:=7) .u64 (by decide)).trans ?_
 have:((n:Int) * 2 ^ (min (7:Int).toNat IntKind.u64.bits))=((n * 128:Nat):Int):=by
  rw [show min (7:Int).toNat IntKind.u64.bits=7 from rfl];omega
 rw [this,jM (by omega)]
theorem OY (n:Nat):av .shr (.int .u64 (n:Int)) (.int .u64 7)=some (.int .u64 ((n / 128:Nat):Int)):=by
 refine (wJ (k:= .u64) (a:=(n:Int)) (b:=7) .u64 (by decide)).trans ?_
 have:(n:Int).fdiv (2 ^ (min (7:Int).toNat IntKind.u64.bits))=((n / 128:Nat):Int):=by
  rw [show min (7:Int).toNat IntKind.u64.bits=7 from rfl,Int.fdiv_eq_ediv_of_nonneg _ (by decide)];omega
 rw [this]
theorem uQ (n:Nat):av .shr (.int .u64 (n:Int)) (.int .u64 57)=some (.int .u64 ((n / 144115188075855872:Nat):Int)):=by
 refine (wJ (k:= .u64) (a:=(n:Int)) (b:=57) .u64 (by decide)).trans ?_
 have:(n:Int).fdiv (2 ^ (min (57:Int).toNat IntKind.u64.bits))=((n / 144115188075855872:Nat):Int):=by
  rw [show min (57:Int).toNat IntKind.u64.bits=57 from rfl,Int.fdiv_eq_ediv_of_nonneg _ (by decide)];omega
 rw [this]
end Go.au
namespace Go.au
variable [Gl]
def pK:aa→Bool
 | .int _ _ | .bool _ | .str _ | .ptr _ | .sl _ _ _ | .map _ | .nilFn | .nilIface=>true
 | _=>false
theorem ach {v:aa} (h:pK v=true):vw v v=true:=by
 cases v <;>simp [pK] at h <;>simp [vw]
theorem OZ:∀{xs:List aa},xs.all pK=true→pY xs xs=true
 | [],_=>rfl
 | x::xs,h=>by
  simp only [List.all_cons,Bool.and_eq_true] at h
  simp only [pY,ach h.1,OZ h.2,Bool.and_self]
theorem aci {g:Option (aa × Bool)} {H H':ah} {l:List aa} (hk:aO H H') (h:∀v∈l,∀b,lq v=some b→ ∃cs,H.cells b=some cs∧cs.all pK=true):qG g H H' l:=by
 have main:(l.all fun v=>match lq v with
  | some b=>pZ (H.get b) (H'.get b)
  | none=>true)=true:=by
  rw [List.all_eq_true]
  intro v hv
  cases hb:lq v with
  | none=>rfl
  | some b=>
   obtain ⟨cs,h1,h2⟩:=h v hv b hb
   have h3:=ah.cells_eq.1 h1
   have h4:=ah.cells_eq.1 (hk.cells h1)
   simp only [h3,h4,pZ,OZ h2]
 unfold qG
 cases g with
 | none=>exact main
 | some g=>exact fun _=>main
end Go.au
namespace Go.au
variable [Gl]
theorem agS:(type_of% @aE)∧(type_of% @aC)∧(type_of% @aD)∧(type_of% @Nat.zero_add)∧(type_of% @Nat.add_zero)∧(type_of% Bool.not_true)∧(type_of% Bool.not_false)∧(type_of% @decide_true)∧(type_of% @decide_false)∧(type_of% and_self)∧(type_of% Bool.false_eq_true):=
 ⟨@aE,@aC,@aD,@Nat.zero_add,@Nat.add_zero,Bool.not_true,Bool.not_false,@decide_true,@decide_false,and_self,Bool.false_eq_true⟩
end Go.au
namespace Go.au
variable [Gl]
def gT (n:Nat):List UInt8:=if h:n=0 then [] else gT (n / 128)++[UInt8.ofNat (n % 128+128)]
decreasing_by exact Nat.div_lt_self (Nat.pos_of_ne_zero h) (by decide)
def bB (n:Nat):List UInt8:=gT (n / 128)++[UInt8.ofNat (n % 128)]
theorem yE:gT 0=[]:=by rw [gT];rfl
theorem yF {n:Nat} (h:n≠0):gT n=gT (n / 128)++[UInt8.ofNat (n % 128+128)]:=by rw [gT,dif_neg h]
theorem GS:∀(k n:Nat),n <128 ^ k→(gT n).length≤k
 | 0,n,h=>by
  have:n=0:=by simpa using h
  subst this;rw [yE];exact Nat.le_refl _
 | k+1,n,h=>by
  by_cases h0:n=0
  ·subst h0;rw [yE];exact Nat.zero_le _
  ·rw [yF h0,List.length_append]
   have:=GS k (n / 128) (by rw [Nat.pow_succ] at h;exact Nat.div_lt_of_lt_mul (by omega))
   simp;exact this
theorem O0 (n:Nat):bB n≠[]:=by unfold bB;simp
theorem ig {n:Nat} (h:n <18446744073709551616):(bB n).length≤10:=by
 unfold bB
 have:=GS 9 (n / 128) (by
  have:(128:Nat) ^ 9=9223372036854775808:=by decide
  omega)
 simp;omega
def kY:Nat→Nat→Nat→List UInt8→Option (Nat × Nat)
 | 0,_,_,_=>none
 | _+1,_,_,[]=>none
 | k+1,n,i,c::r=>
  if (i=0∧c.toNat=128)∨144115188075855872≤n then none else
  if c.toNat <128 then some (n * 128+c.toNat % 128,i+1) else kY k (n * 128+c.toNat % 128) (i+1) r
def rV (s:List UInt8):Option (Nat × Nat):=kY 10 0 0 s
theorem toNat_of {n:Nat} (h:n <256):(UInt8.ofNat n).toNat=n:=by
 rw [UInt8.toNat_ofNat'];exact Nat.mod_eq_of_lt h
theorem O1:∀(l m:Nat) (r:List UInt8),m <l→m <144115188075855872→(gT m).length≤9→kY 10 0 0 (gT m++r)=kY (10 - (gT m).length) m (gT m).length r
 | 0,m,r,h,_,_=>by omega
 | l+1,m,r,h,hm,hl=>by
  by_cases h0:m=0
  ·subst h0;rw [yE];rfl
  ·rw [yF h0] at hl ⊢
   rw [List.length_append] at hl ⊢
   simp only [List.length_cons,List.length_nil] at hl ⊢
   have hlt:m / 128 <m:=Nat.div_lt_self (Nat.pos_of_ne_zero h0) (by decide)
   rw [List.append_assoc,O1 l (m / 128) _ (by omega) (by omega) (by omega)]
   obtain ⟨k,hk⟩:∃k,10 - (gT (m / 128)).length=k+1:=⟨10 - (gT (m / 128)).length - 1,by omega⟩
   rw [hk]
   have hb:(UInt8.ofNat (m % 128+128)).toNat=m % 128+128:=toNat_of (by omega)
   show (if _ then none else if _ then _ else kY k _ _ r)=_
   rw [if_neg,if_neg,hb]
   ·congr 1
    ·omega
    ·omega
   ·rw [hb];omega
   ·rw [hb]
    rintro (⟨h1,h2⟩ | h1)
    ·have:m / 128=0:=by
      by_cases hz:m / 128=0
      ·exact hz
      ·rw [yF hz] at h1;simp at h1
     omega
    ·omega
theorem pL {n:Nat} (h:n <18446744073709551616) (t:List UInt8):rV (bB n++t)=some (n,(bB n).length):=by
 unfold rV bB
 have hl:(gT (n / 128)).length≤9:=GS 9 (n / 128) (by
  have:(128:Nat) ^ 9=9223372036854775808:=by decide
  omega)
 rw [List.append_assoc,O1 (n / 128+1) (n / 128) _ (by omega) (by omega) hl]
 obtain ⟨k,hk⟩:∃k,10 - (gT (n / 128)).length=k+1:=⟨10 - (gT (n / 128)).length - 1,by omega⟩
 rw [hk]
 have hb:(UInt8.ofNat (n % 128)).toNat=n % 128:=toNat_of (by omega)
 show (if _ then none else if _ then _ else kY k _ _ t)=_
 rw [if_neg,if_pos,hb,List.length_append]
 ·congr 2
  omega
 ·rw [hb];omega
 ·rw [hb];omega
theorem O2:∀(k n i:Nat) (s p:List UInt8) {n' j:Nat},p=gT n→i=p.length→(i=0∨n≠0)→kY k n i s=some (n',j)→ ∃q t,s=q++t∧p++q=bB n'∧j=(bB n').length∧n' <18446744073709551616
 | 0,n,i,s,p,n',j,_,_,_,h=>by simp [kY] at h
 | k+1,n,i,[],p,n',j,_,_,_,h=>by simp [kY] at h
 | k+1,n,i,c::r,p,n',j,hp,hi,hz,h=>by
  unfold kY at h
  split at h
  ·simp at h
  rename_i hc
  have cR:c.toNat <256:=c.toNat_lt
  have EA:¬(i=0∧c.toNat=128)∧n <144115188075855872:=⟨fun e=>hc (.inl e),by omega⟩
  split at h
  ·rename_i h1
   simp only [Option.some.injEq,Prod.mk.injEq] at h
   obtain ⟨rfl,rfl⟩:=h
   have e1:c.toNat % 128=c.toNat:=Nat.mod_eq_of_lt h1
   have e:bB (n * 128+c.toNat % 128)=p++[c]:=by
    unfold bB
    rw [show (n * 128+c.toNat % 128) / 128=n by omega,show (n * 128+c.toNat % 128) % 128=c.toNat by omega,hp]
    simp
   exact ⟨[c],r,rfl,e.symm,by rw [e,List.length_append,hi];rfl,by omega⟩
  ·rename_i h1
   have hne:n * 128+c.toNat % 128≠0:=by
    rcases hz with hz | hz
    ·have:c.toNat≠128:=fun e=>EA.1 ⟨hz,e⟩
     omega
    ·omega
   have e:gT (n * 128+c.toNat % 128)=p++[c]:=by
    rw [yF hne,show (n * 128+c.toNat % 128) / 128=n by omega,show (n * 128+c.toNat % 128) % 128+128=c.toNat by omega,hp]
    simp
   obtain ⟨q,t,g1,g2,g3,g4⟩:=O2 k _ (i+1) r (p++[c]) e.symm (by rw [List.length_append,hi];rfl) (.inr hne) h
   exact ⟨c::q,t,by rw [g1];rfl,by rw [←g2];simp,g3,g4⟩
theorem GU {s:List UInt8} {n k:Nat} (h:rV s=some (n,k)):∃t,s=bB n++t∧k=(bB n).length∧n <18446744073709551616:=by
 obtain ⟨q,t,g1,g2,g3,g4⟩:=O2 10 0 0 s [] yE.symm rfl (.inl rfl) h
 exact ⟨t,by rw [g1,←g2];rfl,g3,g4⟩
end Go.au
end
section
set_option maxRecDepth 100000
set_option linter.unusedVariables false
set_option linter.unusedSimpArgs false
namespace Go.Proofs.YtfigbgjbaohglaaGreatDoor.bP
open Go.au
theorem lP {a b:List UInt8} (h:a.length+b.length <9223372036854775808):av .add (.str a) (.str b)=some (.str (a++b)):=by
 show (if ((a.length+b.length:Nat):Int) >9223372036854775807 then none else some (aa.str (a++b)))=_
 rw [if_neg (by omega)]
theorem agT (m:Nat) (h:m <18446744073709551616):av .quo (.int .u64 (m:Int)) (.int .u64 128)=some (.int .u64 ((m / 128:Nat):Int)):=by
 refine (TY (k:= .u64) (a:=(m:Int)) (b:=128) (by decide)).trans ?_
 have:(m:Int).tdiv 128=((m / 128:Nat):Int):=by rw [Int.tdiv_eq_ediv_of_nonneg (by omega)];omega
 rw [this,jM (by omega)]
theorem agU (m:Nat):av .rem (.int .u64 (m:Int)) (.int .u64 128)=some (.int .u64 ((m % 128:Nat):Int)):=by
 refine (J0 (k:= .u64) (a:=(m:Int)) (b:=128) (by decide)).trans ?_
 have:(m:Int).tmod 128=((m % 128:Nat):Int):=by rw [Int.tmod_eq_emod_of_nonneg (by omega)];omega
 rw [this]
theorem yG:∀l:List UInt8,nY (dz l)=some l
 | []=>rfl
 | c::l=>by
  have h0:(0:Int)≤(c.toNat:Int)∧(c.toNat:Int) <256:=⟨by omega,by have:=c.toNat_lt;omega⟩
  have hc:UInt8.ofNat ((c.toNat:Int)).toNat=c:=by
   rw [Int.toNat_natCast];exact UInt8.ofNat_toNat
  show (nY (.int .u8 (c.toNat:Int)::dz l))=_
  simp [nY,yG l,h0,hc]
theorem acj (H:ah) {m:Nat} (h:m <256):e8 (H.push (.cells [.int .u8 (m:Int)])) (.sl (some (H.next,0)) 1 (.ex 1))=some (.str [UInt8.ofNat m]):=by
 have he:[aa.int .u8 (m:Int)]=dz [UInt8.ofNat m]:=by
  unfold dz
  simp [Nat.mod_eq_of_lt h]
 have hq:=yG [UInt8.ofNat m]
 rw [←he] at hq
 unfold e8
 simp only [ct,Option.bind_eq_bind,Option.bind_some]
 show (cut [aa.int .u8 (m:Int)] 0 1).bind _=_
 rw [show au.cut [aa.int .u8 (m:Int)] 0 1=some [aa.int .u8 (m:Int)] from rfl]
 simp only [Option.bind_some,hq]
theorem ack (x:aa) (h:x.cells=[x]):cU [(.int .u8 0)] [(0,1,x)]=some [x]:=by
 unfold cU
 rw [h]
 rfl
section
variable {H:ah}
def ij (l:List Nat):List UInt8:=(l.map bB).flatten
def jh (l:List Nat):List (List aa):=l.map fun (m:Nat)=>[.int .u64 (m:Int)]
theorem acm (l:List Nat):(jh l).length=l.length:=by unfold jh;simp
theorem O3:∀{l:List Nat},(∀m∈l,m <18446744073709551616)→(ij l).length≤l.length * 10
 | [],_=>Nat.le_refl _
 | m::l,h=>by
  have h1:=ig (h m (by simp))
  have h2:=O3 (l:=l) fun x hx=>h x (by simp [hx])
  unfold ij at h2 ⊢
  simp only [List.map_cons,List.flatten_cons,List.length_append,List.length_cons]
  omega
theorem uR {s:aa} {G:ah} {xs:List (List aa)} (h:Sl G 1 s xs) {i:Nat} {x:aa} (hx:xs[i]? =some [x]):∃p,cD none 1 s (.int .i64 (i:Int))=some p∧aB G none p=some x:=by
 have hi:i <xs.length:=(List.getElem?_eq_some_iff.1 hx).1
 exact ⟨_,h.addr hi,h.KS hx⟩
def yH:Option (Nat × Nat)→aa
 | some (m,k)=> .bq [.int .u64 (m:Int),.int .i64 (k:Int),.bool true]
 | none=> .bq [.int .u64 0,.int .i64 0,.bool false]
theorem O4 {n lim N:Nat} {K:aa→ah→Prop} {s:List UInt8} (hs:s.length <9223372036854775808):∀(q k i m:Nat),k <q→k+i=10→m <18446744073709551616→K (yH (kY k m i (s.drop i))) H→pE (au.runT ap n) lim N K q (.str s) (.int .u64 (m:Int)) (.int .i64 (i:Int)) H
 | 0,k,i,m,hq,_,_,_=>by omega
 | q+1,k,i,m,hq,hk,hm,h=>by
  show yz _ _ _ _ (pE _ _ _ _ q) _ _ _ _
  unfold yz
  have bQ:bh true (.str s)=some (.int .i64 (s.length:Int)):=rfl
  by_cases hil:i <s.length
  ·have hd:decide ((i:Int) <(s.length:Int))=true:=dT (by omega)
   rw [List.drop_eq_getElem_cons hil] at h
   cases k with
   | zero=>
    have hd2:decide ((i:Int) <10)=false:=dF (by omega)
    (repeat (first | ((first | with_reducible apply aF | with_reducible apply aG);(focus (first | with_reducible rfl | (simp only [aE,aC,aD,Nat.zero_add,Nat.add_zero,Bool.not_true,Bool.not_false,decide_true,decide_false,reduceIte,and_self,Bool.false_eq_true,bQ,hd,hd2] <;>with_reducible rfl)))) | with_reducible apply aH | with_reducible apply aI))
    unfold sK
    exact h
   | succ k=>
    have hd2:decide ((i:Int) <10)=true:=dT (by omega)
    have hx:e7 (.str s) (.int .i64 (i:Int))=some (.int .u8 ((s[i].toNat:Nat):Int)):=by
     have hj:kA (.int .i64 (i:Int))=some i:=jw _ i
     unfold e7
     rw [hj]
     simp only [List.getElem?_eq_getElem hil,Option.map_some]
    have cR:s[i].toNat <256:=s[i].toNat_lt
    generalize s[i]=c at h hx cR
    unfold kY at h
    by_cases h1:i=0∧c.toNat=128
    ·rw [if_pos (.inl h1)] at h
     have e1:((i:Int)==0)=true:=by rw [h1.1];rfl
     have e2:(((c.toNat:Nat):Int)==128)=true:=by rw [h1.2];rfl
     (repeat (first | ((first | with_reducible apply aF | with_reducible apply aG);(focus (first | with_reducible rfl | (simp only [aE,aC,aD,Nat.zero_add,Nat.add_zero,Bool.not_true,Bool.not_false,decide_true,decide_false,reduceIte,and_self,Bool.false_eq_true,bQ,hd,hd2,hx,e1,e2] <;>with_reducible rfl)))) | with_reducible apply aH | with_reducible apply aI))
     unfold sK
     exact h
    ·by_cases h2:144115188075855872≤m
     ·rw [if_pos (.inr h2)] at h
      have hg:decide ((0:Int) <((m / 144115188075855872:Nat):Int))=true:=dT (by omega)
      by_cases h0:i=0
      ·have e1:((i:Int)==0)=true:=by rw [h0];rfl
       have e2:(((c.toNat:Nat):Int)==128)=false:=by
        rw [Bool.eq_false_iff];intro e;exact h1 ⟨h0,by have:=eq_of_beq e;omega⟩
       (repeat (first | ((first | with_reducible apply aF | with_reducible apply aG);(focus (first | with_reducible rfl | (simp only [aE,aC,aD,Nat.zero_add,Nat.add_zero,Bool.not_true,Bool.not_false,decide_true,decide_false,reduceIte,and_self,Bool.false_eq_true,bQ,hd,hd2,hx,e1,e2,uQ,hg] <;>with_reducible rfl)))) | with_reducible apply aH | with_reducible apply aI))
       unfold sK
       exact h
      ·have e1:((i:Int)==0)=false:=by
        rw [Bool.eq_false_iff];intro e;have:=eq_of_beq e;omega
       (repeat (first | ((first | with_reducible apply aF | with_reducible apply aG);(focus (first | with_reducible rfl | (simp only [aE,aC,aD,Nat.zero_add,Nat.add_zero,Bool.not_true,Bool.not_false,decide_true,decide_false,reduceIte,and_self,Bool.false_eq_true,bQ,hd,hd2,hx,e1,uQ,hg] <;>with_reducible rfl)))) | with_reducible apply aH | with_reducible apply aI))
       unfold sK
       exact h
     ·rw [if_neg (fun e=>e.elim h1 h2)] at h
      have hg:decide ((0:Int) <((m / 144115188075855872:Nat):Int))=false:=dF (by omega)
      have w1:IntKind.u64.wrap ((c.toNat % 128:Nat):Int)=((c.toNat % 128:Nat):Int):=jM (by omega)
      have hi1:IntKind.i64.wrap ((i:Int)+1)=((i+1:Nat):Int):=iR (by omega)
      have go:(pE (au.runT ap n) lim N K q (.str s) (.int .u64 ((m * 128+c.toNat % 128:Nat):Int)) (.int .i64 ((i+1:Nat):Int)) H)∨c.toNat <128:=by
       by_cases h3:c.toNat <128
       ·exact .inr h3
       ·rw [if_neg h3] at h
        exact .inl (O4 hs q k (i+1) _ (by omega) (by omega) (by omega) h)
      by_cases h3:c.toNat <128
      ·rw [if_pos h3] at h
       have e3:decide (c.toNat <128)=true:=dT h3
       by_cases h0:i=0
       ·have e1:((i:Int)==0)=true:=by rw [h0];rfl
        have e2:(((c.toNat:Nat):Int)==128)=false:=by
         rw [Bool.eq_false_iff];intro e;exact h1 ⟨h0,by have:=eq_of_beq e;omega⟩
        (repeat (first | ((first | with_reducible apply aF | with_reducible apply aG);(focus (first | with_reducible rfl | (simp only [aE,aC,aD,Nat.zero_add,Nat.add_zero,Bool.not_true,Bool.not_false,decide_true,decide_false,reduceIte,and_self,Bool.false_eq_true,bQ,hd,hd2,hx,e1,e2,uQ,hg,BT (show m <144115188075855872 by omega),rZ,tZ,BQ cR,w1,BS (show m <144115188075855872 by omega) (Nat.mod_lt c.toNat (show 0 <128 by decide)),hi1,BR cR,e3] <;>with_reducible rfl)))) | with_reducible apply aH | with_reducible apply aI))
        exact h
       ·have e1:((i:Int)==0)=false:=by
         rw [Bool.eq_false_iff];intro e;have:=eq_of_beq e;omega
        (repeat (first | ((first | with_reducible apply aF | with_reducible apply aG);(focus (first | with_reducible rfl | (simp only [aE,aC,aD,Nat.zero_add,Nat.add_zero,Bool.not_true,Bool.not_false,decide_true,decide_false,reduceIte,and_self,Bool.false_eq_true,bQ,hd,hd2,hx,e1,uQ,hg,BT (show m <144115188075855872 by omega),rZ,tZ,BQ cR,w1,BS (show m <144115188075855872 by omega) (Nat.mod_lt c.toNat (show 0 <128 by decide)),hi1,BR cR,e3] <;>with_reducible rfl)))) | with_reducible apply aH | with_reducible apply aI))
        exact h
      ·have e3:decide (c.toNat <128)=false:=dF h3
       have go:=go.resolve_right h3
       by_cases h0:i=0
       ·have e1:((i:Int)==0)=true:=by rw [h0];rfl
        have e2:(((c.toNat:Nat):Int)==128)=false:=by
         rw [Bool.eq_false_iff];intro e;exact h1 ⟨h0,by have:=eq_of_beq e;omega⟩
        (repeat (first | ((first | with_reducible apply aF | with_reducible apply aG);(focus (first | with_reducible rfl | (simp only [aE,aC,aD,Nat.zero_add,Nat.add_zero,Bool.not_true,Bool.not_false,decide_true,decide_false,reduceIte,and_self,Bool.false_eq_true,bQ,hd,hd2,hx,e1,e2,uQ,hg,BT (show m <144115188075855872 by omega),rZ,tZ,BQ cR,w1,BS (show m <144115188075855872 by omega) (Nat.mod_lt c.toNat (show 0 <128 by decide)),hi1,BR cR,e3] <;>with_reducible rfl)))) | with_reducible apply aH | with_reducible apply aI))
        exact go
       ·have e1:((i:Int)==0)=false:=by
         rw [Bool.eq_false_iff];intro e;have:=eq_of_beq e;omega
        (repeat (first | ((first | with_reducible apply aF | with_reducible apply aG);(focus (first | with_reducible rfl | (simp only [aE,aC,aD,Nat.zero_add,Nat.add_zero,Bool.not_true,Bool.not_false,decide_true,decide_false,reduceIte,and_self,Bool.false_eq_true,bQ,hd,hd2,hx,e1,uQ,hg,BT (show m <144115188075855872 by omega),rZ,tZ,BQ cR,w1,BS (show m <144115188075855872 by omega) (Nat.mod_lt c.toNat (show 0 <128 by decide)),hi1,BR cR,e3] <;>with_reducible rfl)))) | with_reducible apply aH | with_reducible apply aI))
        exact go
  ·have hd:decide ((i:Int) <(s.length:Int))=false:=dF (by omega)
   rw [List.drop_eq_nil_of_le (by omega)] at h
   have mg:kY k m i []=none:=by cases k <;>rfl
   rw [mg] at h
   (repeat (first | ((first | with_reducible apply aF | with_reducible apply aG);(focus (first | with_reducible rfl | (simp only [aE,aC,aD,Nat.zero_add,Nat.add_zero,Bool.not_true,Bool.not_false,decide_true,decide_false,reduceIte,and_self,Bool.false_eq_true,bQ,hd] <;>with_reducible rfl)))) | with_reducible apply aH | with_reducible apply aI))
   unfold sK
   exact h
theorem O5 {n lim:Nat} {s:List UInt8} (hs:s.length <9223372036854775808) (hn:11≤n):au.runT ap (n+1) lim (.fn 119) [.str s] H=some (yH (rV s),H):=by
 refine iE (aa7 a119 ?_)
 unfold Gx
 exact O4 hs n 10 0 0 (by omega) rfl (by decide) ⟨rfl,rfl⟩
end
def iF (l:List UInt8):List (List aa):=l.map fun (c:UInt8)=>[.int .u8 (c.toNat:Int)]
theorem sU (l:List UInt8):(iF l).length=l.length:=by unfold iF;simp
theorem GV:∀l:List UInt8,(iF l).flatten=dz l
 | []=>rfl
 | c::l=>by show aa.int .u8 (c.toNat:Int)::(iF l).flatten=_;rw [GV l];rfl
theorem acn (l m:List UInt8):iF (l++m)=iF l++iF m:=by unfold iF;simp
theorem aco (l:List UInt8):∀y∈iF l,y.length=1∧y.all (·.one)=true:=by
 intro y hy
 unfold iF at hy
 obtain ⟨c,_,rfl⟩:=List.mem_map.1 hy
 exact ⟨rfl,rfl⟩
theorem acp {H:ah} {v:aa} {out:List UInt8} {bv:Nat} (h:Own H 1 v (iF out) bv):e8 H v=some (.str out):=by
 rcases h.2 with ⟨rfl,h2⟩ | ⟨o,cs,rfl,h2,h3,h4⟩ | ⟨rfl,h2⟩
 ·have:out=[]:=by unfold iF at h2;simpa using h2
  subst this;rfl
 ·have:out=[]:=by unfold iF at h2;simpa using h2
  subst this
  unfold e8
  simp only [h3,Option.bind_eq_bind,Option.bind_some,au.cut,Nat.add_zero,h4,if_true,List.take_zero,nY]
 ·rw [GV] at h2
  unfold e8
  have hc:au.cut (dz out) 0 (iF out).length=some (dz out):=by
   unfold au.cut
   rw [sU,if_pos (by rw [sS];omega),List.drop_zero,List.take_of_length_le (by rw [sS];omega)]
  simp only [h2,Option.bind_eq_bind,Option.bind_some,hc,yG]
def arr (a:Nat) (suf:List UInt8):List aa:=List.replicate a (.int .u8 0)++dz suf
theorem BU (a:Nat) (suf:List UInt8):(arr a suf).length=a+suf.length:=by unfold arr;rw [List.length_append,List.length_replicate,sS]
theorem GW (a:Nat) {m:Nat} (h:m <256) (suf:List UInt8):(arr (a+1) suf).set a (.int .u8 (m:Int))=arr a (UInt8.ofNat m::suf):=by
 have hm:((UInt8.ofNat m).toNat:Int)=(m:Int):=by rw [UInt8.toNat_ofNat',Nat.mod_eq_of_lt h]
 unfold arr
 rw [List.replicate_succ',List.append_assoc,List.set_append_right _ _ (by simp)]
 simp only [List.length_replicate,Nat.sub_self,List.singleton_append,List.set_cons_zero]
 show _=_++(aa.int .u8 ((UInt8.ofNat m).toNat:Int)::dz suf)
 rw [hm]
theorem O6 (b:Nat) {a:Nat} (h:a <10):cD (some 10) 1 (.ptr (some (b,0))) (.int .i64 (a:Int))=some (.ptr (some (b,a))):=by
 have hj:kA (.int .i64 (a:Int))=some a:=jw _ a
 unfold cD
 simp only [hj]
 rw [if_pos h]
 simp
theorem acq (b:Nat) {a:Nat} (h:a <10):kD 10 1 (.ptr (some (b,0))) (some (.int .i64 (a:Int))) none none=some (.sl (some (b,a)) (10 - a) (.ex (10 - a))):=by
 have hj:kA (.int .i64 (a:Int))=some a:=jw _ a
 have hne:¬(10=a):=by omega
 unfold kD
 simp only [dD,hj,Option.isNone_none,Option.isSome_none,Bool.and_false,Bool.false_eq_true,if_false,Option.bind_eq_bind,Option.bind_some]
 rw [if_pos ⟨by omega,by omega,by omega⟩,if_neg hne]
 simp
section
variable {H:ah}
theorem O7 {n lim N:Nat} {K:aa→ah→Prop} {ay:aa→aa→aa→aa→ah→Prop} {t3 t8 t9 t10:aa} {G:ah} {fin:List UInt8} (hl:lim≤G.next) (GX:fin.length≤10)
  (hK:∀a,a+fin.length=10→Gv (au.runT ap n) lim N K ay t3 (.ptr (some (G.next,0))) (.int .i64 (a:Nat)) t8 t9 t10 (G.push (.cells (arr a fin)))):
  ∀(q j m a:Nat) (suf:List UInt8),j <q→m <128 ^ j→m <18446744073709551616→gT m++suf=fin→a+suf.length=10→
   qY (au.runT ap n) lim N K ay q t3 (.int .u64 (m:Int)) (.ptr (some (G.next,0))) (.int .i64 (a:Nat)) t8 t9 t10 (G.push (.cells (arr a suf)))
 | 0,j,m,a,suf,h,_,_,_,_=>by omega
 | q+1,j,m,a,suf,hq,hj,hm,hv,ha=>by
  show yw _ _ _ _ _ (qY _ _ _ _ _ q) _ _ _ _ _ _ _ _
  unfold yw
  by_cases h0:m=0
  ·rw [h0,yE] at hv
   have hv:suf=fin:=hv
   subst hv
   have hd:decide ((0:Int) <(m:Int))=false:=dF (by omega)
   (repeat (first | ((first | with_reducible apply aF | with_reducible apply aG);(focus (first | with_reducible rfl | (simp only [aE,aC,aD,Nat.zero_add,Nat.add_zero,Bool.not_true,Bool.not_false,decide_true,decide_false,reduceIte,and_self,Bool.false_eq_true,hd] <;>with_reducible rfl)))) | with_reducible apply aH | with_reducible apply aI))
   exact hK a ha
  ·have hd:decide ((0:Int) <(m:Int))=true:=dT (by omega)
   have pM:gT (m / 128)++(UInt8.ofNat (m % 128+128)::suf)=fin:=by rw [←hv,yF h0];simp
   obtain ⟨a,rfl⟩:∃a',a=a'+1:=⟨a - 1,by
    have:=congrArg List.length pM
    simp only [List.length_append,List.length_cons] at this
    omega⟩
   cases j with
   | zero=>simp at hj;omega
   | succ j=>
   have hsub:IntKind.i64.wrap (((a+1:Nat):Int) - 1)=(a:Int):=by rw [wrap_i64 (by omega) (by omega)];omega
   have hc:IntKind.u8.wrap ((m % 128:Nat):Int)=((m % 128:Nat):Int):=BP (by omega)
   have ho:=acg (m:=m % 128) (by omega)
   have hst:bp lim (G.push (.cells (arr (a+1) suf))) 1 (.ptr (some (G.next,a))) (.int .u8 ((m % 128+128:Nat):Int))=some (G.push (.cells (arr a (UInt8.ofNat (m % 128+128)::suf)))):=by
    rw [wS hl rfl (by rw [BU];omega) rfl,GW a (by omega)]
   (repeat (first | ((first | with_reducible apply aF | with_reducible apply aG);(focus (first | with_reducible rfl | (simp only [aE,aC,aD,Nat.zero_add,Nat.add_zero,Bool.not_true,Bool.not_false,decide_true,decide_false,reduceIte,and_self,Bool.false_eq_true,hd,hsub,rZ,OX hm,hc,tZ,ho,O6 G.next (show a <10 by omega),hst,OY] <;>with_reducible rfl)))) | with_reducible apply aH | with_reducible apply aI))
   exact O7 hl GX hK q j (m / 128) a _ (by omega) (by rw [Nat.pow_succ] at hj;omega) (by omega) pM (by simp only [List.length_cons];omega)
theorem O8 {n lim N:Nat} {K:aa→ah→Prop} {v:aa} {l:List Nat} {H0:ah} (hN:11≤N) (hlim:lim≤H0.next) (hl:∀m∈l,m <18446744073709551616) (hlen:l.length≤1000000) (hs:Sl H0 1 v (jh l)) (hK:∀H',aO H0 H'→K (.str (ij l)) H'):
  ∀(j i:Nat) (t3:aa) (out:List UInt8) (bv:Nat) (H:ah),l.length <j+i→i≤l.length→out++ij (l.drop i)=ij l→Own H 1 t3 (iF out) bv→(bC t3=some bv→H0.next≤bv)→aO H0 H→pz (au.runT ap n) lim N K j t3 v (.int .i64 (l.length:Int)) (.int .i64 (i:Int)) H
 | 0,i,t3,out,bv,H,h,h',_,_,_,_=>by exfalso;omega
 | j+1,i,t3,out,bv,H,hj,hi,hq,ho,iq,k0=>by
  show yx _ _ _ _ (pz _ _ _ _ j) _ _ _ _ _
  unfold yx
  have k0n:=k0.next
  by_cases hil:i <l.length
  ·have hd:decide ((i:Int) <(l.length:Int))=true:=dT (by omega)
   have hx:(jh l)[i]? =some [.int .u64 ((l[i]:Nat):Int)]:=by unfold jh;rw [List.getElem?_map,List.getElem?_eq_getElem hil];rfl
   obtain ⟨p1,p2,p3⟩:=uR hs hx
   have hm:=hl _ (List.getElem_mem hil)
   have GY:ij (l.drop i)=bB l[i]++ij (l.drop (i+1)):=by rw [List.drop_eq_getElem_cons hil];rfl
   generalize l[i]=m at p3 hm GY
   have hb:=O3 hl
   have zJ:out.length+(bB m).length≤10000000:=by
    have:=congrArg List.length hq
    rw [GY] at this
    simp only [List.length_append] at this
    omega
   have hc:IntKind.u8.wrap ((m % 128:Nat):Int)=((m % 128:Nat):Int):=BP (by omega)
   have hst:bp lim (H.push (.cells Ff)) 1 (.ptr (some (H.next,9))) (.int .u8 ((m % 128:Nat):Int))=some (H.push (.cells (arr 9 [UInt8.ofNat (m % 128)]))):=by
    have hz:Ff=arr (9+1) []:=rfl
    rw [hz,wS (by omega) rfl (by rw [BU];omega) rfl,GW 9 (by omega)]
   have hi9:cD (some 10) 1 (.ptr (some (H.next,0))) (.int .i64 9)=some (.ptr (some (H.next,9))):=O6 H.next (a:=9) (by decide)
   (repeat (first | ((first | with_reducible apply aF | with_reducible apply aG);(focus (first | with_reducible rfl | (simp only [aE,aC,aD,Nat.zero_add,Nat.add_zero,Bool.not_true,Bool.not_false,decide_true,decide_false,reduceIte,and_self,Bool.false_eq_true,hd,p2,yD k0 p3,rZ,OX hm,hc,hi9,hst,OY] <;>with_reducible rfl)))) | with_reducible apply aH | with_reducible apply aI))
   refine O7 (G:=H) (fin:=bB m) (by omega) (ig hm) ?_ N 10 (m / 128) 9 [UInt8.ofNat (m % 128)] (by omega) ?_ (by omega) rfl rfl
   ·intro a ha
    have hne:(bB m).length≠0:=fun e=>O0 m (List.eq_nil_of_length_eq_zero e)
    have ha9:a <10:=by omega
    have k1:aO H (H.push (.cells (arr a (bB m)))):= .push _ _
    have pN:Own (H.push (.cells (arr a (bB m)))) 1 t3 (iF out) bv:=ho.frame (.of (S:=fun _=>False) k1) (fun e=>e)
    have hsrc:source (H.push (.cells (arr a (bB m)))) 1 (.sl (some (H.next,a)) (10 - a) (.ex (10 - a)))=some ((iF (bB m)).length,(iF (bB m)).flatten):=by
     show (if 10 - a=0 then some (0,[]) else match (H.push (.cells (arr a (bB m)))).cells H.next with
      | some cs=>(au.cut cs a ((10 - a) * 1)).map fun c=>(10 - a,c)
      | none=>none)=_
     rw [if_neg (by omega),ct]
     unfold au.cut
     simp only
     rw [if_pos (by rw [BU];omega),sU,GV]
     have e1:(arr a (bB m)).drop a=dz (bB m):=by
      unfold arr
      rw [List.drop_append,List.drop_of_length_le (by simp)]
      simp
     rw [e1,List.take_of_length_le (by rw [sS];omega)]
     rw [show 10 - a=(bB m).length by omega]
     rfl
    obtain ⟨v',H',bv',q1,q2,q3,q4,q5⟩:=uP (lim:=lim) (bytes:=1) (zero:=[.int .u8 0]) pN rfl (by decide) hsrc (aco _) (by rw [sU,sU];unfold room;omega) (by rw [sU,sU];unfold room;omega) (fun e=>by have:=iq e;omega)
    rw [←acn] at q2
    have hi1:IntKind.i64.wrap ((i:Int)+1)=((i+1:Nat):Int):=iR (by omega)
    unfold Gv
    (repeat (first | ((first | with_reducible apply aF | with_reducible apply aG);(focus (first | with_reducible rfl | (simp only [aE,aC,aD,Nat.zero_add,Nat.add_zero,Bool.not_true,Bool.not_false,decide_true,decide_false,reduceIte,and_self,Bool.false_eq_true,acq H.next ha9,q1,hi1] <;>with_reducible rfl)))) | with_reducible apply aH | with_reducible apply aI))
    have k2:aO H0 H':=bu.keeps (k0.trans k1) q3 fun c hc e=>by
     have hb:=ho.blk c e
     subst hb
     have:=iq e
     omega
    refine O8 hN hlim hl hlen hs hK j (i+1) v' _ bv' H' (by omega) (by omega) (by rw [List.append_assoc,←GY,hq]) q2 ?_ k2
    intro e
    rcases q4 with ⟨_,q4 | q4⟩ | q4
    ·exact absurd (by rw [←sU,q4];rfl) hne
    ·exact q4.elim
    ·rw [ah.bK] at q4;omega
   ·have e:(128:Nat) ^ 10=1180591620717411303424:=by decide
    omega
  ·have hd:decide ((i:Int) <(l.length:Int))=false:=dF (by omega)
   rw [List.drop_eq_nil_of_le (by omega)] at hq
   have hout:out=ij l:=by rw [←hq];unfold ij;simp
   subst hout
   (repeat (first | ((first | with_reducible apply aF | with_reducible apply aG);(focus (first | with_reducible rfl | (simp only [aE,aC,aD,Nat.zero_add,Nat.add_zero,Bool.not_true,Bool.not_false,decide_true,decide_false,reduceIte,and_self,Bool.false_eq_true,hd] <;>with_reducible rfl)))) | with_reducible apply aH | with_reducible apply aI))
   unfold NQ
   (repeat (first | ((first | with_reducible apply aF | with_reducible apply aG);(focus (first | with_reducible rfl | (simp only [aE,aC,aD,Nat.zero_add,Nat.add_zero,Bool.not_true,Bool.not_false,decide_true,decide_false,reduceIte,and_self,Bool.false_eq_true,acp ho] <;>with_reducible rfl)))) | with_reducible apply aH | with_reducible apply aI))
   exact hK H k0
theorem yI {n lim:Nat} {v:aa} {l:List Nat} (hn:1000012≤n) (hlim:lim≤H.next) (hl:∀m∈l,m <18446744073709551616) (hlen:l.length≤1000000) (hs:Sl H 1 v (jh l)):∃r H',au.runT ap (n+1) lim (.fn 118) [v] H=some (r,H')∧r= .str (ij l)∧aO H H':=by
 refine aa2 Xs ?_
 unfold Gw
 have bQ:bh false v=some (.int .i64 (l.length:Int)):=by rw [hs.len,acm]
 (repeat (first | ((first | with_reducible apply aF | with_reducible apply aG);(focus (first | with_reducible rfl | (simp only [aE,aC,aD,Nat.zero_add,Nat.add_zero,Bool.not_true,Bool.not_false,decide_true,decide_false,reduceIte,and_self,Bool.false_eq_true,bQ] <;>with_reducible rfl)))) | with_reducible apply aH | with_reducible apply aI))
 exact O8 (by omega) hlim hl hlen hs (fun H' k=>⟨rfl,k⟩) n 0 _ [] H.next H (by omega) (Nat.zero_le _) rfl ⟨fun _ h=>by simp [iF] at h,.inl ⟨rfl,rfl⟩⟩ (fun e=>by simp [bC] at e) (.refl _)
end
theorem agV (x:Nat):IntKind.u64.wrap (x:Int)=((x % 18446744073709551616:Nat):Int):=by
 unfold IntKind.wrap IntKind.bits IntKind.signed
 simp
section
variable {H:ah}
end
end Go.Proofs.YtfigbgjbaohglaaGreatDoor.bP
end
section
set_option linter.unusedSimpArgs false
set_option linter.unusedVariables false
namespace Go.au.Wl
open Go.au
abbrev Bs:=List UInt8
structure cw where
 idx:Nat
 term:Nat
 kind:Nat
 slot:Nat
 t0:UInt8
 t1:UInt8
 t2:UInt8
 t3:UInt8
 t4:UInt8
 t5:UInt8
 t6:UInt8
 t7:UInt8
 body:Bs
 deriving DecidableEq
structure bD where
 kind:Nat
 term:Nat
 ey:Nat
 e:cw
 deriving DecidableEq
def ke:Bs:=[0,0,0,0,0,0,0,0]
def eZ:cw:=⟨0,0,0,0,0,0,0,0,0,0,0,0,[]⟩
def cw.tok (e:cw):Bs:=[e.t0,e.t1,e.t2,e.t3,e.t4,e.t5,e.t6,e.t7]
def GZ (idx term kind slot:Nat) (t:Bs) (body:Bs):cw:=⟨idx,term,kind,slot,t.getD 0 0,t.getD 1 0,t.getD 2 0,t.getD 3 0,t.getD 4 0,t.getD 5 0,t.getD 6 0,t.getD 7 0,body⟩
theorem agW (e:cw):GZ e.idx e.term e.kind e.slot e.tok e.body=e:=rfl
structure cw.ok (e:cw):Prop where
 idx:e.idx <18446744073709551616
 term:e.term <18446744073709551616
 kind:e.kind <256
 slot:e.slot <256
 body:e.body.length≤140737488355328
structure bD.ok (r:bD):Prop where
 kind:r.kind <256
 term:r.term <18446744073709551616
 ey:r.ey <256
 e:r.e.ok
theorem agX:eZ.ok:=⟨by decide,by decide,by decide,by decide,by decide⟩
def dK (n:Nat):UInt8:=UInt8.ofNat n
theorem nO {n:Nat} (h:n <256):(dK n).toNat=n:=toNat_of h
def jN (e:cw):Bool:=decide (e.slot=0) && decide (e.tok=ke)
def ji (e:cw):Bool:=
 if e.kind=1∨e.kind=5 then decide (e.body=[]) else
 if e.kind=2 then (match e.body with | [b]=>decide (1≤b.toNat) && decide (b.toNat≤31) | _=>false) else decide (e.kind=4)
def iG (e:cw):Bool:=
 decide (1≤e.idx) && (decide (1≤e.term) && (if e.kind=3 then decide (e.slot <4) else jN e && ji e))
def sV (e:cw):Bs:=
 (if e.kind=3 then dK e.slot::e.tok else [])++(if e.kind=1∨e.kind=5 then [] else bB e.body.length++e.body)
def lQ (e:cw):Bs:=dK e.kind::(bB e.idx++(bB e.term++sV e))
def ga (e:cw):Bs:=if iG e=true then lQ e else []
def dn (s:Bs):Nat × Nat:=(rV s).getD (0,0)
def rS (s:Bs):Option (Bs × Nat):=match rV s with
 | none=>none
 | some (n,at')=>if s.length - at' <n then none else some ((s.drop at').take n,at'+n)
def fA (s:Bs):Bs:=match rS s with
 | some (t,_)=>t
 | none=>[]
def yJ (s:Bs):Nat × Bs × Bs:=
 if 8 <s.length then ((s.headD 0).toNat,(s.drop 1).take 8,s.drop 9) else (0,ke,s)
def sW (s:Bs):cw:=
 let k:=(s.headD 0).toNat
 let n:=dn (s.drop 1)
 let m:=dn ((s.drop 1).drop n.2)
 let r:=((s.drop 1).drop n.2).drop m.2
 let q:=if k=3 then yJ r else (0,ke,r)
 GZ n.1 m.1 k q.1 q.2.1 (fA q.2.2)
def kf (s:Bs):Option cw:=if s=[] then none else if ga (sW s)=s then some (sW s) else none
theorem acr {b:Bs} (h:b.length <18446744073709551616) (t:Bs):rS (bB b.length++b++t)=some (b,(bB b.length++b).length):=by
 unfold rS
 rw [List.append_assoc,pL h]
 simp only [List.length_append]
 rw [if_neg (by omega)]
 simp [List.drop_append,List.take_append]
theorem O9 (e:cw):lQ e≠[]:=by unfold lQ;simp
theorem Pa {e:cw}:ga e=[]↔iG e=false:=by
 unfold ga
 cases h:iG e with
 | true=>simp [O9]
 | false=>simp
theorem acu {e:cw} (h:iG e=true) (ho:e.ok):kf (ga e)=some e:=by
 have hw:ga e=lQ e:=by unfold ga;rw [if_pos h]
 have ht:sW (lQ e)=e:=by
  have e1:dn (bB e.idx++(bB e.term++sV e))=(e.idx,(bB e.idx).length):=by unfold dn;rw [pL ho.idx];rfl
  have e2:dn (bB e.term++sV e)=(e.term,(bB e.term).length):=by unfold dn;rw [pL ho.term];rfl
  have hb:=ho.body
  have hS:fA (bB e.body.length++e.body)=e.body:=by
   have:=acr (b:=e.body) (by omega) []
   rw [List.append_nil] at this
   unfold fA;rw [this]
  unfold sW
  simp only [lQ,List.headD_cons,List.drop_one,List.tail_cons,e1,List.drop_left,e2,nO ho.kind]
  obtain ⟨idx,term,kind,slot,t0,t1,t2,t3,t4,t5,t6,t7,body⟩:=e
  have hr:=h
  unfold iG at hr
  simp only [Bool.and_eq_true,decide_eq_true_eq] at hr
  obtain ⟨_,_,hr⟩:=hr
  unfold sV
  by_cases h3:kind=3
  ·subst h3
   simp only at hS
   have hl:8 <(dK slot::(cw.tok ⟨idx,term,3,slot,t0,t1,t2,t3,t4,t5,t6,t7,body⟩++(bB body.length++body))).length:=by simp [cw.tok]
   simp only [if_true,Nat.reduceEqDiff,or_self,if_false,List.cons_append]
   unfold yJ
   rw [if_pos hl]
   simp only [List.headD_cons,List.drop_succ_cons,List.drop_zero,nO ho.slot,cw.tok,List.cons_append,List.nil_append,List.take_succ_cons,List.take_zero,hS]
   rfl
  ·simp only [h3,if_false,List.nil_append] at hr ⊢
   unfold jN at hr
   simp only [Bool.and_eq_true,decide_eq_true_eq] at hr
   obtain ⟨⟨rfl,ht⟩,hr⟩:=hr
   simp only [cw.tok,ke,List.cons.injEq,and_true] at ht
   obtain ⟨rfl,rfl,rfl,rfl,rfl,rfl,rfl,rfl⟩:=ht
   by_cases h1:kind=1∨kind=5
   ·unfold ji at hr
    simp only [h1,if_true,decide_eq_true_eq] at hr ⊢
    subst hr
    rfl
   ·simp only [h1,if_false]
    rw [hS]
    rfl
 unfold kf
 rw [hw,if_neg (O9 e),ht,hw,if_pos rfl]
theorem acv {s:Bs} {e:cw} (h:kf s=some e):ga e=s∧s≠[]:=by
 unfold kf at h
 split at h
 ·simp at h
 ·split at h
  ·simp at h;subst h;exact ⟨by assumption,by assumption⟩
  ·simp at h
def dJ (r:bD):Bool:=if r.kind=2 then decide (r.e=eZ) else decide (r.kind=3) && (decide (r.term=0) && (decide (r.ey=0) && iG r.e))
def jB (s:Bs):Option bD:=
 match s with
 | []=>none
 | k::rest=>
  if k.toNat=2 then (match rV rest with
   | none=>none
   | some (t,z)=>if rest.length=z+1 then some ⟨2,t,(rest.getD z 0).toNat,eZ⟩ else none)
  else if k.toNat=3 then (kf rest).map fun e=>⟨3,0,0,e⟩ else none
def bM (r:bD):Bs:=dK r.kind::(if r.kind=2 then bB r.term++[dK r.ey] else if r.kind=3 then ga r.e else [])
def lR (r:bD):Bs:=if jB (bM r)=some r then bM r else []
theorem Pb {r:bD} (h:dJ r=true) (ho:r.ok):jB (bM r)=some r:=by
 obtain ⟨kind,term,ey,e⟩:=r
 unfold dJ at h
 unfold bM jB
 have hk:=ho.kind
 have ht:=ho.term
 have hv:=ho.ey
 simp only at h hk ht hv
 by_cases h2:kind=2
 ·subst h2
  simp only [if_true,decide_eq_true_eq] at h
  subst h
  simp only [if_true,nO (show 2 <256 by decide),pL ht]
  rw [if_pos (by simp)]
  simp [List.getD_eq_getElem?_getD,nO hv]
 ·simp only [h2,if_false,Bool.and_eq_true,decide_eq_true_eq] at h
  obtain ⟨rfl,rfl,rfl,hr⟩:=h
  simp only [if_true,nO (show 3 <256 by decide),Nat.reduceEqDiff,if_false,acu hr ho.e,Option.map_some]
theorem acw {r:bD} (h:dJ r=false) (hk:r.kind <256):jB (bM r)≠some r:=by
 obtain ⟨kind,term,ey,e⟩:=r
 intro hq
 unfold dJ at h
 unfold bM jB at hq
 simp only at h hk hq
 rw [nO hk] at hq
 by_cases h2:kind=2
 ·subst h2
  simp only [if_true,decide_eq_false_iff_not] at h hq
  split at hq
  ·simp at hq
  ·split at hq
   ·simp at hq;exact h hq.2.2.symm
   ·simp at hq
 ·simp only [h2,if_false] at h hq
  by_cases h3:kind=3
  ·subst h3
   simp only [if_true,decide_true,Bool.true_and] at h hq
   rw [Option.map_eq_some_iff] at hq
   obtain ⟨e',h1,h4⟩:=hq
   simp at h4
   obtain ⟨rfl,rfl,rfl⟩:=h4
   obtain ⟨_,h5⟩:=acv h1
   have:iG e'=true:=by
    cases hr:iG e' with
    | true=>rfl
    | false=>exact absurd (Pa.2 hr) h5
   rw [this] at h
   simp at h
  ·simp [h3] at hq
theorem Pc {r:bD} (h:dJ r=true) (ho:r.ok):lR r=bM r:=by unfold lR;rw [if_pos (Pb h ho)]
theorem Pd {r:bD} (h:dJ r=false) (hk:r.kind <256):lR r=[]:=by unfold lR;rw [if_neg (acw h hk)]
theorem Pe (r:bD):bM r≠[]:=by unfold bM;simp
theorem agY {r:bD} (ho:r.ok):lR r=[]↔dJ r=false:=by
 cases h:dJ r with
 | true=>rw [Pc h ho];simp [Pe]
 | false=>rw [Pd h ho.kind];simp
def jO (n:Nat):Bs:=[dK (n / 16777216 % 256),dK (n / 65536 % 256),dK (n / 256 % 256),dK (n % 256)]
def lS (s:Bs):Nat:=(((s.getD 0 0).toNat * 256+(s.getD 1 0).toNat) * 256+(s.getD 2 0).toNat) * 256+(s.getD 3 0).toNat
theorem BV (n:Nat):(jO n).length=4:=rfl
theorem acy {n:Nat} (h:n <4294967296) (t:Bs):lS (jO n++t)=n:=by
 unfold lS jO
 simp only [List.cons_append,List.nil_append,List.getD_cons_zero,List.getD_cons_succ]
 rw [nO (by omega),nO (by omega),nO (by omega),nO (by omega)]
 omega
structure Sum where
 f:Bs→Nat
 lt:∀s,f s <4294967296
def cA (S:Sum) (s:Bs):Bs:=bB s.length++jO (S.f s)++s
def dx (S:Sum) (s:Bs):Bs × Nat:=
 match rV s with
 | none=>([],0)
 | some (n,z)=>if s.length - z <4∨s.length - z - 4 <n then ([],0) else
  if lS (s.drop z)≠S.f ((s.drop (z+4)).take n) then ([],0) else ((s.drop (z+4)).take n,z+4+n)
theorem uS (S:Sum) (s:Bs):cA S s≠[]:=by
 have:=O0 s.length
 unfold cA
 intro e
 simp at e
 exact this e.1
theorem yK (S:Sum) (s:Bs):(cA S s).length=(bB s.length).length+4+s.length:=by unfold cA;simp [BV];omega
theorem Pf (S:Sum) {s:Bs} (h:s.length <18446744073709551616) (t:Bs):dx S (cA S s++t)=(s,(cA S s).length):=by
 have e:cA S s++t=bB s.length++(jO (S.f s)++(s++t)):=by unfold cA;simp
 have hl:(jO (S.f s)++(s++t)).length=4+(s.length+t.length):=by rw [List.length_append,BV,List.length_append]
 unfold dx
 rw [e,pL h]
 simp only
 rw [if_neg (by rw [List.length_append,hl];omega),List.drop_left,acy (S.lt s)]
 have d:(bB s.length++(jO (S.f s)++(s++t))).drop ((bB s.length).length+4)=s++t:=by
  rw [←List.drop_drop,List.drop_left];rfl
 rw [d,List.take_left,if_neg (by simp),yK]
theorem Pg {p q:Bs} {n k:Nat} (h:rV p=some (n,k)):rV (p++q)=some (n,k)∧k≤p.length:=by
 obtain ⟨t,rfl,rfl,hn⟩:=GU h
 rw [List.append_assoc,pL hn]
 exact ⟨rfl,by simp⟩
theorem acz (S:Sum) {s p q:Bs} (h:s.length <18446744073709551616) (hp:p++q=cA S s) (hq:q≠[]):dx S p=([],0):=by
 unfold dx
 cases hr:rV p with
 | none=>rfl
 | some x=>
  obtain ⟨n,z⟩:=x
  obtain ⟨h1,h2⟩:=Pg (q:=q) hr
  have e:cA S s=bB s.length++(jO (S.f s)++s):=by unfold cA;simp
  rw [hp,e,pL h] at h1
  simp only [Option.some.injEq,Prod.mk.injEq] at h1
  obtain ⟨rfl,rfl⟩:=h1
  have hl:=congrArg List.length hp
  rw [List.length_append,yK] at hl
  have:0 <q.length:=List.length_pos_iff.2 hq
  simp only
  rw [if_pos (by omega)]
theorem Ph (S:Sum):dx S []=([],0):=rfl
def fB (base snap:Nat):Bs:=1::(bB base++bB snap)
def nP (s:Bs):Nat × Nat × Bool:=
 match s with
 | []=>(0,0,false)
 | k::r=>if k.toNat≠1 then (0,0,false) else
  match rV r with
  | none=>(0,0,false)
  | some (b,z)=>((b,(dn (r.drop z)).1,(rV (r.drop z)).isSome && decide (r.length+1=1+z+(dn (r.drop z)).2)):Nat × Nat × Bool)
theorem acA {b n:Nat} (hb:b <18446744073709551616) (hn:n <18446744073709551616):nP (fB b n)=(b,n,true):=by
 unfold fB nP
 have e:=pL hn []
 rw [List.append_nil] at e
 simp only [show (1:UInt8).toNat=1 from rfl,ne_eq,not_true_eq_false,if_false,pL hb,List.drop_left,dn,e]
 simp
 omega
def kj (S:Sum):Nat→Bs→List bD
 | 0,_=>[]
 | k+1,s=>if (dx S s).2=0 then [] else match jB (dx S s).1 with
  | none=>[]
  | some r=>r::kj S k (s.drop (dx S s).2)
theorem Pj (S:Sum) {t:Bs} (ht:dx S t=([],0)):∀(rs:List bD) (k:Nat),rs.length <k→(∀r∈rs,dJ r=true∧r.ok∧(bM r).length <18446744073709551616)→kj S k ((rs.map fun r=>cA S (bM r)).flatten++t)=rs
 | [],k+1,_,_=>by simp [kj,ht]
 | r::rs,k+1,hk,h=>by
  obtain ⟨h1,h2,h3⟩:=h r (by simp)
  simp only [List.map_cons,List.flatten_cons,List.append_assoc,kj]
  rw [Pf S h3]
  simp only
  rw [if_neg (by have:=List.length_pos_iff.2 (uS S (bM r));omega),Pb h1 h2]
  simp only
  rw [List.drop_left,Pj S ht rs k (by simpa using hk) (fun x hx=>h x (by simp [hx]))]
def mX (S:Sum) (s:Bs):Nat × List bD × Bool:=
 let f:=dx S s
 let h:=nP f.1
 if f.2=0∨h.2.2=false then (0,[],false) else
 (h.2.1,kj S (s.length+1) (s.drop f.2),decide (h.1≤(kj S (s.length+1) (s.drop f.2)).length))
def dh (S:Sum) (base snap:Nat) (rs:List bD):List Bs:=cA S (fB base snap)::rs.map fun r=>cA S (bM r)
theorem Pk (S:Sum):∀rs:List bD,rs.length≤(rs.map fun r=>cA S (bM r)).flatten.length
 | []=>Nat.le_refl _
 | r::rs=>by
  have:=Pk S rs
  have h:=List.length_pos_iff.2 (uS S (bM r))
  simp only [List.map_cons,List.flatten_cons,List.length_append,List.length_cons]
  omega
theorem BW {b n:Nat} (hb:b <18446744073709551616) (hn:n <18446744073709551616):(fB b n).length≤21:=by
 have h1:=ig hb
 have h2:=ig hn
 unfold fB
 simp
 omega
theorem acB (S:Sum) {b n:Nat} (hb:b <18446744073709551616) (hn:n <18446744073709551616) {t:Bs} (ht:dx S t=([],0)) {rs:List bD} (h:∀r∈rs,dJ r=true∧r.ok∧(bM r).length <18446744073709551616):
  mX S ((dh S b n rs).flatten++t)=(n,rs,decide (b≤rs.length)):=by
 have hl:=BW hb hn
 unfold mX dh
 simp only [List.flatten_cons,List.append_assoc]
 rw [Pf S (by omega)]
 simp only [acA hb hn]
 rw [if_neg (by have:=List.length_pos_iff.2 (uS S (fB b n));simp only [Bool.true_eq_false,or_false];omega),List.drop_left,Pj S ht rs _ (by have:=Pk S rs;simp only [List.length_append];omega) h]
theorem agZ (S:Sum) {t:Bs} (ht:dx S t=([],0)):mX S t=(0,[],false):=by
 unfold mX
 simp only [ht]
 simp
end Go.au.Wl
end
