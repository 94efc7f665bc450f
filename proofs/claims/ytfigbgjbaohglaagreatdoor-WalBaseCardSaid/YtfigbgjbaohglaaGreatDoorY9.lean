/- Parts of the proof. -/
import Derived.Test.YtfigbgjbaohglaaGreatDoorY6
import Derived.Below
import Derived.Lib.Join
import Derived.Lib.Builder
import Derived.Lib.Repeat
import Derived.Sort.KeysCollected
import Derived.Sort.Walk0
import Derived.Test.YtfigbgjbaohglaaGreatDoorProg
import Derived.Test.YtfigbgjbaohglaaGreatDoorY7
import Derived.Shelf.Strings.OnBuilder
import Derived.Shelf.Strings.Repeat
import Derived.Shelf.SlIter.Nil
import Derived.Shelf.SortM.Plain
import Derived.Shelf.SortM.SortNone
import Derived.KernelRfl
section
set_option linter.unusedSimpArgs false
set_option linter.unusedVariables false
set_option linter.unusedSectionVars false
namespace Go.au
variable [Gl]
open Go.RowKit
theorem Post.below {P:Program} {n0 lim:Nat} {ρ:Mp} {H:ah} {w w':World} (hr:Rel P n0 ρ H w) (hb:Below w.heap.size w w'):Post P n0 lim ρ H w ρ H w':=by
 have hold:∀b L,ρ b=some L→w'.heap[L.blk]? =w.heap[L.blk]? :=fun b L e=>hb.block _ (hr.dom b L e)
 refine ⟨⟨fun b L cs e e'=> ?_,fun b L es cl e e'=> ?_,fun b L r e e'=> ?_,fun b L e=>Nat.lt_of_lt_of_le (hr.dom b L e) hb.size,hr.excl,hr.jY⟩,.refl ρ,fun b L e e'=>by rw [e] at e';simp at e',fun r h1 _=>hb.block r h1,hb.size,fun _ _=>rfl,Nat.le_refl _,⟨hb.os,hb.tape,hb.output⟩⟩
 ·obtain ⟨c,⟨t,fr,q1,q2,q3⟩,q4,q5⟩:=hr.row b L cs e e'
  exact ⟨c,⟨t,fr,by rw [hold b L e];exact q1,q2,q3⟩,q4,q5⟩
 ·obtain ⟨es',q1,q2⟩:=hr.map b L es cl e e'
  exact ⟨es',by rw [hold b L e];exact q1,q2⟩
 ·obtain ⟨r',q1,q2⟩:=hr.loop b L r e e'
  exact ⟨r',by rw [hold b L e];exact q1,q2⟩
def sq:List aa→Option (List (List UInt8))
 | []=>some []
 | .str s::rest=>(sq rest).map (s:: ·)
 | _=>none
def Aw (H:ah):aa→Option (List (List UInt8))
 | .sl none n _=>if n=0 then some [] else none
 | .sl (some (b,o)) n _=>if n=0 then some [] else
  match H.cells b with
  | some cs=>(cut cs o n).bind sq
  | none=>none
 | _=>none
theorem K3 {ρ:Mp}:∀{l:List aa} {xs:List (List UInt8)} {a9as:List Value},sq l=some xs→az ρ l a9as→ ∃ys:List ByteArray,a9as=ys.map .string∧ys.map (fun y=>y.data.toList)=xs
 | [],xs,a9as,h,hl=>by
  simp [sq] at h;subst h
  have:a9as=[]:=List.eq_nil_of_length_eq_zero (by rw [←hl.1];rfl)
  subst this
  exact ⟨[],rfl,rfl⟩
 | v::l,xs,a9as,h,hl=>by
  match a9as,hl with
  | [],hl=>have:=hl.1;simp at this
  | a::a9as,hl=>
   cases v <;>simp [sq] at h
   rename_i s
   obtain ⟨ys0,h1,rfl⟩:=h
   obtain ⟨ys,rfl,h3⟩:=K3 h1 hl.tail
   have ha:=hl.head
   cases ha with
   | str e=>
    rename_i s'
    exact ⟨s'::ys,rfl,by simp [e,h3]⟩
def nJ:Nat→List aa→ah→Option (aa × ah):=fun _ args H=>
 match args with
 | [v,.str sep]=>match Aw H v with
  | some xs=>if (Nat.ble (Lib.join xs sep).length 140737488355328 && Nat.ble xs.length 140737488355328)=true then some (.str (Lib.join xs sep),H) else none
  | none=>none
 | _=>none
theorem Wb {P:Program} {f:FuncId} (hfn:∃fn,P.funcs[f]? =some fn∧fn.body.isSome=true∧(fn.name== "runtime.NumGoroutine")=false)
  (h0:∀(a:Option Addr) (c:Nat) (sep:ByteArray) (w:World),Calls P f #[.slice a 0 c,.string sep] w fun e w'=>e= .returned (.string ⟨#[]⟩)∧w'=w)
  (h1:∀(bk o c:Nat) (xs:List ByteArray) (sep:ByteArray) (w:World),(∀(j:Nat) x,xs[j]? =some x→w.cell? ⟨bk,o+j,none⟩=some (.string x))→bk <w.heap.size→xs.length≤140737488355328→xs.length≤c→
   (Lib.join (xs.map (·.data.toList)) sep.data.toList).length≤140737488355328→Calls P f #[.slice (some ⟨bk,o,none⟩) xs.length c,.string sep] w fun e w'=>e= .returned (.string ⟨(Lib.join (xs.map (·.data.toList)) sep.data.toList).toArray⟩)∧Below w.heap.size w w'):eN P f nJ where
 keeps:=fun lim args H v H' hl h=>by
  unfold nJ at h
  split at h
  ·split at h
   ·split at h <;>simp at h
    obtain ⟨_,rfl⟩:=h
    exact ⟨Nat.le_refl _,fun _ _=>rfl⟩
   ·simp at h
  ·simp at h
 fn:=hfn
 calls:=fun n0 lim args H v H' h ρ w args' hl hlim hfr hr ha=>by
  unfold nJ at h
  split at h
  case h_2=>simp at h
  rename_i x sep
  split at h
  case h_2=>simp at h
  rename_i xs hxs
  split at h <;>simp at h
  rename_i hc
  obtain ⟨rfl,rfl⟩:=h
  simp only [Bool.and_eq_true,Nat.ble_eq] at hc
  obtain ⟨x',rest,e1,hx,jG⟩:∃x' rest,args'.toList=x'::rest∧aJ ρ x x'∧az ρ [.str sep] rest:=by
   match hh:args'.toList,ha with
   | [],ha=>have:=ha.1;simp at this
   | a::a9as,ha=>exact ⟨a,a9as,rfl,ha.head,ha.tail⟩
  obtain ⟨s',rfl,hs⟩:∃s':ByteArray,rest=[.string s']∧s'.data.toList=sep:=by
   match rest,jG with
   | [],hr=>have:=hr.1;simp at this
   | [a],hr=>
    have:=hr.head
    cases this with
    | str e=>exact ⟨_,rfl,e⟩
   | _::_::_,hr=>have:=hr.1;simp at this
  obtain rfl:args'= #[x',.string s']:=by
   have:args'=args'.toList.toArray:=by simp
   rw [this,e1]
  have fin:∀(l:List UInt8) (w':World),Lib.join xs sep=l→Below w.heap.size w w'→oG P n0 lim ρ H w (.str (Lib.join xs sep)) H (.returned (.string ⟨l.toArray⟩)) w':=by
   intro l w' e hb
   exact ⟨_,ρ,rfl,by rw [e];exact .str (by simp),.below hr hb⟩
  have zero:∀(a:Option Addr) (c:Nat),xs=[]→x'= .slice a 0 c→Calls P f #[x',.string s'] w (oG P n0 lim ρ H w (.str (Lib.join xs sep)) H):=by
   rintro a c rfl rfl
   refine (h0 a c s' w).mono ?_
   rintro e w' ⟨rfl,rfl⟩
   exact fin [] _ (Lib.join_nil sep) (Below.refl _ _)
  unfold Aw at hxs
  split at hxs
  ·rename_i n c
   split at hxs <;>simp at hxs
   rename_i hn
   subst hn hxs
   cases hx with
   | lB=>exact zero _ _ rfl rfl
  ·rename_i b o n c
   by_cases hn:n=0
   ·rw [if_pos hn] at hxs
    simp at hxs
    subst hn hxs
    cases hx with
    | gX _ _=>exact zero _ _ rfl rfl
    | iz _ _ _ _=>exact zero _ _ rfl rfl
    | jq _ _=>exact zero _ _ rfl rfl
    | kH _ _=>exact zero _ _ rfl rfl
    | lC _=>exact zero _ _ rfl rfl
    | kJ _=>exact zero _ _ rfl rfl
   ·rw [if_neg hn] at hxs
    split at hxs
    case h_2=>simp at hxs
    rename_i cs hcs
    rw [Option.bind_eq_some_iff] at hxs
    obtain ⟨cl,iA,Wd⟩:=hxs
    unfold cut at iA
    split at iA <;>simp at iA
    rename_i hle
    subst iA
    have full:∀(L:Loc) (cp:Nat),ρ b=some L→x'= .slice (some ⟨L.blk,L.d+o,none⟩) n cp→n≤cp→Calls P f #[x',.string s'] w (oG P n0 lim ρ H w (.str (Lib.join xs sep)) H):=by
     rintro L cp hb rfl qj
     obtain ⟨cc,e,fr,g1,g2,g3,g4,g5⟩:=hr.cells hb hcs
     have hrow:=g5.drop_take (o:=o) (n:=n) (by omega)
     obtain ⟨ys,hys,Ez⟩:=K3 Wd hrow
     have hlen:ys.length=n:=by
      have:=congrArg List.length hys
      simp only [List.length_take,List.length_drop,List.length_map] at this
      have nI:cc.toList.length=cc.size:=by simp
      omega
     have hcell:∀(j:Nat) x,ys[j]? =some x→w.cell? ⟨L.blk,L.d+o+j,none⟩=some (.string x):=by
      intro j y hj
      rw [Lib.cell_of_heap g1]
      have h2:(ys.map Value.string)[j]? =some (.string y):=by rw [List.getElem?_map,hj];rfl
      rw [←hys] at h2
      have hjn:j <n:=by
       rcases Nat.lt_or_ge j ys.length with h | h
       ·omega
       ·rw [List.getElem?_eq_none h] at hj;simp at hj
      rw [List.getElem?_take,if_pos hjn,List.getElem?_drop] at h2
      simpa using h2
     have:=h1 L.blk (L.d+o) cp ys s' w hcell (hr.dom b L hb) (by have:=hc.2;rw [←Ez,List.length_map] at this;exact this) (by omega) (by rw [Ez,hs];exact hc.1)
     rw [hlen] at this
     refine this.mono ?_
     rintro e w' ⟨rfl,We⟩
     exact fin _ w' (by rw [Ez,hs]) We
    cases hx with
    | gX hb qj=>exact full _ _ hb rfl qj
    | iz hb qj _ _=>exact full _ _ hb rfl qj
    | jq _ _=>exact absurd rfl hn
    | kH hb qj=>exact full _ _ hb rfl qj
    | lC _=>exact absurd rfl hn
    | kJ _=>exact absurd rfl hn
  ·simp at hxs
end Go.au
end
section
set_option linter.unusedSimpArgs false
set_option linter.unusedVariables false
set_option linter.unusedSectionVars false
namespace Go.au
variable [Gl]
open Go.RowKit
def oV:Nat→List aa→ah→Option (aa × ah):=fun _ args H=>
 match args with
 | [.str s,.int .i64 c]=>if 0≤c∧s.length * c.toNat≤140737488355328∧c.toNat≤140737488355328 then some (.str (Lib.repeatL s c.toNat),H) else none
 | _=>none
theorem Wg {P:Program} {f:FuncId} (hfn:∃fn,P.funcs[f]? =some fn∧fn.body.isSome=true∧(fn.name== "runtime.NumGoroutine")=false)
  (Wh:∀(s:ByteArray) (c:Nat) (w:World),c≤9223372036854775807→s.size * c≤140737488355328→Calls P f #[.string s,.int .i64 c] w fun e w'=>e= .returned (.string ⟨(Lib.repeatL s.data.toList c).toArray⟩)∧Below w.heap.size w w'):eN P f oV where
 keeps:=fun lim args H v H' hl h=>by
  unfold oV at h
  split at h
  ·split at h <;>simp at h
   obtain ⟨_,rfl⟩:=h
   exact ⟨Nat.le_refl _,fun _ _=>rfl⟩
  ·simp at h
 fn:=hfn
 calls:=fun n0 lim args H v H' h ρ w args' hl hlim hfr hr ha=>by
  unfold oV at h
  split at h
  case h_2=>simp at h
  rename_i s c
  split at h <;>simp at h
  rename_i hc
  obtain ⟨rfl,rfl⟩:=h
  obtain ⟨hc0,hc1,hc2⟩:=hc
  obtain ⟨s',e1,e2⟩:∃s':ByteArray,args'.toList=[.string s',.int .i64 c]∧s'.data.toList=s:=by
   match hh:args'.toList,ha with
   | [],ha=>have:=ha.1;simp at this
   | [_],ha=>have:=ha.1;simp at this
   | _::_::_::_,ha=>have:=ha.1;simp at this
   | [a,b],ha=>
    have h1:=ha.head
    have h2:=ha.tail.head
    cases h1 with
    | str e=>cases h2 with
     | int=>exact ⟨_,rfl,e⟩
  obtain rfl:args'= #[.string s',.int .i64 c]:=by
   have:args'=args'.toList.toArray:=by simp
   rw [this,e1]
  have hsz:s'.size=s.length:=by rw [←e2,Array.length_toList];rfl
  have EA:((c.toNat:Nat):Int)=c:=Int.toNat_of_nonneg hc0
  have:=Wh s' c.toNat w (by omega) (by rw [hsz];exact hc1)
  rw [EA] at this
  refine this.mono ?_
  rintro e w' ⟨rfl,hb⟩
  exact ⟨_,ρ,rfl,.str (show (Lib.repeatL s'.data.toList c.toNat).toArray.toList=_ by rw [e2]),.below hr hb⟩
end Go.au
end
section
set_option linter.unusedSimpArgs false
set_option linter.unusedVariables false
set_option linter.unusedSectionVars false
namespace Go.au
variable [Gl]
open Go.RowKit Go.Maps Go.MapKept
open Go.WideElems (Fit rd rg)
def oW:List (aa × aa)→Option (List (List UInt8))
 | []=>some []
 | (.str s,_)::r=>(oW r).map (s:: ·)
 | _=>none
def su (x:List UInt8):List (List UInt8)→List (List UInt8)
 | []=>[x]
 | y::ys=>bif Op.bytesLess y x then y::su x ys else x::y::ys
def jx:List (List UInt8)→List (List UInt8)
 | []=>[]
 | x::xs=>su x (jx xs)
theorem EB (x:List UInt8):∀ys,(su x ys).Perm (x::ys)
 | []=> .refl _
 | y::ys=>by
  unfold su
  cases Op.bytesLess y x with
  | true=>exact ((EB x ys).cons y).trans (List.Perm.swap x y ys)
  | false=>exact .refl _
theorem Ax:∀ks,(jx ks).Perm ks
 | []=> .refl _
 | x::xs=>(EB x (jx xs)).trans ((Ax xs).cons x)
theorem K4 (x:List UInt8):∀ys:List (List UInt8),ys.Pairwise (fun a b=>a≤b)→(su x ys).Pairwise fun a b=>a≤b
 | [],_=>by simp [su]
 | y::ys,h=>by
  have h1:=List.pairwise_cons.1 h
  unfold su
  cases hb:Op.bytesLess y x with
  | true=>
   rw [Go.Proofs.bytesLess_eq] at hb
   have hlt:=of_decide_eq_true hb
   refine List.pairwise_cons.2 ⟨fun z hz=> ?_,K4 x ys h1.2⟩
   rcases List.mem_cons.1 ((EB x ys).mem_iff.1 hz) with rfl | hz
   ·exact List.le_of_lt hlt
   ·exact h1.1 z hz
  | false=>
   rw [Go.Proofs.bytesLess_eq] at hb
   have hle:x≤y:=List.not_lt.1 (of_decide_eq_false hb)
   refine List.pairwise_cons.2 ⟨fun z hz=> ?_,h⟩
   rcases List.mem_cons.1 hz with rfl | hz
   ·exact hle
   ·exact List.le_trans hle (h1.1 z hz)
theorem EC:∀ks:List (List UInt8),(jx ks).Pairwise fun a b=>a≤b
 | []=> .nil
 | x::xs=>K4 x _ (EC xs)
theorem Wi (ks:List (List UInt8)):jx ks=ks.mergeSort leB:=by
 have tr:∀a b c:List UInt8,leB a b=true→leB b c=true→leB a c=true:=fun a b c h1 h2=>by simp only [leB,decide_eq_true_eq] at *;exact List.le_trans h1 h2
 have a9to:∀a b:List UInt8,(leB a b || leB b a)=true:=fun a b=>by simp only [leB,Bool.or_eq_true,decide_eq_true_eq];exact List.le_total a b
 refine List.Perm.eq_of_pairwise (le:=fun a b=>leB a b=true) (fun a b _ _ h1 h2=> ?_) ((EC ks).imp fun h=>by simpa [leB] using h) (List.pairwise_mergeSort tr a9to ks) ((Ax ks).trans (List.mergeSort_perm ks leB).symm)
 simp only [leB,decide_eq_true_eq] at h1 h2
 exact List.le_antisymm h1 h2
def uw (H:ah) (ks:List (List UInt8)):Option (aa × ah):=
 if ks.all (fun k=>Nat.ble k.length 140737488355328) && Nat.ble ks.length 1000000000 then
  (if ks=[] then some (.sl none 0 (.ex 0),H) else some (.sl (some (H.next,0)) (jx ks).length .un,H.push (.cells ((jx ks).map .str))))
 else none
def nK:Nat→List aa→ah→Option (aa × ah):=fun _ args H=>
 match args with
 | [.ptr (some a)]=>match aB H none (.ptr (some a)) with
  | some (.map (some m))=>match (m8 H (.map (some m))).bind oW with
   | some ks=>uw H ks
   | none=>none
  | _=>none
 | _=>none
theorem Ay {ρ:Mp}:∀{es:List (aa × aa)} {ks:List (List UInt8)},oW es=some ks→ ∀e∈es,∃s,e.1= .str s∧s∈ks
 | [],ks,h,e,he=>by simp at he
 | x::es,ks,h,e,he=>by
  obtain ⟨k,v⟩:=x
  cases k <;>simp [oW] at h
  rename_i s
  obtain ⟨ks',h1,rfl⟩:=h
  rcases List.mem_cons.1 he with rfl | he
  ·exact ⟨s,rfl,by simp⟩
  ·obtain ⟨s',q1,q2⟩:=Ay (ρ:=ρ) h1 e he
   exact ⟨s',q1,by simp [q2]⟩
def ED:aa→List UInt8
 | .str s=>s
 | _=>[]
theorem EE:∀{es:List (aa × aa)} {ks:List (List UInt8)},oW es=some ks→ks=es.map fun e=>ED e.1
 | [],ks,h=>by simp [oW] at h;simp [h]
 | x::es,ks,h=>by
  obtain ⟨k,v⟩:=x
  cases k <;>simp [oW] at h
  rename_i s
  obtain ⟨ks',h1,rfl⟩:=h
  simp [EE h1,ED]
theorem K5 {H:ah} {ks:List (List UInt8)} {v:aa} {H':ah} (h:uw H ks=some (v,H')):
  (∀k∈ks,k.length≤140737488355328)∧ks.length≤1000000000∧((ks=[]∧v= .sl none 0 (.ex 0)∧H'=H)∨(ks≠[]∧v= .sl (some (H.next,0)) (jx ks).length .un∧H'=H.push (.cells ((jx ks).map .str)))):=by
 unfold uw at h
 split at h
 case isFalse=>simp at h
 rename_i hc
 simp only [Bool.and_eq_true,List.all_eq_true,Nat.ble_eq] at hc
 refine ⟨hc.1,hc.2,?_⟩
 split at h
 ·rename_i e
  simp at h
  exact .inl ⟨e,h.1.symm,h.2.symm⟩
 ·rename_i e
  simp at h
  exact .inr ⟨e,h.1.symm,h.2.symm⟩
theorem Wj {P:Program} {f:FuncId} {kt rt:TypeId} (hk:P.underlying kt=some .string) (hfn:∃fn,P.funcs[f]? =some fn∧fn.body.isSome=true∧(fn.name== "runtime.NumGoroutine")=false)
  (hc:∀(a:Addr) (b nn:Nat) (D0:DataW Unit) (R:Value→Option (DataW Unit × List MemPlace)) (w:World),w.cell? a=some (.map (some b))→w.ownsMap P kt R b nn D0→Maps.size D0≤maxLen→Maps.size D0 * 16≤140737488355328→
   Calls P f #[.pointer (some a)] w fun e w'=> ∃(v:Value) (ss:List (List UInt8)),e= .returned v∧ss.Perm (strKeys D0)∧w'.ownsRow w.heap.size rt 1 v ss.length ((ss.mergeSort leB).map Go.Proofs.encStr)∧(v= .slice none 0 0↔ss=[])∧Below w.heap.size w w'):eN P f nK where
 keeps:=fun lim args H v H' hl h=>by
  unfold nK at h
  split at h <;>try (simp at h;done)
  split at h <;>try (simp at h;done)
  split at h <;>try (simp at h;done)
  obtain ⟨_,_,h | h⟩:=K5 h
  ·rw [h.2.2];exact ⟨Nat.le_refl _,fun _ _=>rfl⟩
  ·rw [h.2.2];exact ⟨by rw [ah.bK];omega,fun b hb=>ah.gi _ _ _ (by omega)⟩
 fn:=hfn
 calls:=fun n0 lim args H v H' h ρ w args' hl hlim hfr hr ha=>by
  unfold nK at h
  split at h <;>try (simp at h;done)
  rename_i bo
  obtain ⟨b,o⟩:=bo
  split at h <;>try (simp at h;done)
  rename_i m hm
  split at h <;>try (simp at h;done)
  rename_i ks hks
  rw [Option.bind_eq_some_iff] at hks
  obtain ⟨es,lE,hks⟩:=hks
  obtain ⟨n1,n2,n3⟩:=K5 h
  obtain ⟨L,hL,rfl⟩:∃L,ρ b=some L∧args'= #[.pointer (some ⟨L.blk,L.d+o,none⟩)]:=by
   match hh:args'.toList,ha with
   | [],ha=>have:=ha.1;simp at this
   | _::_::_,ha=>have:=ha.1;simp at this
   | [x],ha=>
    have:=ha.head
    cases this with
    | ptr e=>
     rename_i L
     refine ⟨L,e,?_⟩
     have:args'=args'.toList.toArray:=by simp
     rw [this,hh]
  obtain ⟨cs,hcs⟩:∃cs,H.cells b=some cs:=by
   cases hq:H.cells b with
   | none=>simp only [aB,hq] at hm;simp at hm
   | some cs=>exact ⟨cs,rfl⟩
  simp only [aB,hcs] at hm
  obtain ⟨cc,e,fr,g1,g2,g3,g4,g5⟩:=hr.cells hL hcs
  have K6:o <cs.length:=by
   rcases Nat.lt_or_ge o cs.length with q | q
   ·exact q
   ·rw [List.getElem?_eq_none q] at hm;simp at hm
  obtain ⟨x',hx'⟩:∃x',((cc.toList.drop L.d).take cs.length)[o]? =some x':=by
   rw [List.getElem?_take,if_pos K6,List.getElem?_drop]
   exact ⟨_,List.getElem?_eq_getElem (by simp;omega)⟩
  have hv:=g5.2 o _ _ hm hx'
  rw [List.getElem?_take,if_pos K6,List.getElem?_drop] at hx'
  cases hv with
  | map Wk=>
  rename_i Lm
  have hcell:w.cell? ⟨L.blk,L.d+o,none⟩=some (.map (some Lm.blk)):=by
   rw [Lib.cell_of_heap g1]
   simpa using hx'
  simp only [m8] at lE
  split at lE <;>simp at lE
  rename_i R1 jy hg
  subst lE
  obtain ⟨es',Wm,tR⟩:=hr.map _ Lm _ jy Wk hg
  obtain ⟨l,hp,hE⟩:=tR.perm
  have hkey:∀e∈es'.toList,∃s:ByteArray,e.key= .string s∧s.data.toList∈ks:=by
   intro e he
   obtain ⟨i,hi,hx⟩:=List.getElem_of_mem he
   have hil:i <l.length:=by rw [hE.1];exact hi
   have h1:=hE.2 i l[i].1 l[i].2 e (by rw [List.getElem?_eq_getElem hil]) (by rw [List.getElem?_eq_getElem hi,hx])
   obtain ⟨s,q1,q2⟩:=Ay (ρ:=ρ) hks l[i] (hp.mem_iff.1 (List.getElem_mem hil))
   rw [q1] at h1
   have h2:=h1.1
   cases hk':e.key <;>rw [hk'] at h2 <;>cases h2
   rename_i s' e'
   exact ⟨s',rfl,by rw [e'];exact q2⟩
  have hrd:∀e∈es'.toList,∃s:ByteArray,e.key= .string s∧rd P kt (fun _=>some ((.nil:DataW Unit),[])) e=some (.string s.data.toList,.nil):=by
   intro e he
   obtain ⟨s,q1,q2⟩:=hkey e he
   refine ⟨s,q1,?_⟩
   unfold rd
   have hb:=n1 _ q2
   have e0:s.size=s.data.toList.length:=by rw [Array.length_toList];rfl
   have e1:s.size≤maxLen:=by rw [e0];exact Nat.le_trans hb (by decide)
   rw [q1,Go.WideMaps.keyOf_string_mk hk e1]
   rfl
  have hlen:es'.size=ks.length:=by
   have h1:=hE.1
   have h2:=hp.length_eq
   rw [EE hks,List.length_map,←h2,h1,Array.length_toList]
  have Wn:(es'.toList.map (·.key)).Nodup:=by
   have zK:(l.map (·.1)).Nodup:=(hp.map (·.1)).nodup_iff.2 tR.keys
   rw [List.Nodup,List.pairwise_iff_getElem] at zK ⊢
   intro i j hi hj hij
   simp only [List.length_map] at hi hj
   have hil:i <l.length:=by rw [hE.1];exact hi
   have hjl:j <l.length:=by rw [hE.1];exact hj
   have h0:=zK i j (by simpa using hil) (by simpa using hjl) hij
   simp only [List.getElem_map] at h0 ⊢
   intro e
   apply h0
   have q1:=(hE.2 i l[i].1 l[i].2 es'.toList[i] (by rw [List.getElem?_eq_getElem hil]) (by rw [List.getElem?_eq_getElem hi])).1
   have q2:=(hE.2 j l[j].1 l[j].2 es'.toList[j] (by rw [List.getElem?_eq_getElem hjl]) (by rw [List.getElem?_eq_getElem hj])).1
   obtain ⟨s1,r1,_⟩:=Ay (ρ:=ρ) hks l[i] (hp.mem_iff.1 (List.getElem_mem hil))
   obtain ⟨s2,r2,_⟩:=Ay (ρ:=ρ) hks l[j] (hp.mem_iff.1 (List.getElem_mem hjl))
   rw [r1] at q1 ⊢
   rw [r2,←e] at q2
   rw [r2]
   generalize es'.toList[i].key=y at q1 q2
   cases q1 with
   | str e1=>cases q2 with
    | str e2=>rw [←e1,←e2]
  have hsz:es'.size≤maxLen:=by rw [hlen];exact Nat.le_trans n2 (by decide)
  have hown:w.ownsMap P kt (fun _=>some ((.nil:DataW Unit),[])) Lm.blk es'.size (.map ((es'.toList.map (rg P kt fun _=>some ((.nil:DataW Unit),[]))).foldr DataW.insert [])):=
   ⟨es',jy.n,Wm,⟨hsz,⟨tR.tH,tR.born,Wn⟩,fun x hx=>by obtain ⟨s,_,q⟩:=hrd x hx;exact ⟨_,q⟩⟩,Nat.le_refl _,rfl⟩
  have hsize:Maps.size (.map ((es'.toList.map (rg P kt fun _=>some ((.nil:DataW Unit),[]))).foldr DataW.insert []))=ks.length:=by
   rw [Maps.size_eq,(Go.WideShapes.sorted_perm _).length_eq,List.length_map,Array.length_toList,hlen]
  have Wo:(strKeys (.map ((es'.toList.map (rg P kt fun _=>some ((.nil:DataW Unit),[]))).foldr DataW.insert []))).Perm ks:=by
   refine ((Go.WideShapes.sorted_perm _).map _).trans ?_
   rw [EE hks]
   refine List.Perm.trans ?_ (hp.map _)
   rw [List.map_map]
   have:es'.toList.map ((fun p:Lit × DataW Unit=>strOf p.1) ∘ rg P kt fun _=>some ((.nil:DataW Unit),[]))=l.map fun e=>ED e.1:=by
    apply List.ext_getElem
    ·simp [hE.1]
    ·intro i h1 h2
     simp only [List.length_map] at h1 h2
     simp only [List.getElem_map,Function.comp]
     obtain ⟨s,q1,q2⟩:=hrd es'.toList[i] (List.getElem_mem h1)
     have q:=(hE.2 i l[i].1 l[i].2 es'.toList[i] (by rw [List.getElem?_eq_getElem h2]) (by rw [List.getElem?_eq_getElem h1])).1
     unfold rg
     rw [q2,Option.getD_some]
     rw [q1] at q
     show s.data.toList=_
     generalize l[i].1=y at q
     cases q with
     | str e=>exact e
   rw [this]
  refine (hc _ _ _ _ _ w hcell hown (by rw [hsize];exact Nat.le_trans n2 (by decide)) (by rw [hsize];omega)).mono ?_
  rintro e w' ⟨v',ss,rfl,hss,hrow,mg,hb⟩
  have hsk:ss.Perm ks:=hss.trans Wo
  have hsort:ss.mergeSort leB=jx ks:=(mergeSort_of_perm hsk).trans (Wi ks).symm
  have Wp:ss.length=(jx ks).length:=by rw [hsk.length_eq];exact (Ax ks).length_eq.symm
  obtain ⟨r1,r2⟩:=hrow
  rcases n3 with ⟨rfl,rfl,rfl⟩ | ⟨hne,rfl,rfl⟩
  ·have h0:ss=[]:=List.eq_nil_of_length_eq_zero (by rw [hsk.length_eq];rfl)
   rw [mg.2 h0]
   exact ⟨_,ρ,rfl,.lB,.below hr hb⟩
  ·have hpos:0 <ss.length:=by
    rw [hsk.length_eq]
    exact List.length_pos_iff.2 hne
   rcases r2 with ⟨rfl,h0⟩ | ⟨g,cap,cur,rfl,Wq,sw,hnc,_,zL,iN⟩
   ·omega
   ·rw [hsort] at iN
    rw [Wp] at hnc iN ⊢
    simp only [Nat.mul_one] at iN zL
    have hfree:ρ H.next=none:=hfr H.next (Nat.le_refl _) (by rw [ah.bK];omega)
    refine ⟨_,upd ρ H.next ⟨g,0,cur.size⟩,rfl,?_,?_⟩
    ·have:=aJ.kH (ρ:=upd ρ H.next ⟨g,0,cur.size⟩) (b:=H.next) (o:=0) (L:=⟨g,0,cur.size⟩) (eG ρ H.next _) hnc
     exact this
    ·refine hr.grow hlim hfree ⟨g,0,cur.size⟩ _ Wq (by exact (Array.getElem?_eq_some_iff.1 sw).1) hb.block ⟨?_,fun _ _ h=>by simp at h,fun _ h=>by simp at h⟩ ⟨hb.os,hb.tape,hb.output⟩
     intro cs1 h1
     simp at h1
     subst h1
     refine ⟨cur,⟨_,(0,0),sw,rfl,fun _ i _=>by omega⟩,by simp;omega,?_⟩
     simp only [List.drop_zero,List.length_map]
     rw [iN]
     refine ⟨by simp,fun i v v' h1 h2=> ?_⟩
     rw [List.getElem?_map] at h1 h2
     cases hq:(jx ks)[i]? with
     | none=>rw [hq] at h1;simp at h1
     | some s=>
      rw [hq] at h1 h2
      simp at h1 h2
      subst h1 h2
      exact .str rfl
end Go.au
end
section
set_option maxRecDepth 100000
namespace Go.Proofs
open Go.RowKit Go.Maps Go.Sort Go.Shelf
def Tryz.K7:Go.Shelf.Ren:=⟨fun | 156=>84 | 165=>129 | 166=>130 | 169=>132 | 240=>176 | 241=>177 | 276=>213 | 277=>214 | n=>n,fun | 31=>50 | 9=>9 | 3=>3 | 4=>4 | 0=>0 | 20=>20 | 72=>208 | 76=>209 | 70=>206 | 37=>159 | 75=>153 | 127=>244 | 164=>274 | 5=>5 | 80=>211 | n=>n,fun | n=>n⟩
theorem Tryz.K8:Go.Proofs.Lays.n156 Tryz.prog Tryz.K7:={mixed:=by kernel_rfl,f156:=Tryz.func84.trans (congrArg some (by kernel_rfl)),f165:=Tryz.func129.trans (congrArg some (by kernel_rfl)),f166:=Tryz.func130.trans (congrArg some (by kernel_rfl)),f169:=Tryz.func132.trans (congrArg some (by kernel_rfl)),f240:=Tryz.func176.trans (congrArg some (by kernel_rfl)),f241:=Tryz.func177.trans (congrArg some (by kernel_rfl)),f276:=Tryz.func213.trans (congrArg some (by kernel_rfl)),f277:=Tryz.func214.trans (congrArg some (by kernel_rfl)),t0:=Tryz.underlying0,a0:=Tryz.isAgg0,z0:=Tryz.sizeOf0,v0:=Tryz.zeroValue0,t3:=Tryz.underlying3,a3:=Tryz.isAgg3,z3:=Tryz.sizeOf3,v3:=Tryz.zeroValue3,t4:=Tryz.underlying4,a4:=Tryz.isAgg4,z4:=Tryz.sizeOf4,v4:=Tryz.zeroValue4,t9:=Tryz.underlying9,a9:=Tryz.isAgg9,z9:=Tryz.sizeOf9,v9:=Tryz.zeroValue9,t20:=Tryz.underlying20,a20:=Tryz.isAgg20,z20:=Tryz.sizeOf20,v20:=Tryz.zeroValue20,t31:=Tryz.underlying50,a31:=Tryz.isAgg50,z31:=Tryz.sizeOf50,v31:=Tryz.zeroValue50,t37:=Tryz.underlying159,a37:=Tryz.isAgg159,z37:=Tryz.sizeOf159,v37:=Tryz.zeroValue159,t70:=Tryz.underlying206,a70:=Tryz.isAgg206,z70:=Tryz.sizeOf206,v70:=Tryz.zeroValue206,t72:=Tryz.underlying208,a72:=Tryz.isAgg208,z72:=Tryz.sizeOf208,v72:=Tryz.zeroValue208,t75:=Tryz.underlying153,a75:=Tryz.isAgg153,z75:=Tryz.sizeOf153,v75:=Tryz.zeroValue153,t76:=Tryz.underlying209,a76:=Tryz.isAgg209,z76:=Tryz.sizeOf209,v76:=Tryz.zeroValue209,t127:=Tryz.underlying244,a127:=Tryz.isAgg244,z127:=Tryz.sizeOf244,v127:=Tryz.zeroValue244,t164:=Tryz.underlying274,a164:=Tryz.isAgg274,z164:=Tryz.sizeOf274,v164:=Tryz.zeroValue274}
theorem Tryz.K9:Builder.Extra Tryz.prog Tryz.K7:={sizeBuilder:=by kernel_rfl,liesBuilder:=by kernel_rfl,t5:=Tryz.underlying5,a5:=Tryz.isAgg5,z5:=Tryz.sizeOf5,v5:=Tryz.zeroValue5,infoByte:=by kernel_rfl,cellsByte:=by kernel_rfl,sizeByte:=by kernel_rfl,neB5:=by decide}
def Tryz.La:Go.Shelf.Ren:=⟨fun | 7=>113 | 10=>159 | n=>n,fun | 23=>132 | 26=>9 | 3=>144 | 28=>190 | 0=>0 | 27=>189 | 33=>183 | 4=>4 | n=>n,fun | n=>n⟩
theorem Tryz.Lb:Go.Proofs.SlLaysZ.n7 Tryz.prog Tryz.La:={mixed:=by kernel_rfl,f7:=⟨ "maps.Keys[map[string]wapentake/disk.file,string,wapentake/disk.file]",by decide,Tryz.func113.trans (congrArg some (by kernel_rfl))⟩,f10:=⟨ "maps.Keys[map[string]wapentake/disk.file,string,wapentake/disk.file]$1",by decide,Tryz.func159.trans (congrArg some (by kernel_rfl))⟩,t0:=Tryz.underlying0,a0:=Tryz.isAgg0,z0:=Tryz.sizeOf0,v0:=Tryz.zeroValue0,t4:=Tryz.underlying4,a4:=Tryz.isAgg4,z4:=Tryz.sizeOf4,v4:=Tryz.zeroValue4,t23:=Tryz.underlying132,a23:=Tryz.isAgg132,z23:=Tryz.sizeOf132,v23:=Tryz.zeroValue132,t26:=Tryz.underlying9,a26:=Tryz.isAgg9,z26:=Tryz.sizeOf9,v26:=Tryz.zeroValue9,t27:=Tryz.underlying189,a27:=Tryz.isAgg189,z27:=Tryz.sizeOf189,v27:=Tryz.zeroValue189,t28:=Tryz.underlying190,a28:=Tryz.isAgg190,z28:=Tryz.sizeOf190,v28:=Tryz.zeroValue190,t33:=Tryz.underlying183,a33:=Tryz.isAgg183,z33:=Tryz.sizeOf183,v33:=Tryz.zeroValue183}
def Tryz.Lc:Go.Shelf.Ren:=⟨fun | 6=>112 | 8=>157 | 9=>158 | 11=>203 | 13=>134 | 12=>204 | 23=>187 | 24=>188 | 14=>227 | 15=>228 | 16=>229 | 17=>230 | 18=>231 | 19=>232 | 20=>233 | 21=>234 | 22=>235 | 25=>242 | 26=>216 | 27=>217 | 28=>243 | 29=>244 | 30=>245 | 31=>247 | n=>n,fun | 26=>9 | 28=>190 | 24=>50 | 0=>0 | 3=>3 | 37=>135 | 48=>33 | 50=>22 | 4=>4 | 40=>247 | 39=>246 | 45=>252 | 5=>5 | 9=>9 | 51=>277 | 55=>280 | 57=>292 | 58=>164 | 33=>183 | n=>n,fun | n=>n⟩
theorem Tryz.Ws:Go.Proofs.SlLaysZ.n6 Tryz.prog Tryz.Lc:={mixed:=by kernel_rfl,f6:=⟨ "slices.Sorted[string]",by decide,Tryz.func112.trans (congrArg some (by kernel_rfl))⟩,f8:=⟨ "slices.Collect[string]",by decide,Tryz.func157.trans (congrArg some (by kernel_rfl))⟩,f11:=⟨ "slices.AppendSeq[[]string,string]",by decide,Tryz.func203.trans (congrArg some (by kernel_rfl))⟩,t0:=Tryz.underlying0,a0:=Tryz.isAgg0,z0:=Tryz.sizeOf0,v0:=Tryz.zeroValue0,t24:=Tryz.underlying50,a24:=Tryz.isAgg50,z24:=Tryz.sizeOf50,v24:=Tryz.zeroValue50,t26:=Tryz.underlying9,a26:=Tryz.isAgg9,z26:=Tryz.sizeOf9,v26:=Tryz.zeroValue9,t28:=Tryz.underlying190,a28:=Tryz.isAgg190,z28:=Tryz.sizeOf190,v28:=Tryz.zeroValue190,i26:=by kernel_rfl}
def Tryz.Wt:Go.Shelf.Ren:=⟨fun | 6=>158 | 8=>134 | 9=>204 | 19=>187 | 20=>188 | 21=>227 | 22=>228 | 23=>229 | 24=>230 | 25=>231 | 26=>232 | 27=>233 | 28=>234 | 29=>235 | 36=>242 | 31=>216 | 32=>217 | 37=>243 | 38=>244 | 39=>245 | 41=>247 | n=>n,fun | 27=>50 | 29=>9 | 3=>3 | 32=>135 | 26=>50 | 0=>0 | 44=>33 | 46=>22 | 4=>4 | 36=>247 | 35=>246 | 41=>252 | 5=>5 | 9=>9 | 53=>277 | 57=>280 | 63=>292 | 64=>164 | n=>n,fun | n=>n⟩
theorem Tryz.Ld:Go.Proofs.SlLaysM.n6 Tryz.prog Tryz.Wt:={mixed:=by kernel_rfl,f6:=⟨ "slices.Sort[[]string,string]",by decide,Tryz.func158.trans (congrArg some (by kernel_rfl))⟩,f8:=Tryz.func134.trans (congrArg some (by kernel_rfl)),f9:=⟨ "slices.pdqsortOrdered[string]",by decide,Tryz.func204.trans (congrArg some (by kernel_rfl))⟩,f19:=Tryz.func187.trans (congrArg some (by kernel_rfl)),f20:=Tryz.func188.trans (congrArg some (by kernel_rfl)),f21:=⟨ "slices.insertionSortOrdered[string]",by decide,Tryz.func227.trans (congrArg some (by kernel_rfl))⟩,f22:=⟨ "slices.heapSortOrdered[string]",by decide,Tryz.func228.trans (congrArg some (by kernel_rfl))⟩,f23:=⟨ "slices.breakPatternsOrdered[string]",by decide,Tryz.func229.trans (congrArg some (by kernel_rfl))⟩,f24:=⟨ "slices.choosePivotOrdered[string]",by decide,Tryz.func230.trans (congrArg some (by kernel_rfl))⟩,f25:=⟨ "slices.reverseRangeOrdered[string]",by decide,Tryz.func231.trans (congrArg some (by kernel_rfl))⟩,f26:=⟨ "slices.partialInsertionSortOrdered[string]",by decide,Tryz.func232.trans (congrArg some (by kernel_rfl))⟩,f27:=⟨ "cmp.Less[string]",by decide,Tryz.func233.trans (congrArg some (by kernel_rfl))⟩,f28:=⟨ "slices.partitionEqualOrdered[string]",by decide,Tryz.func234.trans (congrArg some (by kernel_rfl))⟩,f29:=⟨ "slices.partitionOrdered[string]",by decide,Tryz.func235.trans (congrArg some (by kernel_rfl))⟩,f31:=Tryz.func216.trans (congrArg some (by kernel_rfl)),f32:=Tryz.func217.trans (congrArg some (by kernel_rfl)),f36:=⟨ "slices.siftDownOrdered[string]",by decide,Tryz.func242.trans (congrArg some (by kernel_rfl))⟩,f37:=⟨ "slices.medianAdjacentOrdered[string]",by decide,Tryz.func243.trans (congrArg some (by kernel_rfl))⟩,f38:=⟨ "slices.medianOrdered[string]",by decide,Tryz.func244.trans (congrArg some (by kernel_rfl))⟩,f39:=⟨ "cmp.isNaN[string]",by decide,Tryz.func245.trans (congrArg some (by kernel_rfl))⟩,f41:=⟨ "slices.order2Ordered[string]",by decide,Tryz.func247.trans (congrArg some (by kernel_rfl))⟩,t0:=Tryz.underlying0,a0:=Tryz.isAgg0,z0:=Tryz.sizeOf0,v0:=Tryz.zeroValue0,t3:=Tryz.underlying3,a3:=Tryz.isAgg3,z3:=Tryz.sizeOf3,v3:=Tryz.zeroValue3,t4:=Tryz.underlying4,a4:=Tryz.isAgg4,z4:=Tryz.sizeOf4,v4:=Tryz.zeroValue4,t5:=Tryz.underlying5,a5:=Tryz.isAgg5,z5:=Tryz.sizeOf5,v5:=Tryz.zeroValue5,t9:=Tryz.underlying9,a9:=Tryz.isAgg9,z9:=Tryz.sizeOf9,v9:=Tryz.zeroValue9,t26:=Tryz.underlying50,a26:=Tryz.isAgg50,z26:=Tryz.sizeOf50,v26:=Tryz.zeroValue50,t27:=Tryz.underlying50,a27:=Tryz.isAgg50,z27:=Tryz.sizeOf50,v27:=Tryz.zeroValue50,t29:=Tryz.underlying9,a29:=Tryz.isAgg9,z29:=Tryz.sizeOf9,v29:=Tryz.zeroValue9,t32:=Tryz.underlying135,a32:=Tryz.isAgg135,z32:=Tryz.sizeOf135,v32:=Tryz.zeroValue135,t35:=Tryz.underlying246,a35:=Tryz.isAgg246,z35:=Tryz.sizeOf246,v35:=Tryz.zeroValue246,t36:=Tryz.underlying247,a36:=Tryz.isAgg247,z36:=Tryz.sizeOf247,v36:=Tryz.zeroValue247,t41:=Tryz.underlying252,a41:=Tryz.isAgg252,z41:=Tryz.sizeOf252,v41:=Tryz.zeroValue252,t44:=Tryz.underlying33,a44:=Tryz.isAgg33,z44:=Tryz.sizeOf33,v44:=Tryz.zeroValue33,t46:=Tryz.underlying22,a46:=Tryz.isAgg22,z46:=Tryz.sizeOf22,v46:=Tryz.zeroValue22,t53:=Tryz.underlying277,a53:=Tryz.isAgg277,z53:=Tryz.sizeOf277,v53:=Tryz.zeroValue277,t57:=Tryz.underlying280,a57:=Tryz.isAgg280,z57:=Tryz.sizeOf280,v57:=Tryz.zeroValue280,t63:=Tryz.underlying292,a63:=Tryz.isAgg292,z63:=Tryz.sizeOf292,v63:=Tryz.zeroValue292,t64:=Tryz.underlying164,a64:=Tryz.isAgg164,z64:=Tryz.sizeOf164,v64:=Tryz.zeroValue164}
def Tryz.Lf:Go.Shelf.Ren:=⟨fun | 105=>81 | 212=>127 | 99=>128 | 165=>129 | 166=>130 | 170=>131 | 169=>132 | 263=>174 | 264=>175 | 206=>169 | 240=>176 | 241=>177 | 276=>213 | 277=>214 | n=>n,fun | 9=>9 | 3=>3 | 4=>4 | 20=>20 | 0=>0 | 46=>135 | 109=>203 | 5=>5 | 72=>208 | 76=>209 | 51=>33 | 146=>240 | 53=>22 | 148=>242 | 70=>206 | 37=>159 | 75=>153 | 127=>244 | 164=>274 | 80=>211 | n=>n,fun | n=>n⟩
theorem Tryz.Wu:Go.Proofs.Lays.n105 Tryz.prog Tryz.Lf:={mixed:=by kernel_rfl,f99:=Tryz.func128.trans (congrArg some (by kernel_rfl)),f105:=Tryz.func81.trans (congrArg some (by kernel_rfl)),f165:=Tryz.func129.trans (congrArg some (by kernel_rfl)),f166:=Tryz.func130.trans (congrArg some (by kernel_rfl)),f169:=Tryz.func132.trans (congrArg some (by kernel_rfl)),f170:=Tryz.func131.trans (congrArg some (by kernel_rfl)),f206:=Tryz.func169.trans (congrArg some (by kernel_rfl)),f212:=Tryz.func127.trans (congrArg some (by kernel_rfl)),f240:=Tryz.func176.trans (congrArg some (by kernel_rfl)),f241:=Tryz.func177.trans (congrArg some (by kernel_rfl)),f263:=Tryz.func174.trans (congrArg some (by kernel_rfl)),f264:=Tryz.func175.trans (congrArg some (by kernel_rfl)),f276:=Tryz.func213.trans (congrArg some (by kernel_rfl)),f277:=Tryz.func214.trans (congrArg some (by kernel_rfl)),t0:=Tryz.underlying0,a0:=Tryz.isAgg0,z0:=Tryz.sizeOf0,v0:=Tryz.zeroValue0,t3:=Tryz.underlying3,a3:=Tryz.isAgg3,z3:=Tryz.sizeOf3,v3:=Tryz.zeroValue3,t4:=Tryz.underlying4,a4:=Tryz.isAgg4,z4:=Tryz.sizeOf4,v4:=Tryz.zeroValue4,t5:=Tryz.underlying5,a5:=Tryz.isAgg5,z5:=Tryz.sizeOf5,v5:=Tryz.zeroValue5,t9:=Tryz.underlying9,a9:=Tryz.isAgg9,z9:=Tryz.sizeOf9,v9:=Tryz.zeroValue9,t20:=Tryz.underlying20,a20:=Tryz.isAgg20,z20:=Tryz.sizeOf20,v20:=Tryz.zeroValue20,t37:=Tryz.underlying159,a37:=Tryz.isAgg159,z37:=Tryz.sizeOf159,v37:=Tryz.zeroValue159,t46:=Tryz.underlying135,a46:=Tryz.isAgg135,z46:=Tryz.sizeOf135,v46:=Tryz.zeroValue135,t51:=Tryz.underlying33,a51:=Tryz.isAgg33,z51:=Tryz.sizeOf33,v51:=Tryz.zeroValue33,t53:=Tryz.underlying22,a53:=Tryz.isAgg22,z53:=Tryz.sizeOf22,v53:=Tryz.zeroValue22,t70:=Tryz.underlying206,a70:=Tryz.isAgg206,z70:=Tryz.sizeOf206,v70:=Tryz.zeroValue206,t72:=Tryz.underlying208,a72:=Tryz.isAgg208,z72:=Tryz.sizeOf208,v72:=Tryz.zeroValue208,t75:=Tryz.underlying153,a75:=Tryz.isAgg153,z75:=Tryz.sizeOf153,v75:=Tryz.zeroValue153,t76:=Tryz.underlying209,a76:=Tryz.isAgg209,z76:=Tryz.sizeOf209,v76:=Tryz.zeroValue209,t109:=Tryz.underlying203,a109:=Tryz.isAgg203,z109:=Tryz.sizeOf203,v109:=Tryz.zeroValue203,t127:=Tryz.underlying244,a127:=Tryz.isAgg244,z127:=Tryz.sizeOf244,v127:=Tryz.zeroValue244,t146:=Tryz.underlying240,a146:=Tryz.isAgg240,z146:=Tryz.sizeOf240,v146:=Tryz.zeroValue240,t148:=Tryz.underlying242,a148:=Tryz.isAgg242,z148:=Tryz.sizeOf242,v148:=Tryz.zeroValue242,t164:=Tryz.underlying274,a164:=Tryz.isAgg274,z164:=Tryz.sizeOf274,v164:=Tryz.zeroValue274}
theorem Tryz.Wv:Builder.Extra Tryz.prog Tryz.Lf:={sizeBuilder:=by kernel_rfl,liesBuilder:=by kernel_rfl,t5:=Tryz.underlying5,a5:=Tryz.isAgg5,z5:=Tryz.sizeOf5,v5:=Tryz.zeroValue5,infoByte:=by kernel_rfl,cellsByte:=by kernel_rfl,sizeByte:=by kernel_rfl,neB5:=by decide}
theorem Tryz.Ww (m:Nat):AnyZ.SortsIn Tryz.prog Tryz.Lc Fence.wide m:=
 ⟨fun blk off cap ss W hH hblk hsz=>callsIn_wide.2 (AnyM.slices_Sort_string Tryz.Ld blk off cap ss W hH hblk hsz),
  fun p cap W=>callsIn_wide.2 (AnyM.slices_Sort_string_none Tryz.Ld p cap W)⟩
theorem Wx {P:Program} (d:Nat) (w:World) {t k e:TypeId} (b:Nat) (h:P.underlying t=some (.map k e)):(Op.equalIn (d+1) t (.map (some b)) (.map none)).run P w= .ok false w:=by
 simp [Op.equalIn,run_underlying h]
theorem Wy {P:Program} (w:World) {t k e:TypeId} (b:Nat) (h:P.underlying t=some (.map k e)):(binOp .eql t (.map (some b)) (.map none)).run P w= .ok (.bool false) w:=by
 have h2:Op.equal t (.map (some b)) (.map none)=Op.equalIn (9999+1) t (.map (some b)) (.map none):=rfl
 simp only [binOp]
 simp [h2,Wx 9999 w b h]
theorem Tryz.Wz (a:Addr) (b:Nat) (w:World) (h:w.cell? a=some (.map (some b))):CallsIn Fence.wide 6 Tryz.prog 72 #[.pointer (some a)] w fun e w'=>e= .returned (.bool false)∧w'=w:=by
 refine callsIn_of_wp Tryz.func72 rfl trivial ?_ rfl
 simp only [Tryz.ntmps72,List.size_toArray,List.length_cons,List.length_nil,Nat.reduceAdd,Nat.reduceSub,Array.replicate_succ,Array.replicate_zero,List.push_toArray,List.append_toArray,List.nil_append,List.cons_append]
 have hq:=fun w=>Wy w b Tryz.underlying132
 gi_wp2
 go_ret
 exact ⟨rfl,rfl⟩
set_option maxHeartbeats 2000000 in
theorem Tryz.dList {H:Type} (a:Addr) (b nn:Nat) (D0:DataW H) (R:Value→Option (DataW H × List MemPlace)) (w:World) (ha:w.cell? a=some (.map (some b))) (hown:w.ownsMap Tryz.prog 9 R b nn D0) (zH:Maps.size D0≤maxLen) (hbytes:Maps.size D0 * 16≤140737488355328):
  Calls Tryz.prog 64 #[.pointer (some a)] w fun e w'=> ∃(v:Value) (ss:List (List UInt8)),e= .returned v∧ss.Perm (strKeys D0)∧
   w'.ownsRow w.heap.size 9 1 v ss.length ((ss.mergeSort leB).map encStr)∧(v= .slice none 0 0↔ss=[])∧Below w.heap.size w w':=by
 refine (callsIn_wide (n:=7)).1 ?_
 have qJ:=hown.lt
 have hseq:SeqGives Fence.wide 3 Tryz.prog 159 #[.pointer (some ⟨w.heap.size,0,none⟩)] encStr (fun ss=>ss.Perm (strKeys D0)) (Maps.size D0) (w.alloc (.cells #[.map (some b)] 132)):=
  AnyZ.keys_gives (ρ:=Tryz.La) {Tryz.Lb with} Fence.wide _ trivial rfl (by omega) w.heap.size b nn D0 _ (by simp) (by simp) (by
   obtain ⟨es,clock,hb,Ft,hs,hD⟩:=hown
   exact ⟨es,clock,(Below.heap_alloc _ _ b qJ).trans hb,Ft,hs,hD⟩)
 have cK:∀mb W,CallsIn Fence.wide 6 Tryz.prog 113 #[.map mb] W fun e w'=>e= .returned (.func (.func 159) #[] #[.pointer (some ⟨W.heap.size,0,none⟩)])∧w'=W.alloc (.cells #[.map mb] 132):=fun mb W=>AnyZ.keys_in Tryz.Lb Fence.wide 6 trivial rfl mb W
 have cS:=AnyZ.sorted_in Tryz.Ws Fence.wide 6 trivial trivial trivial trivial rfl (by omega) (Tryz.Ww _) (enters_of Tryz.func158 (by kernel_rfl) rfl) 159 #[.pointer (some ⟨w.heap.size,0,none⟩)] trivial (enters_of Tryz.func159 (by kernel_rfl) rfl) _ _ zH hbytes _ hseq
 change CallsIn _ _ Tryz.prog 112 _ _ _ at cS
 have cN:=Tryz.Wz a b w ha
 have hfN:Fence.wide.fn 72:=trivial
 have hfK:Fence.wide.fn 113:=trivial
 have hfS:Fence.wide.fn 112:=trivial
 refine callsIn_of_wp Tryz.func64 rfl trivial ?_ rfl
 simp only [Tryz.ntmps64,List.size_toArray,List.length_cons,List.length_nil,Nat.reduceAdd,Nat.reduceSub,Array.replicate_succ,Array.replicate_zero,List.push_toArray,List.append_toArray,List.nil_append,List.cons_append]
 gi_wp2_with (first
  | (gi_at_call 72;refine cN.mono ?_;rintro e w' ⟨rfl,rfl⟩)
  | (gi_at_call 113;refine (cK _ _).mono ?_;rintro e w' ⟨rfl,rfl⟩)
  | (gi_at_call 112;refine cS.mono ?_;rintro e w' ⟨v,ss,rfl,hS,hrow,mg,hb⟩))
 go_ret
 exact ⟨v,ss,rfl,hS,ownsRow_base_a hrow (by simp),mg,((Below.refl _ _).alloc (Nat.le_refl _) _).trans (hb.mono (by simp))⟩
end Go.Proofs
namespace Go.Proofs.YtfigbgjbaohglaaGreatDoor.bP
open Go.au
theorem Lg:eN Tryz.prog 84 nJ:=Wb ⟨Tryz.f84,Tryz.func84,by kernel_rfl,by kernel_rfl⟩ (fun a c sep w=>Any.strings_Join_none Tryz.K8 Tryz.K9 a c sep w) (fun bk o c xs sep w h1 h2 h3 h4 h5=>Any.strings_Join Tryz.K8 Tryz.K9 bk o c xs sep w h1 h2 h3 h4 h5)
theorem Lh:eN Tryz.prog 64 nK:=Wj (kt:=9) (rt:=9) Tryz.underlying9 ⟨Tryz.f64,Tryz.func64,by kernel_rfl,by kernel_rfl⟩ (fun a b nn D0 R w h1 h2 h3 h4=>Tryz.dList a b nn D0 R w h1 h2 h3 h4)
theorem Li:eN Tryz.prog 81 oV:=Wg ⟨Tryz.f81,Tryz.func81,by kernel_rfl,by kernel_rfl⟩ (fun s c w h1 h2=>Any.strings_Repeat Tryz.Wu Tryz.Wv s c w h1 h2)
end Go.Proofs.YtfigbgjbaohglaaGreatDoor.bP
end
section
set_option linter.unusedSimpArgs false
set_option linter.unusedVariables false
set_option linter.unusedSectionVars false
namespace Go.au
variable [Gl]
noncomputable def cF {α:Type} (b:Bool) (x y:α):α:= @Bool.rec (fun _=>α) y x b
theorem ef {α:Type} (b:Bool) (x y:α):cF b x y=if b=true then x else y:=by cases b <;>rfl
noncomputable def Az:IntKind→Nat:= @IntKind.rec (fun _=>Nat) 128 32768 2147483648 9223372036854775808 256 65536 4294967296 18446744073709551616
noncomputable def AA (k:IntKind):Int→Int:= @Int.rec (fun _=>Int) (fun a=>cF (Nat.blt a (Az k)) (.ofNat a) (k.wrap (.ofNat a))) (fun a=>k.wrap (.negSucc a))
theorem Lj (k:IntKind) (n:Int):AA k n=k.wrap n:=by
 cases n with
 | negSucc a=>rfl
 | ofNat a=>
  show cF (Nat.blt a (Az k)) (.ofNat a) (k.wrap (.ofNat a))=_
  rw [ef]
  split
  ·rename_i h
   have h:a <Az k:=by simpa [Nat.blt_eq] using h
   cases k <;>simp only [Az] at h <;>simp only [IntKind.wrap,IntKind.bits,IntKind.signed] <;>
    simp only [Bool.true_and,Bool.false_and,decide_eq_true_eq,Bool.false_eq_true,if_false,Nat.reduceSub,Int.reducePow,Int.ofNat_eq_natCast,ge_iff_le] <;>(try split) <;>omega
  ·rfl
noncomputable def xC:Int→Int→Bool:= @Int.rec (fun _=>Int→Bool)
 (fun a=> @Int.rec (fun _=>Bool) (fun b=>Nat.blt a b) (fun _=>false))
 (fun a=> @Int.rec (fun _=>Bool) (fun _=>true) (fun b=>Nat.blt b a))
theorem Lk (a b:Int):xC a b=decide (a <b):=by
 cases a <;>cases b <;>simp only [xC]
 all_goals
  rw [Bool.eq_iff_iff]
  simp [Nat.blt_eq]
  try omega
noncomputable def AB (a b:Int):Bool:=cF (xC b a) false true
theorem WA (a b:Int):AB a b=decide (a≤b):=by
 simp only [AB,ef,Lk,decide_eq_true_eq]
 by_cases h:b <a
 ·simp [h]
 ·simp [h];omega
noncomputable def AD:Int→Int→Bool:= @Int.rec (fun _=>Int→Bool)
 (fun a=> @Int.rec (fun _=>Bool) (fun b=>Nat.beq a b) (fun _=>false))
 (fun a=> @Int.rec (fun _=>Bool) (fun _=>false) (fun b=>Nat.beq a b))
theorem WB (a b:Int):AD a b=(a==b):=by
 cases a <;>cases b <;>simp only [AD]
 all_goals
  rw [Bool.eq_iff_iff]
  simp [Nat.beq_eq]
  try omega
noncomputable def Ll:Int→Int→Int:= @Int.rec (fun _=>Int→Int)
 (fun a=> @Int.rec (fun _=>Int) (fun b=> .ofNat (Nat.add a b)) (fun b=> .ofNat a+ .negSucc b))
 (fun a b=> .negSucc a+b)
theorem WC (a b:Int):Ll a b=a+b:=by cases a <;>cases b <;>rfl
noncomputable def EF:Int→Int→Int:= @Int.rec (fun _=>Int→Int)
 (fun a=> @Int.rec (fun _=>Int) (fun b=>cF (Nat.ble b a) (.ofNat (Nat.sub a b)) (.ofNat a - .ofNat b)) (fun b=> .ofNat a - .negSucc b))
 (fun a b=> .negSucc a - b)
theorem WD (a b:Int):EF a b=a - b:=by
 cases a <;>cases b <;>simp only [EF]
 rename_i a b
 rw [ef]
 split
 ·rename_i h
  have h:b≤a:=by simpa [Nat.ble_eq] using h
  show ((a - b:Nat):Int)=(a:Int) - b
  omega
 ·rfl
noncomputable def AE:List UInt8→List UInt8→Bool:= @List.rec UInt8 (fun _=>List UInt8→Bool)
 (@List.rec UInt8 (fun _=>Bool) true (fun _ _ _=>false))
 (fun a _ ih=> @List.rec UInt8 (fun _=>Bool) false (fun b bs _=>cF (Nat.beq a.toNat b.toNat) (ih bs) false))
theorem Ln:∀(a b:List UInt8),AE a b=(a==b)
 | [],[]=>rfl
 | [],_::_=>rfl
 | _::_,[]=>rfl
 | a::a9as,b::bs=>by
  show cF (Nat.beq a.toNat b.toNat) (AE a9as bs) false=_
  rw [ef,Ln a9as bs]
  by_cases h:a=b
  ·subst h;simp [Nat.beq_eq]
  ·have:¬a.toNat=b.toNat:=fun e=>h (UInt8.toNat_inj.1 e)
   simp [Nat.beq_eq,this,h]
noncomputable def EG:List UInt8→List UInt8→Bool:= @List.rec UInt8 (fun _=>List UInt8→Bool)
 (@List.rec UInt8 (fun _=>Bool) false (fun _ _ _=>true))
 (fun a _ ih=> @List.rec UInt8 (fun _=>Bool) false (fun b bs _=>cF (Nat.beq a.toNat b.toNat) (ih bs) (Nat.blt a.toNat b.toNat)))
theorem Lo:∀(a b:List UInt8),EG a b=Op.bytesLess a b
 | [],[]=>rfl
 | [],_::_=>rfl
 | _::_,[]=>rfl
 | a::a9as,b::bs=>by
  show cF (Nat.beq a.toNat b.toNat) (EG a9as bs) (Nat.blt a.toNat b.toNat)=_
  rw [ef,Lo a9as bs,Op.bytesLess]
  have hlt:(a <b)=(a.toNat <b.toNat):=by rw [UInt8.lt_iff_toNat_lt]
  by_cases h:a=b
  ·subst h
   simp [Nat.beq_eq,hlt]
  ·have:¬a.toNat=b.toNat:=fun e=>h (UInt8.toNat_inj.1 e)
   rw [if_neg (by simp [Nat.beq_eq,this])]
   have hb:(a==b)=false:=by simp [h]
   rw [hb,Bool.false_and,Bool.or_false,Bool.eq_iff_iff]
   simp [Nat.blt_eq,hlt]
def Le {α:Type} (o o':Option α):Prop:= ∀v,o=some v→o'=some v
theorem Le.refl {α:Type} (o:Option α):Le o o:=fun _ h=>h
theorem Le.of_eq {α:Type} {o o':Option α} (h:o=o'):Le o o':=fun _ e=>h ▸ e
theorem Le.none {α:Type} (o:Option α):Le (none:Option α) o:=fun _ h=>by simp at h
theorem Le.map {α β:Type} {o o':Option α} (f:α→β) (h:Le o o'):Le (o.map f) (o'.map f):=by
 intro v hv
 rw [Option.map_eq_some_iff] at hv
 obtain ⟨a,h1,h2⟩:=hv
 rw [h a h1,Option.map_some,h2]
noncomputable def EH:IntKind→Nat:= @IntKind.rec (fun _=>Nat) 0 1 2 3 4 5 6 7
noncomputable def EI (k k':IntKind):Bool:=Nat.beq (EH k) (EH k')
theorem WE {k k':IntKind} (h:EI k k'=true):k=k':=by
 unfold EI at h
 rw [Nat.beq_eq] at h
 cases k <;>cases k' <;>first | rfl | (simp [EH] at h)
noncomputable def EJ:BinOp→IntKind→Int→Int→Option aa:= @BinOp.rec (fun _=>IntKind→Int→Int→Option aa)
 (fun k a b=>some (.int k (AA k (Ll a b))))
 (fun k a b=>some (.int k (AA k (EF a b))))
 (fun k a b=>av .mul (.int k a) (.int k b))
 (fun k a b=>av .quo (.int k a) (.int k b))
 (fun k a b=>av .rem (.int k a) (.int k b))
 (fun k a b=>av .and (.int k a) (.int k b))
 (fun k a b=>av .or (.int k a) (.int k b))
 (fun k a b=>av .xor (.int k a) (.int k b))
 (fun k a b=>av .shl (.int k a) (.int k b))
 (fun k a b=>av .shr (.int k a) (.int k b))
 (fun k a b=>av .andNot (.int k a) (.int k b))
 (fun _ a b=>some (.bool (AD a b)))
 (fun _ a b=>some (.bool (cF (AD a b) false true)))
 (fun _ a b=>some (.bool (xC a b)))
 (fun _ a b=>some (.bool (AB a b)))
 (fun _ a b=>some (.bool (xC b a)))
 (fun _ a b=>some (.bool (AB b a)))
theorem WG (op:BinOp) (k:IntKind) (a b:Int):EJ op k a b=av op (.int k a) (.int k b):=by
 cases op <;>simp only [EJ,DC,DD,DE,DF,DG,DH,DI,DJ,Lj,WC,WD,WB,Lk,WA]
 rw [ef]
 simp only [bne]
 cases (a==b) <;>rfl
noncomputable def EK:BinOp→List UInt8→List UInt8→Option aa:= @BinOp.rec (fun _=>List UInt8→List UInt8→Option aa)
 (iy .add) (iy .sub) (iy .mul) (iy .quo) (iy .rem) (iy .and) (iy .or) (iy .xor) (iy .shl) (iy .shr) (iy .andNot)
 (fun a b=>some (.bool (AE a b)))
 (fun a b=>some (.bool (cF (AE a b) false true)))
 (fun a b=>some (.bool (EG a b)))
 (iy .leq) (iy .gtr) (iy .geq)
theorem WH (op:BinOp) (a b:List UInt8):EK op a b=iy op a b:=by
 cases op <;>simp only [EK,iy,Ln,Lo]
 rw [ef]
 cases (a==b) <;>rfl
noncomputable def EL (op:BinOp) (x y:aa):Option aa:=
 match x with
 | .int k a=>match y with
  | .int k' b=>cF (EI k k') (EJ op k a b) (av op (.int k a) (.int k' b))
  | _=>none
 | .str a=>match y with
  | .str b=>EK op a b
  | _=>none
 | _=>none
theorem WI (op:BinOp) (x y:aa):Le (EL op x y) (av op x y):=by
 unfold EL
 split
 ·split
  ·rename_i k a _ k' b
   rw [ef]
   split
   ·rename_i h
    have:=WE h
    subst this
    rw [WG];exact .refl _
   ·exact .refl _
  ·exact .none _
 ·split
  ·rw [WH];exact .refl _
  ·exact .none _
 ·exact .none _
noncomputable def ux {α:Type}:List α→Nat→Option α:= @List.rec α (fun _=>Nat→Option α) (fun _=>none) (fun a _ ih n=>cF (Nat.beq n 0) (some a) (ih (Nat.pred n)))
theorem AF {α:Type}:∀(l:List α) (n:Nat),ux l n=l[n]?
 | [],n=>by simp [ux]
 | a::l,0=>rfl
 | a::l,n+1=>by
  show ux l n=_
  rw [AF l n,List.getElem?_cons_succ]
noncomputable def EM {α:Type}:Nat→List α→Option (List α):= @Nat.rec (fun _=>List α→Option (List α)) (fun _=>some [])
 (fun _ ih=> @List.rec α (fun _=>Option (List α)) none (fun a l _=>(ih l).map (a:: ·)))
theorem Lq {α:Type}:∀(n:Nat) (l:List α),EM n l=if n≤l.length then some (l.take n) else none
 | 0,l=>by
  show some []=_
  simp
 | n+1,[]=>rfl
 | n+1,a::l=>by
  show (EM n l).map (a:: ·)=_
  rw [Lq n l]
  by_cases h:n≤l.length <;>simp [h]
noncomputable def EN {α β:Type} (f:List α→Option β):Nat→List α→Option β:= @Nat.rec (fun _=>List α→Option β) f
 (fun _ ih=> @List.rec α (fun _=>Option β) none (fun _ l _=>ih l))
theorem Lr {α β:Type} (f:List α→Option β):∀(n:Nat) (l:List α),EN f n l=if n≤l.length then f (l.drop n) else none
 | 0,l=>by
  show f l=_
  simp
 | n+1,[]=>rfl
 | n+1,a::l=>by
  show EN f n l=_
  rw [Lr f n l]
  by_cases h:n≤l.length <;>simp [h]
noncomputable def AG (cs:List aa) (o n:Nat):Option (List aa):=EN (EM n) o cs
theorem Ls (cs:List aa) (o n:Nat):AG cs o n=cut cs o n:=by
 unfold AG cut
 rw [Lr]
 by_cases h:o≤cs.length
 ·rw [if_pos h,Lq]
  by_cases h2:o+n≤cs.length
  ·rw [if_pos h2,if_pos (by simp;omega)]
  ·rw [if_neg h2,if_neg (by simp;omega)]
 ·rw [if_neg h,if_neg (by omega)]
noncomputable def xD {α:Type}:List α→List α→Option (List α):= @List.rec α (fun _=>List α→Option (List α)) some
 (fun a _ ih=> @List.rec α (fun _=>Option (List α)) none (fun _ l _=>(ih l).map (a:: ·)))
theorem Lt {α:Type}:∀(xs l:List α),xD xs l=if xs.length≤l.length then some (xs++l.drop xs.length) else none
 | [],l=>by simp [xD]
 | x::xs,[]=>rfl
 | x::xs,a::l=>by
  show (xD xs l).map (x:: ·)=_
  rw [Lt xs l]
  by_cases h:xs.length≤l.length <;>simp [h]
noncomputable def EO (xs:List aa):Nat→List aa→Option (List aa):= @Nat.rec (fun _=>List aa→Option (List aa)) (xD xs)
 (fun _ ih=> @List.rec aa (fun _=>Option (List aa)) none (fun a l _=>(ih l).map (a:: ·)))
theorem Lu (xs:List aa):∀(o:Nat) (l:List aa),EO xs o l=if o+xs.length≤l.length then some (put l o xs) else none
 | 0,l=>by
  show xD xs l=_
  rw [Lt]
  simp [put]
 | o+1,[]=>by
  show none=_
  simp
 | o+1,a::l=>by
  show (EO xs o l).map (a:: ·)=_
  rw [Lu xs o l]
  by_cases h:o+xs.length≤l.length
  ·rw [if_pos h,if_pos (by simp;omega)]
   simp [put,Nat.add_right_comm o 1]
  ·rw [if_neg h,if_neg (by simp;omega)]
   rfl
noncomputable def xE {α:Type}:List α→Nat:= @List.rec α (fun _=>Nat) 0 (fun _ _ ih=>Nat.succ ih)
theorem AH {α:Type}:∀l:List α,xE l=l.length
 | []=>rfl
 | a::l=>by show Nat.succ (xE l)=_;rw [AH l];rfl
noncomputable def AI:List aa→Bool:= @List.rec aa (fun _=>Bool) true (fun a _ ih=>cF a.one ih false)
theorem EP:∀l:List aa,AI l=l.all (·.one)
 | []=>rfl
 | a::l=>by
  show cF a.one (AI l) false=_
  rw [ef,EP l,List.all_cons]
  cases a.one <;>rfl
noncomputable def AJ:Tr→Nat→Option dB:= @Tr.rec (fun _=>Nat→Option dB) (fun _=>none)
 (fun _ v _ ihl ihr n=>cF (Nat.beq n 0) v (cF (Nat.beq (Nat.mod n 2) 1) (ihl (Nat.div n 2)) (ihr (Nat.pred (Nat.div n 2)))))
theorem ER:∀(t:Tr) (n:Nat),AJ t n=t.get n
 | .lf,n=>rfl
 | .nd l v r,n=>by
  show cF (Nat.beq n 0) v (cF (Nat.beq (n % 2) 1) (AJ l (n / 2)) (AJ r (n / 2 - 1)))=_
  rw [ef,ef,ER l,ER r,Tr.get]
  simp only [Nat.beq_eq]
noncomputable def xF (x:dB):Nat→Tr→Nat→Tr:= @Nat.rec (fun _=>Tr→Nat→Tr) (fun t _=>t)
 (fun _ ih t n=>cF (Nat.beq n 0) (.nd t.left (some x) t.right) (cF (Nat.beq (Nat.mod n 2) 1) (.nd (ih t.left (Nat.div n 2)) t.val t.right) (.nd t.left t.val (ih t.right (Nat.pred (Nat.div n 2))))))
theorem AK (x:dB):∀(f g:Nat) (t:Tr) (n:Nat),n+1 <2 ^ f→n <g→xF x f t n=Tr.set x g t n
 | f,0,t,n,_,h=>by omega
 | 0,g+1,t,n,h,h'=>by simp at h
 | f+1,g+1,t,n,h,h'=>by
  have hp:2 ^ (f+1)=2 * 2 ^ f:=by rw [Nat.pow_succ];omega
  show cF (Nat.beq n 0) (Tr.nd t.left (some x) t.right) (cF (Nat.beq (n % 2) 1) (Tr.nd (xF x f t.left (n / 2)) t.val t.right) (Tr.nd t.left t.val (xF x f t.right (n / 2 - 1))))=_
  rw [ef,ef,Tr.set]
  simp only [Nat.beq_eq]
  by_cases h0:n=0
  ·rw [if_pos h0,if_pos h0]
  ·rw [if_neg h0,if_neg h0]
   by_cases h1:n % 2=1
   ·rw [if_pos h1,if_pos h1,AK x f g _ _ (by omega) (by omega)]
   ·rw [if_neg h1,if_neg h1,AK x f g _ _ (by omega) (by omega)]
noncomputable def AL (n:Nat):Bool:=Nat.blt n 1099511627775
theorem Lv {n:Nat} (h:AL n=true):n+1 <2 ^ 40:=by
 have:n <1099511627775:=by simpa [AL,Nat.blt_eq] using h
 omega
noncomputable def ES (H:ah) (b:Nat):Option dB:=cF (Nat.blt b H.next) (AJ H.tr b) none
theorem WJ (H:ah) (b:Nat):ES H b=H.get b:=by
 unfold ES ah.get
 rw [ef,ER]
 simp only [Nat.blt_eq]
noncomputable def ET (H:ah) (b:Nat) (x:dB):ah:=cF (AL b) ⟨H.next,xF x 40 H.tr b⟩ (H.set b x)
theorem WK (H:ah) (b:Nat) (x:dB):ET H b x=H.set b x:=by
 unfold ET
 rw [ef]
 split
 ·rename_i h
  rw [AK x 40 (b+1) _ _ (Lv h) (Nat.lt_succ_self _)]
  rfl
 ·rfl
noncomputable def xG (H:ah) (x:dB):ah:=cF (AL H.next) ⟨Nat.succ H.next,xF x 40 H.tr H.next⟩ (H.push x)
theorem Lw (H:ah) (x:dB):xG H x=H.push x:=by
 unfold xG
 rw [ef]
 split
 ·rename_i h
  rw [AK x 40 (H.next+1) _ _ (Lv h) (Nat.lt_succ_self _)]
  rfl
 ·rfl
def WL:Option dB→Option (List aa)
 | some (.cells cs)=>some cs
 | _=>none
noncomputable def AM (H:ah) (b:Nat):Option (List aa):=WL (ES H b)
theorem Lx (H:ah) (b:Nat):AM H b=H.cells b:=by
 unfold AM
 rw [WJ]
 rfl
def addrOf:aa→Option (Nat × Nat)
 | .ptr a=>a
 | _=>none
noncomputable def xH (H:ah) (agg:Option Nat) (a:aa):Option aa:=
 match addrOf a with
 | some (b,o)=>match AM H b with
  | some cs=>match agg with
   | none=>ux cs o
   | some n=>(AG cs o n).map .agg
  | none=>none
 | none=>none
theorem Lz (H:ah) (agg:Option Nat) (a:aa):Le (xH H agg a) (aB H agg a):=by
 unfold xH
 split
 ·rename_i b o ha
  obtain rfl:a= .ptr (some (b,o)):=by cases a <;>simp [addrOf] at ha;rw [ha]
  simp only [Lx,aB]
  split
  ·rename_i cs hc
   simp only [hc]
   cases agg with
   | none=>simp only [AF];exact .refl _
   | some n=>simp only [Ls];exact .refl _
  ·exact .none _
 ·exact .none _
noncomputable def xI (lim:Nat) (H:ah) (n:Nat) (a x:aa):Option ah:=
 match addrOf a with
 | some (b,o)=>match AM H b with
  | some cs=>cF (Nat.ble lim b) (cF (Nat.beq (xE x.cells) n) (cF (AI x.cells) ((EO x.cells o cs).map fun cs=>ET H b (.cells cs)) none) none) none
  | none=>none
 | none=>none
theorem WM (lim:Nat) (H:ah) (n:Nat) (a x:aa):Le (xI lim H n a x) (bp lim H n a x):=by
 unfold xI
 split
 ·rename_i b o ha
  obtain rfl:a= .ptr (some (b,o)):=by cases a <;>simp [addrOf] at ha;rw [ha]
  simp only [Lx,bp]
  split
  ·rename_i cs hc
   simp only [hc,ef,Nat.ble_eq,Nat.beq_eq,AH,EP,Lu,WK]
   intro v hv
   split at hv
   ·rename_i h1
    split at hv
    ·rename_i h2
     split at hv
     ·rename_i h3
      rw [Option.map_eq_some_iff] at hv
      obtain ⟨cs',h4,h5⟩:=hv
      split at h4
      ·rename_i h6
       simp at h4;subst h4
       rw [if_pos ⟨h1,h2,by omega,h3⟩,h5]
      ·simp at h4
     ·simp at hv
    ·simp at hv
   ·simp at hv
  ·exact .none _
 ·exact .none _
noncomputable def LA:aa→Option Nat
 | .int _ n=> @Int.rec (fun _=>Option Nat) some (fun _=>none) n
 | _=>none
theorem WN (v:aa):LA v=kA v:=by
 cases v with
 | int k n=>
  cases n with
  | ofNat a=>rfl
  | negSucc a=>
   show none=(if 0≤Int.negSucc a then some (Int.negSucc a).toNat else none)
   rw [if_neg (by omega)]
 | _=>rfl
noncomputable def EU (arr:Option Nat) (sz:Nat) (x i:aa):Option aa:=
 match LA i with
 | some j=>match arr with
  | none=>match x with
   | .sl (some (b,o)) n _=>cF (Nat.blt j n) (some (.ptr (some (b,Nat.add o (Nat.mul j sz))))) none
   | _=>none
  | some n=>match x with
   | .ptr (some (b,o))=>cF (Nat.blt j n) (some (.ptr (some (b,Nat.add o (Nat.mul j sz))))) none
   | _=>none
 | none=>none
theorem WO (arr:Option Nat) (sz:Nat) (x i:aa):Le (EU arr sz x i) (cD arr sz x i):=by
 unfold EU cD
 rw [WN]
 split
 ·rename_i j hj
  simp only [hj]
  split
  ·split
   ·rw [ef];simp only [Nat.blt_eq];exact .refl _
   ·exact .none _
  ·split
   ·rw [ef];simp only [Nat.blt_eq];exact .refl _
   ·exact .none _
 ·exact .none _
noncomputable def EV (cs:List aa) (off:Nat) (agg:Option Nat):Option aa:=
 match agg with
 | none=>ux cs off
 | some n=>(AG cs off n).map .agg
theorem WQ (cs:List aa) (off:Nat) (agg:Option Nat):EV cs off agg=partOf cs off agg:=by
 unfold EV partOf
 cases agg with
 | none=>simp only [AF]
 | some n=>simp only [Ls]
inductive TV where
 | lf
 | nd (l:TV) (v:aa) (r:TV)
def TV.left:TV→TV
 | .lf=> .lf
 | .nd l _ _=>l
def TV.right:TV→TV
 | .lf=> .lf
 | .nd _ _ r=>r
def TV.val:TV→aa
 | .lf=>bA
 | .nd _ v _=>v
noncomputable def TV.get:TV→Nat→aa:= @TV.rec (fun _=>Nat→aa) (fun _=>bA)
 (fun _ v _ ihl ihr n=>cF (Nat.beq n 0) v (cF (Nat.beq (Nat.mod n 2) 1) (ihl (Nat.div n 2)) (ihr (Nat.pred (Nat.div n 2)))))
noncomputable def TV.AN (x:aa):Nat→TV→Nat→TV:= @Nat.rec (fun _=>TV→Nat→TV) (fun t _=>t)
 (fun _ ih t n=>cF (Nat.beq n 0) (.nd t.left x t.right) (cF (Nat.beq (Nat.mod n 2) 1) (.nd (ih t.left (Nat.div n 2)) t.val t.right) (.nd t.left t.val (ih t.right (Nat.pred (Nat.div n 2))))))
noncomputable def TV.set (t:TV) (n:Nat) (x:aa):TV:=TV.AN x 20 t n
theorem TV.get_eq (t:TV) (n:Nat):t.get n=if n=0 then t.val else if n % 2=1 then t.left.get (n / 2) else t.right.get (n / 2 - 1):=by
 cases t with
 | lf=>
  simp only [TV.val,TV.left,TV.right]
  show bA=if n=0 then bA else if n % 2=1 then bA else bA
  split
  ·rfl
  ·split <;>rfl
 | nd l v r=>
  show cF (Nat.beq n 0) v (cF (Nat.beq (n % 2) 1) (l.get (n / 2)) (r.get (n / 2 - 1)))=_
  rw [ef,ef]
  simp only [Nat.beq_eq,TV.val,TV.left,TV.right]
theorem TV.EW (l:TV) (v:aa) (r:TV) (n:Nat):(TV.nd l v r).get n=if n=0 then v else if n % 2=1 then l.get (n / 2) else r.get (n / 2 - 1):=by rw [TV.get_eq];rfl
theorem TV.AO (x:aa):∀(f:Nat) (t:TV) (n m:Nat),n+1 <2 ^ f→(TV.AN x f t n).get m=if m=n then x else t.get m
 | 0,t,n,m,h=>by simp at h
 | f+1,t,n,m,h=>by
  have hp:2 ^ (f+1)=2 * 2 ^ f:=by rw [Nat.pow_succ];omega
  show TV.get (cF (Nat.beq n 0) (.nd t.left x t.right) (cF (Nat.beq (n % 2) 1) (.nd (TV.AN x f t.left (n / 2)) t.val t.right) (.nd t.left t.val (TV.AN x f t.right (n / 2 - 1))))) m=_
  rw [ef,ef,TV.get_eq t m]
  simp only [Nat.beq_eq]
  by_cases h0:n=0
  ·subst h0
   rw [if_pos rfl,TV.EW]
   by_cases hm:m=0 <;>simp [hm]
  ·rw [if_neg h0]
   by_cases h1:n % 2=1
   ·rw [if_pos h1,TV.EW]
    by_cases hm:m=0
    ·subst hm;simp [Ne.symm h0]
    ·by_cases hm1:m % 2=1
     ·simp only [hm,hm1,if_true,if_false]
      rw [TV.AO x f _ _ _ (by omega)]
      by_cases e:m=n
      ·simp [e]
      ·rw [if_neg (by omega),if_neg e]
     ·simp only [hm,hm1,if_false]
      rw [if_neg (by omega)]
   ·rw [if_neg h1,TV.EW]
    by_cases hm:m=0
    ·subst hm;simp [Ne.symm h0]
    ·by_cases hm1:m % 2=1
     ·simp only [hm,hm1,if_true,if_false]
      rw [if_neg (by omega)]
     ·simp only [hm,hm1,if_false]
      rw [TV.AO x f _ _ _ (by omega)]
      by_cases e:m=n
      ·simp [e]
      ·rw [if_neg (by omega),if_neg e]
def fY (t:TV) (T:List aa):Prop:= ∀i,t.get i=T.getD i bA
theorem fY.set {t:TV} {T:List aa} (h:fY t T) {d:Nat} (hd:d <T.length) (hd2:d <100000) (v:aa):fY (t.set d v) (T.set d v):=by
 intro i
 rw [TV.set,TV.AO v 20 t d i (by omega),h i]
 simp only [List.getD_eq_getElem?_getD,List.getElem?_set]
 by_cases e:i=d
 ·subst e;simp [hd]
 ·rw [if_neg e,if_neg (fun e'=>e e'.symm)]
noncomputable def AP:List aa→Nat→TV→TV:= @List.rec aa (fun _=>Nat→TV→TV) (fun _ t=>t) (fun v _ ih i t=>ih (Nat.succ i) (t.set i v))
theorem LB:∀(l:List aa) (i:Nat) (t:TV) (j:Nat),i+l.length <100000→(AP l i t).get j=if i≤j∧j <i+l.length then l.getD (j - i) bA else t.get j
 | [],i,t,j,_=>by
  show t.get j=_
  rw [if_neg (by simp)]
 | v::l,i,t,j,h=>by
  show (AP l (i+1) (t.set i v)).get j=_
  simp only [List.length_cons] at h
  rw [LB l (i+1) _ j (by omega),TV.set,TV.AO v 20 t i j (by omega)]
  simp only [List.length_cons]
  by_cases h1:i+1≤j∧j <i+1+l.length
  ·rw [if_pos h1,if_pos (by omega)]
   obtain ⟨k,hk⟩:∃k,j - i=k+1:=⟨j - i - 1,by omega⟩
   rw [hk,show j - (i+1)=k by omega]
   rfl
  ·rw [if_neg h1]
   by_cases e:j=i
   ·subst e
    rw [if_pos rfl,if_pos (by omega)]
    simp
   ·rw [if_neg e,if_neg (by omega)]
theorem fY.enter {args:List aa} {k:Nat} (h:args.length <100000):fY (AP args 0 .lf) (args++List.replicate k bA):=by
 intro i
 rw [LB args 0 .lf i (by omega)]
 simp only [List.getD_eq_getElem?_getD,List.getElem?_append,Nat.sub_zero,Nat.zero_le,true_and,Nat.zero_add]
 by_cases hi:i <args.length
 ·rw [if_pos hi,if_pos hi]
 ·rw [if_neg hi,if_neg hi]
  show bA=_
  rw [List.getElem?_replicate]
  split <;>rfl
end Go.au
end
section
set_option linter.unusedSimpArgs false
set_option linter.unusedVariables false
set_option linter.unusedSectionVars false
namespace Go.au
variable [Gl]
noncomputable def kV (t:TV):aP→aa:= @aP.rec (fun _=>aa) (fun i=>t.get i) (fun v=>v)
theorem EX {t:TV} {T:List aa} (h:fY t T):kV t=St.ev T:=by
 funext x
 cases x with
 | tmp i=>exact h i
 | val v=>rfl
abbrev LC:=aq→Nat→(aP→aa)→ah→Option (aa × ah)
def vH (H:ah) (o:Option aa):Option (aa × ah):=
 match o with
 | some v=>some (v,H)
 | none=>none
theorem EY (H:ah) (o:Option aa):vH H o=val H o:=by cases o <;>rfl
def hU (o:Option ah):Option (aa × ah):=
 match o with
 | some H=>some (bA,H)
 | none=>none
noncomputable def EZ (neg:Bool) (k:rC) (x y:aa):Option aa:=
 match aeq k x y with
 | some b=>some (.bool (cF neg (cF b false true) b))
 | none=>none
noncomputable def E0 (k:IntKind):aa→Option aa
 | .int _ n=>some (.int k (AA k n))
 | _=>none
def aga (i:Nat):aa→Option aa
 | .bq vs=>vs[i]?
 | _=>none
noncomputable def E1 (i:Nat):aa→Option aa
 | .bq vs=>ux vs i
 | _=>none
def LD (off:Nat) (x:aa):Option aa:=
 match addrOf x with
 | some (b,o)=>some (.ptr (some (b,Nat.add o off)))
 | none=>none
def LF (x:aa):Option aa:=
 match addrOf x with
 | some a=>some (.ptr (some a))
 | none=>none
noncomputable def E2 (off:Nat) (agg:Option Nat):aa→Option aa
 | .agg cs=>EV cs off agg
 | _=>none
def LG (x y:aa):aa→Option aa
 | .bool t=>some (match t with | true=>x | false=>y)
 | _=>none
noncomputable def E3 (H:ah) (x:aa):Option (aa × ah):=cF (AI x.cells) (some (.ptr (some (H.next,0)),xG H (.cells x.cells))) none
noncomputable def AQ (str:Bool):aa→Option aa
 | .sl _ n _=>cF str none (some (.int .i64 (.ofNat n)))
 | .str s=>cF str (some (.int .i64 (.ofNat (xE s)))) none
 | _=>none
def LH (R:aq) (lim:Nat) (x:aa) (args:List aa) (H:ah):Option (aa × ah):=
 match x with
 | .fn f first captured=>R lim (.fn f) (first++args++captured) H
 | .yl b=>R lim (.yl b) args H
 | _=>none
def E4 (R:aq) (lim:Nat) (tab:List (TypeId × FuncId)) (x:aa) (args:List aa) (H:ah):Option (aa × ah):=
 match x with
 | .iface t v=>match tab.lookup t with
  | some f=>R lim (.fn f) (v::args) H
  | none=>none
 | _=>none
noncomputable def xJ:bG→LC:= @bG.rec (fun _=>LC)
 (fun x _ _ ev H=>some (ev x,H))
 (fun c a b _ _ ev H=>vH H (LG (ev a) (ev b) (ev c)))
 (fun z _ _ _ H=>some (.ptr (some (H.next,0)),xG H (.cells z)))
 (fun x _ _ ev H=>E3 H (ev x))
 (fun z ps R lim ev H=>step R lim ev H (.build z ps))
 (fun z n ps R lim ev H=>step R lim ev H (.buildSlice z n ps))
 (fun g a _ _ ev H=>vH H (xH H g (ev a)))
 (fun n a x _ lim ev H=>hU (xI lim H n (ev a) (ev x)))
 (fun x _ _ ev H=>vH H (LF (ev x)))
 (fun op x y _ _ ev H=>vH H (EL op (ev x) (ev y)))
 (fun neg k x y _ _ ev H=>vH H (EZ neg k (ev x) (ev y)))
 (fun op x R lim ev H=>step R lim ev H (.un op x))
 (fun k x _ _ ev H=>vH H (E0 k (ev x)))
 (fun x R lim ev H=>step R lim ev H (.rD x))
 (fun x R lim ev H=>step R lim ev H (.jT x))
 (fun x R lim ev H=>step R lim ev H (.iU x))
 (fun t x _ _ ev H=>some (.iface t (ev x),H))
 (fun f xs ys _ _ ev H=>some (.fn f (xs.map ev) (ys.map ev),H))
 (fun z b l c R lim ev H=>step R lim ev H (.makeSlice z b l c))
 (fun sz x lo hi mx R lim ev H=>step R lim ev H (.slice sz x lo hi mx))
 (fun x lo hi R lim ev H=>step R lim ev H (.dP x lo hi))
 (fun n sz x lo hi mx R lim ev H=>step R lim ev H (.iV n sz x lo hi mx))
 (fun x off _ _ ev H=>vH H (LD off (ev x)))
 (fun x off g _ _ ev H=>vH H (E2 off g (ev x)))
 (fun arr sz x i _ _ ev H=>vH H (EU arr sz (ev x) (ev i)))
 (fun n sz g x i R lim ev H=>step R lim ev H (.index n sz g x i))
 (fun x i R lim ev H=>step R lim ev H (.cr x i))
 (fun x i _ _ ev H=>vH H (E1 i (ev x)))
 (fun f xs R lim ev H=>R lim (.fn f) (xs.map ev) H)
 (fun x xs R lim ev H=>LH R lim (ev x) (xs.map ev) H)
 (fun tab x xs R lim ev H=>E4 R lim tab (ev x) (xs.map ev) H)
 (fun n x R lim ev H=>step R lim ev H (.bound n x))
 (fun tab x R lim ev H=>step R lim ev H (.nilFn tab x))
 (fun z b zs s x R lim ev H=>step R lim ev H (.append z b zs s x))
 (fun sz d s R lim ev H=>step R lim ev H (.copy sz d s))
 (fun s x _ _ ev H=>vH H (AQ s (ev x)))
 (fun x R lim ev H=>step R lim ev H (.cap x))
 (fun m xs R lim ev H=>step R lim ev H (.kr m xs))
 (fun h R lim ev H=>step R lim ev H (.makeMap h))
 (fun g ls z ok m k R lim ev H=>step R lim ev H (.lookup g ls z ok m k))
 (fun g ls m k v R lim ev H=>step R lim ev H (.mapUpdate g ls m k v))
 (fun g ls m k R lim ev H=>step R lim ev H (.vh g ls m k))
 (fun g ls z m k R lim ev H=>step R lim ev H (.tC g ls z m k))
 (fun g ls m s v R lim ev H=>step R lim ev H (.rF g ls m s v))
 (fun m R lim ev H=>step R lim ev H (.vi m))
 (fun m R lim ev H=>step R lim ev H (.vk m))
 (fun z x R lim ev H=>step R lim ev H (.vm z x))
 (fun _ _ _ _ _=>none)
 (fun _ _ _ _ _=>none)
 (fun _ _ _ _ _=>none)
 (fun _ _ _ _=>none)
def oX (RF R:aq):Prop:= ∀lim tg args H,Le (RF lim tg args H) (R lim tg args H)
theorem Le.vH {H:ah} {o o':Option aa} (h:Le o o'):Le (vH H o) (val H o'):=by rw [EY];exact h.map _
theorem E5 {RF R:aq} (hR:oX RF R) {lim:Nat} {ev:aP→aa} {H:ah} {op:bG}:Le (step RF lim ev H op) (step R lim ev H op):=by
 cases op <;>try exact .refl _
 case call f xs=>exact hR _ _ _ _
 case m6 x xs=>
  simp only [step]
  generalize ev x=y
  cases y <;>first | exact .refl _ | exact hR _ _ _ _
 case invoke tab x xs=>
  simp only [step]
  generalize ev x=y
  cases y <;>try exact .refl _
  rename_i t v
  dsimp only
  cases tab.lookup t with
  | none=>exact .refl _
  | some f=>exact hR _ _ _ _
theorem WR {RF R:aq} (hR:oX RF R) {lim:Nat} {ev:aP→aa} {H:ah} {op:bG}:Le (xJ op RF lim ev H) (step R lim ev H op):=by
 cases op
 case an x=>exact .refl _
 case pick c a b=>
  simp only [step]
  show Le (vH H (LG (ev a) (ev b) (ev c))) _
  generalize ev c=y
  cases y <;>try exact .none _
  rename_i t
  cases t <;>exact .refl _
 case alloc z=>
  show Le (some (aa.ptr (some (H.next,0)),xG H (.cells z))) _
  rw [Lw];exact .refl _
 case box x=>
  show Le (E3 H (ev x)) _
  unfold E3
  rw [Lw,ef,EP]
  exact .refl _
 case load g a=>exact Le.vH (Lz H g (ev a))
 case store n a x=>
  show Le (hU (xI lim H n (ev a) (ev x))) ((bp lim H n (ev a) (ev x)).map fun H=>(bA,H))
  intro v hv
  cases h:xI lim H n (ev a) (ev x) with
  | none=>rw [h] at hv;simp [hU] at hv
  | some H'=>
   rw [h] at hv
   rw [WM lim H n _ _ H' h]
   exact hv
 case nilCheck x=>
  simp only [step]
  show Le (vH H (LF (ev x))) _
  generalize ev x=y
  cases y <;>try exact .none _
  rename_i a
  cases a <;>first | exact .refl _ | exact .none _
 case bin op x y=>exact Le.vH (WI op _ _)
 case eqv neg k x y=>
  show Le (vH H (EZ neg k (ev x) (ev y))) (val H _)
  refine Le.vH (.of_eq ?_)
  unfold EZ
  cases aeq k (ev x) (ev y) with
  | none=>rfl
  | some b=>cases neg <;>cases b <;>rfl
 case bY k x=>
  simp only [step]
  show Le (vH H (E0 k (ev x))) _
  generalize ev x=y
  cases y <;>try exact .none _
  simp only [E0,Lj]
  exact .refl _
 case fieldAddr x off=>
  simp only [step]
  show Le (vH H (LD off (ev x))) _
  generalize ev x=y
  cases y <;>try exact .none _
  rename_i a
  cases a <;>first | exact .refl _ | exact .none _
 case field x off g=>
  simp only [step]
  show Le (vH H (E2 off g (ev x))) _
  generalize ev x=y
  cases y <;>try exact .none _
  simp only [E2,WQ,EY]
  exact .refl _
 case indexAddr arr sz x i=>exact Le.vH (WO _ _ _ _)
 case extract x i=>
  simp only [step]
  show Le (vH H (E1 i (ev x))) _
  generalize ev x=y
  cases y <;>try exact .none _
  simp only [E1,AF,EY]
  exact .refl _
 case len s x=>
  show Le (vH H (AQ s (ev x))) (val H (bh s (ev x)))
  refine Le.vH ?_
  generalize ev x=y
  cases y <;>try exact .none _
  ·simp only [AQ,bh,AH,ef];exact .refl _
  ·simp only [AQ,bh,ef];exact .refl _
 case m6 x xs=>
  show Le (LH RF lim (ev x) (xs.map ev) H) _
  simp only [step]
  generalize ev x=y
  cases y <;>first | exact .none _ | exact hR _ _ _ _
 case invoke tab x xs=>
  show Le (E4 RF lim tab (ev x) (xs.map ev) H) _
  simp only [step]
  generalize ev x=y
  cases y <;>try exact .none _
  rename_i t v
  simp only [E4]
  cases tab.lookup t with
  | none=>exact .refl _
  | some f=>exact hR _ _ _ _
 all_goals first | exact E5 hR | exact .refl _ | exact hR _ _ _ _ | exact .none _
inductive OR where
 | no
 | ok (t:TV) (H:ah)
noncomputable def xK (t:TV) (v:aa) (d:Option Nat):TV:= @Option.rec Nat (fun _=>TV) t (fun i=>t.set i v) d
def LI (w:Bool):aa→Bool
 | .bool b=>b==w
 | _=>false
noncomputable def LJ (t:TV) (g:Option (Nat × Bool)):Bool:= @Option.rec (Nat × Bool) (fun _=>Bool) true (fun p=>LI p.2 (t.get p.1)) g
def aY.LK (o:aY) (ev:aP→aa):Bool:=
 match o.apart,o.op with
 | [],_=>true
 | ys,.load _ a=>ys.all fun y=>vv (ev a) (ev y)
 | _,_=>false
def aY.LL (o:aY) (ev:aP→aa) (H H':ah):Bool:=
 o.apart.all fun y=>match lq (ev y) with
  | some b=>pZ (H.get b) (H'.get b)
  | none=>true
noncomputable def uy (t:TV) (d:Option Nat) (r:Option (aa × ah)):OR:= @Option.rec (aa × ah) (fun _=>OR) .no (fun p=> .ok (xK t p.1 d) p.2) r
noncomputable def uz (o:aY) (lim:Nat) (H:ah):Nat:=cF o.cQ H.next lim
noncomputable def E6 (o:aY) (R:aq) (lim:Nat) (t:TV) (H:ah):OR:=
 match o.LK (kV t) with
 | true=>uy t o.dst (xJ o.op R (uz o lim H) (kV t) H)
 | false=>match o.op.lu with
  | true=>match xJ o.op R (uz o lim H) (kV t) H with
   | some (v,H')=>match o.LL (kV t) H H' with
    | true=> .ok (xK t v o.dst) H'
    | false=> .no
   | none=> .no
  | false=> .no
noncomputable def xL (o:aY) (R:aq) (lim:Nat) (t:TV) (H:ah):OR:=
 cF (LJ t o.guard)
  (@List.rec aP (fun _=>OR) (uy t o.dst (xJ o.op R (uz o lim H) (kV t) H)) (fun _ _ _=>E6 o R lim t H) o.apart)
  (.ok (xK t bA o.dst) H)
noncomputable def uA (R:aq) (lim:Nat):List aY→TV→ah→OR:= @List.rec aY (fun _=>TV→ah→OR) (fun t H=> .ok t H)
 (fun o _ ih t H=> @OR.rec (fun _=>OR) .no (fun t H=>ih t H) (xL o R lim t H))
def xM (N:Nat) (o:aY):Bool:=match o.dst with
 | some d=>Nat.blt d N
 | none=>true
theorem E7 {t:TV} {T:List aa} {o:aY} {N:Nat} (h:fY t T) (hN:T.length=N) (jK:N <100000) (hd:xM N o=true) (v:aa):fY (xK t v o.dst) (dc T o.dst v):=by
 unfold xM at hd
 cases z7:o.dst with
 | none=>exact h
 | some d=>
  rw [z7] at hd
  simp only [Nat.blt_eq] at hd
  exact h.set (by omega) (by omega) v
theorem want_eq {t:TV} {T:List aa} (h:fY t T) (g:Option (Nat × Bool)):LJ t g=eF T g:=by
 cases g with
 | none=>rfl
 | some p=>
  obtain ⟨j,w⟩:=p
  show LI w (t.get j)=eF T (some (j,w))
  rw [h j,List.getD_eq_getElem?_getD]
  unfold eF
  dsimp only
  cases hj:T[j]? with
  | none=>rfl
  | some v=>cases v <;>rfl
theorem ahw (T:List aa) (d:Option Nat) (v:aa):(dc T d v).length=T.length:=by
 cases d <;>simp [dc]
theorem WS {t t':TV} {d:Option Nat} {r:Option (aa × ah)} {H':ah} (h:uy t d r= .ok t' H'):∃v,r=some (v,H')∧t'=xK t v d:=by
 cases r with
 | none=>simp [uy] at h
 | some p=>
  simp only [uy,OR.ok.injEq] at h
  exact ⟨p.1,by rw [←h.2],h.1.symm⟩
theorem WT {RF R:aq} (hR:oX RF R) {o:aY} {lim N:Nat} {t t':TV} {T:List aa} {H H':ah} (ht:fY t T) (hN:T.length=N) (jK:N <100000) (hd:xM N o=true) (h:xL o RF lim t H= .ok t' H'):
  ∃T',execOp R lim o ⟨T,H⟩=some ⟨T',H'⟩∧fY t' T'∧T'.length=N:=by
 have rQ:=EX ht
 have hlim:uz o lim H=if o.cQ=true then H.next else lim:=by unfold uz;rw [ef]
 have fin:∀{r:Option (aa × ah)},Le r (step R (if o.cQ=true then H.next else lim) (St.ev T) H o.op)→uy t o.dst r= .ok t' H'→o.clear T=true→eF T o.guard=true→ ∃T',execOp R lim o ⟨T,H⟩=some ⟨T',H'⟩∧fY t' T'∧T'.length=N:=by
  intro r hr hp hc hw
  obtain ⟨v,rfl,rfl⟩:=WS hp
  refine ⟨dc T o.dst v,?_,E7 ht hN jK hd v,by rw [ahw,hN]⟩
  unfold execOp
  simp only [hw,if_true,hc,Bool.not_true,Bool.false_eq_true,if_false,hr _ rfl]
 have hst:Le (xJ o.op RF (uz o lim H) (kV t) H) (step R (if o.cQ=true then H.next else lim) (St.ev T) H o.op):=by
  rw [hlim,rQ];exact WR hR
 unfold xL at h
 rw [ef,want_eq ht] at h
 split at h
 ·rename_i hw
  cases hap:o.apart with
  | nil=>
   rw [hap] at h
   exact fin hst h (by unfold aY.clear;rw [hap]) hw
  | cons y ys=>
   rw [hap] at h
   replace h:E6 o RF lim t H= .ok t' H':=h
   unfold E6 at h
   have cR:o.LK (kV t)=o.clear T:=by rw [rQ];rfl
   rw [cR] at h
   split at h
   ·rename_i hc
    exact fin hst h hc hw
   ·rename_i hc
    split at h
    ·rename_i iC
     split at h
     ·rename_i v H1 hs
      have hs':=hst _ hs
      have hk:o.LL (kV t) H H1=o.kept T H H1:=by rw [rQ];rfl
      rw [hk] at h
      split at h
      ·rename_i Ap
       simp only [OR.ok.injEq] at h
       obtain ⟨rfl,rfl⟩:=h
       refine ⟨dc T o.dst v,?_,E7 ht hN jK hd v,by rw [ahw,hN]⟩
       unfold execOp
       simp only [hw,if_true,hc,Bool.not_false,vA,iC,hs',Ap]
      ·simp at h
     ·simp at h
    ·simp at h
 ·rename_i hw
  simp only [OR.ok.injEq] at h
  obtain ⟨rfl,rfl⟩:=h
  refine ⟨dc T o.dst bA,?_,E7 ht hN jK hd bA,by rw [ahw,hN]⟩
  unfold execOp
  simp only [hw,if_false,Bool.false_eq_true]
theorem LM {RF R:aq} (hR:oX RF R) {lim N:Nat} (jK:N <100000):∀(os:List aY) {t t':TV} {T:List aa} {H H':ah},fY t T→T.length=N→os.all (xM N)=true→uA RF lim os t H= .ok t' H'→
  ∃T',ep R lim os ⟨T,H⟩=some ⟨T',H'⟩∧fY t' T'∧T'.length=N
 | [],t,t',T,H,H',ht,hN,_,h=>by
  simp only [uA,OR.ok.injEq] at h
  obtain ⟨rfl,rfl⟩:=h
  exact ⟨T,rfl,ht,hN⟩
 | o::os,t,t',T,H,H',ht,hN,hd,h=>by
  simp only [List.all_cons,Bool.and_eq_true] at hd
  replace h: @OR.rec (fun _=>OR) .no (fun t H=>uA RF lim os t H) (xL o RF lim t H)= .ok t' H':=h
  cases h1:xL o RF lim t H with
  | no=>rw [h1] at h;simp at h
  | ok t1 H1=>
   rw [h1] at h
   obtain ⟨T1,e1,r1,n1⟩:=WT hR ht hN jK hd.1 h1
   obtain ⟨T2,e2,r2,n2⟩:=LM hR jK os r1 n1 hd.2 h
   exact ⟨T2,by simp only [ep,e1,e2],r2,n2⟩
inductive XR where
 | no
 | ok (e:Ex) (t:TV) (H:ah)
noncomputable def toL (N:Nat) (t:TV):List aa:=(List.range N).map t.get
theorem toL_eq {t:TV} {T:List aa} {N:Nat} (h:fY t T) (hN:T.length=N):toL N t=T:=by
 unfold toL
 refine List.ext_getElem? fun i=> ?_
 rw [List.getElem?_map]
 by_cases hi:i <N
 ·rw [List.getElem?_range hi,Option.map_some,h i,List.getD_eq_getElem?_getD]
  cases hT:T[i]? with
  | none=>rw [List.getElem?_eq_none_iff] at hT;omega
  | some v=>rfl
 ·rw [List.getElem?_eq_none (by simpa using hi),List.getElem?_eq_none (by omega)];rfl
noncomputable def xN (body:TV→ah→XR):Nat→TV→ah→XR:= @Nat.rec (fun _=>TV→ah→XR) (fun _ _=> .no)
 (fun _ ih t H=> @XR.rec (fun _=>XR) .no (fun e t H=> @Ex.rec (fun _=>XR) (ih t H) (fun id=> .ok (.exit id) t H) (.ok .ret t H) e) (body t H))
noncomputable def uB (id:Nat) (r:XR):XR:= @XR.rec (fun _=>XR) .no (fun e t H=> @Ex.rec (fun _=>XR) (.ok .norm t H) (fun id'=>cF (Nat.beq id' id) (.ok .norm t H) (.ok (.exit id') t H)) (.ok .ret t H) e) r
noncomputable def E8 (a b:TV→ah→XR) (t:TV) (H:ah):aa→XR
 | .bool c=>cF c (a t H) (b t H)
 | _=> .no
def E9 (R:aq) (lim N:Nat) (g:aP) (ps:List Nat) (iX body:aT) (t:TV) (T:List aa) (gv:aa) (H:ah):XR:=
 match iX.plain && body.plain with
 | true=>match gv with
  | .fn f first captured=>
   match R lim (.fn f) (first++[.yl H.next]++captured) (H.push (.loop ⟨.ready,none,T,ps,iX,body⟩)) with
   | some (_,H')=>match H'.get H.next with
    | some (.loop ⟨.ready,none,_,_,_,_⟩)=> .ok .norm t (H'.set H.next .dead)
    | some (.loop ⟨.done,some e,_,_,_,_⟩)=> .ok e t (H'.set H.next .dead)
    | _=> .no
   | none=> .no
  | _=> .no
 | false=> .no
noncomputable def kW (R:aq) (lim n N:Nat):aT→TV→ah→XR:= @aT.rec (fun _=>TV→ah→XR)
 (fun t H=> .ok .norm t H)
 (fun os t H=> @OR.rec (fun _=>XR) .no (fun t H=> .ok .norm t H) (uA R lim os t H))
 (fun _ _ iha ihb t H=> @XR.rec (fun _=>XR) .no (fun e t H=> @Ex.rec (fun _=>XR) (ihb t H) (fun id=> .ok (.exit id) t H) (.ok .ret t H) e) (iha t H))
 (fun c _ _ iha ihb t H=>E8 iha ihb t H (kV t c))
 (fun id _ ih t H=>uB id (ih t H))
 (fun _ ih t H=>xN ih n t H)
 (fun id t H=> .ok (.exit id) t H)
 (fun t H=> .ok .ret t H)
 (fun g ps iX body _ _ t H=>E9 R lim N g ps iX body t (toL N t) (kV t g) H)
def mH (N:Nat):aT→Bool
 | .region os=>os.all (xM N)
 | .seq a b=>mH N a && mH N b
 | .cond _ a b=>mH N a && mH N b
 | .block _ a | .loop a=>mH N a
 | _=>true
theorem LN {xO:TV→ah→XR} {body:St→Option (Ex × St)} {N:Nat} (hb:∀{t t' T H e H'},fY t T→T.length=N→xO t H= .ok e t' H'→ ∃T',body ⟨T,H⟩=some (e,⟨T',H'⟩)∧fY t' T'∧T'.length=N):
  ∀(n:Nat) {t t':TV} {T:List aa} {H H':ah} {e:Ex},fY t T→T.length=N→xN xO n t H= .ok e t' H'→ ∃T',dy body n ⟨T,H⟩=some (e,⟨T',H'⟩)∧fY t' T'∧T'.length=N
 | 0,t,t',T,H,H',e,_,_,h=>by simp [xN] at h
 | n+1,t,t',T,H,H',e,ht,hN,h=>by
  replace h: @XR.rec (fun _=>XR) .no (fun e t H=> @Ex.rec (fun _=>XR) (xN xO n t H) (fun id=> .ok (.exit id) t H) (.ok .ret t H) e) (xO t H)= .ok e t' H':=h
  cases h1:xO t H with
  | no=>rw [h1] at h;simp at h
  | ok e1 t1 H1=>
   rw [h1] at h
   obtain ⟨T1,q1,q2,q3⟩:=hb ht hN h1
   cases e1 with
   | norm=>
    obtain ⟨T2,p1,p2,p3⟩:=LN hb n q2 q3 h
    exact ⟨T2,by simp only [dy,q1,p1],p2,p3⟩
   | exit id=>
    simp only [XR.ok.injEq] at h
    obtain ⟨rfl,rfl,rfl⟩:=h
    exact ⟨T1,by simp only [dy,q1],q2,q3⟩
   | ret=>
    simp only [XR.ok.injEq] at h
    obtain ⟨rfl,rfl,rfl⟩:=h
    exact ⟨T1,by simp only [dy,q1],q2,q3⟩
theorem sA {RF R:aq} (hR:oX RF R) {lim n N:Nat} (jK:N <100000):∀(c:aT) {t t':TV} {T:List aa} {H H':ah} {e:Ex},fY t T→T.length=N→mH N c=true→kW RF lim n N c t H= .ok e t' H'→
  ∃T',exec R lim n c ⟨T,H⟩=some (e,⟨T',H'⟩)∧fY t' T'∧T'.length=N
 | .skip,t,t',T,H,H',e,ht,hN,_,h=>by
  simp only [kW,XR.ok.injEq] at h
  obtain ⟨rfl,rfl,rfl⟩:=h
  exact ⟨T,rfl,ht,hN⟩
 | .exit id,t,t',T,H,H',e,ht,hN,_,h=>by
  simp only [kW,XR.ok.injEq] at h
  obtain ⟨rfl,rfl,rfl⟩:=h
  exact ⟨T,rfl,ht,hN⟩
 | .ret,t,t',T,H,H',e,ht,hN,_,h=>by
  simp only [kW,XR.ok.injEq] at h
  obtain ⟨rfl,rfl,rfl⟩:=h
  exact ⟨T,rfl,ht,hN⟩
 | .region os,t,t',T,H,H',e,ht,hN,hb,h=>by
  replace h: @OR.rec (fun _=>XR) .no (fun t H=> .ok .norm t H) (uA RF lim os t H)= .ok e t' H':=h
  cases h1:uA RF lim os t H with
  | no=>rw [h1] at h;simp at h
  | ok t1 H1=>
   rw [h1] at h
   simp only [XR.ok.injEq] at h
   obtain ⟨rfl,rfl,rfl⟩:=h
   obtain ⟨T1,e1,r1,n1⟩:=LM hR jK os ht hN hb h1
   exact ⟨T1,by simp only [exec,e1,Option.map_some],r1,n1⟩
 | .seq a b,t,t',T,H,H',e,ht,hN,hb,h=>by
  simp only [mH,Bool.and_eq_true] at hb
  replace h: @XR.rec (fun _=>XR) .no (fun e t H=> @Ex.rec (fun _=>XR) (kW RF lim n N b t H) (fun id=> .ok (.exit id) t H) (.ok .ret t H) e) (kW RF lim n N a t H)= .ok e t' H':=h
  cases h1:kW RF lim n N a t H with
  | no=>rw [h1] at h;simp at h
  | ok e1 t1 H1=>
   rw [h1] at h
   obtain ⟨T1,q1,q2,q3⟩:=sA hR jK a ht hN hb.1 h1
   cases e1 with
   | norm=>
    obtain ⟨T2,p1,p2,p3⟩:=sA hR jK b q2 q3 hb.2 h
    exact ⟨T2,by simp only [exec,q1,p1],p2,p3⟩
   | exit id=>
    simp only [XR.ok.injEq] at h
    obtain ⟨rfl,rfl,rfl⟩:=h
    exact ⟨T1,by simp only [exec,q1],q2,q3⟩
   | ret=>
    simp only [XR.ok.injEq] at h
    obtain ⟨rfl,rfl,rfl⟩:=h
    exact ⟨T1,by simp only [exec,q1],q2,q3⟩
 | .cond c a b,t,t',T,H,H',e,ht,hN,hb,h=>by
  simp only [mH,Bool.and_eq_true] at hb
  replace h:E8 (kW RF lim n N a) (kW RF lim n N b) t H (kV t c)= .ok e t' H':=h
  rw [EX ht] at h
  unfold E8 at h
  split at h
  ·rename_i cv hc
   rw [ef] at h
   simp only [exec,hc]
   cases cv with
   | true=>
    simp only [if_true] at h ⊢
    exact sA hR jK a ht hN hb.1 h
   | false=>
    simp only [Bool.false_eq_true,if_false] at h ⊢
    exact sA hR jK b ht hN hb.2 h
  ·simp at h
 | .block id body,t,t',T,H,H',e,ht,hN,hb,h=>by
  simp only [mH] at hb
  replace h:uB id (kW RF lim n N body t H)= .ok e t' H':=h
  cases h1:kW RF lim n N body t H with
  | no=>rw [h1] at h;simp [uB] at h
  | ok e1 t1 H1=>
   rw [h1] at h
   obtain ⟨T1,q1,q2,q3⟩:=sA hR jK body ht hN hb h1
   cases e1 with
   | norm=>
    simp only [uB,XR.ok.injEq] at h
    obtain ⟨rfl,rfl,rfl⟩:=h
    exact ⟨T1,by simp only [exec,q1],q2,q3⟩
   | exit i=>
    simp only [uB,ef,Nat.beq_eq] at h
    by_cases hi:i=id
    ·rw [if_pos hi] at h
     simp only [XR.ok.injEq] at h
     obtain ⟨rfl,rfl,rfl⟩:=h
     exact ⟨T1,by simp only [exec,q1,hi,if_true],q2,q3⟩
    ·rw [if_neg hi] at h
     simp only [XR.ok.injEq] at h
     obtain ⟨rfl,rfl,rfl⟩:=h
     exact ⟨T1,by simp only [exec,q1,hi,if_false],q2,q3⟩
   | ret=>
    simp only [uB,XR.ok.injEq] at h
    obtain ⟨rfl,rfl,rfl⟩:=h
    exact ⟨T1,by simp only [exec,q1],q2,q3⟩
 | .loop body,t,t',T,H,H',e,ht,hN,hb,h=>by
  simp only [mH] at hb
  replace h:xN (kW RF lim n N body) n t H= .ok e t' H':=h
  exact LN (fun ht hN h=>sA hR jK body ht hN hb h) n ht hN h
 | .ranges g ps iX body,t,t',T,H,H',e,ht,hN,hb,h=>by
  replace h:E9 RF lim N g ps iX body t (toL N t) (kV t g) H= .ok e t' H':=h
  rw [toL_eq ht hN,EX ht] at h
  unfold E9 at h
  split at h
  ·rename_i hp
   split at h
   ·rename_i f first captured hg
    split at h
    ·rename_i v1 H1 hr
     have hr':=hR _ _ _ _ _ hr
     simp only [exec,hp,if_true,hg,hr']
     split at h
     ·rename_i q
      simp only [XR.ok.injEq] at h
      obtain ⟨rfl,rfl,rfl⟩:=h
      exact ⟨T,by simp only [q],ht,hN⟩
     ·rename_i q
      simp only [XR.ok.injEq] at h
      obtain ⟨rfl,rfl,rfl⟩:=h
      exact ⟨T,by simp only [q],ht,hN⟩
     ·simp at h
    ·simp at h
   ·simp at h
  ·simp at h
theorem WU {RF R:aq} (hR:oX RF R) {lim:Nat} (o:aY) (s:St):Le (execOp RF lim o s) (execOp R lim o s):=by
 unfold execOp vA
 split
 ·split
  ·split
   ·intro v hv
    split at hv
    ·rename_i p q hs
     rw [E5 hR _ hs]
     exact hv
    ·simp at hv
   ·exact .refl _
  ·intro v hv
   split at hv
   ·rename_i p q hs
    rw [E5 hR _ hs]
    exact hv
   ·simp at hv
 ·exact .refl _
theorem LP {RF R:aq} (hR:oX RF R) {lim:Nat}:∀(os:List aY) (s:St),Le (ep RF lim os s) (ep R lim os s)
 | [],s=> .refl _
 | o::os,s=>by
  intro v hv
  unfold ep at hv ⊢
  split at hv
  ·rename_i s1 hs
   rw [WU hR o s _ hs]
   exact LP hR os s1 v hv
  ·simp at hv
theorem LQ {b b':St→Option (Ex × St)} (h:∀s,Le (b s) (b' s)):∀(n:Nat) (s:St),Le (dy b n s) (dy b' n s)
 | 0,s=> .refl _
 | n+1,s=>by
  intro v hv
  unfold dy at hv ⊢
  split at hv
  ·rename_i s1 hs
   rw [h s _ hs]
   exact LQ h n s1 v hv
  ·rename_i hne
   have:=h s _ hv
   rw [this]
   split
   ·rename_i s1 e
    exact absurd hv (by simp only [Option.some.injEq] at e;rw [e];exact fun e'=>hne _ e')
   ·rfl
theorem oY {RF R:aq} (hR:oX RF R) {lim n:Nat}:∀(c:aT) (s:St),Le (exec RF lim n c s) (exec R lim n c s)
 | .skip,s=> .refl _
 | .exit id,s=> .refl _
 | .ret,s=> .refl _
 | .region os,s=>(LP hR os s).map _
 | .seq a b,s=>by
  intro v hv
  unfold exec at hv ⊢
  split at hv
  ·rename_i s1 hs
   rw [oY hR a s _ hs]
   exact oY hR b s1 v hv
  ·rename_i hne
   rw [oY hR a s _ hv]
   split
   ·rename_i s1 e
    exact absurd hv (by simp only [Option.some.injEq] at e;rw [e];exact fun e'=>hne _ e')
   ·rfl
 | .cond c a b,s=>by
  unfold exec
  split
  ·split
   ·exact oY hR a s
   ·exact oY hR b s
  ·exact .refl _
 | .block id body,s=>by
  intro v hv
  unfold exec at hv ⊢
  split at hv
  ·rename_i i s1 hs
   rw [oY hR body s _ hs]
   exact hv
  ·rename_i hne
   rw [oY hR body s _ hv]
   split
   ·rename_i i s1 e
    exact absurd hv (by simp only [Option.some.injEq] at e;rw [e];exact fun e'=>hne _ _ e')
   ·rfl
 | .loop body,s=>LQ (oY hR body) n s
 | .ranges g ps iX body,s=>by
  intro v hv
  unfold exec at hv ⊢
  split at hv
  ·rename_i hp
   rw [if_pos hp]
   split at hv
   ·rename_i f first captured hg
    split at hv
    ·rename_i p q hr
     rw [hR _ _ _ _ _ hr]
     exact hv
    ·simp at hv
   ·simp at hv
  ·simp at hv
theorem WV {ex ex':aT→St→Option (Ex × St)} (h:∀c s,Le (ex c s) (ex' c s)) {lim b:Nat} {args:List aa} {H:ah}:Le (og ex lim b args H) (og ex' lim b args H):=by
 intro v hv
 unfold og at hv ⊢
 split at hv
 ·rename_i r hr
  split at hv
  ·rename_i hc
   rw [if_pos hc]
   split at hv
   ·rename_i s1 h1
    simp only [h _ _ _ h1]
    split at hv
    ·rename_i h2
     try simp only [h2]
     split at hv
     ·rename_i e s2 h3
      simp only [h _ _ _ h3]
      exact hv
     ·simp at hv
    ·simp at hv
   ·simp at hv
  ·simp at hv
 ·simp at hv
noncomputable def Fa (t:TV) (H:ah):gD→Option aa:= @gD.rec (fun _=>Option aa) (fun i=>some (t.get i)) (fun i g=>xH H g (t.get i))
noncomputable def sB (t:TV) (H:ah):List gD→Option (List aa):= @List.rec gD (fun _=>Option (List aa)) (some [])
 (fun r _ ih=>match Fa t H r with
  | some v=>match ih with
   | some vs=>some (v::vs)
   | none=>none
  | none=>none)
theorem LR {t:TV} {T:List aa} {H:ah} (ht:fY t T):∀rs:List gD,Le (sB t H rs) (fT ⟨T,H⟩ rs)
 | []=> .refl _
 | r::rs=>by
  intro v hv
  replace hv:(match Fa t H r with
   | some v=>match sB t H rs with
    | some vs=>some (v::vs)
    | none=>none
   | none=>none)=some v:=hv
  have hr:Le (Fa t H r) (p8 ⟨T,H⟩ r):=by
   cases r with
   | tmp i=>show Le (some (t.get i)) (some (T.getD i bA));rw [ht i];exact .refl _
   | cell i g=>show Le (xH H g (t.get i)) (aB H g (T.getD i bA));rw [ht i];exact Lz _ _ _
  split at hv
  ·rename_i v1 h1
   split at hv
   ·rename_i vs h2
    simp only [fT,hr _ h1,LR ht rs _ h2]
    exact hv
   ·simp at hv
  ·simp at hv
noncomputable def AR (rs:List gD) (r:XR):Option (aa × ah):= @XR.rec (fun _=>Option (aa × ah)) none
 (fun e t H=> @Ex.rec (fun _=>Option (aa × ah)) ((sB t H rs).map fun vs=>(gV vs,H)) (fun _=>none) ((sB t H rs).map fun vs=>(gV vs,H)) e) r
noncomputable def codeF (R:aq) (lim n:Nat) (af:aW) (args:List aa) (H:ah):Option (aa × ah):=
 cF (Nat.ble (xE args) af.ntmps) (AR af.results (kW R lim n af.ntmps af.body (AP args 0 .lf) H)) none
noncomputable def Fb (fp:Nat→Option bg):Nat→aq:= @Nat.rec (fun _=>aq) (fun _ _ _ _=>none)
 (fun n ih lim tg args H=>match tg with
  | .fn f=>match fp f with
   | some (.code af)=>codeF ih lim n af args H
   | some (.gW g)=>g lim args H
   | none=>none
  | .yl b=>og (exec ih lim n) lim b args H)
def okF:bg→Bool
 | .code af=>Nat.blt af.ntmps 60000 && mH af.ntmps af.body
 | .gW _=>true
theorem WW {rs:List gD} {r:XR} {v:aa} {H':ah} (h:AR rs r=some (v,H')):∃e t,r= .ok e t H'∧(∀id,e≠ .exit id)∧ ∃vs,sB t H' rs=some vs∧v=gV vs:=by
 cases r with
 | no=>simp [AR] at h
 | ok e t H=>
  have fin:((sB t H rs).map fun vs=>(gV vs,H))=some (v,H')→ ∃vs,H=H'∧sB t H rs=some vs∧v=gV vs:=by
   intro h
   rw [Option.map_eq_some_iff] at h
   obtain ⟨vs,h1,h2⟩:=h
   simp at h2
   exact ⟨vs,h2.2,h1,h2.1.symm⟩
  cases e with
  | exit id=>simp [AR] at h
  | norm=>
   obtain ⟨vs,rfl,h1,h2⟩:=fin h
   exact ⟨_,t,rfl,fun _ e=>by simp at e,vs,h1,h2⟩
  | ret=>
   obtain ⟨vs,rfl,h1,h2⟩:=fin h
   exact ⟨_,t,rfl,fun _ e=>by simp at e,vs,h1,h2⟩
theorem LS {fp:Nat→Option bg} {ap:FuncId→Option bg} (Fc:∀f,Le (fp f) (ap f)) (hok:∀f af,fp f=some af→okF af=true):∀n,oX (Fb fp n) (runT ap n)
 | 0=>fun lim tg args H=> .none _
 | n+1=>fun lim tg args H=>by
  have ih:=LS Fc hok n
  cases tg with
  | yl b=>exact WV (oY ih)
  | fn f=>
   intro r hr
   replace hr:(match fp f with
    | some (.code af)=>codeF (Fb fp n) lim n af args H
    | some (.gW g)=>g lim args H
    | none=>none)=some r:=hr
   simp only [runT]
   split at hr
   ·rename_i af mA
    rw [Fc f _ mA]
    have hk:=hok f _ mA
    simp only [okF,Bool.and_eq_true,Nat.blt_eq] at hk
    obtain ⟨hn,hb⟩:=hk
    unfold codeF at hr
    simp only [ef,AH,Nat.ble_eq] at hr
    split at hr
    ·rename_i hl
     obtain ⟨v,H'⟩:=r
     obtain ⟨e,t,hx,hne,vs,hvs,rfl⟩:=WW hr
     have hlen:(m9 af args).length=af.ntmps:=by simp [m9];omega
     obtain ⟨T',q1,q2,_⟩:=sA ih (by omega) af.body (fY.enter (args:=args) (k:=af.ntmps - args.length) (by omega)) hlen hb hx
     have hv:lY af ⟨T',H'⟩=some (gV vs,H'):=by
      unfold lY
      rw [LR q2 _ _ hvs];rfl
     have C2:exec (runT ap n) lim n af.body ⟨m9 af args,H⟩=some (e,⟨T',H'⟩):=q1
     simp only [C2]
     cases e with
     | exit id=>exact absurd rfl (hne id)
     | norm=>exact hv
     | ret=>exact hv
    ·simp at hr
   ·rename_i g hg
    rw [Fc f _ hg]
    exact hr
   ·simp at hr
inductive TF where
 | lf
 | nd (l:TF) (v:Option bg) (r:TF)
noncomputable def TF.get:TF→Nat→Option bg:= @TF.rec (fun _=>Nat→Option bg) (fun _=>none)
 (fun _ v _ ihl ihr n=>cF (Nat.beq n 0) v (cF (Nat.beq (Nat.mod n 2) 1) (ihl (Nat.div n 2)) (ihr (Nat.pred (Nat.div n 2)))))
def TF.mk (l:List (Nat × bg)):Nat→Nat→Nat→TF
 | 0,_,_=> .lf
 | h+1,i,s=> .nd (TF.mk l h (i+s) (2 * s)) (l.lookup i) (TF.mk l h (i+2 * s) (2 * s))
theorem TF.Fe (l:List (Nat × bg)):∀(h i s n:Nat),Le ((TF.mk l h i s).get n) (l.lookup (i+n * s))
 | 0,i,s,n=> .none _
 | h+1,i,s,n=>by
  show Le (cF (Nat.beq n 0) (l.lookup i) (cF (Nat.beq (n % 2) 1) ((TF.mk l h (i+s) (2 * s)).get (n / 2)) ((TF.mk l h (i+2 * s) (2 * s)).get (n / 2 - 1)))) _
  rw [ef,ef]
  simp only [Nat.beq_eq]
  split
  ·rename_i h0;subst h0;simp only [Nat.zero_mul,Nat.add_zero];exact .refl _
  ·split
   ·rename_i h0 h1
    have e:i+n * s=i+s+n / 2 * (2 * s):=by
     have:n=2 * (n / 2)+1:=by omega
     rw [Nat.add_assoc];congr 1
     conv=>lhs;rw [this]
     rw [Nat.add_mul,Nat.one_mul,Nat.add_comm];congr 1
     rw [Nat.mul_comm 2,Nat.mul_assoc]
    rw [e]
    exact TF.Fe l h (i+s) (2 * s) (n / 2)
   ·rename_i h0 h1
    have e:i+n * s=i+2 * s+(n / 2 - 1) * (2 * s):=by
     have:n=2 * (n / 2 - 1)+2:=by omega
     rw [Nat.add_assoc];congr 1
     conv=>lhs;rw [this]
     rw [Nat.add_mul,Nat.add_comm];congr 1
     rw [Nat.mul_comm 2,Nat.mul_assoc]
    rw [e]
    exact TF.Fe l h (i+2 * s) (2 * s) (n / 2 - 1)
theorem WX {l:List (Nat × bg)} (h:l.all (fun p=>okF p.2)=true):∀f af,l.lookup f=some af→okF af=true:=by
 induction l with
 | nil=>intro f af h';simp at h'
 | cons p l ih=>
  intro f af h'
  simp only [List.all_cons,Bool.and_eq_true] at h
  rw [List.lookup_cons] at h'
  split at h'
  ·simp at h';subst h';exact h.1
  ·exact ih h.2 f af h'
theorem WY {l:List (Nat × bg)} {T:TF} {k:Nat} (hT:T=TF.mk l k 0 1) (hok:l.all (fun p=>okF p.2)=true) {n lim f:Nat} {args:List aa} {H:ah} (h:isTrue (Fb T.get n lim (.fn f) args H)=true):isTrue (run (tab l) n lim f args H)=true:=by
 have hle:∀f,Le (T.get f) (tab l f):=fun f=>by
  have:=TF.Fe l k 0 1 f
  rw [hT]
  simpa [tab] using this
 obtain ⟨H',h'⟩:=DA h
 have:=LS hle (fun f af e=>WX hok f af (hle f _ e)) n lim (.fn f) args H _ h'
 unfold run
 rw [this];rfl
end Go.au
end
