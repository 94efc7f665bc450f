/- Parts of the proof. -/
import Derived.LoopN
import Derived.Orders
import Derived.Laws.Cells
section
namespace Go.au
class Gl where
 n:Nat
 gs:List Nat
 lt:∀g,gs.contains g=true→g <n
inductive Cap where
 | ex (n:Nat)
 | op (Q7 kn:Nat)
 | un
 deriving DecidableEq
inductive aa where
 | int (k:IntKind) (n:Int)
 | bool (b:Bool)
 | str (s:List UInt8)
 | ptr (a:Option (Nat × Nat))
 | sl (a:Option (Nat × Nat)) (n:Nat) (c:Cap)
 | map (r:Option Nat)
 | fn (f:FuncId) (first captured:List aa)
 | nilFn
 | iface (t:TypeId) (v:aa)
 | nilIface
 | agg (cs:List aa)
 | bq (vs:List aa)
 | yl (b:Nat)
 | tB (r:Nat)
 | lW (name:String) (t:TypeId) (v:aa)
abbrev bA:aa:= .bq []
def aa.cells:aa→List aa
 | .agg cs=>cs
 | v=>[v]
def aa.one:aa→Bool
 | .agg _ | .bq _=>false
 | _=>true
inductive aP where
 | tmp (t:Nat)
 | val (v:aa)
inductive bE where
 | int (k:IntKind)
 | bool
 | str
 deriving DecidableEq
inductive rC where
 | bool
 | ptr
 | sl
 | map
 | fn
 | iface
 | cells (ls:List bE)
 | nil
inductive bG where
 | an (x:aP)
 | pick (c a b:aP)
 | alloc (zero:List aa)
 | box (x:aP)
 | build (zero:List aa) (parts:List (Nat × Nat × aP))
 | buildSlice (zero:List aa) (len:Nat) (parts:List (Nat × Nat × aP))
 | load (agg:Option Nat) (a:aP)
 | store (n:Nat) (a x:aP)
 | nilCheck (x:aP)
 | bin (op:BinOp) (x y:aP)
 | eqv (neg:Bool) (k:rC) (x y:aP)
 | un (op:UnOp) (x:aP)
 | bY (k:IntKind) (x:aP)
 | rD (x:aP)
 | jT (x:aP)
 | iU (x:aP)
 | eT (t:TypeId) (x:aP)
 | rE (f:FuncId) (first captured:List aP)
 | makeSlice (zero:List aa) (bytes:Nat) (l c:aP)
 | slice (sz:Nat) (x:aP) (lo hi mx:Option aP)
 | dP (x:aP) (lo hi:Option aP)
 | iV (n sz:Nat) (x:aP) (lo hi mx:Option aP)
 | fieldAddr (x:aP) (off:Nat)
 | field (x:aP) (off:Nat) (agg:Option Nat)
 | indexAddr (arr:Option Nat) (sz:Nat) (x i:aP)
 | index (len sz:Nat) (agg:Bool) (x i:aP)
 | cr (x i:aP)
 | extract (x:aP) (i:Nat)
 | call (f:FuncId) (args:List aP)
 | m6 (x:aP) (args:List aP)
 | invoke (tab:List (TypeId × FuncId)) (x:aP) (args:List aP)
 | bound (name:String) (x:aP)
 | nilFn (tab:List (String × TypeId)) (x:aP)
 | append (zero:List aa) (bytes:Nat) (zeros:Bool) (s x:aP)
 | copy (sz:Nat) (d s:aP)
 | len (str:Bool) (x:aP)
 | cap (x:aP)
 | kr (isMax:Bool) (args:List aP)
 | makeMap (hint:Option aP)
 | lookup (agg:Bool) (ls:List bE) (zero:aa) (commaOk:Bool) (m k:aP)
 | mapUpdate (agg:Bool) (ls:List bE) (m k v:aP)
 | vh (agg:Bool) (ls:List bE) (m k:aP)
 | tC (agg:Bool) (ls:List bE) (zero:aa) (m k:aP)
 | rF (agg:Bool) (ls:List bE) (m s v:aP)
 | vi (m:aP)
 | vk (m:aP)
 | vm (zero:List aa) (x:aP)
 | mapRange (m:aP)
 | mapNext (it:aP)
 | mapEntry (it:aP)
 | stop
def bG.jF:bG→Bool
 | .call _ _ | .m6 _ _ | .invoke _ _ _=>true
 | _=>false
def bG.zk:bG→List aP
 | .an x | .box x | .load _ x | .nilCheck x | .bound _ x | .nilFn _ x | .un _ x | .bY _ x | .rD x | .jT x | .iU x | .eT _ x | .fieldAddr x _ | .field x _ _ | .extract x _ | .len _ x | .cap x=>[x]
 | .pick a b c=>[a,b,c]
 | .alloc _ | .stop=>[]
 | .build _ ps | .buildSlice _ _ ps=>ps.map fun p=>p.2.2
 | .store _ a x | .bin _ a x | .eqv _ _ a x | .makeSlice _ _ a x | .indexAddr _ _ a x | .index _ _ _ a x | .cr a x | .append _ _ _ a x | .copy _ a x=>[a,x]
 | .rE _ xs ys=>xs++ys
 | .slice _ x lo hi mx | .iV _ _ x lo hi mx=>x::(lo.toList++hi.toList++mx.toList)
 | .dP x lo hi=>x::(lo.toList++hi.toList)
 | .call _ xs | .kr _ xs=>xs
 | .m6 x xs | .invoke _ x xs=>x::xs
 | .makeMap h=>h.toList
 | .lookup _ _ _ _ m k | .vh _ _ m k | .tC _ _ _ m k=>[m,k]
 | .mapUpdate _ _ m k v | .rF _ _ m k v=>[m,k,v]
 | .vi m | .vk m | .mapRange m | .mapNext m | .mapEntry m | .vm _ m=>[m]
def bG.pure:bG→Bool
 | .an _ | .pick _ _ _ | .build _ _ | .nilCheck _ | .bound _ _ | .nilFn _ _ | .bin _ _ _ | .eqv _ _ _ _ | .un _ _ | .bY _ _ | .rD _ | .eT _ _ | .rE _ _ _
 | .slice _ _ _ _ _ | .dP _ _ _ | .iV _ _ _ _ _ _ | .fieldAddr _ _ | .field _ _ _ | .indexAddr _ _ _ _ | .index _ _ _ _ _ | .cr _ _ | .extract _ _ | .len _ _ | .cap _ | .kr _ _ | .stop=>true
 | _=>false
structure aY where
 dst:Option Nat
 op:bG
 guard:Option (Nat × Bool)
 cQ:Bool
 apart:List aP
inductive aT where
 | skip
 | region (ops:List aY)
 | seq (a b:aT)
 | cond (c:aP) (thn els:aT)
 | block (id:Nat) (body:aT)
 | loop (body:aT)
 | exit (id:Nat)
 | ret
 | ranges (g:aP) (ps:List Nat) (assign body:aT)
def aT.plain:aT→Bool
 | .seq a b=>a.plain && b.plain
 | .cond _ a b=>a.plain && b.plain
 | .block _ a | .loop a=>a.plain
 | .ranges _ _ _ _=>false
 | _=>true
inductive Ex where
 | norm
 | exit (id:Nat)
 | ret
 deriving DecidableEq
structure zm where
 state:LoopState
 pending:Option Ex
 tmps:List aa
 ps:List Nat
 assign:aT
 body:aT
structure ku where
 n:Nat
 kn:List (aa × Nat)
inductive dB where
 | cells (cs:List aa)
 | map (es:List (aa × aa)) (clock:ku)
 | dead
 | loop (r:zm)
inductive Tr where
 | lf
 | nd (l:Tr) (v:Option dB) (r:Tr)
def Tr.get:Tr→Nat→Option dB
 | .lf,_=>none
 | .nd l v r,n=>if n=0 then v else if n % 2=1 then l.get (n / 2) else r.get (n / 2 - 1)
def Tr.left:Tr→Tr
 | .lf=> .lf
 | .nd l _ _=>l
def Tr.right:Tr→Tr
 | .lf=> .lf
 | .nd _ _ r=>r
def Tr.val:Tr→Option dB
 | .lf=>none
 | .nd _ v _=>v
def Tr.set (x:dB):Nat→Tr→Nat→Tr
 | 0,t,_=>t
 | f+1,t,n=>
  if n=0 then .nd t.left (some x) t.right
  else if n % 2=1 then .nd (Tr.set x f t.left (n / 2)) t.val t.right
  else .nd t.left t.val (Tr.set x f t.right (n / 2 - 1))
theorem Tr.get_eq (t:Tr) (n:Nat):t.get n=if n=0 then t.val else if n % 2=1 then t.left.get (n / 2) else t.right.get (n / 2 - 1):=by
 cases t with
 | lf=>simp [Tr.get,Tr.val,Tr.left,Tr.right]
 | nd l v r=>rfl
theorem Tr.vn (x:dB):∀(f:Nat) (t:Tr) (n m:Nat),n <f→(Tr.set x f t n).get m=if m=n then some x else t.get m:=by
 intro f
 induction f with
 | zero=>intro t n m h;omega
 | succ f ih=>
  intro t n m h
  rw [Tr.get_eq t m]
  unfold Tr.set
  by_cases hn:n=0
  ·subst hn
   simp only [if_true,Tr.get]
   by_cases hm:m=0 <;>simp [hm]
  ·simp only [hn,if_false]
   by_cases h1:n % 2=1
   ·simp only [h1,if_true,Tr.get]
    by_cases hm:m=0
    ·subst hm;simp [Ne.symm hn]
    ·by_cases hm1:m % 2=1
     ·simp only [hm,hm1,if_true,if_false]
      rw [ih _ _ _ (by omega)]
      by_cases e:m=n
      ·simp [e]
      ·rw [if_neg (by omega),if_neg e]
     ·simp only [hm,hm1,if_false]
      rw [if_neg (by omega)]
   ·simp only [h1,if_false,Tr.get]
    by_cases hm:m=0
    ·subst hm;simp [Ne.symm hn]
    ·by_cases hm1:m % 2=1
     ·simp only [hm,hm1,if_true,if_false]
      rw [if_neg (by omega)]
     ·simp only [hm,hm1,if_false]
      rw [ih _ _ _ (by omega)]
      by_cases e:m=n
      ·simp [e]
      ·rw [if_neg (by omega),if_neg e]
structure ah where
 next:Nat
 tr:Tr
def ah.get (H:ah) (b:Nat):Option dB:=if b <H.next then H.tr.get b else none
def ah.set (H:ah) (b:Nat) (x:dB):ah:={H with tr:=Tr.set x (b+1) H.tr b}
def ah.push (H:ah) (x:dB):ah:={next:=H.next+1,tr:=Tr.set x (H.next+1) H.tr H.next}
section heap
variable (H:ah) (b c:Nat) (x:dB)
theorem ah.jm {H:ah} {b:Nat} {x:dB} (h:H.get b=some x):b <H.next:=by
 unfold ah.get at h
 split at h
 ·assumption
 ·simp at h
theorem ah.aeu (h:H.next≤b):H.get b=none:=by unfold ah.get;rw [if_neg (by omega)]
theorem ah.bK:(H.push x).next=H.next+1:=rfl
theorem ah.gh:(H.set b x).next=H.next:=rfl
theorem ah.Ip:(H.push x).get c=if c=H.next then some x else H.get c:=by
 unfold ah.get ah.push
 simp only [Tr.vn x (H.next+1) H.tr H.next c (by omega)]
 by_cases e:c=H.next
 ·simp [e]
 ·by_cases h:c <H.next
  ·simp [e,h,Nat.lt_succ_of_lt h]
  ·have:¬c <H.next+1:=by omega
   simp [e,h,this]
theorem ah.vn:(H.set b x).get c=if c=b then (if b <H.next then some x else none) else H.get c:=by
 unfold ah.get ah.set
 simp only [Tr.vn x (b+1) H.tr b c (by omega)]
 by_cases e:c=b
 ·simp [e]
 ·simp [e]
theorem ah.jU:(H.push x).get H.next=some x:=by rw [ah.Ip];simp
theorem ah.gi (h:c≠H.next):(H.push x).get c=H.get c:=by rw [ah.Ip];simp [h]
theorem ah.lX (h:b <H.next):(H.set b x).get b=some x:=by rw [ah.vn];simp [h]
theorem ah.eD (h:c≠b):(H.set b x).get c=H.get c:=by rw [ah.vn];simp [h]
end heap
def ah.empty [Gl]:ah:=⟨Gl.n,.lf⟩
def ah.cells (H:ah) (b:Nat):Option (List aa):=
 match H.get b with
 | some (.cells cs)=>some cs
 | _=>none
theorem ah.cells_eq {H:ah} {b:Nat} {cs:List aa}:H.cells b=some cs↔H.get b=some (.cells cs):=by
 unfold ah.cells
 split <;>simp_all
inductive gD where
 | tmp (t:Nat)
 | cell (t:Nat) (agg:Option Nat)
structure aW where
 ntmps:Nat
 results:List gD
 body:aT
def toV:aa→Option Value
 | .int k n=>some (.int k n)
 | .bool b=>some (.bool b)
 | _=>none
def gU:Value→Option aa
 | .int k n=>some (.int k n)
 | .bool b=>some (.bool b)
 | _=>none
def gE:Sem Value→Option aa
 | .pure v=>gU v
 | _=>none
def iy (op:BinOp) (a b:List UInt8):Option aa:=
 match op with
 | .add=>if ((a.length+b.length:Nat):Int) >IntKind.i64.max then none else some (.str (a++b))
 | .eql=>some (.bool (a==b))
 | .neq=>some (.bool !(a==b))
 | .lss=>some (.bool (Op.bytesLess a b))
 | .leq=>some (.bool (Op.bytesLess a b || a==b))
 | .gtr=>some (.bool !(Op.bytesLess a b || a==b))
 | .geq=>some (.bool !(Op.bytesLess a b))
 | _=>none
def av (op:BinOp):aa→aa→Option aa
 | .int k a,.int k' b=>gE (binOp op 0 (.int k a) (.int k' b))
 | .str a,.str b=>iy op a b
 | _,_=>none
def lg:bE→aa→aa→Option Bool
 | .int k,.int k' a,.int k'' b=>if k'=k∧k''=k then some (a==b) else none
 | .bool,.bool a,.bool b=>some (a==b)
 | .str,.str a,.str b=>some (a==b)
 | _,_,_=>none
def cm:List bE→List aa→List aa→Option Bool
 | [],[],[]=>some true
 | l::ls,x::xs,y::ys=>
  match lg l x y,cm ls xs ys with
  | some a,some b=>some (a && b)
  | _,_=>none
 | _,_,_=>none
def aeq (k:rC) (x y:aa):Option Bool:=
 match k with
 | .bool=>match x,y with
  | .bool a,.bool b=>some (a==b)
  | _,_=>none
 | .ptr=>match x,y with
  | .ptr none,.ptr b=>some b.isNone
  | .ptr (some _),.ptr none=>some false
  | _,_=>none
 | .sl=>match x,y with
  | .sl none _ _,.sl b _ _=>some b.isNone
  | .sl (some _) _ _,.sl none _ _=>some false
  | _,_=>none
 | .map=>match x,y with
  | .map none,.map b=>some b.isNone
  | .map (some _),.map none=>some false
  | _,_=>none
 | .fn=>match x,y with
  | .nilFn,.nilFn=>some true
  | .nilFn,.fn _ _ _=>some false
  | .fn _ _ _,.nilFn=>some false
  | _,_=>none
 | .iface=>match x,y with
  | .nilIface,.iface _ _=>some false
  | .iface _ _,.nilIface=>some false
  | _,_=>none
 | .nil=>match x,y with
  | .nilIface,.nilIface=>some true
  | .nilIface,.iface _ _=>some false
  | .iface _ _,.nilIface=>some false
  | _,_=>none
 | .cells ls=>match x,y with
  | .agg xs,.agg ys=>cm ls xs ys
  | _,_=>none
def fE (op:UnOp) (x:aa):Option aa:=
 match toV x with
 | some v=>gE (Op.unary op v)
 | none=>none
def kA:aa→Option Nat
 | .int _ n=>if 0≤n then some n.toNat else none
 | _=>none
def dD (d:Nat):Option aa→Option Nat
 | none=>some d
 | some v=>kA v
def shift (a:Option (Nat × Nat)) (n:Nat):Option (Nat × Nat):=a.map fun p=>(p.1,p.2+n)
def fN (sz:Nat) (x:aa) (lo hi mx:Option aa):Option aa:=
 match x with
 | .sl a n c=>do
  let h ←(if hi.isNone && mx.isSome then none else dD n hi)
  let l ←dD 0 lo
  match c with
  | .ex k=>do
   let m ←dD k mx
   if m≤k∧h≤m∧l≤h then some (.sl (if m=l then a else shift a (l * sz)) (h - l) (.ex (m - l))) else none
  | c=>
   if mx.isNone then
    match c with
    | .op e k=>if h≤max n k∧l≤h∧e=sz then some (.sl (shift a (l * sz)) (h - l) (.op e (max n k - l))) else none
    | c=>if h≤n∧l≤h∧c= .un then some (.sl (shift a (l * sz)) (h - l) c) else none
   else do
    let m ←dD 0 mx
    if m≤n∧h≤m∧l≤h then some (.sl (if m=l then a else shift a (l * sz)) (h - l) (.ex (m - l))) else none
 | _=>none
def dS (x:aa) (lo hi:Option aa):Option aa:=
 match x with
 | .str s=>do
  let h ←dD s.length hi
  let l ←dD 0 lo
  if h≤s.length∧l≤h then some (.str ((s.drop l).take (h - l))) else none
 | _=>none
def kD (n sz:Nat) (x:aa) (lo hi mx:Option aa):Option aa:=
 match x with
 | .ptr (some (b,o))=>do
  let h ←(if hi.isNone && mx.isSome then none else dD n hi)
  let l ←dD 0 lo
  let m ←dD n mx
  if m≤n∧h≤m∧l≤h then some (.sl (some (b,if m=l then o else o+l * sz)) (h - l) (.ex (m - l))) else none
 | _=>none
def cut (cs:List aa) (o n:Nat):Option (List aa):=if o+n≤cs.length then some ((cs.drop o).take n) else none
def put (cs:List aa) (o:Nat) (xs:List aa):List aa:=cs.take o++xs++cs.drop (o+xs.length)
def aB (H:ah) (agg:Option Nat):aa→Option aa
 | .ptr (some (b,o))=>
  match H.cells b,agg with
  | some cs,some n=>(cut cs o n).map .agg
  | some cs,none=>cs[o]?
  | none,_=>none
 | _=>none
def bp (lim:Nat) (H:ah) (n:Nat) (a x:aa):Option ah:=
 match a with
 | .ptr (some (b,o))=>
  match H.cells b with
  | some cs=>if lim≤b∧x.cells.length=n∧o+n≤cs.length∧x.cells.all (·.one) then some (H.set b (.cells (put cs o x.cells))) else none
  | none=>none
 | _=>none
def jo (ev:aP→aa):List aa→List (Nat × Nat × aP)→Option (List aa)
 | cs,[]=>some cs
 | cs,(off,size,x)::rest=>
  let v:=(ev x).cells
  if v.length=size∧off+size≤cs.length then jo ev (put cs off v) rest else none
def rep (n:Nat) (zero:List aa):List aa:=(List.replicate n zero).flatten
def source (H:ah) (sz:Nat):aa→Option (Nat × List aa)
 | .sl none n _=>if n=0 then some (0,[]) else none
 | .sl (some (b,o)) n _=>
  if n=0 then some (0,[]) else
  match H.cells b with
  | some cs=>(cut cs o (n * sz)).map fun c=>(n,c)
  | none=>none
 | .str s=>if sz=1 then some (s.length,s.map fun c=> .int .u8 c.toNat) else none
 | _=>none
def room:Nat:=140737488355328
def fO (lim:Nat) (H:ah) (zero:List aa) (bytes:Nat) (zeros:Bool) (s x:aa):Option (aa × ah):=do
 let sz:=zero.length
 let (m,new) ←(if zeros then (match x with
   | .int .i64 l=>if 0≤l∧l≤140737488355328 then some (l.toNat,rep l.toNat zero) else none
   | _=>none)
  else source H sz x)
 if !(new.all (·.one)) || sz=0 then none else
 match s with
 | .sl a n c=>
  if m=0 then some (.sl a n c,H) else
  if (n+m) * bytes >room∨n+m >room then none else
  match a,c with
  | none,.ex _=>if n=0 then some (.sl (some (H.next,0)) m (.op sz 0),H.push (.cells new)) else none
  | some (b,o),.ex k=>do
   let cs ←H.cells b
   if n+m≤k then
    if lim≤b∧o+(n+m) * sz≤cs.length then some (.sl a (n+m) c,H.set b (.cells (put cs (o+n * sz) new))) else none
   else do
    let old ←cut cs o (n * sz)
    if n≤k∧old.all (·.one) then some (.sl (some (H.next,0)) (n+m) (.op sz 0),H.push (.cells (old++new))) else none
  | some (b,o),.op e _=>do
   let cs ←H.cells b
   if lim≤b∧e=sz then
    if o+(n+m) * sz≤cs.length then some (.sl a (n+m) c,H.set b (.cells (put cs (o+n * sz) new)))
    else if o+n * sz=cs.length∧cs.all (·.one) then some (.sl (some (H.next,0)) (n+m) (.op sz 0),(H.set b .dead).push (.cells (cs.drop o++new)))
    else none
   else none
  | _,_=>none
 | _=>none
def nW (lim:Nat) (H:ah) (sz:Nat) (d s:aa):Option (aa × ah):=
 match d with
 | .sl a n _=>do
  let (m,new) ←source H sz s
  let k:=min m n
  if k=0 then some (.int .i64 0,H) else
  match a with
  | some (b,o)=>do
   let cs ←H.cells b
   let new:=new.take (k * sz)
   if lim≤b∧o+k * sz≤cs.length∧new.all (·.one) then some (.int .i64 k,H.set b (.cells (put cs o new))) else none
  | none=>none
 | _=>none
def bh (str:Bool):aa→Option aa
 | .sl _ n _=>if str then none else some (.int .i64 n)
 | .str s=>if str then some (.int .i64 s.length) else none
 | _=>none
def Cu:aa→Option aa
 | .sl _ _ (.ex c)=>some (.int .i64 c)
 | _=>none
def nX (isMax:Bool) (k:IntKind):Int→List aa→Option aa
 | a,[]=>some (.int k a)
 | a,.int k' b::rest=>if k=k' then nX isMax k (if isMax then (if b >a then b else a) else (if b <a then b else a)) rest else none
 | _,_=>none
def iL (isMax:Bool):List aa→Option aa
 | .int k a::rest=>nX isMax k a rest
 | _=>none
def cD (arr:Option Nat) (sz:Nat) (x i:aa):Option aa:=
 match kA i,x,arr with
 | some j,.sl (some (b,o)) n _,none=>if j <n then some (.ptr (some (b,o+j * sz))) else none
 | some j,.ptr (some (b,o)),some n=>if j <n then some (.ptr (some (b,o+j * sz))) else none
 | _,_,_=>none
def partOf (cs:List aa) (off:Nat) (agg:Option Nat):Option aa:=
 match agg with
 | some n=>(cut cs off n).map .agg
 | none=>cs[off]?
def zn (len sz:Nat) (agg:Bool) (x i:aa):Option aa:=
 match kA i,x with
 | some j,.agg cs=>if j <len then partOf cs (j * sz) (if agg then some sz else none) else none
 | _,_=>none
def e7 (x i:aa):Option aa:=
 match kA i,x with
 | some j,.str s=>(s[j]?).map fun c=> .int .u8 c.toNat
 | _,_=>none
def nY:List aa→Option (List UInt8)
 | []=>some []
 | .int .u8 n::rest=>(nY rest).map (UInt8.ofNat n.toNat:: ·)
 | _=>none
def e8 (H:ah):aa→Option aa
 | .sl none _ _=>some (.str [])
 | .sl (some (b,o)) n _=>do
  let cs ←H.cells b
  let c ←cut cs o n
  let s ←nY c
  some (.str s)
 | _=>none
def jT (H:ah):aa→Option (aa × ah)
 | .str s=>if s.length≤room then some (.sl (some (H.next,0)) s.length (.op 1 0),H.push (.cells (s.map fun c=> .int .u8 c.toNat))) else none
 | _=>none
def pW (H:ah) (zero:List aa) (bytes:Nat) (l c:aa):Option (aa × ah):=
 match l,c with
 | .int .i64 l,.int .i64 c=>
  if 0≤l∧l≤c∧c * bytes≤room∧c≤room then some (.sl (some (H.next,0)) l.toNat (.ex c.toNat),H.push (.cells (rep c.toNat zero))) else none
 | _,_=>none
def iW (agg:Bool):aa→Option (List aa)
 | .agg cs=>if agg then some cs else none
 | .bq _=>none
 | v=>if agg then none else some [v]
def eE (agg:Bool) (ls:List bE) (x y:aa):Option Bool:=
 match iW agg x,iW agg y with
 | some xs,some ys=>cm ls xs ys
 | _,_=>none
def nZ (agg:Bool) (ls:List bE) (k:aa) (es:List (aa × aa)):Bool:=eE agg ls k k==some true && es.all fun e=>(eE agg ls k e.1).isSome
def isKey (agg:Bool) (ls:List bE) (k:aa) (e:aa × aa):Bool:=eE agg ls k e.1==some true
def oa (agg:Bool) (ls:List bE) (k:aa) (es:List (aa × aa)):Option aa:=(es.find? (isKey agg ls k)).map (·.2)
def m7 (agg:Bool) (ls:List bE) (k v:aa) (es:List (aa × aa)):List (aa × aa):=
 if es.any (isKey agg ls k) then es.map fun e=>if isKey agg ls k e then (k,v) else e else es++[(k,v)]
def rG (agg:Bool) (ls:List bE) (k:aa) (es:List (aa × aa)):List (aa × aa):=es.filter fun e=> !isKey agg ls k e
def m8 (H:ah):aa→Option (List (aa × aa))
 | .map none=>some []
 | .map (some b)=>match H.get b with
  | some (.map es _)=>some es
  | _=>none
 | _=>none
def jV (H:ah) (agg:Bool) (ls:List bE) (zero:aa) (commaOk:Bool) (m k:aa):Option aa:=
 match m8 H m with
 | some es=>
  if nZ agg ls k es then
   match oa agg ls k es with
   | some v=>some (if commaOk then .bq [v,.bool true] else v)
   | none=>some (if commaOk then .bq [zero,.bool false] else zero)
  else none
 | none=>none
def ku.put (c:ku) (agg:Bool) (ls:List bE) (k:aa) (there:Bool):ku:=
 if there then c else ⟨c.n+1,(k,c.n)::c.kn.filter fun p=>eE agg ls k p.1==some false⟩
def lp (lim:Nat) (H:ah) (agg:Bool) (ls:List bE) (m k v:aa):Option ah:=
 match m with
 | .map (some b)=>match H.get b with
  | some (.map es clock)=>if lim≤b∧nZ agg ls k es=true then some (H.set b (.map (m7 agg ls k v es) (clock.put agg ls k (es.any (isKey agg ls k))))) else none
  | _=>none
 | _=>none
def vo (lim:Nat) (H:ah) (agg:Bool) (ls:List bE) (zero m k:aa):Option (aa × ah):=
 match m with
 | .map (some b)=>match H.get b with
  | some (.map es clock)=>
   if lim≤b∧nZ agg ls k es=true then
    match oa agg ls k es with
    | some v=>match clock.kn.find? fun p=>eE agg ls k p.1==some true with
     | some p=>some (.bq [v,.int .i64 p.2],H.set b (.map (m7 agg ls k v es) clock))
     | none=>none
    | none=>some (.bq [zero,.int .i64 clock.n],H.set b (.map (m7 agg ls k zero es) (clock.put agg ls k false)))
   else none
  | _=>none
 | _=>none
def vp (lim:Nat) (H:ah) (agg:Bool) (ls:List bE) (m s v:aa):Option ah:=
 match m,s with
 | .map (some b),.int .i64 n=>match H.get b with
  | some (.map es clock)=>match clock.kn.find? fun p=>decide ((p.2:Int)=n) with
   | some p=>if lim≤b∧nZ agg ls p.1 es=true∧es.any (isKey agg ls p.1)=true then some (H.set b (.map (m7 agg ls p.1 v es) clock)) else none
   | none=>none
  | _=>none
 | _,_=>none
def pX (lim:Nat) (H:ah) (agg:Bool) (ls:List bE) (m k:aa):Option ah:=
 match m with
 | .map none=>if eE agg ls k k=some true then some H else none
 | .map (some b)=>match H.get b with
  | some (.map es clock)=>if lim≤b∧nZ agg ls k es=true then some (H.set b (.map (rG agg ls k es) clock)) else none
  | _=>none
 | _=>none
def tD (H:ah) (m:aa):Option aa:=(m8 H m).map fun es=> .int .i64 es.length
def vq (lim:Nat) (H:ah) (m:aa):Option ah:=
 match m with
 | .map none=>some H
 | .map (some b)=>match H.get b with
  | some (.map _ clock)=>if lim≤b then some (H.set b (.map [] clock)) else none
  | _=>none
 | _=>none
def vr (lim:Nat) (H:ah) (zero:List aa):aa→Option ah
 | .sl none n _=>if n=0 then some H else none
 | .sl (some (b,o)) n _=>
  if n=0 then some H else
  match H.cells b with
  | some cs=>if lim≤b∧o+n * zero.length≤cs.length∧zero.all (·.one) then some (H.set b (.cells (put cs o (rep n zero)))) else none
  | none=>none
 | _=>none
def vu:Option aa→Bool
 | none=>true
 | some (.int _ _)=>true
 | _=>false
inductive Iq where
 | fn (f:FuncId)
 | yl (b:Nat)
abbrev aq:=Nat→Iq→List aa→ah→Option (aa × ah)
def val (H:ah) (v:Option aa):Option (aa × ah):=v.map fun v=>(v,H)
def step (R:aq) (lim:Nat) (ev:aP→aa) (H:ah):bG→Option (aa × ah)
 | .an x=>some (ev x,H)
 | .pick c a b=>match ev c with
  | .bool t=>some (if t then ev a else ev b,H)
  | _=>none
 | .alloc zero=>some (.ptr (some (H.next,0)),H.push (.cells zero))
 | .box x=>if (ev x).cells.all (·.one) then some (.ptr (some (H.next,0)),H.push (.cells (ev x).cells)) else none
 | .build zero parts=>val H ((jo ev zero parts).map .agg)
 | .buildSlice zero len parts=>(jo ev zero parts).map fun cs=>(.sl (some (H.next,0)) len (.ex len),H.push (.cells cs))
 | .load agg a=>val H (aB H agg (ev a))
 | .store n a x=>(bp lim H n (ev a) (ev x)).map fun H=>(bA,H)
 | .nilCheck x=>match ev x with
  | .ptr (some a)=>some (.ptr (some a),H)
  | _=>none
 | .bin op x y=>val H (av op (ev x) (ev y))
 | .eqv neg k x y=>val H ((aeq k (ev x) (ev y)).map fun b=> .bool (if neg then !b else b))
 | .un op x=>val H (fE op (ev x))
 | .bY k x=>match ev x with
  | .int _ n=>some (.int k (k.wrap n),H)
  | _=>none
 | .rD x=>match ev x with
  | .str s=>some (.str s,H)
  | _=>none
 | .jT x=>jT H (ev x)
 | .iU x=>val H (e8 H (ev x))
 | .eT t x=>some (.iface t (ev x),H)
 | .rE f first captured=>some (.fn f (first.map ev) (captured.map ev),H)
 | .makeSlice zero bytes l c=>pW H zero bytes (ev l) (ev c)
 | .slice sz x lo hi mx=>val H (fN sz (ev x) (lo.map ev) (hi.map ev) (mx.map ev))
 | .dP x lo hi=>val H (dS (ev x) (lo.map ev) (hi.map ev))
 | .iV n sz x lo hi mx=>val H (kD n sz (ev x) (lo.map ev) (hi.map ev) (mx.map ev))
 | .fieldAddr x off=>match ev x with
  | .ptr (some (b,o))=>some (.ptr (some (b,o+off)),H)
  | _=>none
 | .field x off agg=>match ev x with
  | .agg cs=>val H (partOf cs off agg)
  | _=>none
 | .indexAddr arr sz x i=>val H (cD arr sz (ev x) (ev i))
 | .index len sz agg x i=>val H (zn len sz agg (ev x) (ev i))
 | .cr x i=>val H (e7 (ev x) (ev i))
 | .extract x i=>match ev x with
  | .bq vs=>val H (vs[i]?)
  | _=>none
 | .call f args=>R lim (.fn f) (args.map ev) H
 | .m6 x args=>match ev x with
  | .fn f first captured=>R lim (.fn f) (first++args.map ev++captured) H
  | .yl b=>R lim (.yl b) (args.map ev) H
  | _=>none
 | .invoke tab x args=>match ev x with
  | .iface t v=>match tab.lookup t with
   | some f=>R lim (.fn f) (v::args.map ev) H
   | none=>none
  | _=>none
 | .bound name x=>match ev x with
  | .iface t v=>some (.lW name t v,H)
  | _=>none
 | .nilFn tab x=>match ev x with
  | .fn f a b=>some (.fn f a b,H)
  | .lW name t v=>if tab.contains (name,t) then some (.lW name t v,H) else none
  | _=>none
 | .append zero bytes zeros s x=>fO lim H zero bytes zeros (ev s) (ev x)
 | .copy sz d s=>nW lim H sz (ev d) (ev s)
 | .len str x=>val H (bh str (ev x))
 | .cap x=>val H (Cu (ev x))
 | .kr isMax args=>val H (iL isMax (args.map ev))
 | .makeMap hint=>if vu (hint.map ev) then some (.map (some H.next),H.push (.map [] ⟨0,[]⟩)) else none
 | .lookup g ls z ok m k=>val H (jV H g ls z ok (ev m) (ev k))
 | .mapUpdate g ls m k v=>(lp lim H g ls (ev m) (ev k) (ev v)).map fun H=>(bA,H)
 | .vh g ls m k=>(pX lim H g ls (ev m) (ev k)).map fun H=>(bA,H)
 | .tC g ls z m k=>vo lim H g ls z (ev m) (ev k)
 | .rF g ls m s v=>(vp lim H g ls (ev m) (ev s) (ev v)).map fun H=>(bA,H)
 | .vi m=>val H (tD H (ev m))
 | .vk m=>(vq lim H (ev m)).map fun H=>(bA,H)
 | .vm z x=>(vr lim H z (ev x)).map fun H=>(bA,H)
 | .mapRange _=>none
 | .mapNext _=>none
 | .mapEntry _=>none
 | .stop=>none
structure St where
 tmps:List aa
 H:ah
def St.ev (tmps:List aa):aP→aa
 | .tmp t=>tmps.getD t bA
 | .val v=>v
def dc (tmps:List aa) (dst:Option Nat) (v:aa):List aa:=
 match dst with
 | some d=>tmps.set d v
 | none=>tmps
def eF (tmps:List aa):Option (Nat × Bool)→Bool
 | none=>true
 | some (t,want)=>match tmps[t]? with
  | some (.bool b)=>b==want
  | _=>false
def lq:aa→Option Nat
 | .ptr (some (b,_))=>some b
 | _=>none
def vv (x y:aa):Bool:=
 match lq x,lq y with
 | some b,some c=> !(b==c)
 | _,_=>false
def aY.clear (o:aY) (tmps:List aa):Bool:=
 match o.apart,o.op with
 | [],_=>true
 | ys,.load _ a=>ys.all fun y=>vv (St.ev tmps a) (St.ev tmps y)
 | _,_=>false
def vw:aa→aa→Bool
 | .int k n,.int k' n'=>decide (k=k') && n==n'
 | .bool a,.bool b=>a==b
 | .str a,.str b=>a==b
 | .ptr a,.ptr b=>a==b
 | .sl a n c,.sl a' n' c'=>a==a' && n==n' && decide (c=c')
 | .map a,.map b=>a==b
 | .nilFn,.nilFn=>true
 | .nilIface,.nilIface=>true
 | _,_=>false
def pY:List aa→List aa→Bool
 | [],[]=>true
 | x::xs,y::ys=>vw x y && pY xs ys
 | _,_=>false
def pZ:Option dB→Option dB→Bool
 | some (.cells xs),some (.cells ys)=>pY xs ys
 | _,_=>false
def aY.kept (o:aY) (tmps:List aa) (H H':ah):Bool:=
 o.apart.all fun y=>match lq (St.ev tmps y) with
  | some b=>pZ (H.get b) (H'.get b)
  | none=>true
def bG.lu:bG→Bool
 | .tC _ _ _ _ _ | .rF _ _ _ _ _=>true
 | op=>op.jF
def vA (R:aq) (lim:Nat) (o:aY) (s:St):Option St:=
 if o.op.lu then
  match step R (if o.cQ then s.H.next else lim) (St.ev s.tmps) s.H o.op with
  | some (v,H)=>if o.kept s.tmps s.H H then some ⟨dc s.tmps o.dst v,H⟩ else none
  | none=>none
 else none
def execOp (R:aq) (lim:Nat) (o:aY) (s:St):Option St:=
 if eF s.tmps o.guard then
  if !o.clear s.tmps then vA R lim o s else
  match step R (if o.cQ then s.H.next else lim) (St.ev s.tmps) s.H o.op with
  | some (v,H)=>some ⟨dc s.tmps o.dst v,H⟩
  | none=>none
 else some ⟨dc s.tmps o.dst bA,s.H⟩
def ep (R:aq) (lim:Nat):List aY→St→Option St
 | [],s=>some s
 | o::os,s=>match execOp R lim o s with
  | some s=>ep R lim os s
  | none=>none
def dy (body:St→Option (Ex × St)):Nat→St→Option (Ex × St)
 | 0,_=>none
 | n+1,s=>match body s with
  | some (.norm,s)=>dy body n s
  | r=>r
def exec (R:aq) (lim n:Nat):aT→St→Option (Ex × St)
 | .skip,s=>some (.norm,s)
 | .region ops,s=>(ep R lim ops s).map fun s=>(.norm,s)
 | .seq a b,s=>match exec R lim n a s with
  | some (.norm,s)=>exec R lim n b s
  | r=>r
 | .cond c a b,s=>match St.ev s.tmps c with
  | .bool t=>if t then exec R lim n a s else exec R lim n b s
  | _=>none
 | .block id body,s=>match exec R lim n body s with
  | some (.exit id',s)=>if id'=id then some (.norm,s) else some (.exit id',s)
  | r=>r
 | .loop body,s=>dy (exec R lim n body) n s
 | .exit id,s=>some (.exit id,s)
 | .ret,s=>some (.ret,s)
 | .ranges g ps assign body,s=>
  if assign.plain && body.plain then
   match St.ev s.tmps g with
   | .fn f first captured=>
    match R lim (.fn f) (first++[.yl s.H.next]++captured) (s.H.push (.loop ⟨.ready,none,s.tmps,ps,assign,body⟩)) with
    | some (_,H')=>match H'.get s.H.next with
     | some (.loop ⟨.ready,none,_,_,_,_⟩)=>some (.norm,⟨s.tmps,H'.set s.H.next .dead⟩)
     | some (.loop ⟨.done,some e,_,_,_,_⟩)=>some (e,⟨s.tmps,H'.set s.H.next .dead⟩)
     | _=>none
    | none=>none
   | _=>none
  else none
def p8 (s:St):gD→Option aa
 | .tmp t=>some (s.tmps.getD t bA)
 | .cell t agg=>aB s.H agg (s.tmps.getD t bA)
def fT (s:St):List gD→Option (List aa)
 | []=>some []
 | r::rs=>match p8 s r,fT s rs with
  | some v,some vs=>some (v::vs)
  | _,_=>none
def gV:List aa→aa
 | [v]=>v
 | vs=> .bq vs
def lY (af:aW) (s:St):Option (aa × ah):=(fT s af.results).map fun vs=>(gV vs,s.H)
def m9 (af:aW) (args:List aa):List aa:=args++List.replicate (af.ntmps - args.length) bA
def tE (tmps:List aa) (ps:List Nat) (args:List aa):List aa:=(ps.zip args).foldl (fun tmps p=>tmps.set p.1 p.2) tmps
def og (ex:aT→St→Option (Ex × St)) (lim b:Nat) (args:List aa) (H:ah):Option (aa × ah):=
 match H.get b with
 | some (.loop r)=>
  if lim≤b∧args.length=r.ps.length then
   match ex r.assign ⟨tE r.tmps r.ps args,H⟩ with
   | some (.norm,s1)=>
    match s1.H.get b with
    | some (.loop ⟨.ready,q,t,ps,a,c⟩)=>
     match ex r.body ⟨s1.tmps,s1.H.set b (.loop ⟨.busy,q,t,ps,a,c⟩)⟩ with
     | some (e,s2)=>
      match s2.H.get b with
      | some (.loop r2)=>match e with
       | .norm=>some (.bool true,s2.H.set b (.loop {r2 with state:= .ready,pending:=none}))
       | e=>some (.bool false,s2.H.set b (.loop {r2 with state:= .done,pending:=some e}))
      | _=>none
     | none=>none
    | _=>none
   | _=>none
  else none
 | _=>none
inductive bg where
 | code (af:aW)
 | gW (g:Nat→List aa→ah→Option (aa × ah))
def runT (ap:FuncId→Option bg):Nat→aq
 | 0,_,_,_,_=>none
 | n+1,lim,.fn f,args,H=>
  match ap f with
  | some (.code af)=>
   match exec (runT ap n) lim n af.body ⟨m9 af args,H⟩ with
   | some (.exit _,_)=>none
   | some (_,s)=>lY af s
   | none=>none
  | some (.gW g)=>g lim args H
  | none=>none
 | n+1,lim,.yl b,args,H=>og (exec (runT ap n) lim n) lim b args H
def run (ap:FuncId→Option bg) (n lim:Nat) (f:FuncId) (args:List aa) (H:ah):Option (aa × ah):=runT ap n lim (.fn f) args H
end Go.au
end
section
set_option linter.unusedSectionVars false
namespace Go.au
variable [Gl]
def p9:Value→Option aa
 | .int k n=>some (.int k n)
 | .bool b=>some (.bool b)
 | .string s=>some (.str s.data.toList)
 | .pointer none=>some (.ptr none)
 | .slice none 0 0=>some (.sl none 0 (.ex 0))
 | .map none=>some (.map none)
 | .nilFunc=>some .nilFn
 | .nilIface=>some .nilIface
 | _=>none
def fF {α β:Type} (f:α→Option β):List α→Option (List β)
 | []=>some []
 | x::xs=>match f x,fF f xs with
  | some y,some ys=>some (y::ys)
  | _,_=>none
def cval:Value→Option aa
 | .agg cs=>(fF p9 cs.toList).map .agg
 | v=>p9 v
def bR:Operand→Option aP
 | .tmp t=>some (.tmp t)
 | .const v=>(cval v).map .val
 | .func f=>some (.val (.fn f [] []))
 | .global g=>match Gl.gs.contains g with
  | true=>some (.val (.ptr (some (g,0))))
  | false=>none
def nh:Option Operand→Option (Option aP)
 | none=>some none
 | some x=>(bR x).map some
section
variable (P:Program)
def cZ (t:TypeId):Option Nat:=(P.info? t).map (·.size)
def ni (t:TypeId):Option (Option Nat):=
 match P.underlying t with
 | some (.struct _) | some (.array _ _)=>(cZ P t).map some
 | some _=>some none
 | none=>none
def lz (t:TypeId):Option (List aa):=
 match P.info? t with
 | some i=>match i.zero with
  | some z=>match fF p9 z.cells.toList with
   | some l=>if l.length=i.size then some l else none
   | none=>none
  | none=>none
 | none=>none
def rH (f:TypeId→Option (List bE)):Nat→List Field→Option (List bE)
 | _,[]=>some []
 | off,fd::fs=>
  match f fd.type with
  | some l=>
   if fd.offset=off∧cZ P fd.type=some l.length∧fd.name≠ "_" ∧0 <l.length then (rH f (off+l.length) fs).map (l++ ·) else none
  | none=>none
def fU:Nat→TypeId→Option (List bE)
 | 0,_=>none
 | d+1,t=>
  match P.underlying t with
  | some (.int k)=>if cZ P t=some 1 then some [.int k] else none
  | some .bool=>if cZ P t=some 1 then some [.bool] else none
  | some .string=>if cZ P t=some 1 then some [.str] else none
  | some (.array n e)=>
   match fU d e with
   | some l=>if cZ P e=some l.length∧cZ P t=some (n * l.length)∧0 <l.length then some (List.replicate n l).flatten else none
   | none=>none
  | some (.struct fs)=>
   if P.stoodInHeld t then none else
   match rH P (fU d) 0 fs.toList with
   | some l=>if cZ P t=some l.length then some l else none
   | none=>none
  | _=>none
def gj (t:TypeId):Option (Bool × List bE):=
 match P.underlying t,fU P 100 t with
 | some (.struct _),some ls | some (.array _ _),some ls=>some (true,ls)
 | some _,some ls=>some (false,ls)
 | _,_=>none
def tF (t:TypeId):Option aa:=
 match P.info? t with
 | some i=>match i.zero with
  | some z=>cval z
  | none=>none
 | none=>none
def Ir (fs:Array Field) (parts:List (Nat × Operand)):Option (List (Nat × Nat × aP)):=
 fF (fun (p:Nat × Operand)=>match fs[p.1]?,bR p.2 with
  | some f,some x=>(cZ P f.type).map fun s=>(f.offset,s,x)
  | _,_=>none) parts
def Cv (sz:Nat) (parts:List (Nat × Operand)):Option (List (Nat × Nat × aP)):=
 fF (fun (p:Nat × Operand)=>(bR p.2).map fun x=>(p.1 * sz,sz,x)) parts
def vB (b:Builtin) (argTypes:Array TypeId) (args:List aP):Option bG:=
 match b,args with
 | .append,[s,x]=>
  match argTypes[0]?,argTypes[1]? with
  | some t,some tx=>
   match P.underlying t,P.underlying tx with
   | some (.slice e),some (.int _)=>
    match lz P e,P.info? e with
    | some z,some i=>some (.append z i.bytes true s x)
    | _,_=>none
   | some (.slice e),some (.slice _) | some (.slice e),some .string=>
    match lz P e,P.info? e with
    | some z,some i=>some (.append z i.bytes false s x)
    | _,_=>none
   | _,_=>none
  | _,_=>none
 | .copy,[d,s]=>
  match argTypes[0]? with
  | some t=>match P.underlying t with
   | some (.slice e)=>(cZ P e).map fun z=> .copy z d s
   | _=>none
  | none=>none
 | .len,[x]=>
  match argTypes[0]? with
  | some t=>match P.underlying t with
   | some .string=>some (.len true x)
   | some (.slice _)=>some (.len false x)
   | some (.map _ _)=>some (.vi x)
   | _=>none
  | none=>none
 | .delete,[m,k]=>
  match argTypes[0]? with
  | some t=>match P.underlying t with
   | some (.map kt _)=>(gj P kt).map fun q=> .vh q.1 q.2 m k
   | _=>none
  | none=>none
 | .clear,[m]=>
  match argTypes[0]? with
  | some t=>match P.underlying t with
   | some (.map _ _)=>some (.vk m)
   | some (.slice e)=>match lz P e with
    | some z=>if 0 <z.length then some (.vm z m) else none
    | none=>none
   | _=>none
  | none=>none
 | .cap,[x]=>
  match argTypes[0]? with
  | some t=>match P.underlying t with
   | some (.slice _)=>some (.cap x)
   | _=>none
  | none=>none
 | .max,args=>some (.kr true args)
 | .min,args=>some (.kr false args)
 | _,_=>none
def jW:aP→Bool
 | .val .nilIface=>true
 | _=>false
def zo (op:BinOp) (t:TypeId) (x y:aP):Option bG:=
 match op with
 | .eql | .neq=>
  match P.underlying t with
  | some (.int _) | some .string=>some (.bin op x y)
  | some .bool=>some (.eqv (op== .neq) .bool x y)
  | some (.struct _) | some (.array _ _)=>
   if P.eqGuardType P.depth t then none else (fU P 100 t).map fun l=> .eqv (op== .neq) (.cells l) x y
  | some (.pointer _)=>some (.eqv (op== .neq) .ptr x y)
  | some (.slice _)=>some (.eqv (op== .neq) .sl x y)
  | some (.map _ _)=>some (.eqv (op== .neq) .map x y)
  | some (.func _ _ _)=>some (.eqv (op== .neq) .fn x y)
  | some (.interface _)=>some (.eqv (op== .neq) (if (jW x || jW y)=true then .nil else .iface) x y)
  | _=>none
 | _=>some (.bin op x y)
def oh (name:String) (t:TypeId):Option FuncId:=
 match P.info? t,P.underlying t with
 | some i,some (.pointer _)=>match i.methods.find? (·.name==name) with
  | some m=>match m.path.toList,m.func with
   | [],some (f,true)=>some f
   | _,_=>none
  | none=>none
 | _,_=>none
def takes (args:List TypeId) (i:TypeInfo):Bool:=match i.desc with
 | .pointer _=>i.methods.any fun m=>match P.underlying m.sig with
  | some (.func ps _ _)=>ps.toList==args
  | _=>false
 | _=>false
def Cw (name:String) (args:List TypeId):List (TypeId × FuncId):=P.types.toList.zipIdx.filterMap fun (i,t)=>if takes P args i then (oh P name t).map fun f=>(t,f) else none
def Cx (ty:TypeId):List (String × TypeId):=P.types.toList.zipIdx.flatMap fun (i,t)=>i.methods.toList.filterMap fun m=>if m.sig==ty && (oh P m.name t).isSome then some (m.name,t) else none
def dg (ty:TypeId):Op→Option bG
 | .move x | .assign x=>(bR x).map .an
 | .pick c a b=>match bR c,bR a,bR b with
  | some c,some a,some b=>some (.pick c a b)
  | _,_,_=>none
 | .alloc e=>(lz P e).map .alloc
 | .box _ x=>(bR x).map .box
 | .build t parts=>
  match P.underlying t,lz P t with
  | some (.struct fs),some z=>if fs.all (fun f=>(cZ P f.type).isSome) then (Ir P fs parts.toList).map fun ps=> .build z ps else none
  | some (.array _ e),some z=>match cZ P e with
   | some s=>(Cv s parts.toList).map fun ps=> .build z ps
   | none=>none
  | _,_=>none
 | .buildSlice t len parts=>
  match P.underlying t with
  | some (.slice e)=>match lz P e with
   | some z=>if 0 <z.length∧len * z.length≤2 ^ 24 then (Cv z.length parts.toList).map fun ps=> .buildSlice (rep len z) len ps else none
   | none=>none
  | _=>none
 | .load t a=>match ni P t,bR a with
  | some g,some a=>some (.load g a)
  | _,_=>none
 | .store t a x=>match cZ P t,bR a,bR x with
  | some n,some a,some x=>some (.store n a x)
  | _,_,_=>none
 | .nilCheck x=>match P.underlying ty with
  | some (.func _ _ _)=>(bR x).map (.nilFn (Cx P ty))
  | _=>(bR x).map .nilCheck
 | .binOp op t x y _=>match bR x,bR y with
  | some x,some y=>zo P op t x y
  | _,_=>none
 | .unOp op _ x=>(bR x).map (.un op)
 | .convert src dst x=>
  match P.underlying src,P.underlying dst,bR x with
  | some (.int _),some (.int k),some x=>some (.bY k x)
  | some .string,some .string,some x=>some (.rD x)
  | some .string,some (.slice e),some x=>if P.underlying e matches some (.int .u8) then some (.jT x) else none
  | some (.slice e),some .string,some x=>if P.underlying e matches some (.int .u8) then some (.iU x) else none
  | _,_,_=>none
 | .makeInterface t x=>
  match P.underlying t,bR x with
  | some (.interface _),_=>none
  | some _,some x=>some (.eT t x)
  | _,_=>none
 | .makeFunc (.func f) first captured=>
  match fF bR first.toList,fF bR captured.toList with
  | some a,some b=>some (.rE f a b)
  | _,_=>none
 | .makeFunc (.method name) first captured=>
  match first.toList,captured.toList with
  | [x],[]=>(bR x).map (.bound name)
  | _,_=>none
 | .makeSlice t l c=>
  match P.underlying t,bR l,bR c with
  | some (.slice e),some l,some c=>match lz P e,P.info? e with
   | some z,some i=>if 0 <z.length then some (.makeSlice z i.bytes l c) else none
   | _,_=>none
  | _,_,_=>none
 | .slice t x lo hi mx=>
  match bR x,nh lo,nh hi,nh mx with
  | some x,some lo,some hi,some mx=>
   match P.underlying t with
   | some (.slice e)=>(cZ P e).map fun s=> .slice s x lo hi mx
   | some .string=>if mx.isSome then none else some (.dP x lo hi)
   | some (.array n e)=>(cZ P e).map fun s=> .iV n s x lo hi mx
   | _=>none
  | _,_,_,_=>none
 | .fieldAddr s x f=>
  match P.underlying s,bR x with
  | some (.struct fs),some x=>match fs[f]? with
   | some f=>match cZ P f.type with
    | some z=>if z=0 then none else some (.fieldAddr x f.offset)
    | none=>none
   | none=>none
  | _,_=>none
 | .field t x f=>
  match P.underlying t,bR x with
  | some (.struct fs),some x=>match fs[f]? with
   | some f=>(ni P f.type).map fun g=> .field x f.offset g
   | none=>none
  | _,_=>none
 | .indexAddr t x i=>
  match P.underlying t,bR x,bR i with
  | some (.slice e),some x,some i=>(cZ P e).map fun s=> .indexAddr none s x i
  | some (.array n e),some x,some i=>(cZ P e).map fun s=> .indexAddr (some n) s x i
  | _,_,_=>none
 | .index t x i=>
  match P.underlying t,bR x,bR i with
  | some (.array n e),some x,some i=>match ni P e,cZ P e with
   | some g,some s=>some (.index n s g.isSome x i)
   | _,_=>none
  | some .string,some x,some i=>some (.cr x i)
  | _,_,_=>none
 | .makeMap t hint=>match P.underlying t,nh hint with
  | some (.map _ _),some h=>some (.makeMap h)
  | _,_=>none
 | .lookup t m k ok=>match P.underlying t,bR m,bR k with
  | some (.map kt e),some m,some k=>match gj P kt,tF P e with
   | some q,some z=>some (.lookup q.1 q.2 z ok m k)
   | _,_=>none
  | _,_,_=>none
 | .mapEntry t m k=>match P.underlying t,bR m,bR k with
  | some (.map kt e),some m,some k=>match gj P kt,tF P e with
   | some q,some z=>some (.tC q.1 q.2 z m k)
   | _,_=>none
  | _,_,_=>none
 | .entryStore t m s v=>match P.underlying t,bR m,bR s,bR v with
  | some (.map kt _),some m,some s,some v=>(gj P kt).map fun q=> .rF q.1 q.2 m s v
  | _,_,_,_=>none
 | .mapUpdate t m k v=>match P.underlying t,bR m,bR k,bR v with
  | some (.map kt _),some m,some k,some v=>(gj P kt).map fun q=> .mapUpdate q.1 q.2 m k v
  | _,_,_,_=>none
 | .range t m=>match P.underlying t with
  | some (.map _ _)=>(bR m).map .mapRange
  | _=>none
 | .next it isStr=>if isStr then none else (bR it).map .mapNext
 | .entry it=>(bR it).map .mapEntry
 | .extract x i=>(bR x).map fun x=> .extract x i
 | .call c=>
  match fF bR c.args.toList with
  | some args=>match c.callee with
   | .value (.func f)=>some (.call f args)
   | .value x=>(bR x).map fun x=> .m6 x args
   | .builtin b=>vB P b c.argTypes args
   | .invoke x name=>(bR x).map fun x=> .invoke (Cw P name c.argTypes.toList) x args
  | none=>none
 | .panic _=>some .stop
 | _=>none
end
def Cy (ops:Array Oper):Option (Nat × Bool)→Option (Option (Nat × Bool))
 | none=>some none
 | some (j,want)=>match (ops[j]?).bind (·.dst) with
  | some t=>some (some (t,want))
  | none=>none
def aY.reads (o:aY):List Nat:=
 (o.op.zk.filterMap fun x=>match x with | .tmp t=>some t | .val _=>none)++(match o.guard with | some (t,_)=>[t] | none=>[])
def gF (b:Array Nat) (i j:Nat):Bool:=(b.getD (max i j) 0).testBit (min i j)
def zq (l:List aY) (b:Array Nat):Bool:=
 l.zipIdx.all fun (o,j)=>match o.dst with
  | none=>true
  | some d=>l.zipIdx.all fun (o',i)=>i==j || gF b i j || !(o'.dst==some d || o'.reads.contains d)
def alone (l:List aY) (b:Array Nat) (i:Nat):Bool:=
 l.zipIdx.all fun (o,j)=>o.op.pure || j==i || gF b i j
def bG.kE:bG→Bool
 | .load _ _=>true
 | _=>false
def Is (l:List aY):aP→Bool
 | .tmp t=>l.all fun o=> !(o.dst==some t)
 | .val _=>true
def bG.kF:bG→Bool
 | .alloc _ | .box _ | .buildSlice _ _ _=>true
 | _=>false
def aP.It:aP→Bool
 | .tmp _=>true
 | .val _=>false
def rootOf (l:List aY):Nat→Nat→aP→Option aP
 | 0,_,_=>none
 | _+1,_,.val v=>some (.val v)
 | f+1,k,.tmp t=>
  if Is l (.tmp t) then some (.tmp t) else
  match l.findIdx? (fun o=>o.dst==some t) with
  | some i=>match l[i]? with
   | some o=>if i <k && o.guard.isNone && l.zipIdx.all (fun (o,j)=>j==i || !(o.dst==some t)) then
     match o.op with
     | .an x | .nilCheck x | .fieldAddr x _=>rootOf l f i x
     | _=>none
    else none
   | none=>none
  | none=>none
def oo (l:List aY) (b:Array Nat) (k:Nat):Option aP:=
 match l[k]? with
 | some o=>match o.op with
  | .store _ a _=>match rootOf l 8 k a with
   | some y=>if l.zipIdx.all fun (o,j)=>o.op.pure || j==k || gF b k j || (decide (j <k) && (o.op.kE || (o.op.kF && y.It))) then some y else none
   | none=>none
  | _=>none
 | none=>none
def zu (l:List aY) (b:Array Nat) (i:Nat):List aP:=
 (List.range l.length).filterMap fun k=>if i <k && !gF b k i then oo l b k else none
def nj (l:List aY) (b:Array Nat) (k:Nat):Bool:=
 match l[k]? with
 | some o=>o.op.lu && l.zipIdx.all fun (o',j)=>o'.op.pure || j==k || gF b k j || (decide (j <k) && match o'.op with
   | .load _ (.tmp t)=>l.zipIdx.all fun (o2,i)=>decide (i <j) || !(o2.dst==some t)
   | .load _ (.val _)=>true
   | _=>false) || (decide (k <j) && o'.op.kF && o'.guard.isNone)
 | none=>false
def zw (l:List aY) (b:Array Nat) (k:Nat):List aP:=
 if nj l b k then l.zipIdx.filterMap fun (o',j)=>match o'.op with
  | .load _ a=>if j <k && !gF b k j then some a else none
  | _=>none
 else []
def qa (P:Program) (ops:Array Oper) (o:Oper):Option aY:=
 match dg P o.type o.op,Cy ops o.guard with
 | some op,some g=>some {dst:=o.dst,op:=op,guard:=g,cQ:=false,apart:=[]}
 | _,_=>none
def vC (P:Program) (ops:Array Oper) (draw:Bool):Option (List aY):=
 match fF (qa P ops) ops.toList with
 | some l=>
  if !draw then some l else
  let b:=Region.before ops
  if zq l b && (ops.toList.zipIdx.all fun (o,i)=>o.after.all fun e=>e.on <i || !Region.binds .any e) then
   some (l.zipIdx.map fun (o,i)=>{o with cQ:= !o.op.pure && !alone l b i && !(oo l b i).isSome && !nj l b i,apart:=if o.op.kE then zu l b i else zw l b i})
  else none
 | none=>none
def fH (P:Program):Code→Option aT
 | .skip=>some .skip
 | .region _ ops draw=>(vC P ops draw).map .region
 | .seq a b=>match fH P a,fH P b with
  | some a,some b=>some (.seq a b)
  | _,_=>none
 | .cond c a b=>match bR c,fH P a,fH P b with
  | some c,some a,some b=>some (.cond c a b)
  | _,_,_=>none
 | .block id c=>(fH P c).map (.block id)
 | .loop c=>(fH P c).map .loop
 | .exit id=>some (.exit id)
 | .label _=>some .skip
 | .ret=>some .ret
 | .refuse _=>some (.region [⟨none,.stop,none,false,[]⟩])
 | .rangeFunc g ps a c=>match bR g,fH P a,fH P c with
  | some g,some a,some c=>some (.ranges g ps.toList a c)
  | _,_,_=>none
 | _=>none
def zx (P:Program):ResultVar→Option gD
 | .tmp t=>some (.tmp t)
 | .cell t ty=>(ni P ty).map (.cell t)
def aZ (P:Program) (f:FuncId):Option aW:=
 match P.funcs[f]? with
 | some fn=>
  match fn.body with
  | some c=>match fH P c,fF (zx P) fn.results.toList with
   | some c,some rs=>if fn.name== "runtime.NumGoroutine" then none else some {ntmps:=fn.ntmps,results:=rs,body:=c}
   | _,_=>none
  | none=>none
 | none=>none
end Go.au
end
section
set_option linter.unusedSectionVars false
namespace Go.au
variable [Gl]
structure Loc where
 blk:Nat
 d:Nat
 rI:Nat
abbrev Mp:=Nat→Option Loc
inductive aJ (ρ:Mp):aa→Value→Prop where
 | int (k:IntKind) (n:Int):aJ ρ (.int k n) (.int k n)
 | bool (b:Bool):aJ ρ (.bool b) (.bool b)
 | str {l:List UInt8} {s:ByteArray} (h:s.data.toList=l):aJ ρ (.str l) (.string s)
 | vD:aJ ρ (.ptr none) (.pointer none)
 | ptr {b o:Nat} {L:Loc} (h:ρ b=some L):aJ ρ (.ptr (some (b,o))) (.pointer (some ⟨L.blk,L.d+o,none⟩))
 | lB:aJ ρ (.sl none 0 (.ex 0)) (.slice none 0 0)
 | gX {b o n c:Nat} {L:Loc} (h:ρ b=some L) (hn:n≤c):aJ ρ (.sl (some (b,o)) n (.ex c)) (.slice (some ⟨L.blk,L.d+o,none⟩) n c)
 | iz {b o n e c k:Nat} {L:Loc} (h:ρ b=some L) (hn:n≤c) (hc:L.d+o+c * e=L.rI) (hk:k≤c):
   aJ ρ (.sl (some (b,o)) n (.op e k)) (.slice (some ⟨L.blk,L.d+o,none⟩) n c)
 | jq {b o e:Nat} {a:Addr} {L:Loc} (h:ρ b=some L) (hc:L.d+o=L.rI):aJ ρ (.sl (some (b,o)) 0 (.op e 0)) (.slice (some a) 0 0)
 | kH {b o n c:Nat} {L:Loc} (h:ρ b=some L) (hn:n≤c):aJ ρ (.sl (some (b,o)) n .un) (.slice (some ⟨L.blk,L.d+o,none⟩) n c)
 | lC {b o:Nat} {a:Addr} {L:Loc} (h:ρ b=some L):aJ ρ (.sl (some (b,o)) 0 .un) (.slice (some a) 0 0)
 | kJ {b o:Nat} {a:Addr} {L:Loc} (h:ρ b=some L):aJ ρ (.sl (some (b,o)) 0 (.ex 0)) (.slice (some a) 0 0)
 | vE:aJ ρ (.map none) (.map none)
 | map {b:Nat} {L:Loc} (h:ρ b=some L):aJ ρ (.map (some b)) (.map (some L.blk))
 | fn {f:FuncId} {xs ys:List aa} {a9as bs:Array Value} (h1:xs.length=a9as.size) (h2:ys.length=bs.size)
   (h3:∀(i:Nat) (v:aa) (v':Value),xs[i]? =some v→a9as[i]? =some v'→aJ ρ v v') (h4:∀(i:Nat) (v:aa) (v':Value),ys[i]? =some v→bs[i]? =some v'→aJ ρ v v'):
   aJ ρ (.fn f xs ys) (.func (.func f) a9as bs)
 | nilFn:aJ ρ .nilFn .nilFunc
 | iface {t:TypeId} {v:aa} {v':Value} (h:aJ ρ v v'):aJ ρ (.iface t v) (.iface t v')
 | nilIface:aJ ρ .nilIface .nilIface
 | agg {cs:List aa} {vs:Array Value} (h1:cs.length=vs.size) (h2:∀(i:Nat) (v:aa) (v':Value),cs[i]? =some v→vs[i]? =some v'→aJ ρ v v'):
   aJ ρ (.agg cs) (.agg vs)
 | bq {cs:List aa} {vs:Array Value} (h1:cs.length=vs.size) (h2:∀(i:Nat) (v:aa) (v':Value),cs[i]? =some v→vs[i]? =some v'→aJ ρ v v'):
   aJ ρ (.bq cs) (.tuple vs)
 | yl {b:Nat} {L:Loc} (h:ρ b=some L):aJ ρ (.yl b) (.func (.yield L.blk) #[] #[])
 | tB (r:Nat):aJ ρ (.tB r) (.pointer (some ⟨r,0,none⟩))
 | lW {name:String} {t:TypeId} {v:aa} {v':Value} (h:aJ ρ v v'):aJ ρ (.lW name t v) (.func (.method name) #[.iface t v'] #[])
def az (ρ:Mp) (xs:List aa) (a9as:List Value):Prop:=xs.length=a9as.length∧ ∀(i:Nat) (v:aa) (v':Value),xs[i]? =some v→a9as[i]? =some v'→aJ ρ v v'
def Ext (ρ ρ':Mp):Prop:= ∀b L,ρ b=some L→ρ' b=some L
theorem Ext.refl (ρ:Mp):Ext ρ ρ:=fun _ _ h=>h
theorem Ext.trans {a b c:Mp} (h:Ext a b) (h':Ext b c):Ext a c:=fun x L e=>h' x L (h x L e)
theorem aJ.ext {ρ ρ':Mp} (he:Ext ρ ρ') {v:aa} {v':Value} (h:aJ ρ v v'):aJ ρ' v v':=by
 induction h with
 | int k n=>exact .int k n
 | bool b=>exact .bool b
 | str h=>exact .str h
 | vD=>exact .vD
 | ptr h=>exact .ptr (he _ _ h)
 | lB=>exact .lB
 | gX h hn=>exact .gX (he _ _ h) hn
 | iz h hn hc hk=>exact .iz (he _ _ h) hn hc hk
 | jq h hc=>exact .jq (he _ _ h) hc
 | kH h hn=>exact .kH (he _ _ h) hn
 | lC h=>exact .lC (he _ _ h)
 | kJ h=>exact .kJ (he _ _ h)
 | vE=>exact .vE
 | map h=>exact .map (he _ _ h)
 | fn h1 h2 _ _ ih3 ih4=>exact .fn h1 h2 ih3 ih4
 | nilFn=>exact .nilFn
 | iface _ ih=>exact .iface ih
 | nilIface=>exact .nilIface
 | agg h1 _ ih=>exact .agg h1 ih
 | bq h1 _ ih=>exact .bq h1 ih
 | yl h=>exact .yl (he _ _ h)
 | tB r=>exact .tB r
 | lW _ ih=>exact .lW ih
theorem az.ext {ρ ρ':Mp} (he:Ext ρ ρ') {xs:List aa} {a9as:List Value} (h:az ρ xs a9as):az ρ' xs a9as:=
 ⟨h.1,fun i v v' a b=>(h.2 i v v' a b).ext he⟩
theorem az.nil (ρ:Mp):az ρ [] []:=⟨rfl,fun i v v' a _=>by simp at a⟩
theorem az.cons {ρ:Mp} {x:aa} {a:Value} {xs:List aa} {a9as:List Value} (h:aJ ρ x a) (ht:az ρ xs a9as):az ρ (x::xs) (a::a9as):=by
 refine ⟨by simp [ht.1],fun i v v' e e'=> ?_⟩
 cases i with
 | zero=>simp at e e';subst e e';exact h
 | succ i=>simp at e e';exact ht.2 i v v' e e'
theorem az.head {ρ:Mp} {x:aa} {a:Value} {xs:List aa} {a9as:List Value} (h:az ρ (x::xs) (a::a9as)):aJ ρ x a:=h.2 0 x a rfl rfl
theorem az.tail {ρ:Mp} {x:aa} {a:Value} {xs:List aa} {a9as:List Value} (h:az ρ (x::xs) (a::a9as)):az ρ xs a9as:=
 ⟨by have:=h.1;simpa using this,fun i v v' e e'=>h.2 (i+1) v v' (by simpa using e) (by simpa using e')⟩
theorem az.append {ρ:Mp} {xs ys:List aa} {a9as bs:List Value} (h:az ρ xs a9as) (h':az ρ ys bs):az ρ (xs++ys) (a9as++bs):=by
 refine ⟨by simp [h.1,h'.1],fun i v v' e e'=> ?_⟩
 rw [List.getElem?_append] at e e'
 rw [←h.1] at e'
 split at e
 ·rename_i hi;rw [if_pos hi] at e';exact h.2 i v v' e e'
 ·rename_i hi;rw [if_neg hi] at e';exact h'.2 _ v v' e e'
theorem az.take {ρ:Mp} {xs:List aa} {a9as:List Value} (h:az ρ xs a9as) (n:Nat):az ρ (xs.take n) (a9as.take n):=by
 refine ⟨by simp [h.1],fun i v v' e e'=> ?_⟩
 rw [List.getElem?_take] at e e'
 split at e
 ·rename_i hi;rw [if_pos hi] at e';exact h.2 i v v' e e'
 ·simp at e
theorem az.drop {ρ:Mp} {xs:List aa} {a9as:List Value} (h:az ρ xs a9as) (n:Nat):az ρ (xs.drop n) (a9as.drop n):=by
 refine ⟨by simp [h.1],fun i v v' e e'=> ?_⟩
 rw [List.getElem?_drop] at e e'
 exact h.2 _ v v' e e'
theorem az.get {ρ:Mp} {xs:List aa} {a9as:List Value} (h:az ρ xs a9as) {i:Nat} {v:aa} (e:xs[i]? =some v):∃v',a9as[i]? =some v'∧aJ ρ v v':=by
 have hi:i <xs.length:=by
  rcases Nat.lt_or_ge i xs.length with h | h
  ·exact h
  ·rw [List.getElem?_eq_none h] at e;simp at e
 have hi':i <a9as.length:=h.1 ▸ hi
 exact ⟨a9as[i],List.getElem?_eq_getElem hi',h.2 i v _ e (List.getElem?_eq_getElem hi')⟩
theorem az.Iu {ρ:Mp} {α:Type} (l:List α) (f:α→aa) (g:α→Value) (h:∀x∈l,aJ ρ (f x) (g x)):az ρ (l.map f) (l.map g):=by
 induction l with
 | nil=>exact az.nil ρ
 | cons x xs ih=>exact az.cons (h x (by simp)) (ih fun y hy=>h y (by simp [hy]))
theorem az.replicate {ρ:Mp} {x:aa} {a:Value} (n:Nat) (h:aJ ρ x a):az ρ (List.replicate n x) (List.replicate n a):=by
 induction n with
 | zero=>exact az.nil ρ
 | succ n ih=>exact az.cons h ih
theorem az.flat {ρ:Mp} {x:List aa} {a:List Value} (n:Nat) (h:az ρ x a):az ρ (List.replicate n x).flatten (List.replicate n a).flatten:=by
 induction n with
 | zero=>exact az.nil ρ
 | succ n ih=>simp only [List.replicate_succ,List.flatten_cons];exact az.append h ih
theorem aJ.tG {ρ:Mp} {cs:List aa} {vs:Array Value} (h:az ρ cs vs.toList):aJ ρ (.agg cs) (.agg vs):=
 .agg (by simpa using h.1) fun i v v' e e'=>h.2 i v v' e (by simpa using e')
theorem aJ.qb {ρ:Mp} {cs:List aa} {vs:Array Value} (h:az ρ cs vs.toList):aJ ρ (.bq cs) (.tuple vs):=
 .bq (by simpa using h.1) fun i v v' e e'=>h.2 i v v' e (by simpa using e')
theorem aJ.qc {ρ:Mp} {cs:List aa} {v':Value} (h:aJ ρ (.agg cs) v'):∃vs,v'= .agg vs∧az ρ cs vs.toList:=by
 cases h with
 | agg h1 h2=>exact ⟨_,rfl,by simpa using h1,fun i v v' e e'=>h2 i v v' e (by simpa using e')⟩
theorem aJ.Q8 {ρ:Mp} {cs:List aa} {v':Value} (h:aJ ρ (.bq cs) v'):∃vs,v'= .tuple vs∧az ρ cs vs.toList:=by
 cases h with
 | bq h1 h2=>exact ⟨_,rfl,by simpa using h1,fun i v v' e e'=>h2 i v v' e (by simpa using e')⟩
theorem aJ.Iv {ρ:Mp} {f:FuncId} {xs ys:List aa} {v':Value} (h:aJ ρ (.fn f xs ys) v'):
  ∃a9as bs,v'= .func (.func f) a9as bs∧az ρ xs a9as.toList∧az ρ ys bs.toList:=by
 cases h with
 | fn h1 h2 h3 h4=>exact ⟨_,_,rfl,⟨by simpa using h1,fun i v v' e e'=>h3 i v v' e (by simpa using e')⟩,⟨by simpa using h2,fun i v v' e e'=>h4 i v v' e (by simpa using e')⟩⟩
theorem aJ.Iw {ρ:Mp} {f:FuncId} {xs ys:List aa} {a9as bs:Array Value} (h:az ρ xs a9as.toList) (h':az ρ ys bs.toList):aJ ρ (.fn f xs ys) (.func (.func f) a9as bs):=
 .fn (by simpa using h.1) (by simpa using h'.1) (fun i v v' e e'=>h.2 i v v' e (by simpa using e')) (fun i v v' e e'=>h'.2 i v v' e (by simpa using e'))
theorem aJ.bA (ρ:Mp):aJ ρ bA undef:=aJ.qb (az.nil ρ)
theorem aJ.cells {ρ:Mp} {v:aa} {v':Value} (h:aJ ρ v v'):az ρ v.cells v'.cells.toList:=by
 cases h with
 | agg h1 h2=>exact ⟨by simpa [aa.cells,Value.cells] using h1,fun i v v' e e'=>h2 i v v' e (by simpa [Value.cells] using e')⟩
 | int=>exact az.cons (.int ..) (az.nil ρ)
 | bool=>exact az.cons (.bool _) (az.nil ρ)
 | str h=>exact az.cons (.str h) (az.nil ρ)
 | vD=>exact az.cons .vD (az.nil ρ)
 | ptr h=>exact az.cons (.ptr h) (az.nil ρ)
 | lB=>exact az.cons .lB (az.nil ρ)
 | gX h hn=>exact az.cons (.gX h hn) (az.nil ρ)
 | iz h hn hc hk=>exact az.cons (.iz h hn hc hk) (az.nil ρ)
 | jq h hc=>exact az.cons (.jq h hc) (az.nil ρ)
 | kH h hn=>exact az.cons (.kH h hn) (az.nil ρ)
 | lC h=>exact az.cons (.lC h) (az.nil ρ)
 | kJ h=>exact az.cons (.kJ h) (az.nil ρ)
 | vE=>exact az.cons .vE (az.nil ρ)
 | map h=>exact az.cons (.map h) (az.nil ρ)
 | fn h1 h2 h3 h4=>exact az.cons (.fn h1 h2 h3 h4) (az.nil ρ)
 | nilFn=>exact az.cons .nilFn (az.nil ρ)
 | iface h=>exact az.cons (.iface h) (az.nil ρ)
 | nilIface=>exact az.cons .nilIface (az.nil ρ)
 | lW h=>exact az.cons (.lW h) (az.nil ρ)
 | bq h1 h2=>exact az.cons (.bq h1 h2) (az.nil ρ)
 | yl h=>exact az.cons (.yl h) (az.nil ρ)
 | tB r=>exact az.cons (.tB r) (az.nil ρ)
theorem aJ.one {ρ:Mp} {v:aa} {v':Value} (h:aJ ρ v v'):v'.oneCell'=v.one:=by cases h <;>rfl
def Row (w:World) (L:Loc) (c:Array Value) (free:Prop):Prop:=
 ∃e fr,w.heap[L.blk]? =some (.cells c e fr)∧c.size=L.rI∧(free→ ∀i,i <c.size→ ¬(fr.1≤i∧i <fr.2))
def jX (ρ:Mp) (l:List (aa × aa)) (es:List MapEntry):Prop:=
 l.length=es.length∧ ∀(i:Nat) (k v:aa) (e:MapEntry),l[i]? =some (k,v)→es[i]? =some e→aJ ρ k e.key∧aJ ρ v e.val
theorem jX.ext {ρ ρ':Mp} (he:Ext ρ ρ') {l:List (aa × aa)} {es:List MapEntry} (h:jX ρ l es):jX ρ' l es:=
 ⟨h.1,fun i k v e h1 h2=>⟨(h.2 i k v e h1 h2).1.ext he,(h.2 i k v e h1 h2).2.ext he⟩⟩
structure iM (ρ:Mp) (es:List (aa × aa)) (clock:ku) (es':List MapEntry):Prop where
 keys:(es.map (·.1)).Nodup
 perm:∃l,l.Perm es∧jX ρ l es'
 born:(es'.map (·.born)).Nodup
 tH:∀e∈es',e.born <clock.n
 known:∀p∈clock.kn,∀e∈es',∀dQ:Mp,aJ dQ p.1 e.key→e.born=p.2
theorem iM.ext {ρ ρ':Mp} (he:Ext ρ ρ') {es:List (aa × aa)} {clock:ku} {es':List MapEntry} (h:iM ρ es clock es'):iM ρ' es clock es':=by
 obtain ⟨l,h1,h2⟩:=h.perm
 exact ⟨h.keys,⟨l,h1,h2.ext he⟩,h.born,h.tH,h.known⟩
def zy:Ex→Code
 | .norm=> .skip
 | .exit id=> .exit id
 | .ret=> .ret
structure vF (P:Program) (ρ:Mp) (r:zm) (r':Loop):Prop where
 state:r'.state=r.state
 pend:r'.pending=r.pending.map zy
 ps:r'.params.toList=r.ps
 tmps:az ρ r.tmps r'.tmps.toList
 iX:fH P r'.assign=some r.assign
 body:fH P r'.body=some r.body
 plain:r.assign.plain=true∧r.body.plain=true
theorem vF.ext {P:Program} {ρ ρ':Mp} (he:Ext ρ ρ') {r:zm} {r':Loop} (h:vF P ρ r r'):vF P ρ' r r':=
 ⟨h.state,h.pend,h.ps,h.tmps.ext he,h.iX,h.body,h.plain⟩
structure Rel (P:Program) (n0:Nat) (ρ:Mp) (H:ah) (w:World):Prop where
 row:∀b L cs,ρ b=some L→H.get b=some (.cells cs)→
  ∃c,Row w L c (n0≤b)∧L.d+cs.length≤c.size∧az ρ cs ((c.toList.drop L.d).take cs.length)
 map:∀b L es clock,ρ b=some L→H.get b=some (.map es clock)→
  ∃es',w.heap[L.blk]? =some (.map es' clock.n)∧iM ρ es clock es'.toList
 loop:∀b L r,ρ b=some L→H.get b=some (.loop r)→ ∃r',w.heap[L.blk]? =some (.loop r')∧vF P ρ r r'
 dom:∀b L,ρ b=some L→L.blk <w.heap.size
 excl:∀b b' L L',n0≤b→b≠b'→ρ b=some L→ρ b'=some L'→(H.get b).isSome→(H.get b').isSome→H.get b≠some .dead→H.get b'≠some .dead→L.blk≠L'.blk
 jY:∀g,Gl.gs.contains g=true→ ∃n,ρ g=some ⟨g,0,n⟩
def iY (w w':World):Prop:=w'.os=w.os∧w'.tape=w.tape∧w'.output=w.output
theorem iY.refl (w:World):iY w w:=⟨rfl,rfl,rfl⟩
theorem iY.trans {a b c:World} (h:iY a b) (h':iY b c):iY a c:=⟨h'.1.trans h.1,h'.2.1.trans h.2.1,h'.2.2.trans h.2.2⟩
structure Post (P:Program) (n0 lim:Nat) (ρ:Mp) (H:ah) (w:World) (ρ':Mp) (H':ah) (w':World):Prop where
 rel:Rel P n0 ρ' H' w'
 ext:Ext ρ ρ'
 new:∀b L,ρ b=none→ρ' b=some L→H.next≤b∧b <H'.next∧
  (w.heap.size≤L.blk∨ ∃b0 L0,lim≤b0∧b0 <H.next∧ρ b0=some L0∧L0.blk=L.blk)
 frame:∀r,r <w.heap.size→(∀b L,lim≤b→b <H.next→ρ b=some L→L.blk≠r)→w'.heap[r]? =w.heap[r]?
 size:w.heap.size≤w'.heap.size
 keep:∀b,b <lim→H'.get b=H.get b
 next:H.next≤H'.next
 rest:iY w w'
section
variable {P:Program}
theorem Post.refl {n0 lim:Nat} {ρ:Mp} {H:ah} {w:World} (h:Rel P n0 ρ H w):Post P n0 lim ρ H w ρ H w:=
 ⟨h,.refl ρ,fun b L e e'=>by rw [e] at e';simp at e',fun _ _ _=>rfl,Nat.le_refl _,fun _ _=>rfl,Nat.le_refl _,.refl w⟩
theorem Rel.heap_eq {n0:Nat} {ρ:Mp} {H:ah} {w w':World} (h:Rel P n0 ρ H w) (hw:w'.heap=w.heap):Rel P n0 ρ H w':=
 ⟨fun b L cs e e'=>by
   obtain ⟨c,⟨t,fr,hr,h2,h3⟩,h4,h5⟩:=h.row b L cs e e'
   exact ⟨c,⟨t,fr,by rw [hw];exact hr,h2,h3⟩,h4,h5⟩,
  fun b L es cl e e'=>by obtain ⟨es',h1,h2⟩:=h.map b L es cl e e';exact ⟨es',by rw [hw];exact h1,h2⟩,
  fun b L r e e'=>by obtain ⟨r',h1,h2⟩:=h.loop b L r e e';exact ⟨r',by rw [hw];exact h1,h2⟩,
  fun b L e=>by rw [hw];exact h.dom b L e,h.excl,h.jY⟩
theorem Post.heap_eq {n0 lim:Nat} {ρ:Mp} {H:ah} {w w':World} (h:Rel P n0 ρ H w) (hw:w'.heap=w.heap) (hs:iY w w'):Post P n0 lim ρ H w ρ H w':=
 ⟨h.heap_eq hw,.refl ρ,fun b L e e'=>by rw [e] at e';simp at e',fun r _ _=>by rw [hw],by rw [hw];exact Nat.le_refl _,fun _ _=>rfl,Nat.le_refl _,hs⟩
theorem Post.trans {n0 lim lim':Nat} {ρ ot vI:Mp} {H H₁ H₂:ah} {w w₁ w₂:World} (hl:lim≤lim') (hf:∀b,H.next≤b→b <H₂.next→ρ b=none)
  (h:Post P n0 lim ρ H w ot H₁ w₁) (h':Post P n0 lim' ot H₁ w₁ vI H₂ w₂):Post P n0 lim ρ H w vI H₂ w₂:=by
 have old:∀b0 L0,lim'≤b0→b0 <H₁.next→ot b0=some L0→(w.heap.size≤L0.blk∨ ∃b1 L1,lim≤b1∧b1 <H.next∧ρ b1=some L1∧L1.blk=L0.blk):=by
  intro b0 L0 g1 g2 g3
  cases hb:ρ b0 with
  | none=>exact (h.new b0 L0 hb g3).2.2
  | some L1=>
   rcases Nat.lt_or_ge b0 H.next with g | g
   ·have:=h.ext b0 L1 hb
    rw [g3] at this;simp at this;subst this
    exact .inr ⟨b0,L0,by omega,g,hb,rfl⟩
   ·rw [hf b0 g (Nat.lt_of_lt_of_le g2 h'.next)] at hb;simp at hb
 refine ⟨h'.rel,h.ext.trans h'.ext,?_,?_,Nat.le_trans h.size h'.size,?_,Nat.le_trans h.next h'.next,h.rest.trans h'.rest⟩
 ·intro b L e e'
  cases hb:ot b with
  | some L1=>
   have:=h'.ext b L1 hb
   rw [e'] at this;simp at this;subst this
   obtain ⟨g1,g2,g3⟩:=h.new b L e hb
   exact ⟨g1,Nat.lt_of_lt_of_le g2 h'.next,g3⟩
  | none=>
   obtain ⟨g1,g2,g3⟩:=h'.new b L hb e'
   refine ⟨Nat.le_trans h.next g1,g2,?_⟩
   rcases g3 with g3 | ⟨b0,L0,q1,q2,q3,q4⟩
   ·exact .inl (Nat.le_trans h.size g3)
   ·rw [←q4];exact old b0 L0 q1 q2 q3
 ·intro r hr hn
  rw [h'.frame r (Nat.lt_of_lt_of_le hr h.size) ?_,h.frame r hr hn]
  intro b L g1 g2 g3
  rcases old b L g1 g2 g3 with q | ⟨b1,L1,q1,q2,q3,q4⟩
  ·omega
  ·rw [←q4];exact hn b1 L1 q1 q2 q3
 ·intro b hb
  rw [h'.keep b (Nat.lt_of_lt_of_le hb hl),h.keep b hb]
end
end Go.au
end
section
set_option linter.unusedSimpArgs false
set_option linter.unusedVariables false
set_option linter.unusedSectionVars false
namespace Go.au
variable [Gl]
theorem add_eq (b o n:Nat):(⟨b,o,none⟩:Addr).add n=⟨b,o+n,none⟩:=by
 unfold Addr.add
 split
 ·subst_vars;rfl
 ·rfl
section
variable {P:Program}
theorem cell_of {w:World} {blk:Nat} {c:Array Value} {e:TypeId} {fr:Nat × Nat} (h:w.heap[blk]? =some (.cells c e fr)) (o:Nat):
  w.cell? ⟨blk,o,none⟩=c[o]? :=by simp [World.cell?,h]
theorem Q9 {w:World} {blk:Nat} {c:Array Value} {e:TypeId} {fr:Nat × Nat} (h:w.heap[blk]? =some (.cells c e fr)) (o:Nat) (hf:¬(fr.1≤o∧o <fr.2)):
  w.frozen? ⟨blk,o,none⟩=false:=by
 obtain ⟨x,y⟩:=fr
 simp [World.frozen?,h] at hf ⊢
 exact hf
theorem vJ {w:World} {blk o n:Nat} {c:Array Value} {e:TypeId} {fr:Nat × Nat} (h:w.heap[blk]? =some (.cells c e fr)) (hn:o+n≤c.size):
  (loadCells ⟨blk,o,none⟩ n).run P w= .ok ((c.toList.drop o).take n).toArray w:=by
 have hl:((c.toList.drop o).take n).length=n:=by simp;omega
 have:=run_loadCells_list (P:=P) w ⟨blk,o,none⟩ ((c.toList.drop o).take n) (by
  intro j v hj
  rw [add_eq,cell_of h]
  rw [List.getElem?_take] at hj
  split at hj
  ·rw [List.getElem?_drop] at hj
   simpa using hj
  ·simp at hj)
 rwa [hl] at this
theorem heap_setCell {w:World} {blk o:Nat} {c:Array Value} {e:TypeId} {fr:Nat × Nat} (h:w.heap[blk]? =some (.cells c e fr)) (v:Value):
  (w.setCell ⟨blk,o,none⟩ v).heap.size=w.heap.size∧(∀r,r≠blk→(w.setCell ⟨blk,o,none⟩ v).heap[r]? =w.heap[r]?)∧
   (w.setCell ⟨blk,o,none⟩ v).heap[blk]? =some (.cells (c.setIfInBounds o v) e fr):=by
 refine ⟨by simp [World.setCell],fun r hr=> ?_,?_⟩
 ·simp [World.setCell,Array.getElem?_modify,Ne.symm hr]
 ·simp [World.setCell,Array.getElem?_modify,h]
theorem Cz {blk o:Nat} {e:TypeId} {fr:Nat × Nat}:∀(vs:List Value) (i:Nat) (w:World) (c:Array Value),w.heap[blk]? =some (.cells c e fr)→
  o+i+vs.length≤c.size→(∀k,o+i≤k→k <o+i+vs.length→ ¬(fr.1≤k∧k <fr.2))→(∀v∈vs,v.oneCell'=true)→
  ∃w' c',(storeCells ⟨blk,o,none⟩ vs i).run P w= .ok () w'∧w'.heap.size=w.heap.size∧(∀r,r≠blk→w'.heap[r]? =w.heap[r]?)∧
   w'.heap[blk]? =some (.cells c' e fr)∧iY w w'∧c'.toList=c.toList.take (o+i)++vs++c.toList.drop (o+i+vs.length)
 | [],i,w,c,h,_,_,_=>⟨w,c,by simp [storeCells],rfl,fun _ _=>rfl,h,.refl w,by simp⟩
 | v::vs,i,w,c,h,hn,hf,h1=>by
  simp only [List.length_cons] at hn hf
  obtain ⟨g1,g2,g3⟩:=heap_setCell (o:=o+i) h v
  obtain ⟨w',c',r1,r2,r3,r4,r6,r5⟩:=Cz (blk:=blk) (o:=o) vs (i+1) (w.setCell ⟨blk,o+i,none⟩ v) (c.setIfInBounds (o+i) v) g3 (by rw [Array.size_setIfInBounds];omega) (fun k hk hk'=>hf k (by omega) (by omega)) (fun u hu=>h1 u (by simp [hu]))
  refine ⟨w',c',?_,r2.trans g1,fun r hr=>(r3 r hr).trans (g2 r hr),r4,r6,?_⟩
  ·simp only [storeCells,Sem.run_bind]
   have hlt:o+i <c.size:=by omega
   rw [add_eq,run_store P w _ v _ (h1 v (by simp)),cell_of h,Array.getElem?_eq_getElem hlt]
   simp only [Q9 h _ (hf (o+i) (by omega) (by omega)),Bool.false_eq_true,if_false,Result.andThen_ok]
   exact r1
  ·rw [r5]
   simp only [Array.toList_setIfInBounds,List.length_cons]
   have hlt:o+i <c.toList.length:=by simpa using (by omega:o+i <c.size)
   rw [show o+(i+1)=o+i+1 from rfl,List.take_set,List.drop_set]
   rw [if_pos (by omega:o+i <o+i+1+vs.length)]
   rw [List.take_succ_eq_append_getElem hlt,List.set_append]
   have hlt':o+i <c.size:=by omega
   simp only [List.length_take,Array.length_toList,Nat.min_eq_left (Nat.le_of_lt hlt'),Nat.lt_irrefl,if_false,Nat.sub_self,List.set_cons_zero,
    List.append_assoc,List.singleton_append,show o+i+1+vs.length=o+i+(vs.length+1) by omega,List.cons_append,List.nil_append]
end
def upd (ρ:Mp) (b:Nat) (L:Loc):Mp:=fun x=>if x=b then some L else ρ x
theorem eG (ρ:Mp) (b:Nat) (L:Loc):upd ρ b L b=some L:=by simp [upd]
theorem fI (ρ:Mp) {b x:Nat} (L:Loc) (h:x≠b):upd ρ b L x=ρ x:=by simp [upd,h]
theorem vK {ρ:Mp} {b:Nat} (L:Loc) (h:ρ b=none):Ext ρ (upd ρ b L):=fun x L' e=>by
 by_cases hx:x=b
 ·subst hx;rw [h] at e;simp at e
 ·rw [fI _ _ hx];exact e
section
variable {P:Program} {n0 lim:Nat} {ρ:Mp} {H:ah} {w w':World}
theorem Rel.cells (hr:Rel P n0 ρ H w) {b:Nat} {L:Loc} {cs:List aa} (hb:ρ b=some L) (hc:H.cells b=some cs):
  ∃c e fr,w.heap[L.blk]? =some (.cells c e fr)∧c.size=L.rI∧(n0≤b→ ∀i,i <c.size→ ¬(fr.1≤i∧i <fr.2))∧
   L.d+cs.length≤c.size∧az ρ cs ((c.toList.drop L.d).take cs.length):=by
 obtain ⟨c,⟨e,fr,h1,h2,h3⟩,h4,h5⟩:=hr.row b L cs hb (ah.cells_eq.1 hc)
 exact ⟨c,e,fr,h1,h2,h3,h4,h5⟩
structure zz (P:Program) (n0:Nat) (ρ:Mp) (w:World) (b:Nat) (L:Loc) (x:dB):Prop where
 row:∀cs,x= .cells cs→ ∃c,Row w L c (n0≤b)∧L.d+cs.length≤c.size∧az ρ cs ((c.toList.drop L.d).take cs.length)
 map:∀es clock,x= .map es clock→ ∃es',w.heap[L.blk]? =some (.map es' clock.n)∧iM ρ es clock es'.toList
 loop:∀r,x= .loop r→ ∃r',w.heap[L.blk]? =some (.loop r')∧vF P ρ r r'
theorem Rel.Ix {ρ':Mp} (hr:Rel P n0 ρ H w) (he:Ext ρ ρ'):∀g,Gl.gs.contains g=true→ ∃n,ρ' g=some ⟨g,0,n⟩:=fun g h=>by
 obtain ⟨n,e⟩:=hr.jY g h
 exact ⟨n,he _ _ e⟩
theorem zz.dead {b:Nat} {L:Loc}:zz P n0 ρ w b L .dead:=⟨fun _ h=>by simp at h,fun _ _ h=>by simp at h,fun _ h=>by simp at h⟩
theorem Rel.rJ (hr:Rel P n0 ρ H w) {b:Nat} {L:Loc} {x x':dB} (hl:n0≤lim) (hb:lim≤b) (hρ:ρ b=some L) (hH:H.get b=some x) (hx:x≠ .dead) (hs:w.heap.size≤w'.heap.size)
  (ho:∀r,r <w.heap.size→r≠L.blk→w'.heap[r]? =w.heap[r]?) (hn:zz P n0 ρ w' b L x') (jG:iY w w'):Post P n0 lim ρ H w ρ (H.set b x') w':=by
 have hlt:=ah.jm hH
 have kK:∀b',((H.set b x').get b').isSome→(H.set b x').get b'≠some .dead→(H.get b').isSome∧H.get b'≠some .dead:=by
  intro b' h1 h2
  by_cases hb':b'=b
  ·subst hb';rw [hH];simpa using hx
  ·rw [ah.eD _ _ _ _ hb'] at h1 h2;exact ⟨h1,h2⟩
 have ou:∀b1 L1 y,b1≠b→ρ b1=some L1→H.get b1=some y→y≠ .dead→w'.heap[L1.blk]? =w.heap[L1.blk]? :=by
  intro b1 L1 y h1 h2 h3 h4
  have hne:L.blk≠L1.blk:=hr.excl b b1 L L1 (by omega) (Ne.symm h1) hρ h2 (by rw [hH];rfl) (by rw [h3];rfl) (by rw [hH];simpa using hx) (by rw [h3];simpa using h4)
  exact ho _ (hr.dom _ _ h2) (Ne.symm hne)
 refine ⟨⟨?_,?_,?_,?_,?_,hr.jY⟩,.refl ρ,fun b L e e'=>by rw [e] at e';simp at e',?_,hs,?_,Nat.le_refl _,jG⟩
 ·intro b1 L1 cs1 e1 e2
  by_cases gl:b1=b
  ·subst gl
   rw [ah.lX _ _ _ hlt] at e2
   rw [hρ] at e1
   simp at e1 e2
   subst e1
   exact hn.row _ e2
  ·rw [ah.eD _ _ _ _ gl] at e2
   obtain ⟨c0,⟨t0,ow,q1,q2,q3⟩,q4,q5⟩:=hr.row b1 L1 cs1 e1 e2
   exact ⟨c0,⟨t0,ow,by rw [ou b1 L1 _ gl e1 e2 (by simp)];exact q1,q2,q3⟩,q4,q5⟩
 ·intro b1 L1 es cl e1 e2
  by_cases gl:b1=b
  ·subst gl
   rw [ah.lX _ _ _ hlt] at e2
   rw [hρ] at e1
   simp at e1 e2
   subst e1
   exact hn.map _ _ e2
  ·rw [ah.eD _ _ _ _ gl] at e2
   obtain ⟨es',q1,q2⟩:=hr.map b1 L1 es cl e1 e2
   exact ⟨es',by rw [ou b1 L1 _ gl e1 e2 (by simp)];exact q1,q2⟩
 ·intro b1 L1 r e1 e2
  by_cases gl:b1=b
  ·subst gl
   rw [ah.lX _ _ _ hlt] at e2
   rw [hρ] at e1
   simp at e1 e2
   subst e1
   exact hn.loop _ e2
  ·rw [ah.eD _ _ _ _ gl] at e2
   obtain ⟨r',q1,q2⟩:=hr.loop b1 L1 r e1 e2
   exact ⟨r',by rw [ou b1 L1 _ gl e1 e2 (by simp)];exact q1,q2⟩
 ·intro b1 L1 e1;exact Nat.lt_of_lt_of_le (hr.dom b1 L1 e1) hs
 ·intro b1 b2 L1 L2 g1 g2 g3 g4 g5 g6 g7 g8
  exact hr.excl b1 b2 L1 L2 g1 g2 g3 g4 (kK b1 g5 g7).1 (kK b2 g6 g8).1 (kK b1 g5 g7).2 (kK b2 g6 g8).2
 ·intro r hr' hn'
  exact ho r hr' (Ne.symm (hn' b L hb hlt hρ))
 ·intro b1 gl
  exact ah.eD _ _ _ _ (by omega)
theorem Rel.write (hr:Rel P n0 ρ H w) {b:Nat} {L:Loc} {cs cs':List aa} {c c':Array Value} {e:TypeId} {fr:Nat × Nat} (hl:n0≤lim) (hb:lim≤b)
  (hρ:ρ b=some L) (hH:H.cells b=some cs) (hlen:cs'.length=cs.length) (hw:w.heap[L.blk]? =some (.cells c e fr)) (hs:w'.heap.size=w.heap.size)
  (ho:∀r,r≠L.blk→w'.heap[r]? =w.heap[r]?) (hn:w'.heap[L.blk]? =some (.cells c' e fr)) (hcs:c'.size=c.size)
  (bU:az ρ cs' ((c'.toList.drop L.d).take cs'.length)) (jG:iY w w'):Post P n0 lim ρ H w ρ (H.set b (.cells cs')) w':=by
 have nr:=ah.cells_eq.1 hH
 refine hr.rJ hl hb hρ nr (by simp) (by omega) (fun r _ h=>ho r h) ⟨?_,fun _ _ h=>by simp at h,fun _ h=>by simp at h⟩ jG
 intro cs1 h1
 simp at h1;subst h1
 obtain ⟨c0,⟨t0,ow,q1,q2,q3⟩,q4,q5⟩:=hr.row b L cs hρ nr
 rw [hw] at q1;simp at q1;obtain ⟨rfl,rfl,rfl⟩:=q1
 exact ⟨c',⟨e,fr,hn,by omega,by rw [hcs];exact q3⟩,by omega,bU⟩
theorem Rel.grow (hr:Rel P n0 ρ H w) (hlim:lim≤H.next) (hf:ρ H.next=none) (L:Loc) (x:dB) (h1:w.heap.size≤L.blk) (h2:L.blk <w'.heap.size)
  (hold:∀r,r <w.heap.size→w'.heap[r]? =w.heap[r]?) (hn:zz P n0 (upd ρ H.next L) w' H.next L x) (jG:iY w w'):
  Post P n0 lim ρ H w (upd ρ H.next L) (H.push x) w':=by
 have dR:=vK (ρ:=ρ) L hf
 refine ⟨⟨?_,?_,?_,?_,?_,hr.Ix dR⟩,dR,?_,fun r h1 _=>hold r h1,by omega,?_,by rw [ah.bK];omega,jG⟩
 ·intro b L1 cs1 e1 e2
  by_cases hx:b=H.next
  ·subst hx
   rw [eG] at e1
   rw [ah.jU] at e2
   simp at e1 e2
   subst e1
   exact hn.row _ e2
  ·rw [fI _ _ hx] at e1
   rw [ah.gi _ _ _ hx] at e2
   obtain ⟨c0,⟨t0,ow,q1,q2,q3⟩,q4,q5⟩:=hr.row b L1 cs1 e1 e2
   exact ⟨c0,⟨t0,ow,by rw [hold _ (hr.dom _ _ e1)];exact q1,q2,q3⟩,q4,q5.ext dR⟩
 ·intro b L1 es cl e1 e2
  by_cases hx:b=H.next
  ·subst hx
   rw [eG] at e1
   rw [ah.jU] at e2
   simp at e1 e2
   subst e1
   exact hn.map _ _ e2
  ·rw [fI _ _ hx] at e1
   rw [ah.gi _ _ _ hx] at e2
   obtain ⟨es',q1,q2⟩:=hr.map b L1 es cl e1 e2
   exact ⟨es',by rw [hold _ (hr.dom _ _ e1)];exact q1,q2.ext dR⟩
 ·intro b L1 r e1 e2
  by_cases hx:b=H.next
  ·subst hx
   rw [eG] at e1
   rw [ah.jU] at e2
   simp at e1 e2
   subst e1
   exact hn.loop _ e2
  ·rw [fI _ _ hx] at e1
   rw [ah.gi _ _ _ hx] at e2
   obtain ⟨r',q1,q2⟩:=hr.loop b L1 r e1 e2
   exact ⟨r',by rw [hold _ (hr.dom _ _ e1)];exact q1,q2.ext dR⟩
 ·intro b L1 e1
  by_cases hx:b=H.next
  ·subst hx;rw [eG] at e1;simp at e1;subst e1;exact h2
  ·rw [fI _ _ hx] at e1;have:=hr.dom b L1 e1;omega
 ·intro b1 b2 L1 L2 g1 g2 g3 g4 g5 g6 g7 g8
  by_cases k1:b1=H.next
  ·subst k1
   rw [eG] at g3;simp at g3;subst g3
   rw [fI _ _ (Ne.symm g2)] at g4
   have:=hr.dom _ _ g4;omega
  ·rw [fI _ _ k1] at g3
   rw [ah.gi _ _ _ k1] at g5 g7
   by_cases k2:b2=H.next
   ·subst k2
    rw [eG] at g4;simp at g4;subst g4
    have:=hr.dom _ _ g3;omega
   ·rw [fI _ _ k2] at g4
    rw [ah.gi _ _ _ k2] at g6 g8
    exact hr.excl b1 b2 L1 L2 g1 g2 g3 g4 g5 g6 g7 g8
 ·intro b L1 e1 e2
  by_cases hx:b=H.next
  ·subst hx;rw [eG] at e2;simp at e2;subst e2
   exact ⟨Nat.le_refl _,by rw [ah.bK];omega,.inl h1⟩
  ·rw [fI _ _ hx,e1] at e2;simp at e2
 ·intro b hb
  exact ah.gi _ _ _ (by omega)
theorem Rel.alloc (hr:Rel P n0 ρ H w) (hlim:lim≤H.next) (hf:ρ H.next=none) (cs:List aa) (c:Array Value) (e:TypeId) (fr:Nat × Nat) (hlen:cs.length≤c.size)
  (hc:az ρ cs (c.toList.take cs.length)) (hfr:∀i,i <c.size→ ¬(fr.1≤i∧i <fr.2)) (hw':w'.heap=w.heap.push (.cells c e fr)) (jG:iY w w'):
  Post P n0 lim ρ H w (upd ρ H.next ⟨w.heap.size,0,c.size⟩) (H.push (.cells cs)) w':=by
 have dR:=vK (ρ:=ρ) ⟨w.heap.size,0,c.size⟩ hf
 have hold:∀r,r <w.heap.size→w'.heap[r]? =w.heap[r]? :=by
  intro r hr';rw [hw',Array.getElem?_push];rw [if_neg (by omega)]
 have hnew:w'.heap[w.heap.size]? =some (.cells c e fr):=by rw [hw',Array.getElem?_push];simp
 have hsz:w'.heap.size=w.heap.size+1:=by rw [hw'];simp
 refine hr.grow hlim hf ⟨w.heap.size,0,c.size⟩ _ (Nat.le_refl _) (by simp only;omega) hold ⟨?_,fun _ _ h=>by simp at h,fun _ h=>by simp at h⟩ jG
 intro cs1 h1
 simp at h1;subst h1
 exact ⟨c,⟨e,fr,hnew,rfl,fun _=>hfr⟩,by simpa using hlen,by simpa using hc.ext dR⟩
theorem Rel.kill (hr:Rel P n0 ρ H w) {b:Nat} {cs:List aa} (hb:lim≤b) (hH:H.cells b=some cs):Post P n0 lim ρ H w ρ (H.set b .dead) w:=by
 have nr:=ah.cells_eq.1 hH
 have hlt:=ah.jm nr
 have dX:∀b' x,(H.set b .dead).get b'=some x→x≠ .dead→b'≠b∧H.get b'=some x:=by
  intro b' x h1 h2
  by_cases hx:b'=b
  ·subst hx;rw [ah.lX _ _ _ hlt] at h1;simp at h1;exact absurd h1.symm h2
  ·rw [ah.eD _ _ _ _ hx] at h1;exact ⟨hx,h1⟩
 have kK:∀b',((H.set b .dead).get b').isSome→(H.set b .dead).get b'≠some .dead→(H.get b').isSome∧H.get b'≠some .dead:=by
  intro b' h1 h2
  obtain ⟨x,hx⟩:=Option.isSome_iff_exists.1 h1
  obtain ⟨_,h3⟩:=dX b' x hx (by rintro rfl;exact h2 hx)
  rw [h3];rw [hx] at h2;exact ⟨rfl,h2⟩
 refine ⟨⟨?_,?_,?_,hr.dom,?_,hr.jY⟩,.refl ρ,fun b L e e'=>by rw [e] at e';simp at e',fun r _ _=>rfl,Nat.le_refl _,?_,Nat.le_refl _,.refl w⟩
 ·intro b1 L1 cs1 e1 e2
  exact hr.row b1 L1 cs1 e1 (dX b1 _ e2 (by simp)).2
 ·intro b1 L1 es cl e1 e2
  exact hr.map b1 L1 es cl e1 (dX b1 _ e2 (by simp)).2
 ·intro b1 L1 r e1 e2
  exact hr.loop b1 L1 r e1 (dX b1 _ e2 (by simp)).2
 ·intro b1 b2 L1 L2 g1 g2 g3 g4 g5 g6 g7 g8
  exact hr.excl b1 b2 L1 L2 g1 g2 g3 g4 (kK b1 g5 g7).1 (kK b2 g6 g8).1 (kK b1 g5 g7).2 (kK b2 g6 g8).2
 ·intro b1 gl
  exact ah.eD _ _ _ _ (by omega)
theorem Rel.Ra (hr:Rel P n0 ρ H w) (hlim:lim≤H.next) (hf:ρ H.next=none) {b o:Nat} {L:Loc} {cs cs':List aa} {c c':Array Value} {e:TypeId} {fr:Nat × Nat} (hl:n0≤lim) (hb:lim≤b)
  (hρ:ρ b=some L) (hH:H.cells b=some cs) (hw:w.heap[L.blk]? =some (.cells c e fr)) (hs:w'.heap.size=w.heap.size)
  (ho:∀r,r≠L.blk→w'.heap[r]? =w.heap[r]?) (hn:w'.heap[L.blk]? =some (.cells c' e fr)) (hcs:c'.size=c.size) (hle:L.d+o+cs'.length≤c.size)
  (bU:az ρ cs' ((c'.toList.drop (L.d+o)).take cs'.length)) (jG:iY w w'):
  Post P n0 lim ρ H w (upd ρ H.next ⟨L.blk,L.d+o,L.rI⟩) ((H.set b .dead).push (.cells cs')) w':=by
 have nr:=ah.cells_eq.1 hH
 have hlt:=ah.jm nr
 have dR:=vK (ρ:=ρ) ⟨L.blk,L.d+o,L.rI⟩ hf
 have lZ:(H.set b .dead).next=H.next:=rfl
 have hnew:((H.set b .dead).push (.cells cs')).get H.next=some (.cells cs'):=ah.jU (H.set b .dead) _
 have dX:∀b',b'≠H.next→b'≠b→((H.set b .dead).push (.cells cs')).get b'=H.get b':=by
  intro b' h1 h2
  rw [ah.gi _ _ _ (by rw [lZ];exact h1),ah.eD _ _ _ _ h2]
 have ox:((H.set b .dead).push (.cells cs')).get b=some .dead:=by
  rw [ah.gi _ _ _ (by rw [lZ];omega),ah.lX _ _ _ hlt]
 have ou:∀b1 L1 x,b1≠b→ρ b1=some L1→H.get b1=some x→x≠ .dead→L.blk≠L1.blk:=by
  intro b1 L1 x h1 h2 h3 h4
  exact hr.excl b b1 L L1 (by omega) (Ne.symm h1) hρ h2 (by rw [nr];rfl) (by rw [h3];rfl) (by rw [nr];simp) (by rw [h3];simpa using h4)
 refine ⟨⟨?_,?_,?_,?_,?_,hr.Ix dR⟩,dR,?_,?_,by omega,?_,by rw [ah.bK,lZ];omega,jG⟩
 ·intro b1 L1 cs1 e1 e2
  by_cases hx:b1=H.next
  ·subst hx
   rw [eG] at e1;rw [hnew] at e2
   simp at e1 e2
   subst e1 e2
   obtain ⟨c0,⟨t0,ow,q1,q2,q3⟩,q4,q5⟩:=hr.row b L cs hρ nr
   rw [hw] at q1;simp at q1;obtain ⟨rfl,rfl,rfl⟩:=q1
   exact ⟨c',⟨e,fr,hn,by simp only;omega,fun _=>by rw [hcs];exact q3 (by omega)⟩,by simp only;omega,bU.ext dR⟩
  ·by_cases hy:b1=b
   ·subst hy;rw [ox] at e2;simp at e2
   ·rw [fI _ _ hx] at e1
    rw [dX b1 hx hy] at e2
    obtain ⟨c0,⟨t0,ow,q1,q2,q3⟩,q4,q5⟩:=hr.row b1 L1 cs1 e1 e2
    have hne:=ou b1 L1 _ hy e1 e2 (by simp)
    exact ⟨c0,⟨t0,ow,by rw [ho _ (Ne.symm hne)];exact q1,q2,q3⟩,q4,q5.ext dR⟩
 ·intro b1 L1 es cl e1 e2
  by_cases hx:b1=H.next
  ·subst hx;rw [hnew] at e2;simp at e2
  ·by_cases hy:b1=b
   ·subst hy;rw [ox] at e2;simp at e2
   ·rw [fI _ _ hx] at e1
    rw [dX b1 hx hy] at e2
    obtain ⟨es',q1,q2⟩:=hr.map b1 L1 es cl e1 e2
    have hne:=ou b1 L1 _ hy e1 e2 (by simp)
    exact ⟨es',by rw [ho _ (Ne.symm hne)];exact q1,q2.ext dR⟩
 ·intro b1 L1 r e1 e2
  by_cases hx:b1=H.next
  ·subst hx;rw [hnew] at e2;simp at e2
  ·by_cases hy:b1=b
   ·subst hy;rw [ox] at e2;simp at e2
   ·rw [fI _ _ hx] at e1
    rw [dX b1 hx hy] at e2
    obtain ⟨r',q1,q2⟩:=hr.loop b1 L1 r e1 e2
    have hne:=ou b1 L1 _ hy e1 e2 (by simp)
    exact ⟨r',by rw [ho _ (Ne.symm hne)];exact q1,q2.ext dR⟩
 ·intro b1 L1 e1
  rw [hs]
  by_cases hx:b1=H.next
  ·subst hx;rw [eG] at e1;simp at e1;subst e1;exact hr.dom b L hρ
  ·rw [fI _ _ hx] at e1;exact hr.dom b1 L1 e1
 ·intro b1 b2 L1 L2 g1 g2 g3 g4 g5 g6 g7 g8
  by_cases h1:b1=H.next
  ·subst h1
   rw [eG] at g3;simp at g3;subst g3
   rw [fI _ _ (Ne.symm g2)] at g4
   by_cases hy:b2=b
   ·subst hy;exact absurd ox g8
   ·rw [dX b2 (Ne.symm g2) hy] at g6 g8
    obtain ⟨x,hx⟩:=Option.isSome_iff_exists.1 g6
    exact ou b2 L2 x hy g4 hx (by rintro rfl;exact g8 hx)
  ·rw [fI _ _ h1] at g3
   by_cases hy:b1=b
   ·subst hy;exact absurd ox g7
   ·rw [dX b1 h1 hy] at g5 g7
    by_cases h2:b2=H.next
    ·subst h2
     rw [eG] at g4;simp at g4;subst g4
     obtain ⟨x,hx⟩:=Option.isSome_iff_exists.1 g5
     exact Ne.symm (ou b1 L1 x hy g3 hx (by rintro rfl;exact g7 hx))
    ·rw [fI _ _ h2] at g4
     by_cases hz:b2=b
     ·subst hz;exact absurd ox g8
     ·rw [dX b2 h2 hz] at g6 g8
      exact hr.excl b1 b2 L1 L2 g1 g2 g3 g4 g5 g6 g7 g8
 ·intro b1 L1 e1 e2
  by_cases hx:b1=H.next
  ·subst hx;rw [eG] at e2;simp at e2;subst e2
   exact ⟨Nat.le_refl _,by rw [ah.bK,lZ];omega,.inr ⟨b,L,hb,hlt,hρ,rfl⟩⟩
  ·rw [fI _ _ hx,e1] at e2;simp at e2
 ·intro r _ hn'
  exact ho r (Ne.symm (hn' b L hb hlt hρ))
 ·intro b1 gl
  exact dX b1 (by omega) (by omega)
end
end Go.au
end
section
set_option linter.unusedSimpArgs false
set_option linter.unusedVariables false
set_option linter.unusedSectionVars false
namespace Go.au
variable [Gl]
section
variable {P:Program}
theorem gG {t:TypeId} {n:Nat} (h:cZ P t=some n) (w:World):(sizeOf t).run P w= .ok n w:=by
  unfold cZ at h
  cases hi:P.info? t with
  | none=>rw [hi] at h;simp at h
  | some i=>rw [hi] at h;simp at h;simp [sizeOf,typeInfo,hi,h]
theorem l5 {t:TypeId} {i:TypeInfo} (h:P.info? t=some i) (w:World):(typeInfo t).run P w= .ok i w:=by simp [typeInfo,h]
theorem bL {t:TypeId} {d:TypeDesc} (h:P.underlying t=some d) (w:World):(underlying t).run P w= .ok d w:=by simp [underlying,h]
theorem zA {t:TypeId} {d:TypeDesc} (h:P.underlying t=some d) (w:World):
    (isAgg t).run P w= .ok (match d with | .struct _ | .array _ _=>true | _=>false) w:=by
  simp only [isAgg,Sem.run_bind,bL h,Result.andThen_ok]
  cases d <;>rfl
theorem Iy {t:TypeId} {g:Option Nat} (h:ni P t=some g):
    ∃d,P.underlying t=some d∧(∀w,(isAgg t).run P w= .ok g.isSome w)∧(∀n,g=some n→ ∀w,(sizeOf t).run P w= .ok n w):=by
  unfold ni at h
  split at h
  · rename_i fs hu
    simp at h
    obtain ⟨n,h1,h2⟩:=h
    subst h2
    exact ⟨_,hu,fun w=>by rw [zA hu];rfl,fun m hm w=>by simp at hm;subst hm;exact gG h1 w⟩
  · rename_i n0 e hu
    simp at h
    obtain ⟨n,h1,h2⟩:=h
    subst h2
    exact ⟨_,hu,fun w=>by rw [zA hu];rfl,fun m hm w=>by simp at hm;subst hm;exact gG h1 w⟩
  · rename_i d hn1 hn2 hu
    simp at h
    subst h
    refine ⟨d,hu,fun w=> ?_,fun m hm=>by simp at hm⟩
    rw [zA hu]
    cases d <;>first | rfl | exact absurd rfl (hn1 _) | exact absurd rfl (hn2 _ _) | exact absurd hu (hn2 _ _) | exact absurd hu (hn1 _)
  · simp at h
theorem Iz (ρ:Mp) {v:Value} {x:aa} (h:p9 v=some x):aJ ρ x v:=by
  unfold p9 at h
  split at h <;>simp at h <;>subst h
  · exact .int _ _
  · exact .bool _
  · exact .str rfl
  · exact .vD
  · exact .lB
  · exact .vE
  · exact .nilFn
  · exact .nilIface
theorem Rb {v:Value} {x:aa} (h:p9 v=some x):x.one=true:=by
  unfold p9 at h
  split at h <;>simp at h <;>subst h <;>rfl
theorem nu {α β:Type} {f:α→Option β}:∀{l:List α} {r:List β},fF f l=some r→r.length=l.length
  | [],r,h=>by simp [fF] at h;subst h;rfl
  | x::xs,r,h=>by
    unfold fF at h
    split at h
    · rename_i y ys h1 h2
      simp at h;subst h
      simp [nu h2]
    · simp at h
theorem qd {α β:Type} {f:α→Option β}:∀{l:List α} {r:List β},fF f l=some r→ ∀(i:Nat) (x:α),l[i]? =some x→ ∃y,r[i]? =some y∧f x=some y
  | [],r,h,i,x,hx=>by simp at hx
  | x::xs,r,h,i,z,hz=>by
    unfold fF at h
    split at h
    · rename_i y ys h1 h2
      simp at h;subst h
      cases i with
      | zero=>simp at hz;subst hz;exact ⟨y,rfl,h1⟩
      | succ i=>simp at hz;simpa using qd h2 i z hz
    · simp at h
theorem IA (ρ:Mp) {l:List Value} {r:List aa} (h:fF p9 l=some r):az ρ r l:=by
  refine ⟨nu h,fun i v v' e e'=> ?_⟩
  obtain ⟨y,h1,h2⟩:=qd h i v' e'
  rw [e] at h1;simp at h1;subst h1
  exact Iz ρ h2
theorem IB (ρ:Mp) {v:Value} {x:aa} (h:cval v=some x):aJ ρ x v:=by
  unfold cval at h
  split at h
  · simp at h
    obtain ⟨l,h1,h2⟩:=h
    subst h2
    exact aJ.tG (IA ρ h1)
  · exact Iz ρ h
theorem rK (ρ:Mp) {t:TypeId} {z:List aa} (h:lz P t=some z):
    ∃i v,P.info? t=some i∧i.zero=some v∧z.length=i.size∧v.cells.size=i.size∧az ρ z v.cells.toList∧(∀x∈z,x.one=true):=by
  unfold lz at h
  split at h
  · rename_i i hi
    split at h
    · rename_i v hv
      split at h
      · rename_i l hl
        split at h
        · rename_i hs
          simp at h;subst h
          refine ⟨i,v,hi,hv,hs,by have:=nu hl;simp at this;omega,IA ρ hl,fun x hx=> ?_⟩
          obtain ⟨k,hk,hx⟩:=List.getElem_of_mem hx
          have hk':k <v.cells.toList.length:=by rw [←nu hl];exact hk
          obtain ⟨y,h1,h2⟩:=qd hl k v.cells.toList[k] (List.getElem?_eq_getElem hk')
          rw [List.getElem?_eq_getElem hk] at h1;simp at h1
          rw [←hx,h1];exact Rb h2
        · simp at h
      · simp at h
    · simp at h
  · simp at h
theorem kL {t:TypeId} {i:TypeInfo} {v:Value} (hi:P.info? t=some i) (hv:i.zero=some v) (w:World):(zeroValue t).run P w= .ok v w:=by
  simp [zeroValue,typeInfo,hi,hv]
def dN (P:Program) (n0 lim:Nat) (ρ:Mp) (H:ah) (w:World) (s:Sem Value) (v:aa) (H':ah):Prop:=
  ∃v' w' ρ',s.run P w= .ok v' w'∧Post P n0 lim ρ H w ρ' H' w'∧aJ ρ' v v'
variable {n0 lim:Nat} {ρ:Mp} {H H':ah} {w:World}
theorem dN.same (hr:Rel P n0 ρ H w) {s:Sem Value} {v:aa} {v':Value} (h:s.run P w= .ok v' w) (hv:aJ ρ v v'):dN P n0 lim ρ H w s v H:=
  ⟨v',w,ρ,h,.refl hr,hv⟩
theorem toV_rel {v:aa} {v' u:Value} (h:aJ ρ v v') (hu:toV v=some u):v'=u:=by
  cases h <;>simp [toV] at hu <;>exact hu
theorem Rc (ρ:Mp) {v:aa} {u:Value} (h:gU u=some v):aJ ρ v u:=by
  unfold gU at h
  split at h <;>simp at h <;>subst h
  · exact .int _ _
  · exact .bool _
theorem IC {s:Sem Value} {v:aa} (h:gE s=some v) (ρ:Mp) (w:World):∃u,s.run P w= .ok u w∧aJ ρ v u:=by
  unfold gE at h
  split at h
  · exact ⟨_,rfl,Rc ρ h⟩
  · simp at h
theorem Re (op:BinOp) (t u:TypeId) (k k':IntKind) (a b:Int):binOp op t (.int k a) (.int k' b)=binOp op u (.int k a) (.int k' b):=by
  cases op <;>rfl
theorem bytes_eq {l:List UInt8} {s:ByteArray} (h:s.data.toList=l):s=⟨l.toArray⟩:=by
  subst h;cases s;simp
theorem toList_data (s:ByteArray):s.toList=s.data.toList:=by
  have go:∀(n i:Nat) (r:List UInt8),n=s.size - i→ByteArray.toList.loop s i r=r.reverse++s.data.toList.drop i:=by
    intro n
    induction n with
    | zero=>
      intro i r h
      unfold ByteArray.toList.loop
      have hge:s.data.toList.length≤i:=by simp [←ByteArray.size_data];simp at h ⊢;omega
      rw [if_neg (by omega),List.drop_eq_nil_of_le hge];simp
    | succ n ih=>
      intro i r h
      unfold ByteArray.toList.loop
      rw [if_pos (by omega),ih (i+1) _ (by omega)]
      have hlt:i <s.data.toList.length:=by simp;have:s.data.size=s.size:=rfl;omega
      have hlt':i <s.data.size:=by simpa using hlt
      have hg:s.get! i=s.data.toList[i]:=by
        show s.data[i]! =_
        rw [getElem!_pos s.data i hlt'];simp
      rw [List.drop_eq_getElem_cons hlt,hg,List.reverse_cons,List.append_assoc];rfl
  unfold ByteArray.toList
  rw [go (s.size - 0) 0 [] rfl]
  rfl
theorem qg {l:List UInt8} {s:ByteArray} (h:s.data.toList=l):s.size=l.length:=by
  subst h;show s.data.size=_;simp
theorem Rf (hr:Rel P n0 ρ H w) {op:BinOp} {t:TypeId} {x y v:aa} {x' y':Value} (h:av op x y=some v) (hx:aJ ρ x x') (hy:aJ ρ y y'):
    dN P n0 lim ρ H w (binOp op t x' y') v H:=by
  unfold av at h
  split at h
  · cases hx;cases hy
    rw [Re op 0 t] at h
    obtain ⟨u,h1,h2⟩:=IC (P:=P) h ρ w
    exact .same hr h1 h2
  · rename_i a b
    cases hx with | str ha=>cases hy with | str hb=>
    rename_i s1 s2
    unfold iy at h
    have hs1:=qg ha
    have l7:=qg hb
    have e1:=(toList_data s1).trans ha
    have e2:=(toList_data s2).trans hb
    have CA:(s1++s2).data.toList=a++b:=by rw [ByteArray.data_append];simp [ha,hb]
    cases op <;>simp only at h <;>first | (simp at h;done) | skip
    · split at h
      · simp at h
      · rename_i hn
        simp at h;subst h
        refine .same hr (v':= .string (s1++s2)) ?_ (.str CA)
        simp only [binOp,Op.stringOp]
        rw [hs1,l7,if_neg hn];rfl
    all_goals
      injection h with h;subst h
      refine .same hr (v':= .bool _) (by simp only [binOp,Op.stringOp,e1,e2];rfl) (.bool _)
  · simp at h
theorem vL {op:BinOp} {t:TypeId} {x y:Operand} {a b:Value} (h:∀cs,a≠ .agg cs) (hn:a≠ .nilIface∨b≠ .nilIface) (w:World):(eqGuard op t x y a b).run P w= .ok () w:=by
  unfold eqGuard
  cases op <;>first
    | rfl
    | (simp only [Bool.not_true,Bool.false_eq_true,if_false]
       split
       · rcases hn with hn | hn <;>exact absurd rfl hn
       · exact absurd rfl (h _)
       · rfl)
end
end Go.au
end
