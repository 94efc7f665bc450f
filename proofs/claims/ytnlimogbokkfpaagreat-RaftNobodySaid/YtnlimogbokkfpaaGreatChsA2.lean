/- From the translated program's code to the abstract machine's, with what is asked of it. -/
import Derived.Test.YtnlimogbokkfpaaGreatChsA1
namespace Go.Ahs
def cval1 : Value → Option AVal
 | .int k n => some (.int k n)
 | .bool b => some (.bool b)
 | .string s => some (.str s.data.toList)
 | .pointer none => some (.ptr none)
 | .slice none 0 0 => some (.sl none 0 (.ex 0))
 | .map none => some (.map none)
 | .nilFunc => some .nilFn
 | .nilIface => some .nilIface
 | _ => none
def allSome {α β : Type} (f : α → Option β) : List α → Option (List β)
 | [] => some []
 | x :: xs => match f x, allSome f xs with
  | some y, some ys => some (y :: ys)
  | _, _ => none
def cval : Value → Option AVal
 | .agg cs => (allSome cval1 cs.toList).map .agg
 | v => cval1 v
def copd : Operand → Option Opd
 | .tmp t => some (.tmp t)
 | .const v => (cval v).map .val
 | .func f => some (.val (.fn f [] []))
 | .global _ => none
def optO : Option Operand → Option (Option Opd)
 | none => some none
 | some x => (copd x).map some
section
variable (P : Program)
def sizeT (t : TypeId) : Option Nat := (P.info? t).map (·.size)
def aggT (t : TypeId) : Option (Option Nat) :=
 match P.underlying t with
 | some (.struct _) | some (.array _ _) => (sizeT P t).map some
 | some _ => some none
 | none => none
def zeroT (t : TypeId) : Option (List AVal) :=
 match P.info? t with
 | some i => match i.zero with
  | some z => match allSome cval1 z.cells.toList with
   | some l => if l.length = i.size then some l else none
   | none => none
  | none => none
 | none => none
def leafsFs (f : TypeId → Option (List Leaf)) : Nat → List Field → Option (List Leaf)
 | _, [] => some []
 | off, fd :: fs =>
  match f fd.type with
  | some l =>
   if fd.offset = off ∧ sizeT P fd.type = some l.length ∧ fd.name ≠ "_" ∧ 0 < l.length then (leafsFs f (off + l.length) fs).map (l ++ ·) else none
  | none => none
def leafs : Nat → TypeId → Option (List Leaf)
 | 0, _ => none
 | d + 1, t =>
  match P.underlying t with
  | some (.int k) => if sizeT P t = some 1 then some [.int k] else none
  | some .bool => if sizeT P t = some 1 then some [.bool] else none
  | some .string => if sizeT P t = some 1 then some [.str] else none
  | some (.array n e) =>
   match leafs d e with
   | some l => if sizeT P e = some l.length ∧ sizeT P t = some (n * l.length) ∧ 0 < l.length then some (List.replicate n l).flatten else none
   | none => none
  | some (.struct fs) =>
   if P.stoodInHeld t then none else
   match leafsFs P (leafs d) 0 fs.toList with
   | some l => if sizeT P t = some l.length then some l else none
   | none => none
  | _ => none
def keyT (t : TypeId) : Option (Bool × List Leaf) :=
 match P.underlying t, leafs P 100 t with
 | some (.struct _), some ls | some (.array _ _), some ls => some (true, ls)
 | some _, some ls => some (false, ls)
 | _, _ => none
def zeroA (t : TypeId) : Option AVal :=
 match P.info? t with
 | some i => match i.zero with
  | some z => cval z
  | none => none
 | none => none
def placesS (fs : Array Field) (parts : List (Nat × Operand)) : Option (List (Nat × Nat × Opd)) :=
 allSome (fun (p : Nat × Operand) => match fs[p.1]?, copd p.2 with
  | some f, some x => (sizeT P f.type).map fun s => (f.offset, s, x)
  | _, _ => none) parts
def placesA (sz : Nat) (parts : List (Nat × Operand)) : Option (List (Nat × Nat × Opd)) :=
 allSome (fun (p : Nat × Operand) => (copd p.2).map fun x => (p.1 * sz, sz, x)) parts
def compBuiltin (b : Builtin) (argTypes : Array TypeId) (args : List Opd) : Option Aop :=
 match b, args with
 | .append, [s, x] =>
  match argTypes[0]?, argTypes[1]? with
  | some t, some tx =>
   match P.underlying t, P.underlying tx with
   | some (.slice e), some (.int _) =>
    match zeroT P e, P.info? e with
    | some z, some i => some (.append z i.bytes true s x)
    | _, _ => none
   | some (.slice e), some (.slice _) | some (.slice e), some .string =>
    match zeroT P e, P.info? e with
    | some z, some i => some (.append z i.bytes false s x)
    | _, _ => none
   | _, _ => none
  | _, _ => none
 | .copy, [d, s] =>
  match argTypes[0]? with
  | some t => match P.underlying t with
   | some (.slice e) => (sizeT P e).map fun z => .copy z d s
   | _ => none
  | none => none
 | .len, [x] =>
  match argTypes[0]? with
  | some t => match P.underlying t with
   | some .string => some (.len true x)
   | some (.slice _) => some (.len false x)
   | some (.map _ _) => some (.mapLen x)
   | _ => none
  | none => none
 | .delete, [m, k] =>
  match argTypes[0]? with
  | some t => match P.underlying t with
   | some (.map kt _) => (keyT P kt).map fun q => .mapDelete q.1 q.2 m k
   | _ => none
  | none => none
 | .clear, [m] =>
  match argTypes[0]? with
  | some t => match P.underlying t with
   | some (.map _ _) => some (.mapClear m)
   | some (.slice e) => match zeroT P e with
    | some z => if 0 < z.length then some (.clearSl z m) else none
    | none => none
   | _ => none
  | none => none
 | .cap, [x] =>
  match argTypes[0]? with
  | some t => match P.underlying t with
   | some (.slice _) => some (.cap x)
   | _ => none
  | none => none
 | .max, args => some (.minmax true args)
 | .min, args => some (.minmax false args)
 | _, _ => none
def isNilLit : Opd → Bool
 | .val .nilIface => true
 | _ => false
def compBin (op : BinOp) (t : TypeId) (x y : Opd) : Option Aop :=
 match op with
 | .eql | .neq =>
  match P.underlying t with
  | some (.int _) | some .string => some (.bin op x y)
  | some .bool => some (.eqv (op == .neq) .bool x y)
  | some (.struct _) | some (.array _ _) =>
   if P.eqGuardType P.depth t then none else (leafs P 100 t).map fun l => .eqv (op == .neq) (.cells l) x y
  | some (.pointer _) => some (.eqv (op == .neq) .ptr x y)
  | some (.slice _) => some (.eqv (op == .neq) .sl x y)
  | some (.map _ _) => some (.eqv (op == .neq) .map x y)
  | some (.func _ _ _) => some (.eqv (op == .neq) .fn x y)
  | some (.interface _) => some (.eqv (op == .neq) (if (isNilLit x || isNilLit y) = true then .nil else .iface) x y)
  | _ => none
 | _ => some (.bin op x y)
def methT (name : String) (t : TypeId) : Option FuncId :=
 match P.info? t, P.underlying t with
 | some i, some (.pointer _) => match i.methods.find? (·.name == name) with
  | some m => match m.path.toList, m.func with
   | [], some (f, true) => some f
   | _, _ => none
  | none => none
 | _, _ => none
def takes (args : List TypeId) (i : TypeInfo) : Bool := match i.desc with
 | .pointer _ => i.methods.any fun m => match P.underlying m.sig with
  | some (.func ps _ _) => ps.toList == args
  | _ => false
 | _ => false
def invTab (name : String) (args : List TypeId) : List (TypeId × FuncId) := P.types.toList.zipIdx.filterMap fun (i, t) => if takes P args i then (methT P name t).map fun f => (t, f) else none
def mthTab (ty : TypeId) : List (String × TypeId) := P.types.toList.zipIdx.flatMap fun (i, t) => i.methods.toList.filterMap fun m => if m.sig == ty && (methT P m.name t).isSome then some (m.name, t) else none
def compOp (ty : TypeId) : Op → Option Aop
 | .move x | .assign x => (copd x).map .mov
 | .pick c a b => match copd c, copd a, copd b with
  | some c, some a, some b => some (.pick c a b)
  | _, _, _ => none
 | .alloc e => (zeroT P e).map .alloc
 | .box _ x => (copd x).map .box
 | .build t parts =>
  match P.underlying t, zeroT P t with
  | some (.struct fs), some z => if fs.all (fun f => (sizeT P f.type).isSome) then (placesS P fs parts.toList).map fun ps => .build z ps else none
  | some (.array _ e), some z => match sizeT P e with
   | some s => (placesA s parts.toList).map fun ps => .build z ps
   | none => none
  | _, _ => none
 | .buildSlice t len parts =>
  match P.underlying t with
  | some (.slice e) => match zeroT P e with
   | some z => if 0 < z.length ∧ len * z.length ≤ 2 ^ 24 then (placesA z.length parts.toList).map fun ps => .buildSlice (rep len z) len ps else none
   | none => none
  | _ => none
 | .load t a => match aggT P t, copd a with
  | some g, some a => some (.load g a)
  | _, _ => none
 | .store t a x => match sizeT P t, copd a, copd x with
  | some n, some a, some x => some (.store n a x)
  | _, _, _ => none
 | .nilCheck x => match P.underlying ty with
  | some (.func _ _ _) => (copd x).map (.nilFn (mthTab P ty))
  | _ => (copd x).map .nilCheck
 | .binOp op t x y _ => match copd x, copd y with
  | some x, some y => compBin P op t x y
  | _, _ => none
 | .unOp op _ x => (copd x).map (.un op)
 | .convert src dst x =>
  match P.underlying src, P.underlying dst, copd x with
  | some (.int _), some (.int k), some x => some (.convInt k x)
  | some .string, some .string, some x => some (.convStr x)
  | some .string, some (.slice e), some x => if P.underlying e matches some (.int .u8) then some (.strToBytes x) else none
  | some (.slice e), some .string, some x => if P.underlying e matches some (.int .u8) then some (.bytesToStr x) else none
  | _, _, _ => none
 | .makeInterface t x =>
  match P.underlying t, copd x with
  | some (.interface _), _ => none
  | some _, some x => some (.makeIface t x)
  | _, _ => none
 | .makeFunc (.func f) first captured =>
  match allSome copd first.toList, allSome copd captured.toList with
  | some a, some b => some (.makeFn f a b)
  | _, _ => none
 | .makeFunc (.method name) first captured =>
  match first.toList, captured.toList with
  | [x], [] => (copd x).map (.bound name)
  | _, _ => none
 | .makeSlice t l c =>
  match P.underlying t, copd l, copd c with
  | some (.slice e), some l, some c => match zeroT P e, P.info? e with
   | some z, some i => if 0 < z.length then some (.makeSlice z i.bytes l c) else none
   | _, _ => none
  | _, _, _ => none
 | .slice t x lo hi mx =>
  match copd x, optO lo, optO hi, optO mx with
  | some x, some lo, some hi, some mx =>
   match P.underlying t with
   | some (.slice e) => (sizeT P e).map fun s => .slice s x lo hi mx
   | some .string => if mx.isSome then none else some (.sliceStr x lo hi)
   | some (.array n e) => (sizeT P e).map fun s => .sliceArr n s x lo hi mx
   | _ => none
  | _, _, _, _ => none
 | .fieldAddr s x f =>
  match P.underlying s, copd x with
  | some (.struct fs), some x => match fs[f]? with
   | some f => match sizeT P f.type with
    | some z => if z = 0 then none else some (.fieldAddr x f.offset)
    | none => none
   | none => none
  | _, _ => none
 | .field t x f =>
  match P.underlying t, copd x with
  | some (.struct fs), some x => match fs[f]? with
   | some f => (aggT P f.type).map fun g => .field x f.offset g
   | none => none
  | _, _ => none
 | .indexAddr t x i =>
  match P.underlying t, copd x, copd i with
  | some (.slice e), some x, some i => (sizeT P e).map fun s => .indexAddr none s x i
  | some (.array n e), some x, some i => (sizeT P e).map fun s => .indexAddr (some n) s x i
  | _, _, _ => none
 | .index t x i =>
  match P.underlying t, copd x, copd i with
  | some (.array n e), some x, some i => match aggT P e, sizeT P e with
   | some g, some s => some (.index n s g.isSome x i)
   | _, _ => none
  | some .string, some x, some i => some (.indexStr x i)
  | _, _, _ => none
 | .makeMap t hint => match P.underlying t, optO hint with
  | some (.map _ _), some h => some (.makeMap h)
  | _, _ => none
 | .lookup t m k ok => match P.underlying t, copd m, copd k with
  | some (.map kt e), some m, some k => match keyT P kt, zeroA P e with
   | some q, some z => some (.lookup q.1 q.2 z ok m k)
   | _, _ => none
  | _, _, _ => none
 | .mapEntry t m k => match P.underlying t, copd m, copd k with
  | some (.map kt e), some m, some k => match keyT P kt, zeroA P e with
   | some q, some z => some (.mapPlace q.1 q.2 z m k)
   | _, _ => none
  | _, _, _ => none
 | .entryStore t m s v => match P.underlying t, copd m, copd s, copd v with
  | some (.map kt _), some m, some s, some v => (keyT P kt).map fun q => .placeStore q.1 q.2 m s v
  | _, _, _, _ => none
 | .mapUpdate t m k v => match P.underlying t, copd m, copd k, copd v with
  | some (.map kt _), some m, some k, some v => (keyT P kt).map fun q => .mapUpdate q.1 q.2 m k v
  | _, _, _, _ => none
 | .range t m => match P.underlying t with
  | some (.map _ _) => (copd m).map .mapRange
  | _ => none
 | .next it isStr => if isStr then none else (copd it).map .mapNext
 | .entry it => (copd it).map .mapEntry
 | .extract x i => (copd x).map fun x => .extract x i
 | .call c =>
  match allSome copd c.args.toList with
  | some args => match c.callee with
   | .value (.func f) => some (.call f args)
   | .value x => (copd x).map fun x => .callv x args
   | .builtin b => compBuiltin P b c.argTypes args
   | .invoke x name => (copd x).map fun x => .invoke (invTab P name c.argTypes.toList) x args
  | none => none
 | .panic _ => some .stop
 | _ => none
end
def compGuard (ops : Array Oper) : Option (Nat × Bool) → Option (Option (Nat × Bool))
 | none => some none
 | some (j, want) => match (ops[j]?).bind (·.dst) with
  | some t => some (some (t, want))
  | none => none
def AOper.reads (o : AOper) : List Nat :=
 (o.op.opds.filterMap fun x => match x with | .tmp t => some t | .val _ => none) ++ (match o.guard with | some (t, _) => [t] | none => [])
def bitAt (b : Array Nat) (i j : Nat) : Bool := (b.getD (max i j) 0).testBit (min i j)
def tempsFree (l : List AOper) (b : Array Nat) : Bool :=
 l.zipIdx.all fun (o, j) => match o.dst with
  | none => true
  | some d => l.zipIdx.all fun (o', i) => i == j || bitAt b i j || !(o'.dst == some d || o'.reads.contains d)
def alone (l : List AOper) (b : Array Nat) (i : Nat) : Bool :=
 l.zipIdx.all fun (o, j) => o.op.pure || j == i || bitAt b i j
def Aop.isLoad : Aop → Bool
 | .load _ _ => true
 | _ => false
def unwritten (l : List AOper) : Opd → Bool
 | .tmp t => l.all fun o => !(o.dst == some t)
 | .val _ => true
def Aop.isNew : Aop → Bool
 | .alloc _ | .box _ | .buildSlice _ _ _ => true
 | _ => false
def Opd.isTmp : Opd → Bool
 | .tmp _ => true
 | .val _ => false
def rootOf (l : List AOper) : Nat → Nat → Opd → Option Opd
 | 0, _, _ => none
 | _ + 1, _, .val v => some (.val v)
 | f + 1, k, .tmp t =>
  if unwritten l (.tmp t) then some (.tmp t) else
  match l.findIdx? (fun o => o.dst == some t) with
  | some i => match l[i]? with
   | some o => if i < k && o.guard.isNone && l.zipIdx.all (fun (o, j) => j == i || !(o.dst == some t)) then
     match o.op with
     | .mov x | .nilCheck x | .fieldAddr x _ => rootOf l f i x
     | _ => none
    else none
   | none => none
  | none => none
def lateAt (l : List AOper) (b : Array Nat) (k : Nat) : Option Opd :=
 match l[k]? with
 | some o => match o.op with
  | .store _ a _ => match rootOf l 8 k a with
   | some y => if l.zipIdx.all fun (o, j) => o.op.pure || j == k || bitAt b k j || (decide (j < k) && (o.op.isLoad || (o.op.isNew && y.isTmp))) then some y else none
   | none => none
  | _ => none
 | none => none
def apartOf (l : List AOper) (b : Array Nat) (i : Nat) : List Opd :=
 (List.range l.length).filterMap fun k => if i < k && !bitAt b k i then lateAt l b k else none
def lateCall (l : List AOper) (b : Array Nat) (k : Nat) : Bool :=
 match l[k]? with
 | some o => o.op.isLate && l.zipIdx.all fun (o', j) => o'.op.pure || j == k || bitAt b k j || (decide (j < k) && match o'.op with
   | .load _ (.tmp t) => l.zipIdx.all fun (o2, i) => decide (i < j) || !(o2.dst == some t)
   | .load _ (.val _) => true
   | _ => false) || (decide (k < j) && o'.op.isNew && o'.guard.isNone)
 | none => false
def keepOf (l : List AOper) (b : Array Nat) (k : Nat) : List Opd :=
 if lateCall l b k then l.zipIdx.filterMap fun (o', j) => match o'.op with
  | .load _ a => if j < k && !bitAt b k j then some a else none
  | _ => none
 else []
def compOper (P : Program) (ops : Array Oper) (o : Oper) : Option AOper :=
 match compOp P o.type o.op, compGuard ops o.guard with
 | some op, some g => some { dst := o.dst, op := op, guard := g, bar := false, apart := [] }
 | _, _ => none
def compRegion (P : Program) (ops : Array Oper) (draw : Bool) : Option (List AOper) :=
 match allSome (compOper P ops) ops.toList with
 | some l =>
  if !draw then some l else
  let b := Region.before ops
  if tempsFree l b && (ops.toList.zipIdx.all fun (o, i) => o.after.all fun e => e.on < i || !Region.binds .any e) then
   some (l.zipIdx.map fun (o, i) => { o with bar := !o.op.pure && !alone l b i && !(lateAt l b i).isSome && !lateCall l b i, apart := if o.op.isLoad then apartOf l b i else keepOf l b i })
  else none
 | none => none
def compCode (P : Program) : Code → Option ACode
 | .skip => some .skip
 | .region _ ops draw => (compRegion P ops draw).map .region
 | .seq a b => match compCode P a, compCode P b with
  | some a, some b => some (.seq a b)
  | _, _ => none
 | .cond c a b => match copd c, compCode P a, compCode P b with
  | some c, some a, some b => some (.cond c a b)
  | _, _, _ => none
 | .block id c => (compCode P c).map (.block id)
 | .loop c => (compCode P c).map .loop
 | .exit id => some (.exit id)
 | .label _ => some .skip
 | .ret => some .ret
 | .refuse _ => some (.region [⟨none, .stop, none, false, []⟩])
 | .rangeFunc g ps a c => match copd g, compCode P a, compCode P c with
  | some g, some a, some c => some (.ranges g ps.toList a c)
  | _, _, _ => none
 | _ => none
def compRes (P : Program) : ResultVar → Option ARes
 | .tmp t => some (.tmp t)
 | .cell t ty => (aggT P ty).map (.cell t)
def compF (P : Program) (f : FuncId) : Option AFunc :=
 match P.funcs[f]? with
 | some fn =>
  match fn.body with
  | some c => match compCode P c, allSome (compRes P) fn.results.toList with
   | some c, some rs => if fn.name == "runtime.NumGoroutine" then none else some { ntmps := fn.ntmps, results := rs, body := c }
   | _, _ => none
  | none => none
 | none => none
end Go.Ahs
