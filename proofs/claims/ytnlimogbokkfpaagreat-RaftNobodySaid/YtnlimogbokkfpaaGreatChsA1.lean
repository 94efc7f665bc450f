/- An abstract machine for Go functions: values, a heap without capacities and without drawn orders, and the run of a function over it. -/
import Derived.LoopN
import Derived.Orders
namespace Go.Ahs
inductive Cap where
 | ex (n : Nat)
 | op (esz kn : Nat)
 | un
 deriving DecidableEq
inductive AVal where
 | int (k : IntKind) (n : Int)
 | bool (b : Bool)
 | str (s : List UInt8)
 | ptr (a : Option (Nat × Nat))
 | sl (a : Option (Nat × Nat)) (n : Nat) (c : Cap)
 | map (r : Option Nat)
 | fn (f : FuncId) (first captured : List AVal)
 | nilFn
 | iface (t : TypeId) (v : AVal)
 | nilIface
 | agg (cs : List AVal)
 | tup (vs : List AVal)
 | yl (b : Nat)
 | itr (r : Nat)
 | mth (name : String) (t : TypeId) (v : AVal)
abbrev und : AVal := .tup []
def AVal.cells : AVal → List AVal
 | .agg cs => cs
 | v => [v]
def AVal.one : AVal → Bool
 | .agg _ | .tup _ => false
 | _ => true
inductive Opd where
 | tmp (t : Nat)
 | val (v : AVal)
inductive Leaf where
 | int (k : IntKind)
 | bool
 | str
 deriving DecidableEq
inductive EqK where
 | bool
 | ptr
 | sl
 | map
 | fn
 | iface
 | cells (ls : List Leaf)
 | nil
inductive Aop where
 | mov (x : Opd)
 | pick (c a b : Opd)
 | alloc (zero : List AVal)
 | box (x : Opd)
 | build (zero : List AVal) (parts : List (Nat × Nat × Opd))
 | buildSlice (zero : List AVal) (len : Nat) (parts : List (Nat × Nat × Opd))
 | load (agg : Option Nat) (a : Opd)
 | store (n : Nat) (a x : Opd)
 | nilCheck (x : Opd)
 | bin (op : BinOp) (x y : Opd)
 | eqv (neg : Bool) (k : EqK) (x y : Opd)
 | un (op : UnOp) (x : Opd)
 | convInt (k : IntKind) (x : Opd)
 | convStr (x : Opd)
 | strToBytes (x : Opd)
 | bytesToStr (x : Opd)
 | makeIface (t : TypeId) (x : Opd)
 | makeFn (f : FuncId) (first captured : List Opd)
 | makeSlice (zero : List AVal) (bytes : Nat) (l c : Opd)
 | slice (sz : Nat) (x : Opd) (lo hi mx : Option Opd)
 | sliceStr (x : Opd) (lo hi : Option Opd)
 | sliceArr (n sz : Nat) (x : Opd) (lo hi mx : Option Opd)
 | fieldAddr (x : Opd) (off : Nat)
 | field (x : Opd) (off : Nat) (agg : Option Nat)
 | indexAddr (arr : Option Nat) (sz : Nat) (x i : Opd)
 | index (len sz : Nat) (agg : Bool) (x i : Opd)
 | indexStr (x i : Opd)
 | extract (x : Opd) (i : Nat)
 | call (f : FuncId) (args : List Opd)
 | callv (x : Opd) (args : List Opd)
 | invoke (tab : List (TypeId × FuncId)) (x : Opd) (args : List Opd)
 | bound (name : String) (x : Opd)
 | nilFn (tab : List (String × TypeId)) (x : Opd)
 | append (zero : List AVal) (bytes : Nat) (zeros : Bool) (s x : Opd)
 | copy (sz : Nat) (d s : Opd)
 | len (str : Bool) (x : Opd)
 | cap (x : Opd)
 | minmax (isMax : Bool) (args : List Opd)
 | makeMap (hint : Option Opd)
 | lookup (agg : Bool) (ls : List Leaf) (zero : AVal) (commaOk : Bool) (m k : Opd)
 | mapUpdate (agg : Bool) (ls : List Leaf) (m k v : Opd)
 | mapDelete (agg : Bool) (ls : List Leaf) (m k : Opd)
 | mapPlace (agg : Bool) (ls : List Leaf) (zero : AVal) (m k : Opd)
 | placeStore (agg : Bool) (ls : List Leaf) (m s v : Opd)
 | mapLen (m : Opd)
 | mapClear (m : Opd)
 | clearSl (zero : List AVal) (x : Opd)
 | mapRange (m : Opd)
 | mapNext (it : Opd)
 | mapEntry (it : Opd)
 | stop
def Aop.isCall : Aop → Bool
 | .call _ _ | .callv _ _ | .invoke _ _ _ => true
 | _ => false
def Aop.opds : Aop → List Opd
 | .mov x | .box x | .load _ x | .nilCheck x | .bound _ x | .nilFn _ x | .un _ x | .convInt _ x | .convStr x | .strToBytes x | .bytesToStr x | .makeIface _ x | .fieldAddr x _ | .field x _ _ | .extract x _ | .len _ x | .cap x => [x]
 | .pick a b c => [a, b, c]
 | .alloc _ | .stop => []
 | .build _ ps | .buildSlice _ _ ps => ps.map fun p => p.2.2
 | .store _ a x | .bin _ a x | .eqv _ _ a x | .makeSlice _ _ a x | .indexAddr _ _ a x | .index _ _ _ a x | .indexStr a x | .append _ _ _ a x | .copy _ a x => [a, x]
 | .makeFn _ xs ys => xs ++ ys
 | .slice _ x lo hi mx | .sliceArr _ _ x lo hi mx => x :: (lo.toList ++ hi.toList ++ mx.toList)
 | .sliceStr x lo hi => x :: (lo.toList ++ hi.toList)
 | .call _ xs | .minmax _ xs => xs
 | .callv x xs | .invoke _ x xs => x :: xs
 | .makeMap h => h.toList
 | .lookup _ _ _ _ m k | .mapDelete _ _ m k | .mapPlace _ _ _ m k => [m, k]
 | .mapUpdate _ _ m k v | .placeStore _ _ m k v => [m, k, v]
 | .mapLen m | .mapClear m | .mapRange m | .mapNext m | .mapEntry m | .clearSl _ m => [m]
def Aop.pure : Aop → Bool
 | .mov _ | .pick _ _ _ | .build _ _ | .nilCheck _ | .bound _ _ | .nilFn _ _ | .bin _ _ _ | .eqv _ _ _ _ | .un _ _ | .convInt _ _ | .convStr _ | .makeIface _ _ | .makeFn _ _ _
 | .slice _ _ _ _ _ | .sliceStr _ _ _ | .sliceArr _ _ _ _ _ _ | .fieldAddr _ _ | .field _ _ _ | .indexAddr _ _ _ _ | .index _ _ _ _ _ | .indexStr _ _ | .extract _ _ | .len _ _ | .cap _ | .minmax _ _ | .stop => true
 | _ => false
structure AOper where
 dst : Option Nat
 op : Aop
 guard : Option (Nat × Bool)
 bar : Bool
 apart : List Opd
inductive ACode where
 | skip
 | region (ops : List AOper)
 | seq (a b : ACode)
 | cond (c : Opd) (thn els : ACode)
 | block (id : Nat) (body : ACode)
 | loop (body : ACode)
 | exit (id : Nat)
 | ret
 | ranges (g : Opd) (ps : List Nat) (assign body : ACode)
def ACode.plain : ACode → Bool
 | .seq a b => a.plain && b.plain
 | .cond _ a b => a.plain && b.plain
 | .block _ a | .loop a => a.plain
 | .ranges _ _ _ _ => false
 | _ => true
inductive Ex where
 | norm
 | exit (id : Nat)
 | ret
 deriving DecidableEq
structure LoopA where
 state : LoopState
 pending : Option Ex
 tmps : List AVal
 ps : List Nat
 assign : ACode
 body : ACode
structure Clk where
 n : Nat
 kn : List (AVal × Nat)
inductive Blk where
 | cells (cs : List AVal)
 | map (es : List (AVal × AVal)) (clock : Clk)
 | dead
 | loop (r : LoopA)
inductive Tr where
 | lf
 | nd (l : Tr) (v : Option Blk) (r : Tr)
def Tr.get : Tr → Nat → Option Blk
 | .lf, _ => none
 | .nd l v r, n => if n = 0 then v else if n % 2 = 1 then l.get (n / 2) else r.get (n / 2 - 1)
def Tr.left : Tr → Tr
 | .lf => .lf
 | .nd l _ _ => l
def Tr.right : Tr → Tr
 | .lf => .lf
 | .nd _ _ r => r
def Tr.val : Tr → Option Blk
 | .lf => none
 | .nd _ v _ => v
def Tr.set (x : Blk) : Nat → Tr → Nat → Tr
 | 0, t, _ => t
 | f + 1, t, n =>
  if n = 0 then .nd t.left (some x) t.right
  else if n % 2 = 1 then .nd (Tr.set x f t.left (n / 2)) t.val t.right
  else .nd t.left t.val (Tr.set x f t.right (n / 2 - 1))
theorem Tr.get_eq (t : Tr) (n : Nat) : t.get n = if n = 0 then t.val else if n % 2 = 1 then t.left.get (n / 2) else t.right.get (n / 2 - 1) := by
 cases t with
 | lf => simp [Tr.get, Tr.val, Tr.left, Tr.right]
 | nd l v r => rfl
theorem Tr.get_set (x : Blk) : ∀ (f : Nat) (t : Tr) (n m : Nat), n < f → (Tr.set x f t n).get m = if m = n then some x else t.get m := by
 intro f
 induction f with
 | zero => intro t n m h; omega
 | succ f ih =>
  intro t n m h
  rw [Tr.get_eq t m]
  unfold Tr.set
  by_cases hn : n = 0
  ·subst hn
   simp only [if_true, Tr.get]
   by_cases hm : m = 0 <;> simp [hm]
  ·simp only [hn, if_false]
   by_cases h1 : n % 2 = 1
   ·simp only [h1, if_true, Tr.get]
    by_cases hm : m = 0
    ·subst hm; simp [Ne.symm hn]
    ·by_cases hm1 : m % 2 = 1
     ·simp only [hm, hm1, if_true, if_false]
      rw [ih _ _ _ (by omega)]
      by_cases e : m = n
      ·simp [e]
      ·rw [if_neg (by omega), if_neg e]
     ·simp only [hm, hm1, if_false]
      rw [if_neg (by omega)]
   ·simp only [h1, if_false, Tr.get]
    by_cases hm : m = 0
    ·subst hm; simp [Ne.symm hn]
    ·by_cases hm1 : m % 2 = 1
     ·simp only [hm, hm1, if_true, if_false]
      rw [if_neg (by omega)]
     ·simp only [hm, hm1, if_false]
      rw [ih _ _ _ (by omega)]
      by_cases e : m = n
      ·simp [e]
      ·rw [if_neg (by omega), if_neg e]
structure Heap where
 next : Nat
 tr : Tr
def Heap.get (H : Heap) (b : Nat) : Option Blk := if b < H.next then H.tr.get b else none
def Heap.set (H : Heap) (b : Nat) (x : Blk) : Heap := { H with tr := Tr.set x (b + 1) H.tr b }
def Heap.push (H : Heap) (x : Blk) : Heap := { next := H.next + 1, tr := Tr.set x (H.next + 1) H.tr H.next }
section heap
variable (H : Heap) (b c : Nat) (x : Blk)
theorem Heap.get_lt {H : Heap} {b : Nat} {x : Blk} (h : H.get b = some x) : b < H.next := by
 unfold Heap.get at h
 split at h
 ·assumption
 ·simp at h
theorem Heap.get_ge (h : H.next ≤ b) : H.get b = none := by unfold Heap.get; rw [if_neg (by omega)]
theorem Heap.next_push : (H.push x).next = H.next + 1 := rfl
theorem Heap.next_set : (H.set b x).next = H.next := rfl
theorem Heap.get_push : (H.push x).get c = if c = H.next then some x else H.get c := by
 unfold Heap.get Heap.push
 simp only [Tr.get_set x (H.next + 1) H.tr H.next c (by omega)]
 by_cases e : c = H.next
 ·simp [e]
 ·by_cases h : c < H.next
  ·simp [e, h, Nat.lt_succ_of_lt h]
  ·have : ¬ c < H.next + 1 := by omega
   simp [e, h, this]
theorem Heap.get_set : (H.set b x).get c = if c = b then (if b < H.next then some x else none) else H.get c := by
 unfold Heap.get Heap.set
 simp only [Tr.get_set x (b + 1) H.tr b c (by omega)]
 by_cases e : c = b
 ·simp [e]
 ·simp [e]
theorem Heap.get_push_new : (H.push x).get H.next = some x := by rw [Heap.get_push]; simp
theorem Heap.get_push_old (h : c ≠ H.next) : (H.push x).get c = H.get c := by rw [Heap.get_push]; simp [h]
theorem Heap.get_set_same (h : b < H.next) : (H.set b x).get b = some x := by rw [Heap.get_set]; simp [h]
theorem Heap.get_set_other (h : c ≠ b) : (H.set b x).get c = H.get c := by rw [Heap.get_set]; simp [h]
end heap
def Heap.empty : Heap := ⟨0, .lf⟩
def Heap.cells (H : Heap) (b : Nat) : Option (List AVal) :=
 match H.get b with
 | some (.cells cs) => some cs
 | _ => none
theorem Heap.cells_eq {H : Heap} {b : Nat} {cs : List AVal} : H.cells b = some cs ↔ H.get b = some (.cells cs) := by
 unfold Heap.cells
 split <;> simp_all
inductive ARes where
 | tmp (t : Nat)
 | cell (t : Nat) (agg : Option Nat)
structure AFunc where
 ntmps : Nat
 results : List ARes
 body : ACode
def toV : AVal → Option Value
 | .int k n => some (.int k n)
 | .bool b => some (.bool b)
 | _ => none
def ofV : Value → Option AVal
 | .int k n => some (.int k n)
 | .bool b => some (.bool b)
 | _ => none
def pureV : Sem Value → Option AVal
 | .pure v => ofV v
 | _ => none
def abinStr (op : BinOp) (a b : List UInt8) : Option AVal :=
 match op with
 | .add => if ((a.length + b.length : Nat) : Int) > IntKind.i64.max then none else some (.str (a ++ b))
 | .eql => some (.bool (a == b))
 | .neq => some (.bool !(a == b))
 | .lss => some (.bool (Op.bytesLess a b))
 | .leq => some (.bool (Op.bytesLess a b || a == b))
 | .gtr => some (.bool !(Op.bytesLess a b || a == b))
 | .geq => some (.bool !(Op.bytesLess a b))
 | _ => none
def abin (op : BinOp) : AVal → AVal → Option AVal
 | .int k a, .int k' b => pureV (binOp op 0 (.int k a) (.int k' b))
 | .str a, .str b => abinStr op a b
 | _, _ => none
def leafEq : Leaf → AVal → AVal → Option Bool
 | .int k, .int k' a, .int k'' b => if k' = k ∧ k'' = k then some (a == b) else none
 | .bool, .bool a, .bool b => some (a == b)
 | .str, .str a, .str b => some (a == b)
 | _, _, _ => none
def cellsEq : List Leaf → List AVal → List AVal → Option Bool
 | [], [], [] => some true
 | l :: ls, x :: xs, y :: ys =>
  match leafEq l x y, cellsEq ls xs ys with
  | some a, some b => some (a && b)
  | _, _ => none
 | _, _, _ => none
def aeq (k : EqK) (x y : AVal) : Option Bool :=
 match k with
 | .bool => match x, y with
  | .bool a, .bool b => some (a == b)
  | _, _ => none
 | .ptr => match x, y with
  | .ptr none, .ptr b => some b.isNone
  | .ptr (some _), .ptr none => some false
  | _, _ => none
 | .sl => match x, y with
  | .sl none _ _, .sl b _ _ => some b.isNone
  | .sl (some _) _ _, .sl none _ _ => some false
  | _, _ => none
 | .map => match x, y with
  | .map none, .map b => some b.isNone
  | .map (some _), .map none => some false
  | _, _ => none
 | .fn => match x, y with
  | .nilFn, .nilFn => some true
  | .nilFn, .fn _ _ _ => some false
  | .fn _ _ _, .nilFn => some false
  | _, _ => none
 | .iface => match x, y with
  | .nilIface, .iface _ _ => some false
  | .iface _ _, .nilIface => some false
  | _, _ => none
 | .nil => match x, y with
  | .nilIface, .nilIface => some true
  | .nilIface, .iface _ _ => some false
  | .iface _ _, .nilIface => some false
  | _, _ => none
 | .cells ls => match x, y with
  | .agg xs, .agg ys => cellsEq ls xs ys
  | _, _ => none
def aun (op : UnOp) (x : AVal) : Option AVal :=
 match toV x with
 | some v => pureV (Op.unary op v)
 | none => none
def natOf : AVal → Option Nat
 | .int _ n => if 0 ≤ n then some n.toNat else none
 | _ => none
def natOr (d : Nat) : Option AVal → Option Nat
 | none => some d
 | some v => natOf v
def shift (a : Option (Nat × Nat)) (n : Nat) : Option (Nat × Nat) := a.map fun p => (p.1, p.2 + n)
def aslice (sz : Nat) (x : AVal) (lo hi mx : Option AVal) : Option AVal :=
 match x with
 | .sl a n c => do
  let h ← (if hi.isNone && mx.isSome then none else natOr n hi)
  let l ← natOr 0 lo
  match c with
  | .ex k => do
   let m ← natOr k mx
   if m ≤ k ∧ h ≤ m ∧ l ≤ h then some (.sl (if m = l then a else shift a (l * sz)) (h - l) (.ex (m - l))) else none
  | c =>
   if mx.isNone then
    match c with
    | .op e k => if h ≤ max n k ∧ l ≤ h ∧ e = sz then some (.sl (shift a (l * sz)) (h - l) (.op e (max n k - l))) else none
    | c => if h ≤ n ∧ l ≤ h ∧ c = .un then some (.sl (shift a (l * sz)) (h - l) c) else none
   else do
    let m ← natOr 0 mx
    if m ≤ n ∧ h ≤ m ∧ l ≤ h then some (.sl (if m = l then a else shift a (l * sz)) (h - l) (.ex (m - l))) else none
 | _ => none
def asliceStr (x : AVal) (lo hi : Option AVal) : Option AVal :=
 match x with
 | .str s => do
  let h ← natOr s.length hi
  let l ← natOr 0 lo
  if h ≤ s.length ∧ l ≤ h then some (.str ((s.drop l).take (h - l))) else none
 | _ => none
def asliceArr (n sz : Nat) (x : AVal) (lo hi mx : Option AVal) : Option AVal :=
 match x with
 | .ptr (some (b, o)) => do
  let h ← (if hi.isNone && mx.isSome then none else natOr n hi)
  let l ← natOr 0 lo
  let m ← natOr n mx
  if m ≤ n ∧ h ≤ m ∧ l ≤ h then some (.sl (some (b, if m = l then o else o + l * sz)) (h - l) (.ex (m - l))) else none
 | _ => none
def cut (cs : List AVal) (o n : Nat) : Option (List AVal) := if o + n ≤ cs.length then some ((cs.drop o).take n) else none
def put (cs : List AVal) (o : Nat) (xs : List AVal) : List AVal := cs.take o ++ xs ++ cs.drop (o + xs.length)
def aload (H : Heap) (agg : Option Nat) : AVal → Option AVal
 | .ptr (some (b, o)) =>
  match H.cells b, agg with
  | some cs, some n => (cut cs o n).map .agg
  | some cs, none => cs[o]?
  | none, _ => none
 | _ => none
def astore (lim : Nat) (H : Heap) (n : Nat) (a x : AVal) : Option Heap :=
 match a with
 | .ptr (some (b, o)) =>
  match H.cells b with
  | some cs => if lim ≤ b ∧ x.cells.length = n ∧ o + n ≤ cs.length ∧ x.cells.all (·.one) then some (H.set b (.cells (put cs o x.cells))) else none
  | none => none
 | _ => none
def fillAll (ev : Opd → AVal) : List AVal → List (Nat × Nat × Opd) → Option (List AVal)
 | cs, [] => some cs
 | cs, (off, size, x) :: rest =>
  let v := (ev x).cells
  if v.length = size ∧ off + size ≤ cs.length then fillAll ev (put cs off v) rest else none
def rep (n : Nat) (zero : List AVal) : List AVal := (List.replicate n zero).flatten
def source (H : Heap) (sz : Nat) : AVal → Option (Nat × List AVal)
 | .sl none n _ => if n = 0 then some (0, []) else none
 | .sl (some (b, o)) n _ =>
  if n = 0 then some (0, []) else
  match H.cells b with
  | some cs => (cut cs o (n * sz)).map fun c => (n, c)
  | none => none
 | .str s => if sz = 1 then some (s.length, s.map fun c => .int .u8 c.toNat) else none
 | _ => none
def room : Nat := 140737488355328
def aappend (lim : Nat) (H : Heap) (zero : List AVal) (bytes : Nat) (zeros : Bool) (s x : AVal) : Option (AVal × Heap) := do
 let sz := zero.length
 let (m, new) ← (if zeros then (match x with
   | .int .i64 l => if 0 ≤ l ∧ l ≤ 140737488355328 then some (l.toNat, rep l.toNat zero) else none
   | _ => none)
  else source H sz x)
 if !(new.all (·.one)) || sz = 0 then none else
 match s with
 | .sl a n c =>
  if m = 0 then some (.sl a n c, H) else
  if (n + m) * bytes > room ∨ n + m > room then none else
  match a, c with
  | none, .ex _ => if n = 0 then some (.sl (some (H.next, 0)) m (.op sz 0), H.push (.cells new)) else none
  | some (b, o), .ex k => do
   let cs ← H.cells b
   if n + m ≤ k then
    if lim ≤ b ∧ o + (n + m) * sz ≤ cs.length then some (.sl a (n + m) c, H.set b (.cells (put cs (o + n * sz) new))) else none
   else do
    let old ← cut cs o (n * sz)
    if n ≤ k ∧ old.all (·.one) then some (.sl (some (H.next, 0)) (n + m) (.op sz 0), H.push (.cells (old ++ new))) else none
  | some (b, o), .op e _ => do
   let cs ← H.cells b
   if lim ≤ b ∧ e = sz then
    if o + (n + m) * sz ≤ cs.length then some (.sl a (n + m) c, H.set b (.cells (put cs (o + n * sz) new)))
    else if o + n * sz = cs.length ∧ cs.all (·.one) then some (.sl (some (H.next, 0)) (n + m) (.op sz 0), (H.set b .dead).push (.cells (cs.drop o ++ new)))
    else none
   else none
  | _, _ => none
 | _ => none
def acopy (lim : Nat) (H : Heap) (sz : Nat) (d s : AVal) : Option (AVal × Heap) :=
 match d with
 | .sl a n _ => do
  let (m, new) ← source H sz s
  let k := min m n
  if k = 0 then some (.int .i64 0, H) else
  match a with
  | some (b, o) => do
   let cs ← H.cells b
   let new := new.take (k * sz)
   if lim ≤ b ∧ o + k * sz ≤ cs.length ∧ new.all (·.one) then some (.int .i64 k, H.set b (.cells (put cs o new))) else none
  | none => none
 | _ => none
def alen (str : Bool) : AVal → Option AVal
 | .sl _ n _ => if str then none else some (.int .i64 n)
 | .str s => if str then some (.int .i64 s.length) else none
 | _ => none
def acap : AVal → Option AVal
 | .sl _ _ (.ex c) => some (.int .i64 c)
 | _ => none
def mmFold (isMax : Bool) (k : IntKind) : Int → List AVal → Option AVal
 | a, [] => some (.int k a)
 | a, .int k' b :: rest => if k = k' then mmFold isMax k (if isMax then (if b > a then b else a) else (if b < a then b else a)) rest else none
 | _, _ => none
def aminmax (isMax : Bool) : List AVal → Option AVal
 | .int k a :: rest => mmFold isMax k a rest
 | _ => none
def aindexAddr (arr : Option Nat) (sz : Nat) (x i : AVal) : Option AVal :=
 match natOf i, x, arr with
 | some j, .sl (some (b, o)) n _, none => if j < n then some (.ptr (some (b, o + j * sz))) else none
 | some j, .ptr (some (b, o)), some n => if j < n then some (.ptr (some (b, o + j * sz))) else none
 | _, _, _ => none
def partOf (cs : List AVal) (off : Nat) (agg : Option Nat) : Option AVal :=
 match agg with
 | some n => (cut cs off n).map .agg
 | none => cs[off]?
def aindex (len sz : Nat) (agg : Bool) (x i : AVal) : Option AVal :=
 match natOf i, x with
 | some j, .agg cs => if j < len then partOf cs (j * sz) (if agg then some sz else none) else none
 | _, _ => none
def aindexStr (x i : AVal) : Option AVal :=
 match natOf i, x with
 | some j, .str s => (s[j]?).map fun c => .int .u8 c.toNat
 | _, _ => none
def bytesOfCells : List AVal → Option (List UInt8)
 | [] => some []
 | .int .u8 n :: rest => (bytesOfCells rest).map (UInt8.ofNat n.toNat :: ·)
 | _ => none
def abytesToStr (H : Heap) : AVal → Option AVal
 | .sl none _ _ => some (.str [])
 | .sl (some (b, o)) n _ => do
  let cs ← H.cells b
  let c ← cut cs o n
  let s ← bytesOfCells c
  some (.str s)
 | _ => none
def strToBytes (H : Heap) : AVal → Option (AVal × Heap)
 | .str s => if s.length ≤ room then some (.sl (some (H.next, 0)) s.length (.op 1 0), H.push (.cells (s.map fun c => .int .u8 c.toNat))) else none
 | _ => none
def amakeSlice (H : Heap) (zero : List AVal) (bytes : Nat) (l c : AVal) : Option (AVal × Heap) :=
 match l, c with
 | .int .i64 l, .int .i64 c =>
  if 0 ≤ l ∧ l ≤ c ∧ c * bytes ≤ room ∧ c ≤ room then some (.sl (some (H.next, 0)) l.toNat (.ex c.toNat), H.push (.cells (rep c.toNat zero))) else none
 | _, _ => none
def keyCells (agg : Bool) : AVal → Option (List AVal)
 | .agg cs => if agg then some cs else none
 | .tup _ => none
 | v => if agg then none else some [v]
def keyEq (agg : Bool) (ls : List Leaf) (x y : AVal) : Option Bool :=
 match keyCells agg x, keyCells agg y with
 | some xs, some ys => cellsEq ls xs ys
 | _, _ => none
def keyOK (agg : Bool) (ls : List Leaf) (k : AVal) (es : List (AVal × AVal)) : Bool := keyEq agg ls k k == some true && es.all fun e => (keyEq agg ls k e.1).isSome
def isKey (agg : Bool) (ls : List Leaf) (k : AVal) (e : AVal × AVal) : Bool := keyEq agg ls k e.1 == some true
def mget (agg : Bool) (ls : List Leaf) (k : AVal) (es : List (AVal × AVal)) : Option AVal := (es.find? (isKey agg ls k)).map (·.2)
def mput (agg : Bool) (ls : List Leaf) (k v : AVal) (es : List (AVal × AVal)) : List (AVal × AVal) :=
 if es.any (isKey agg ls k) then es.map fun e => if isKey agg ls k e then (k, v) else e else es ++ [(k, v)]
def mdel (agg : Bool) (ls : List Leaf) (k : AVal) (es : List (AVal × AVal)) : List (AVal × AVal) := es.filter fun e => !isKey agg ls k e
def mapEs (H : Heap) : AVal → Option (List (AVal × AVal))
 | .map none => some []
 | .map (some b) => match H.get b with
  | some (.map es _) => some es
  | _ => none
 | _ => none
def alookup (H : Heap) (agg : Bool) (ls : List Leaf) (zero : AVal) (commaOk : Bool) (m k : AVal) : Option AVal :=
 match mapEs H m with
 | some es =>
  if keyOK agg ls k es then
   match mget agg ls k es with
   | some v => some (if commaOk then .tup [v, .bool true] else v)
   | none => some (if commaOk then .tup [zero, .bool false] else zero)
  else none
 | none => none
def Clk.put (c : Clk) (agg : Bool) (ls : List Leaf) (k : AVal) (there : Bool) : Clk :=
 if there then c else ⟨c.n + 1, (k, c.n) :: c.kn.filter fun p => keyEq agg ls k p.1 == some false⟩
def amapUpdate (lim : Nat) (H : Heap) (agg : Bool) (ls : List Leaf) (m k v : AVal) : Option Heap :=
 match m with
 | .map (some b) => match H.get b with
  | some (.map es clock) => if lim ≤ b ∧ keyOK agg ls k es = true then some (H.set b (.map (mput agg ls k v es) (clock.put agg ls k (es.any (isKey agg ls k))))) else none
  | _ => none
 | _ => none
def amapEntry (lim : Nat) (H : Heap) (agg : Bool) (ls : List Leaf) (zero m k : AVal) : Option (AVal × Heap) :=
 match m with
 | .map (some b) => match H.get b with
  | some (.map es clock) =>
   if lim ≤ b ∧ keyOK agg ls k es = true then
    match mget agg ls k es with
    | some v => match clock.kn.find? fun p => keyEq agg ls k p.1 == some true with
     | some p => some (.tup [v, .int .i64 p.2], H.set b (.map (mput agg ls k v es) clock))
     | none => none
    | none => some (.tup [zero, .int .i64 clock.n], H.set b (.map (mput agg ls k zero es) (clock.put agg ls k false)))
   else none
  | _ => none
 | _ => none
def aentryStore (lim : Nat) (H : Heap) (agg : Bool) (ls : List Leaf) (m s v : AVal) : Option Heap :=
 match m, s with
 | .map (some b), .int .i64 n => match H.get b with
  | some (.map es clock) => match clock.kn.find? fun p => decide ((p.2 : Int) = n) with
   | some p => if lim ≤ b ∧ keyOK agg ls p.1 es = true ∧ es.any (isKey agg ls p.1) = true then some (H.set b (.map (mput agg ls p.1 v es) clock)) else none
   | none => none
  | _ => none
 | _, _ => none
def amapDelete (lim : Nat) (H : Heap) (agg : Bool) (ls : List Leaf) (m k : AVal) : Option Heap :=
 match m with
 | .map none => if keyEq agg ls k k = some true then some H else none
 | .map (some b) => match H.get b with
  | some (.map es clock) => if lim ≤ b ∧ keyOK agg ls k es = true then some (H.set b (.map (mdel agg ls k es) clock)) else none
  | _ => none
 | _ => none
def amapLen (H : Heap) (m : AVal) : Option AVal := (mapEs H m).map fun es => .int .i64 es.length
def amapClear (lim : Nat) (H : Heap) (m : AVal) : Option Heap :=
 match m with
 | .map none => some H
 | .map (some b) => match H.get b with
  | some (.map _ clock) => if lim ≤ b then some (H.set b (.map [] clock)) else none
  | _ => none
 | _ => none
def aclear (lim : Nat) (H : Heap) (zero : List AVal) : AVal → Option Heap
 | .sl none n _ => if n = 0 then some H else none
 | .sl (some (b, o)) n _ =>
  if n = 0 then some H else
  match H.cells b with
  | some cs => if lim ≤ b ∧ o + n * zero.length ≤ cs.length ∧ zero.all (·.one) then some (H.set b (.cells (put cs o (rep n zero)))) else none
  | none => none
 | _ => none
def hintOK : Option AVal → Bool
 | none => true
 | some (.int _ _) => true
 | _ => false
inductive Tgt where
 | fn (f : FuncId)
 | yl (b : Nat)
abbrev Caller := Nat → Tgt → List AVal → Heap → Option (AVal × Heap)
def val (H : Heap) (v : Option AVal) : Option (AVal × Heap) := v.map fun v => (v, H)
def step (R : Caller) (lim : Nat) (ev : Opd → AVal) (H : Heap) : Aop → Option (AVal × Heap)
 | .mov x => some (ev x, H)
 | .pick c a b => match ev c with
  | .bool t => some (if t then ev a else ev b, H)
  | _ => none
 | .alloc zero => some (.ptr (some (H.next, 0)), H.push (.cells zero))
 | .box x => if (ev x).cells.all (·.one) then some (.ptr (some (H.next, 0)), H.push (.cells (ev x).cells)) else none
 | .build zero parts => val H ((fillAll ev zero parts).map .agg)
 | .buildSlice zero len parts => (fillAll ev zero parts).map fun cs => (.sl (some (H.next, 0)) len (.ex len), H.push (.cells cs))
 | .load agg a => val H (aload H agg (ev a))
 | .store n a x => (astore lim H n (ev a) (ev x)).map fun H => (und, H)
 | .nilCheck x => match ev x with
  | .ptr (some a) => some (.ptr (some a), H)
  | _ => none
 | .bin op x y => val H (abin op (ev x) (ev y))
 | .eqv neg k x y => val H ((aeq k (ev x) (ev y)).map fun b => .bool (if neg then !b else b))
 | .un op x => val H (aun op (ev x))
 | .convInt k x => match ev x with
  | .int _ n => some (.int k (k.wrap n), H)
  | _ => none
 | .convStr x => match ev x with
  | .str s => some (.str s, H)
  | _ => none
 | .strToBytes x => strToBytes H (ev x)
 | .bytesToStr x => val H (abytesToStr H (ev x))
 | .makeIface t x => some (.iface t (ev x), H)
 | .makeFn f first captured => some (.fn f (first.map ev) (captured.map ev), H)
 | .makeSlice zero bytes l c => amakeSlice H zero bytes (ev l) (ev c)
 | .slice sz x lo hi mx => val H (aslice sz (ev x) (lo.map ev) (hi.map ev) (mx.map ev))
 | .sliceStr x lo hi => val H (asliceStr (ev x) (lo.map ev) (hi.map ev))
 | .sliceArr n sz x lo hi mx => val H (asliceArr n sz (ev x) (lo.map ev) (hi.map ev) (mx.map ev))
 | .fieldAddr x off => match ev x with
  | .ptr (some (b, o)) => some (.ptr (some (b, o + off)), H)
  | _ => none
 | .field x off agg => match ev x with
  | .agg cs => val H (partOf cs off agg)
  | _ => none
 | .indexAddr arr sz x i => val H (aindexAddr arr sz (ev x) (ev i))
 | .index len sz agg x i => val H (aindex len sz agg (ev x) (ev i))
 | .indexStr x i => val H (aindexStr (ev x) (ev i))
 | .extract x i => match ev x with
  | .tup vs => val H (vs[i]?)
  | _ => none
 | .call f args => R lim (.fn f) (args.map ev) H
 | .callv x args => match ev x with
  | .fn f first captured => R lim (.fn f) (first ++ args.map ev ++ captured) H
  | .yl b => R lim (.yl b) (args.map ev) H
  | _ => none
 | .invoke tab x args => match ev x with
  | .iface t v => match tab.lookup t with
   | some f => R lim (.fn f) (v :: args.map ev) H
   | none => none
  | _ => none
 | .bound name x => match ev x with
  | .iface t v => some (.mth name t v, H)
  | _ => none
 | .nilFn tab x => match ev x with
  | .fn f a b => some (.fn f a b, H)
  | .mth name t v => if tab.contains (name, t) then some (.mth name t v, H) else none
  | _ => none
 | .append zero bytes zeros s x => aappend lim H zero bytes zeros (ev s) (ev x)
 | .copy sz d s => acopy lim H sz (ev d) (ev s)
 | .len str x => val H (alen str (ev x))
 | .cap x => val H (acap (ev x))
 | .minmax isMax args => val H (aminmax isMax (args.map ev))
 | .makeMap hint => if hintOK (hint.map ev) then some (.map (some H.next), H.push (.map [] ⟨0, []⟩)) else none
 | .lookup g ls z ok m k => val H (alookup H g ls z ok (ev m) (ev k))
 | .mapUpdate g ls m k v => (amapUpdate lim H g ls (ev m) (ev k) (ev v)).map fun H => (und, H)
 | .mapDelete g ls m k => (amapDelete lim H g ls (ev m) (ev k)).map fun H => (und, H)
 | .mapPlace g ls z m k => amapEntry lim H g ls z (ev m) (ev k)
 | .placeStore g ls m s v => (aentryStore lim H g ls (ev m) (ev s) (ev v)).map fun H => (und, H)
 | .mapLen m => val H (amapLen H (ev m))
 | .mapClear m => (amapClear lim H (ev m)).map fun H => (und, H)
 | .clearSl z x => (aclear lim H z (ev x)).map fun H => (und, H)
 | .mapRange _ => none
 | .mapNext _ => none
 | .mapEntry _ => none
 | .stop => none
structure St where
 tmps : List AVal
 H : Heap
def St.ev (tmps : List AVal) : Opd → AVal
 | .tmp t => tmps.getD t und
 | .val v => v
def putT (tmps : List AVal) (dst : Option Nat) (v : AVal) : List AVal :=
 match dst with
 | some d => tmps.set d v
 | none => tmps
def wantedA (tmps : List AVal) : Option (Nat × Bool) → Bool
 | none => true
 | some (t, want) => match tmps[t]? with
  | some (.bool b) => b == want
  | _ => false
def blkOf : AVal → Option Nat
 | .ptr (some (b, _)) => some b
 | _ => none
def apartB (x y : AVal) : Bool :=
 match blkOf x, blkOf y with
 | some b, some c => !(b == c)
 | _, _ => false
def AOper.clear (o : AOper) (tmps : List AVal) : Bool :=
 match o.apart, o.op with
 | [], _ => true
 | ys, .load _ a => ys.all fun y => apartB (St.ev tmps a) (St.ev tmps y)
 | _, _ => false
def sameV : AVal → AVal → Bool
 | .int k n, .int k' n' => decide (k = k') && n == n'
 | .bool a, .bool b => a == b
 | .str a, .str b => a == b
 | .ptr a, .ptr b => a == b
 | .sl a n c, .sl a' n' c' => a == a' && n == n' && decide (c = c')
 | .map a, .map b => a == b
 | .nilFn, .nilFn => true
 | .nilIface, .nilIface => true
 | _, _ => false
def sameL : List AVal → List AVal → Bool
 | [], [] => true
 | x :: xs, y :: ys => sameV x y && sameL xs ys
 | _, _ => false
def sameB : Option Blk → Option Blk → Bool
 | some (.cells xs), some (.cells ys) => sameL xs ys
 | _, _ => false
def AOper.kept (o : AOper) (tmps : List AVal) (H H' : Heap) : Bool :=
 o.apart.all fun y => match blkOf (St.ev tmps y) with
  | some b => sameB (H.get b) (H'.get b)
  | none => true
def Aop.isLate : Aop → Bool
 | .mapPlace _ _ _ _ _ | .placeStore _ _ _ _ _ => true
 | op => op.isCall
def lateCallX (R : Caller) (lim : Nat) (o : AOper) (s : St) : Option St :=
 if o.op.isLate then
  match step R (if o.bar then s.H.next else lim) (St.ev s.tmps) s.H o.op with
  | some (v, H) => if o.kept s.tmps s.H H then some ⟨putT s.tmps o.dst v, H⟩ else none
  | none => none
 else none
def execOp (R : Caller) (lim : Nat) (o : AOper) (s : St) : Option St :=
 if wantedA s.tmps o.guard then
  if !o.clear s.tmps then lateCallX R lim o s else
  match step R (if o.bar then s.H.next else lim) (St.ev s.tmps) s.H o.op with
  | some (v, H) => some ⟨putT s.tmps o.dst v, H⟩
  | none => none
 else some ⟨putT s.tmps o.dst und, s.H⟩
def execOps (R : Caller) (lim : Nat) : List AOper → St → Option St
 | [], s => some s
 | o :: os, s => match execOp R lim o s with
  | some s => execOps R lim os s
  | none => none
def loopN (body : St → Option (Ex × St)) : Nat → St → Option (Ex × St)
 | 0, _ => none
 | n + 1, s => match body s with
  | some (.norm, s) => loopN body n s
  | r => r
def exec (R : Caller) (lim n : Nat) : ACode → St → Option (Ex × St)
 | .skip, s => some (.norm, s)
 | .region ops, s => (execOps R lim ops s).map fun s => (.norm, s)
 | .seq a b, s => match exec R lim n a s with
  | some (.norm, s) => exec R lim n b s
  | r => r
 | .cond c a b, s => match St.ev s.tmps c with
  | .bool t => if t then exec R lim n a s else exec R lim n b s
  | _ => none
 | .block id body, s => match exec R lim n body s with
  | some (.exit id', s) => if id' = id then some (.norm, s) else some (.exit id', s)
  | r => r
 | .loop body, s => loopN (exec R lim n body) n s
 | .exit id, s => some (.exit id, s)
 | .ret, s => some (.ret, s)
 | .ranges g ps assign body, s =>
  if assign.plain && body.plain then
   match St.ev s.tmps g with
   | .fn f first captured =>
    match R lim (.fn f) (first ++ [.yl s.H.next] ++ captured) (s.H.push (.loop ⟨.ready, none, s.tmps, ps, assign, body⟩)) with
    | some (_, H') => match H'.get s.H.next with
     | some (.loop ⟨.ready, none, _, _, _, _⟩) => some (.norm, ⟨s.tmps, H'.set s.H.next .dead⟩)
     | some (.loop ⟨.done, some e, _, _, _, _⟩) => some (e, ⟨s.tmps, H'.set s.H.next .dead⟩)
     | _ => none
    | none => none
   | _ => none
  else none
def resOf (s : St) : ARes → Option AVal
 | .tmp t => some (s.tmps.getD t und)
 | .cell t agg => aload s.H agg (s.tmps.getD t und)
def resAll (s : St) : List ARes → Option (List AVal)
 | [] => some []
 | r :: rs => match resOf s r, resAll s rs with
  | some v, some vs => some (v :: vs)
  | _, _ => none
def oneOr : List AVal → AVal
 | [v] => v
 | vs => .tup vs
def leaveF (af : AFunc) (s : St) : Option (AVal × Heap) := (resAll s af.results).map fun vs => (oneOr vs, s.H)
def enterF (af : AFunc) (args : List AVal) : List AVal := args ++ List.replicate (af.ntmps - args.length) und
def putAll (tmps : List AVal) (ps : List Nat) (args : List AVal) : List AVal := (ps.zip args).foldl (fun tmps p => tmps.set p.1 p.2) tmps
def roundF (ex : ACode → St → Option (Ex × St)) (lim b : Nat) (args : List AVal) (H : Heap) : Option (AVal × Heap) :=
 match H.get b with
 | some (.loop r) =>
  if lim ≤ b ∧ args.length = r.ps.length then
   match ex r.assign ⟨putAll r.tmps r.ps args, H⟩ with
   | some (.norm, s1) =>
    match s1.H.get b with
    | some (.loop ⟨.ready, q, t, ps, a, c⟩) =>
     match ex r.body ⟨s1.tmps, s1.H.set b (.loop ⟨.busy, q, t, ps, a, c⟩)⟩ with
     | some (e, s2) =>
      match s2.H.get b with
      | some (.loop r2) => match e with
       | .norm => some (.bool true, s2.H.set b (.loop { r2 with state := .ready, pending := none }))
       | e => some (.bool false, s2.H.set b (.loop { r2 with state := .done, pending := some e }))
      | _ => none
     | none => none
    | _ => none
   | _ => none
  else none
 | _ => none
inductive AFn where
 | code (af : AFunc)
 | prim (g : Nat → List AVal → Heap → Option (AVal × Heap))
def runT (ap : FuncId → Option AFn) : Nat → Caller
 | 0, _, _, _, _ => none
 | n + 1, lim, .fn f, args, H =>
  match ap f with
  | some (.code af) =>
   match exec (runT ap n) lim n af.body ⟨enterF af args, H⟩ with
   | some (.exit _, _) => none
   | some (_, s) => leaveF af s
   | none => none
  | some (.prim g) => g lim args H
  | none => none
 | n + 1, lim, .yl b, args, H => roundF (exec (runT ap n) lim n) lim b args H
def run (ap : FuncId → Option AFn) (n lim : Nat) (f : FuncId) (args : List AVal) (H : Heap) : Option (AVal × Heap) := runT ap n lim (.fn f) args H
end Go.Ahs
