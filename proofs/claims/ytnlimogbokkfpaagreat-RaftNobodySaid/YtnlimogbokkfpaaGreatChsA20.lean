/- Running functions of the abstract machine on values that are not known: equations for simp. -/
import Derived.Test.YtnlimogbokkfpaaGreatChsA19
set_option linter.unusedSimpArgs false
set_option linter.unusedVariables false
namespace Go.Ahs
section
variable (k : IntKind) (a b : Int)
theorem abin_add : abin .add (.int k a) (.int k b) = some (.int k (k.wrap (a + b))) := by simp [abin, binOp, Op.intArith, pureV, pure, ofV]
theorem abin_sub : abin .sub (.int k a) (.int k b) = some (.int k (k.wrap (a - b))) := by simp [abin, binOp, Op.intArith, pureV, pure, ofV]
theorem abin_mul : abin .mul (.int k a) (.int k b) = some (.int k (k.wrap (a * b))) := by simp [abin, binOp, Op.intArith, pureV, pure, ofV]
theorem abin_eql : abin .eql (.int k a) (.int k b) = some (.bool (a == b)) := by simp [abin, binOp, Op.intCmp, pureV, pure, ofV]
theorem abin_neq : abin .neq (.int k a) (.int k b) = some (.bool (a != b)) := by simp [abin, binOp, Op.intCmp, pureV, pure, ofV]
theorem abin_lss : abin .lss (.int k a) (.int k b) = some (.bool (decide (a < b))) := by simp [abin, binOp, Op.intCmp, pureV, pure, ofV]
theorem abin_leq : abin .leq (.int k a) (.int k b) = some (.bool (decide (a ≤ b))) := by simp [abin, binOp, Op.intCmp, pureV, pure, ofV]
theorem abin_gtr : abin .gtr (.int k a) (.int k b) = some (.bool (decide (b < a))) := by simp [abin, binOp, Op.intCmp, pureV, pure, ofV]
theorem abin_geq : abin .geq (.int k a) (.int k b) = some (.bool (decide (b ≤ a))) := by simp [abin, binOp, Op.intCmp, pureV, pure, ofV]
def bitsOp (f : (n : Nat) → BitVec n → BitVec n → BitVec n) (k : IntKind) (a b : Int) : Int := k.wrap (f k.bits (BitVec.ofInt k.bits a) (BitVec.ofInt k.bits b)).toNat
def iand := bitsOp fun _ a b => a &&& b
def ior := bitsOp fun _ a b => a ||| b
def ixor := bitsOp fun _ a b => a ^^^ b
def iandNot := bitsOp fun _ a b => a &&& ~~~b
theorem abin_and : abin .and (.int k a) (.int k b) = some (.int k (iand k a b)) := by simp [abin, binOp, Op.intBits, pureV, pure, ofV, iand, bitsOp]
theorem abin_or : abin .or (.int k a) (.int k b) = some (.int k (ior k a b)) := by simp [abin, binOp, Op.intBits, pureV, pure, ofV, ior, bitsOp]
theorem abin_xor : abin .xor (.int k a) (.int k b) = some (.int k (ixor k a b)) := by simp [abin, binOp, Op.intBits, pureV, pure, ofV, ixor, bitsOp]
theorem abin_andNot : abin .andNot (.int k a) (.int k b) = some (.int k (iandNot k a b)) := by simp [abin, binOp, Op.intBits, pureV, pure, ofV, iandNot, bitsOp]
theorem abin_shl (k' : IntKind) (h : 0 ≤ b) : abin .shl (.int k a) (.int k' b) = some (.int k (k.wrap (a * 2 ^ (min b.toNat k.bits)))) := by
 have : ¬ b < 0 := by omega
 simp [abin, binOp, Op.shift, this, pureV, pure, ofV]
theorem abin_shr (k' : IntKind) (h : 0 ≤ b) : abin .shr (.int k a) (.int k' b) = some (.int k (a.fdiv (2 ^ (min b.toNat k.bits)))) := by
 have : ¬ b < 0 := by omega
 simp [abin, binOp, Op.shift, this, pureV, pure, ofV]
theorem abin_quo (h : b ≠ 0) : abin .quo (.int k a) (.int k b) = some (.int k (k.wrap (a.tdiv b))) := by simp [abin, binOp, Op.intDiv, h, pureV, pure, ofV]
theorem abin_rem (h : b ≠ 0) : abin .rem (.int k a) (.int k b) = some (.int k (a.tmod b)) := by simp [abin, binOp, Op.intDiv, h, pureV, pure, ofV]
end
theorem wrap_id {k : IntKind} {n : Int} (h : k.min ≤ n) (h' : n ≤ k.max) : k.wrap n = n := by
 unfold IntKind.wrap IntKind.bits IntKind.signed
 unfold IntKind.min IntKind.max IntKind.bits IntKind.signed at *
 cases k <;> simp at h h' ⊢ <;> omega
def thenN (r : Option (Ex × St)) (k : St → Option (Ex × St)) : Option (Ex × St) :=
 match r with
 | some (.norm, s) => k s
 | r => r
theorem thenN_norm (s : St) (k : St → Option (Ex × St)) : thenN (some (.norm, s)) k = k s := rfl
theorem thenN_exit (id : Nat) (s : St) (k : St → Option (Ex × St)) : thenN (some (.exit id, s)) k = some (.exit id, s) := rfl
theorem thenN_ret (s : St) (k : St → Option (Ex × St)) : thenN (some (.ret, s)) k = some (.ret, s) := rfl
theorem thenN_none (k : St → Option (Ex × St)) : thenN none k = none := rfl
theorem thenN_ite (c : Prop) [Decidable c] (a b : Option (Ex × St)) (k : St → Option (Ex × St)) : thenN (if c then a else b) k = if c then thenN a k else thenN b k := by split <;> rfl
theorem thenN_bind {α : Type} (a : Option α) (f : α → Option (Ex × St)) (k : St → Option (Ex × St)) : thenN (a.bind f) k = a.bind fun x => thenN (f x) k := by cases a <;> rfl
def inBlk (id : Nat) (r : Option (Ex × St)) : Option (Ex × St) :=
 match r with
 | some (.exit id', s) => if id' = id then some (.norm, s) else some (.exit id', s)
 | r => r
theorem inBlk_norm (id : Nat) (s : St) : inBlk id (some (.norm, s)) = some (.norm, s) := rfl
theorem inBlk_ret (id : Nat) (s : St) : inBlk id (some (.ret, s)) = some (.ret, s) := rfl
theorem inBlk_exit (id id' : Nat) (s : St) : inBlk id (some (.exit id', s)) = if id' = id then some (.norm, s) else some (.exit id', s) := rfl
theorem inBlk_none (id : Nat) : inBlk id none = none := rfl
theorem inBlk_ite (id : Nat) (c : Prop) [Decidable c] (a b : Option (Ex × St)) : inBlk id (if c then a else b) = if c then inBlk id a else inBlk id b := by split <;> rfl
theorem inBlk_bind {α : Type} (id : Nat) (a : Option α) (f : α → Option (Ex × St)) : inBlk id (a.bind f) = a.bind fun x => inBlk id (f x) := by cases a <;> rfl
section
variable (R : Caller) (lim n : Nat) (T : List AVal) (H : Heap)
theorem exec_skip (s : St) : exec R lim n .skip s = some (.norm, s) := rfl
theorem exec_ret (s : St) : exec R lim n .ret s = some (.ret, s) := rfl
theorem exec_exit (id : Nat) (s : St) : exec R lim n (.exit id) s = some (.exit id, s) := rfl
theorem exec_seq (a b : ACode) (s : St) : exec R lim n (.seq a b) s = thenN (exec R lim n a s) fun s => exec R lim n b s := by
 simp only [exec, thenN]
 cases exec R lim n a s with
 | none => rfl
 | some p => obtain ⟨ex, s1⟩ := p; cases ex <;> rfl
theorem exec_block (id : Nat) (c : ACode) (s : St) : exec R lim n (.block id c) s = inBlk id (exec R lim n c s) := rfl
theorem exec_loop (c : ACode) (s : St) : exec R lim n (.loop c) s = loopN (exec R lim n c) n s := rfl
def onBool (v : AVal) (a b : Option (Ex × St)) : Option (Ex × St) :=
 match v with
 | .bool t => if t = true then a else b
 | _ => none
theorem onBool_bool (t : Bool) (a b : Option (Ex × St)) : onBool (.bool t) a b = if t = true then a else b := rfl
theorem exec_cond (c : Opd) (a b : ACode) (s : St) : exec R lim n (.cond c a b) s = onBool (St.ev s.tmps c) (exec R lim n a s) (exec R lim n b s) := rfl
def ops (os : List AOper) (s : St) (k : St → Option (Ex × St)) : Option (Ex × St) := (execOps R lim os s).bind k
theorem exec_region (os : List AOper) (s : St) : exec R lim n (.region os) s = ops R lim os s fun s => some (.norm, s) := by
 simp only [exec, ops]; cases execOps R lim os s <;> rfl
theorem thenN_ops (os : List AOper) (s : St) (k k' : St → Option (Ex × St)) : thenN (ops R lim os s k) k' = ops R lim os s fun s => thenN (k s) k' := thenN_bind _ _ _
theorem inBlk_ops (id : Nat) (os : List AOper) (s : St) (k : St → Option (Ex × St)) : inBlk id (ops R lim os s k) = ops R lim os s fun s => inBlk id (k s) := inBlk_bind _ _ _
theorem ops_nil (s : St) (k : St → Option (Ex × St)) : ops R lim [] s k = k s := rfl
def then1 (d : Option Nat) (r : Option (AVal × Heap)) (k : St → Option (Ex × St)) : Option (Ex × St) := r.bind fun p => k ⟨putT T d p.1, p.2⟩
theorem ops_cons (d : Option Nat) (op : Aop) (b : Bool) (os : List AOper) (k : St → Option (Ex × St)) :
  ops R lim (⟨d, op, none, b, []⟩ :: os) ⟨T, H⟩ k = then1 T d (step R (if b then H.next else lim) (St.ev T) H op) fun s => ops R lim os s k := by
 simp only [ops, execOps, execOp, wantedA, if_true, then1, AOper.clear, Bool.not_true, Bool.false_eq_true, if_false]
 cases step R (if b = true then H.next else lim) (St.ev T) H op with
 | none => rfl
 | some p => rfl
theorem ops_guard (d : Option Nat) (op : Aop) (b : Bool) (t : Nat) (want : Bool) (os : List AOper) (k : St → Option (Ex × St)) :
  ops R lim (⟨d, op, some (t, want), b, []⟩ :: os) ⟨T, H⟩ k =
   if wantedA T (some (t, want)) = true then then1 T d (step R (if b then H.next else lim) (St.ev T) H op) fun s => ops R lim os s k else ops R lim os ⟨putT T d und, H⟩ k := by
 simp only [ops, execOps, execOp, then1, AOper.clear, Bool.not_true, Bool.false_eq_true, if_false]
 by_cases hw : wantedA T (some (t, want)) = true
 ·simp only [hw, if_true]
  cases step R (if b = true then H.next else lim) (St.ev T) H op with
  | none => rfl
  | some p => rfl
 ·simp only [hw, if_false, Bool.false_eq_true]
theorem then1_some (d : Option Nat) (v : AVal) (H' : Heap) (k : St → Option (Ex × St)) : then1 T d (some (v, H')) k = k ⟨putT T d v, H'⟩ := rfl
theorem then1_none (d : Option Nat) (k : St → Option (Ex × St)) : then1 T d none k = none := rfl
theorem then1_ite (d : Option Nat) (c : Prop) [Decidable c] (a b : Option (AVal × Heap)) (k : St → Option (Ex × St)) : then1 T d (if c then a else b) k = if c then then1 T d a k else then1 T d b k := by split <;> rfl
theorem wanted_bool (t : Nat) (want : Bool) : wantedA T (some (t, want)) = (match T[t]? with | some (.bool b) => b == want | _ => false) := rfl
theorem val_some' (v : AVal) : val H (some v) = some (v, H) := rfl
theorem val_none' : val H none = none := rfl
theorem putT_some (d : Nat) (v : AVal) : putT T (some d) v = T.set d v := rfl
theorem putT_none (v : AVal) : putT T none v = T := rfl
theorem ev_tmp (t : Nat) : St.ev T (.tmp t) = T.getD t und := rfl
theorem ev_val (v : AVal) : St.ev T (.val v) = v := rfl
def endF (rs : List ARes) (r : Option (Ex × St)) : Option (AVal × Heap) :=
 match r with
 | some (.exit _, _) => none
 | some (_, s) => (resAll s rs).map fun vs => (oneOr vs, s.H)
 | none => none
theorem endF_ret (rs : List ARes) (s : St) : endF rs (some (.ret, s)) = (resAll s rs).map fun vs => (oneOr vs, s.H) := rfl
theorem endF_norm (rs : List ARes) (s : St) : endF rs (some (.norm, s)) = (resAll s rs).map fun vs => (oneOr vs, s.H) := rfl
theorem endF_ite (rs : List ARes) (c : Prop) [Decidable c] (a b : Option (Ex × St)) : endF rs (if c then a else b) = if c then endF rs a else endF rs b := by split <;> rfl
theorem run_eq {ap : FuncId → Option AFn} {f : FuncId} {af : AFunc} (h : ap f = some (.code af)) (args : List AVal) :
  run ap (n + 1) lim f args H = endF af.results (exec (runT ap n) lim n af.body ⟨args ++ List.replicate (af.ntmps - args.length) und, H⟩) := by
 simp only [run, runT, h, endF, enterF, leaveF]
 cases exec (runT ap n) lim n af.body ⟨args ++ List.replicate (af.ntmps - args.length) und, H⟩ with
 | none => rfl
 | some p => obtain ⟨ex, s1⟩ := p; cases ex <;> rfl
theorem runT_fn (ap : FuncId → Option AFn) (n : Nat) (f : FuncId) (args : List AVal) : runT ap n lim (.fn f) args H = run ap n lim f args H := rfl
theorem run_prim {ap : FuncId → Option AFn} {f : FuncId} {g : Nat → List AVal → Heap → Option (AVal × Heap)} (h : ap f = some (.prim g)) (args : List AVal) : run ap (n + 1) lim f args H = g lim args H := by
 simp only [run, runT, h]
theorem resAll_nil (s : St) : resAll s [] = some [] := rfl
theorem resAll_tmp (s : St) (t : Nat) (rs : List ARes) : resAll s (.tmp t :: rs) = (resAll s rs).map fun vs => s.tmps.getD t und :: vs := by
 simp only [resAll, resOf]
 cases resAll s rs <;> rfl
theorem oneOr_one (v : AVal) : oneOr [v] = v := rfl
theorem oneOr_two (v u : AVal) (vs : List AVal) : oneOr (v :: u :: vs) = .tup (v :: u :: vs) := rfl
theorem step_mov (ev : Opd → AVal) (x : Opd) : step R lim ev H (.mov x) = some (ev x, H) := rfl
theorem step_bin (ev : Opd → AVal) (op : BinOp) (x y : Opd) : step R lim ev H (.bin op x y) = val H (abin op (ev x) (ev y)) := rfl
theorem step_call (ev : Opd → AVal) (f : FuncId) (xs : List Opd) : step R lim ev H (.call f xs) = R lim (.fn f) (xs.map ev) H := rfl
theorem step_extract (ev : Opd → AVal) (x : Opd) (i : Nat) : step R lim ev H (.extract x i) = (match ev x with | .tup vs => val H vs[i]? | _ => none) := rfl
def pickV (c a b : AVal) (H : Heap) : Option (AVal × Heap) :=
 match c with
 | .bool t => some (if t = true then a else b, H)
 | _ => none
theorem pickV_bool (t : Bool) (a b : AVal) : pickV (.bool t) a b H = some (if t = true then a else b, H) := rfl
theorem step_pick (ev : Opd → AVal) (c a b : Opd) : step R lim ev H (.pick c a b) = pickV (ev c) (ev a) (ev b) H := rfl
end
end Go.Ahs
