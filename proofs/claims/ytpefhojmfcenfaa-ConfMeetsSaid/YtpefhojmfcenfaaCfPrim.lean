/- The functions of conf that come to no memory, as functions of numbers. -/
import Derived.Test.YtpefhojmfcenfaaCfAp
import Derived.Test.YtpefhojmfcenfaaBhsA23
import Derived.Test.YtpefhojmfcenfaaChecked
import Derived.KernelRfl
set_option maxRecDepth 100000
set_option linter.unusedSimpArgs false
set_option linter.unusedVariables false
namespace Go.Proofs.Ytpefhojmfcenfaa.conf
open Go.Ahs

def bitN (x : Nat) : Nat := if 1 ≤ x ∧ x ≤ 5 then 2 ^ (x - 1) else 0
def popN (x : Nat) : Nat := x % 2 + x / 2 % 2 + x / 4 % 2 + x / 8 % 2 + x / 16 % 2 + x / 32 % 2 + x / 64 % 2 + x / 128 % 2
def hasN (m n : Nat) : Bool := !((m &&& bitN n) == 0)
def wonN (m v : Nat) : Bool := decide (popN (m &&& 31) < 2 * popN ((m &&& 31) &&& v))
def nearN (a b : Nat) : Bool := decide (popN ((a ^^^ b) &&& 31) ≤ 1)

def p71 : AFn := .prim (prim1 fun x => .int .u8 (bitN x))
def p72 : AFn := .prim (prim1 fun x => .int .i64 (popN x))
def p43 : AFn := .prim (prim2 fun m n => .bool (hasN m n))
def p41 : AFn := .prim (prim2 fun m v => .bool (wonN m v))
def p42 : AFn := .prim (prim2 fun a b => .bool (nearN a b))

theorem mixed : Try.prog.follows .mixedOrders = true := Try.checked.mixed

def S0 : List Nat := [71, 72]
theorem free0 : ∀ f, S0.contains f = true → ∃ af, ap f = some af ∧ FreeFn (fun f => S0.contains f) af := free_list (by
  intro f hf
  simp only [S0, List.mem_cons, List.not_mem_nil, or_false] at hf
  rcases hf with rfl | rfl
  · exact ⟨.code f71, by kernel_rfl, by show AFunc.free _ _ = true; kernel_rfl⟩
  · exact ⟨.code f72, by kernel_rfl, by show AFunc.free _ _ = true; kernel_rfl⟩)
theorem ok71 : PrimOK Try.prog 71 (prim1 fun x => .int .u8 (bitN x)) := PrimOK.fin1 mixed ap_ok free0 (by kernel_rfl) 20 _ (by kernel_rfl)
theorem ok72 : PrimOK Try.prog 72 (prim1 fun x => .int .i64 (popN x)) := PrimOK.fin1 mixed ap_ok free0 (by kernel_rfl) 20 _ (by kernel_rfl)

def ap1 : FuncId → Option AFn := over [(71, p71), (72, p72)] ap
theorem ap1_ok : ∀ f af, ap1 f = some af → FnOK Try.prog f af := over_ok ⟨ok71, ok72, trivial⟩ ap_ok

theorem a43 : ap1 43 = some (.code f43) := by kernel_rfl
theorem a41 : ap1 41 = some (.code f41) := by kernel_rfl
theorem a42 : ap1 42 = some (.code f42) := by kernel_rfl
theorem b71 : ap1 71 = some p71 := by kernel_rfl
theorem b72 : ap1 72 = some p72 := by kernel_rfl

theorem bitN_lt (x : Nat) : bitN x < 256 := by
  unfold bitN
  split
  · rename_i h
    have : x - 1 ≤ 4 := by omega
    exact Nat.lt_of_le_of_lt (Nat.pow_le_pow_right (by omega) this) (by decide)
  · decide
theorem popN_le (x : Nat) : popN x ≤ 8 := by unfold popN; omega

theorem call71 (n lim : Nat) (H : Heap) {x : Nat} (hx : x < 256) : Ahs.runT ap1 (n + 1) lim (.fn 71) [.int .u8 (x : Int)] H = some (.int .u8 (bitN x : Nat), H) := by
  rw [runT_fn, run_prim _ _ _ b71, prim1_byte _ _ _ hx]
theorem call72 (n lim : Nat) (H : Heap) {x : Nat} (hx : x < 256) : Ahs.runT ap1 (n + 1) lim (.fn 72) [.int .u8 (x : Int)] H = some (.int .i64 (popN x : Nat), H) := by
  rw [runT_fn, run_prim _ _ _ b72, prim1_byte _ _ _ hx]


theorem cast_ne0 (k : Nat) : ((k : Int) != 0) = !(k == 0) := by
  cases k with
  | zero => rfl
  | succ k => simp [bne]; omega

theorem has_run (lim : Nat) (H : Heap) (m x : Nat) (hm : m < 256) (hx : x < 256) : run ap1 20 lim 43 [.int .u8 (m : Int), .int .u8 (x : Int)] H = some (.bool (hasN m x), H) := by
  rw [run_eq _ _ _ a43]
  simp only [exec_seq, exec_region, exec_ret, exec_skip, exec_cond, onBool_bool, ops_cons, ops_guard, ops_nil, thenN_ops, thenN_norm, thenN_ret, step_mov, step_bin, step_call, then1_some, St.ev, putT, List.map_cons, List.map_nil, List.set_cons_zero, List.set_cons_succ, List.getD_cons_zero, List.getD_cons_succ, List.length_cons, List.length_nil, List.replicate, List.cons_append, List.nil_append, if_true, if_false, Bool.false_eq_true, Ahs.val, Option.map_some, endF_ret, resAll_tmp, resAll_nil, oneOr_one, f43, abin_and, abin_neq, call71 _ _ _ hx, iand_u8 hm (bitN_lt x), cast_ne0]
  rfl

theorem won_run (lim : Nat) (H : Heap) (m v : Nat) (hm : m < 256) (hv : v < 256) : run ap1 20 lim 41 [.int .u8 (m : Int), .int .u8 (v : Int)] H = some (.bool (wonN m v), H) := by
  rw [run_eq _ _ _ a41]
  have h31 : (31 : Int) = ((31 : Nat) : Int) := rfl
  have h1 : m &&& 31 < 256 := Nat.lt_of_le_of_lt Nat.and_le_left hm
  have h2 : (m &&& 31) &&& v < 256 := Nat.lt_of_le_of_lt Nat.and_le_left h1
  have hw : IntKind.i64.wrap (2 * (popN ((m &&& 31) &&& v) : Int)) = 2 * (popN ((m &&& 31) &&& v) : Int) := by
    have := popN_le ((m &&& 31) &&& v)
    exact wrap_id (by show (-9223372036854775808 : Int) ≤ _; omega) (by show _ ≤ (9223372036854775807 : Int); omega)
  simp only [exec_seq, exec_region, exec_ret, exec_skip, exec_cond, onBool_bool, ops_cons, ops_guard, ops_nil, thenN_ops, thenN_norm, thenN_ret, step_mov, step_bin, step_call, then1_some, St.ev, putT, List.map_cons, List.map_nil, List.set_cons_zero, List.set_cons_succ, List.getD_cons_zero, List.getD_cons_succ, List.length_cons, List.length_nil, List.replicate, List.cons_append, List.nil_append, if_true, if_false, Bool.false_eq_true, Ahs.val, Option.map_some, endF_ret, resAll_tmp, resAll_nil, oneOr_one, f41, abin_and, abin_mul, abin_gtr, h31, iand_u8 hm (show 31 < 256 by decide), iand_u8 h1 hv, call72 _ _ _ h1, call72 _ _ _ h2, hw]
  have e : decide ((popN (m &&& 31) : Int) < 2 * (popN ((m &&& 31) &&& v) : Int)) = wonN m v := by
    unfold wonN
    rw [decide_eq_decide]
    omega
  rw [e]

theorem near_run (lim : Nat) (H : Heap) (m v : Nat) (hm : m < 256) (hv : v < 256) : run ap1 20 lim 42 [.int .u8 (m : Int), .int .u8 (v : Int)] H = some (.bool (nearN m v), H) := by
  rw [run_eq _ _ _ a42]
  have h31 : (31 : Int) = ((31 : Nat) : Int) := rfl
  have h0 : m ^^^ v < 256 := Nat.xor_lt_two_pow (n := 8) hm hv
  have h1 : (m ^^^ v) &&& 31 < 256 := Nat.lt_of_le_of_lt Nat.and_le_left h0
  simp only [exec_seq, exec_region, exec_ret, exec_skip, exec_cond, onBool_bool, ops_cons, ops_guard, ops_nil, thenN_ops, thenN_norm, thenN_ret, step_mov, step_bin, step_call, then1_some, St.ev, putT, List.map_cons, List.map_nil, List.set_cons_zero, List.set_cons_succ, List.getD_cons_zero, List.getD_cons_succ, List.length_cons, List.length_nil, List.replicate, List.cons_append, List.nil_append, if_true, if_false, Bool.false_eq_true, Ahs.val, Option.map_some, endF_ret, resAll_tmp, resAll_nil, oneOr_one, f42, abin_and, abin_xor, abin_leq, h31, ixor_u8 hm hv, iand_u8 h0 (show 31 < 256 by decide), call72 _ _ _ h1]
  have e : decide ((popN ((m ^^^ v) &&& 31) : Int) ≤ 1) = nearN m v := by
    unfold nearN
    rw [decide_eq_decide]
    omega
  rw [e]

theorem ok43 : PrimOK Try.prog 43 (prim2 fun m n => .bool (hasN m n)) := PrimOK.sym2 mixed ap1_ok a43 20 _ has_run
theorem ok41 : PrimOK Try.prog 41 (prim2 fun m v => .bool (wonN m v)) := PrimOK.sym2 mixed ap1_ok a41 20 _ won_run
theorem ok42 : PrimOK Try.prog 42 (prim2 fun a b => .bool (nearN a b)) := PrimOK.sym2 mixed ap1_ok a42 20 _ near_run

/-- The last line of each law. -/
theorem awakes : ∃ H0, run ap 40 0 39 [] Heap.empty = some (.bool true, H0) := isTrue_inv (by kernel_rfl)
def p39 : AFn := .prim fun _ args H => match args with | [] => some (.bool true, H) | _ => none
theorem ok39 : FnOK Try.prog 39 p39 := by
  obtain ⟨H0, h⟩ := awakes
  exact PrimOK.closed mixed ap_ok h rfl

def ap2 : FuncId → Option AFn := over [(43, p43), (41, p41), (42, p42), (39, p39)] ap1
theorem ap2_ok : ∀ f af, ap2 f = some af → FnOK Try.prog f af := over_ok ⟨ok43, ok41, ok42, ok39, trivial⟩ ap1_ok
end Go.Proofs.Ytpefhojmfcenfaa.conf
