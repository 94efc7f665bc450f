/- Symbolic runs in small steps: what is still to be done stands on a stack; each side goal is small. -/
import Derived.Test.YtnlimogbokkfpaaGreatChsA24
set_option linter.unusedSimpArgs false
set_option linter.unusedVariables false
namespace Go.Ahs
inductive Kont where
 | seq (c : ACode)
 | block (id : Nat)
 | loop (c : ACode) (m : Nat)
section
variable (R : Caller) (lim n : Nat)
def runK : List Kont → Option (Ex × St) → Option (Ex × St)
 | [], r => r
 | .seq c :: ks, r => runK ks (thenN r fun s => exec R lim n c s)
 | .block id :: ks, r => runK ks (inBlk id r)
 | .loop c m :: ks, r => runK ks (thenN r fun s => loopN (exec R lim n c) m s)
def At (ks : List Kont) (r : Option (Ex × St)) (Q : Ex → St → Prop) : Prop := Stops (runK R lim n ks r) Q
end
section
variable {R : Caller} {lim n : Nat} {ks : List Kont} {T T' : List AVal} {H H' : Heap} {Q : Ex → St → Prop}
theorem At_start {c : ACode} {s : St} (h : At R lim n [] (exec R lim n c s) Q) : Stops (exec R lim n c s) Q := h
theorem At_seq {a b : ACode} {s : St} (h : At R lim n (.seq b :: ks) (exec R lim n a s) Q) : At R lim n ks (exec R lim n (.seq a b) s) Q := by
 rw [exec_seq]; exact h
theorem At_block {id : Nat} {c : ACode} {s : St} (h : At R lim n (.block id :: ks) (exec R lim n c s) Q) : At R lim n ks (exec R lim n (.block id c) s) Q := h
theorem At_loop {c : ACode} {s : St} (h : At R lim n ks (loopN (exec R lim n c) n s) Q) : At R lim n ks (exec R lim n (.loop c) s) Q := h
theorem At_loopN {c : ACode} {m : Nat} {s : St} (h : At R lim n (.loop c m :: ks) (exec R lim n c s) Q) : At R lim n ks (loopN (exec R lim n c) (m + 1) s) Q := by
 have e : loopN (exec R lim n c) (m + 1) s = thenN (exec R lim n c s) fun s => loopN (exec R lim n c) m s := by
  rw [loopN]
  cases exec R lim n c s with
  | none => rfl
  | some p => obtain ⟨ex, s1⟩ := p; cases ex <;> rfl
 rw [e]; exact h
theorem At_skip {s : St} (h : At R lim n ks (some (.norm, s)) Q) : At R lim n ks (exec R lim n .skip s) Q := h
theorem At_ret {s : St} (h : At R lim n ks (some (.ret, s)) Q) : At R lim n ks (exec R lim n .ret s) Q := h
theorem At_exit {id : Nat} {s : St} (h : At R lim n ks (some (.exit id, s)) Q) : At R lim n ks (exec R lim n (.exit id) s) Q := h
theorem At_cond {c : Opd} {a b : ACode} {t : Bool} (hc : St.ev T c = .bool t) (h1 : t = true → At R lim n ks (exec R lim n a ⟨T, H⟩) Q) (h2 : t = false → At R lim n ks (exec R lim n b ⟨T, H⟩) Q) : At R lim n ks (exec R lim n (.cond c a b) ⟨T, H⟩) Q := by
 rw [exec_cond]
 simp only [hc, onBool_bool]
 cases t with
 | true => exact h1 rfl
 | false => exact h2 rfl
theorem At_region {os : List AOper} {s : St} (h : At R lim n ks (ops R lim os s fun s => some (.norm, s)) Q) : At R lim n ks (exec R lim n (.region os) s) Q := by
 rw [exec_region]; exact h
theorem At_nil {s : St} (h : At R lim n ks (some (.norm, s)) Q) : At R lim n ks (ops R lim [] s fun s => some (.norm, s)) Q := h
theorem At_op {d : Option Nat} {op : Aop} {b : Bool} {os : List AOper} {v : AVal} (h1 : step R (if b then H.next else lim) (St.ev T) H op = some (v, H')) (h2 : putT T d v = T')
  (h : At R lim n ks (ops R lim os ⟨T', H'⟩ fun s => some (.norm, s)) Q) : At R lim n ks (ops R lim (⟨d, op, none, b, []⟩ :: os) ⟨T, H⟩ fun s => some (.norm, s)) Q := by
 rw [ops_cons, h1, then1_some, h2]; exact h
theorem At_opG {d : Option Nat} {op : Aop} {b : Bool} {os : List AOper} {t : Nat} {want w : Bool} (hw : wantV (T.getD t und) want = w)
  (h1 : w = true → At R lim n ks (ops R lim (⟨d, op, none, b, []⟩ :: os) ⟨T, H⟩ fun s => some (.norm, s)) Q)
  (h2 : w = false → At R lim n ks (ops R lim os ⟨putT T d und, H⟩ fun s => some (.norm, s)) Q) : At R lim n ks (ops R lim (⟨d, op, some (t, want), b, []⟩ :: os) ⟨T, H⟩ fun s => some (.norm, s)) Q := by
 rw [ops_guard, wanted_some, hw]
 cases w with
 | true =>
  have := h1 rfl
  rw [ops_cons] at this
  rw [if_pos rfl]; exact this
 | false =>
  rw [if_neg (by simp)]; exact h2 rfl
theorem At_tmps {os : List AOper} (h2 : T = T') (h : At R lim n ks (ops R lim os ⟨T', H⟩ fun s => some (.norm, s)) Q) : At R lim n ks (ops R lim os ⟨T, H⟩ fun s => some (.norm, s)) Q := by
 rw [h2]; exact h
theorem Done_seq {c : ACode} {s : St} (h : At R lim n ks (exec R lim n c s) Q) : At R lim n (.seq c :: ks) (some (.norm, s)) Q := h
theorem Done_block {id : Nat} {s : St} (h : At R lim n ks (some (.norm, s)) Q) : At R lim n (.block id :: ks) (some (.norm, s)) Q := h
theorem Done_loop {c : ACode} {m : Nat} {s : St} (h : At R lim n ks (loopN (exec R lim n c) m s) Q) : At R lim n (.loop c m :: ks) (some (.norm, s)) Q := h
theorem Ret_seq {c : ACode} {s : St} (h : At R lim n ks (some (.ret, s)) Q) : At R lim n (.seq c :: ks) (some (.ret, s)) Q := h
theorem Ret_block {id : Nat} {s : St} (h : At R lim n ks (some (.ret, s)) Q) : At R lim n (.block id :: ks) (some (.ret, s)) Q := h
theorem Ret_loop {c : ACode} {m : Nat} {s : St} (h : At R lim n ks (some (.ret, s)) Q) : At R lim n (.loop c m :: ks) (some (.ret, s)) Q := h
theorem Exit_seq {c : ACode} {id : Nat} {s : St} (h : At R lim n ks (some (.exit id, s)) Q) : At R lim n (.seq c :: ks) (some (.exit id, s)) Q := h
theorem Exit_loop {c : ACode} {m id : Nat} {s : St} (h : At R lim n ks (some (.exit id, s)) Q) : At R lim n (.loop c m :: ks) (some (.exit id, s)) Q := h
theorem Exit_block {id : Nat} {s : St} (h : At R lim n ks (some (.norm, s)) Q) : At R lim n (.block id :: ks) (some (.exit id, s)) Q := by
 have e : inBlk id (some (.exit id, s)) = some (.norm, s) := by rw [inBlk_exit, if_pos rfl]
 show Stops (runK R lim n ks (inBlk id (some (.exit id, s)))) Q
 rw [e]; exact h
theorem Exit_other {id id' : Nat} {s : St} (hne : (id' == id) = false) (h : At R lim n ks (some (.exit id', s)) Q) : At R lim n (.block id :: ks) (some (.exit id', s)) Q := by
 have e : inBlk id (some (.exit id', s)) = some (.exit id', s) := by rw [inBlk_exit, if_neg (by simpa using hne)]
 show Stops (runK R lim n ks (inBlk id (some (.exit id', s)))) Q
 rw [e]; exact h
theorem At_end {ex : Ex} {s : St} (h : Q ex s) : At R lim n [] (some (ex, s)) Q := ⟨ex, s, rfl, h⟩
theorem run_of_At {ap : FuncId → Option AFn} {f : FuncId} {af : AFunc} (hf : ap f = some (.code af)) {args : List AVal} {T : List AVal} (hT : args ++ List.replicate (af.ntmps - args.length) und = T) {v : AVal} {H' : Heap}
  (h : At (runT ap n) lim n [] (exec (runT ap n) lim n af.body ⟨T, H⟩) fun ex s => (ex = .ret ∨ ex = .norm) ∧ ∃ vs, resAll s af.results = some vs ∧ oneOr vs = v ∧ s.H = H') : run ap (n + 1) lim f args H = some (v, H') := by
 obtain ⟨ex, s, h1, h2, vs, h3, h4, h5⟩ := h
 rw [run_eq _ _ _ hf, hT]
 have h1' : exec (runT ap n) lim n af.body ⟨T, H⟩ = some (ex, s) := h1
 rw [h1']
 rcases h2 with rfl | rfl
 ·rw [endF_ret, h3, Option.map_some, h4, h5]
 ·rw [endF_norm, h3, Option.map_some, h4, h5]
end
end Go.Ahs
