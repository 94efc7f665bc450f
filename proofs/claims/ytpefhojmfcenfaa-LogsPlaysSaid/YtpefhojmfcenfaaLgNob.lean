/- What the functions of logs come to on a nil log, and on one that New did not make. -/
import Derived.Test.YtpefhojmfcenfaaLgW1
import Derived.Test.YtpefhojmfcenfaaLgPr
import Derived.Test.YtpefhojmfcenfaaBhsW3
set_option maxRecDepth 100000
set_option linter.unusedVariables false
set_option linter.unusedSimpArgs false
namespace Go.Proofs.Ytpefhojmfcenfaa.logs
open Go.Ahs

/-- A log that is none. -/
def NoLog (H : Heap) (p : AVal) : Prop := p = .ptr none ∨ ∃ b rest, p = .ptr (some (b, 0)) ∧ H.cells b = some (.bool false :: rest)

theorem NoLog.keep {H H' : Heap} {p : AVal} (hk : Keeps2 H H') (h : NoLog H p) : NoLog H' p := by
  rcases h with rfl | ⟨b, rest, rfl, hc⟩
  · exact .inl rfl
  · exact .inr ⟨b, rest, rfl, hk.cells hc⟩

theorem no55 {n lim : Nat} {H : Heap} {p : AVal} (h : NoLog H p) : Ahs.runT ap (n + 1) lim (.fn 55) [p] H = some (.bool true, H) := by
  refine run_eqn (F55_run a55 ?_)
  unfold F55
  rcases h with rfl | ⟨b, rest, rfl, hc⟩
  · (repeat (first | (with_reducible apply bindP_intro; (focus (first | with_reducible rfl | (simp only [walkR, get0, getS, Nat.zero_add, Nat.add_zero, Bool.not_true, Bool.not_false, decide_true, decide_false, reduceIte, and_self, Bool.false_eq_true] <;> with_reducible rfl)))) | (with_reducible apply bind2_intro; (focus (first | with_reducible rfl | (simp only [walkR, get0, getS, Nat.zero_add, Nat.add_zero, Bool.not_true, Bool.not_false, decide_true, decide_false, reduceIte, and_self, Bool.false_eq_true] <;> with_reducible rfl)))) | with_reducible apply cond_t | with_reducible apply cond_f))
    exact ⟨rfl, rfl⟩
  · (repeat (first | (with_reducible apply bindP_intro; (focus (first | with_reducible rfl | (simp only [walkR, get0, getS, Nat.zero_add, Nat.add_zero, Bool.not_true, Bool.not_false, decide_true, decide_false, reduceIte, and_self, Bool.false_eq_true, aload_one hc] <;> with_reducible rfl)))) | (with_reducible apply bind2_intro; (focus (first | with_reducible rfl | (simp only [walkR, get0, getS, Nat.zero_add, Nat.add_zero, Bool.not_true, Bool.not_false, decide_true, decide_false, reduceIte, and_self, Bool.false_eq_true, aload_one hc] <;> with_reducible rfl)))) | with_reducible apply cond_t | with_reducible apply cond_f))
    exact ⟨rfl, rfl⟩

theorem no33 {n lim : Nat} {H : Heap} {p a b c : AVal} (h : NoLog H p) : Ahs.runT ap (n + 2) lim (.fn 33) [p, a, b, c] H = some (.tup [], H) := by
  refine run_eqn (F33_run a33 ?_)
  unfold F33
  (repeat (first | (with_reducible apply bindP_intro; (focus (first | with_reducible rfl | (simp only [walkR, get0, getS, Nat.zero_add, Nat.add_zero, Bool.not_true, Bool.not_false, decide_true, decide_false, reduceIte, and_self, Bool.false_eq_true, no55 h] <;> with_reducible rfl)))) | (with_reducible apply bind2_intro; (focus (first | with_reducible rfl | (simp only [walkR, get0, getS, Nat.zero_add, Nat.add_zero, Bool.not_true, Bool.not_false, decide_true, decide_false, reduceIte, and_self, Bool.false_eq_true, no55 h] <;> with_reducible rfl)))) | with_reducible apply cond_t | with_reducible apply cond_f))
  exact ⟨rfl, rfl⟩

theorem no57 {n lim : Nat} {H : Heap} {p a b c : AVal} (h : NoLog H p) : Ahs.runT ap (n + 2) lim (.fn 57) [p, a, b, c] H = some (.bool false, H) := by
  refine run_eqn (F57_run a57 ?_)
  unfold F57
  (repeat (first | (with_reducible apply bindP_intro; (focus (first | with_reducible rfl | (simp only [walkR, get0, getS, Nat.zero_add, Nat.add_zero, Bool.not_true, Bool.not_false, decide_true, decide_false, reduceIte, and_self, Bool.false_eq_true, no55 h] <;> with_reducible rfl)))) | (with_reducible apply bind2_intro; (focus (first | with_reducible rfl | (simp only [walkR, get0, getS, Nat.zero_add, Nat.add_zero, Bool.not_true, Bool.not_false, decide_true, decide_false, reduceIte, and_self, Bool.false_eq_true, no55 h] <;> with_reducible rfl)))) | with_reducible apply cond_t | with_reducible apply cond_f))
  exact ⟨rfl, rfl⟩

theorem no20 {n lim : Nat} {H : Heap} {p a b c : AVal} (h : NoLog H p) : Ahs.runT ap (n + 3) lim (.fn 20) [p, a, b, c] H = some (.tup [.bool false, .int .u64 0, .sl none 0 (.ex 0)], H) := by
  refine run_eqn (F20_run a20 ?_)
  unfold F20
  (repeat (first | (with_reducible apply bindP_intro; (focus (first | with_reducible rfl | (simp only [walkR, get0, getS, Nat.zero_add, Nat.add_zero, Bool.not_true, Bool.not_false, decide_true, decide_false, reduceIte, and_self, Bool.false_eq_true, no57 h] <;> with_reducible rfl)))) | (with_reducible apply bind2_intro; (focus (first | with_reducible rfl | (simp only [walkR, get0, getS, Nat.zero_add, Nat.add_zero, Bool.not_true, Bool.not_false, decide_true, decide_false, reduceIte, and_self, Bool.false_eq_true, no57 h] <;> with_reducible rfl)))) | with_reducible apply cond_t | with_reducible apply cond_f))
  exact ⟨rfl, rfl⟩

theorem no25 {n lim : Nat} {H : Heap} {p : AVal} (h : NoLog H p) : Ahs.runT ap (n + 2) lim (.fn 25) [p] H = some (.tup [.int .u64 0, .int .u64 0], H) := by
  refine run_eqn (F25_run a25 ?_)
  unfold F25
  (repeat (first | (with_reducible apply bindP_intro; (focus (first | with_reducible rfl | (simp only [walkR, get0, getS, Nat.zero_add, Nat.add_zero, Bool.not_true, Bool.not_false, decide_true, decide_false, reduceIte, and_self, Bool.false_eq_true, no55 h] <;> with_reducible rfl)))) | (with_reducible apply bind2_intro; (focus (first | with_reducible rfl | (simp only [walkR, get0, getS, Nat.zero_add, Nat.add_zero, Bool.not_true, Bool.not_false, decide_true, decide_false, reduceIte, and_self, Bool.false_eq_true, no55 h] <;> with_reducible rfl)))) | with_reducible apply cond_t | with_reducible apply cond_f))
  exact ⟨rfl, rfl⟩

theorem no22 {n lim : Nat} {H : Heap} {p : AVal} (h : NoLog H p) : Ahs.runT ap (n + 3) lim (.fn 22) [p] H = some (.tup [.int .u64 0, .int .u64 0], H) := by
  refine run_eqn (F22_run a22 ?_)
  unfold F22
  (repeat (first | (with_reducible apply bindP_intro; (focus (first | with_reducible rfl | (simp only [walkR, get0, getS, Nat.zero_add, Nat.add_zero, Bool.not_true, Bool.not_false, decide_true, decide_false, reduceIte, and_self, Bool.false_eq_true, no55 h, no25 h] <;> with_reducible rfl)))) | (with_reducible apply bind2_intro; (focus (first | with_reducible rfl | (simp only [walkR, get0, getS, Nat.zero_add, Nat.add_zero, Bool.not_true, Bool.not_false, decide_true, decide_false, reduceIte, and_self, Bool.false_eq_true, no55 h, no25 h] <;> with_reducible rfl)))) | with_reducible apply cond_t | with_reducible apply cond_f))
  exact ⟨rfl, rfl⟩

theorem no26 {n lim : Nat} {H : Heap} {p : AVal} (h : NoLog H p) : Ahs.runT ap (n + 2) lim (.fn 26) [p] H = some (.tup [.int .u8 0, .int .u64 0], H) := by
  refine run_eqn (F26_run a26 ?_)
  unfold F26
  (repeat (first | (with_reducible apply bindP_intro; (focus (first | with_reducible rfl | (simp only [walkR, get0, getS, Nat.zero_add, Nat.add_zero, Bool.not_true, Bool.not_false, decide_true, decide_false, reduceIte, and_self, Bool.false_eq_true, no55 h] <;> with_reducible rfl)))) | (with_reducible apply bind2_intro; (focus (first | with_reducible rfl | (simp only [walkR, get0, getS, Nat.zero_add, Nat.add_zero, Bool.not_true, Bool.not_false, decide_true, decide_false, reduceIte, and_self, Bool.false_eq_true, no55 h] <;> with_reducible rfl)))) | with_reducible apply cond_t | with_reducible apply cond_f))
  exact ⟨rfl, rfl⟩

theorem no54 {n lim : Nat} {H : Heap} {p a : AVal} (h : NoLog H p) : Ahs.runT ap (n + 2) lim (.fn 54) [p, a] H = some (.tup [.int .i64 0, .bool false], H) := by
  refine run_eqn (F54_run a54 ?_)
  unfold F54
  (repeat (first | (with_reducible apply bindP_intro; (focus (first | with_reducible rfl | (simp only [walkR, get0, getS, Nat.zero_add, Nat.add_zero, Bool.not_true, Bool.not_false, decide_true, decide_false, reduceIte, and_self, Bool.false_eq_true, no55 h] <;> with_reducible rfl)))) | (with_reducible apply bind2_intro; (focus (first | with_reducible rfl | (simp only [walkR, get0, getS, Nat.zero_add, Nat.add_zero, Bool.not_true, Bool.not_false, decide_true, decide_false, reduceIte, and_self, Bool.false_eq_true, no55 h] <;> with_reducible rfl)))) | with_reducible apply cond_t | with_reducible apply cond_f))
  exact ⟨rfl, rfl⟩

theorem no18 {n lim : Nat} {H : Heap} {p a : AVal} (h : NoLog H p) : Ahs.runT ap (n + 3) lim (.fn 18) [p, a] H = some (.tup [.int .u64 0, .bool false], H) := by
  refine run_eqn (F18_run a18 ?_)
  unfold F18
  (repeat (first | (with_reducible apply bindP_intro; (focus (first | with_reducible rfl | (simp only [walkR, get0, getS, Nat.zero_add, Nat.add_zero, Bool.not_true, Bool.not_false, decide_true, decide_false, reduceIte, and_self, Bool.false_eq_true, no54 h, no55 h] <;> with_reducible rfl)))) | (with_reducible apply bind2_intro; (focus (first | with_reducible rfl | (simp only [walkR, get0, getS, Nat.zero_add, Nat.add_zero, Bool.not_true, Bool.not_false, decide_true, decide_false, reduceIte, and_self, Bool.false_eq_true, no54 h, no55 h] <;> with_reducible rfl)))) | with_reducible apply cond_t | with_reducible apply cond_f))
  exact ⟨rfl, rfl⟩

theorem no19 {n lim : Nat} {H : Heap} {p a b : AVal} (h : NoLog H p) : Ahs.runT ap (n + 2) lim (.fn 19) [p, a, b] H = some (.sl none 0 (.ex 0), H) := by
  refine run_eqn (F19_run a19 ?_)
  unfold F19
  (repeat (first | (with_reducible apply bindP_intro; (focus (first | with_reducible rfl | (simp only [walkR, get0, getS, Nat.zero_add, Nat.add_zero, Bool.not_true, Bool.not_false, decide_true, decide_false, reduceIte, and_self, Bool.false_eq_true, no55 h] <;> with_reducible rfl)))) | (with_reducible apply bind2_intro; (focus (first | with_reducible rfl | (simp only [walkR, get0, getS, Nat.zero_add, Nat.add_zero, Bool.not_true, Bool.not_false, decide_true, decide_false, reduceIte, and_self, Bool.false_eq_true, no55 h] <;> with_reducible rfl)))) | with_reducible apply cond_t | with_reducible apply cond_f))
  exact ⟨rfl, rfl⟩

theorem no27 {n lim : Nat} {H : Heap} {p a : AVal} (h : NoLog H p) : Ahs.runT ap (n + 2) lim (.fn 27) [p, a] H = some (.int .u8 0, H) := by
  refine run_eqn (F27_run a27 ?_)
  unfold F27
  (repeat (first | (with_reducible apply bindP_intro; (focus (first | with_reducible rfl | (simp only [walkR, get0, getS, Nat.zero_add, Nat.add_zero, Bool.not_true, Bool.not_false, decide_true, decide_false, reduceIte, and_self, Bool.false_eq_true, no55 h] <;> with_reducible rfl)))) | (with_reducible apply bind2_intro; (focus (first | with_reducible rfl | (simp only [walkR, get0, getS, Nat.zero_add, Nat.add_zero, Bool.not_true, Bool.not_false, decide_true, decide_false, reduceIte, and_self, Bool.false_eq_true, no55 h] <;> with_reducible rfl)))) | with_reducible apply cond_t | with_reducible apply cond_f))
  exact ⟨rfl, rfl⟩

theorem no34 {n lim : Nat} {H : Heap} {p a b : AVal} (h : NoLog H p) : Ahs.runT ap (n + 2) lim (.fn 34) [p, a, b] H = some (.bool false, H) := by
  refine run_eqn (F34_run a34 ?_)
  unfold F34
  (repeat (first | (with_reducible apply bindP_intro; (focus (first | with_reducible rfl | (simp only [walkR, get0, getS, Nat.zero_add, Nat.add_zero, Bool.not_true, Bool.not_false, decide_true, decide_false, reduceIte, and_self, Bool.false_eq_true, no55 h] <;> with_reducible rfl)))) | (with_reducible apply bind2_intro; (focus (first | with_reducible rfl | (simp only [walkR, get0, getS, Nat.zero_add, Nat.add_zero, Bool.not_true, Bool.not_false, decide_true, decide_false, reduceIte, and_self, Bool.false_eq_true, no55 h] <;> with_reducible rfl)))) | with_reducible apply cond_t | with_reducible apply cond_f))
  exact ⟨rfl, rfl⟩

theorem no24 {n lim : Nat} {H : Heap} {p a : AVal} (h : NoLog H p) : Ahs.runT ap (n + 2) lim (.fn 24) [p, a] H = some (.int .i64 4, H) := by
  refine run_eqn (F24_run a24 ?_)
  unfold F24
  (repeat (first | (with_reducible apply bindP_intro; (focus (first | with_reducible rfl | (simp only [walkR, get0, getS, Nat.zero_add, Nat.add_zero, Bool.not_true, Bool.not_false, decide_true, decide_false, reduceIte, and_self, Bool.false_eq_true, no55 h] <;> with_reducible rfl)))) | (with_reducible apply bind2_intro; (focus (first | with_reducible rfl | (simp only [walkR, get0, getS, Nat.zero_add, Nat.add_zero, Bool.not_true, Bool.not_false, decide_true, decide_false, reduceIte, and_self, Bool.false_eq_true, no55 h] <;> with_reducible rfl)))) | with_reducible apply cond_t | with_reducible apply cond_f))
  exact ⟨rfl, rfl⟩

end Go.Proofs.Ytpefhojmfcenfaa.logs
