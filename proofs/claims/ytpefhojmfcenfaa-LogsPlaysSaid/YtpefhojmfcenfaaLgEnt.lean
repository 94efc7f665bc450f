/- Entries, as Lean's own; rows of them. -/
import Derived.Test.YtpefhojmfcenfaaLgNob
set_option maxRecDepth 100000
set_option linter.unusedVariables false
set_option linter.unusedSimpArgs false
namespace Go.Proofs.Ytpefhojmfcenfaa.logs
open Go.Ahs

structure Ent where
  idx : Nat
  term : Nat
  kind : Nat
  s0 : Int
  s1 : Int
  s2 : Int
  s3 : Int
  s4 : Int
  s5 : Int
  s6 : Int
  s7 : Int
  s8 : Int
  body : List UInt8
  deriving DecidableEq

def enc (e : Ent) : List AVal := [.int .u64 (e.idx : Int), .int .u64 (e.term : Int), .int .u8 (e.kind : Int), .int .u8 e.s0, .int .u8 e.s1, .int .u8 e.s2, .int .u8 e.s3, .int .u8 e.s4, .int .u8 e.s5, .int .u8 e.s6, .int .u8 e.s7, .int .u8 e.s8, .str e.body]

theorem enc_len (e : Ent) : (enc e).length = 13 := rfl
theorem enc_one (e : Ent) : (enc e).all (·.one) = true := rfl
theorem enc0 (e : Ent) : (enc e)[0]? = some (.int .u64 (e.idx : Int)) := rfl
theorem enc1 (e : Ent) : (enc e)[1]? = some (.int .u64 (e.term : Int)) := rfl
theorem enc2 (e : Ent) : (enc e)[2]? = some (.int .u8 (e.kind : Int)) := rfl
theorem enc12 (e : Ent) : (enc e)[12]? = some (.str e.body) := rfl

theorem enc_ones (e : Ent) : ((enc e).all fun x => x.one) = true := rfl
theorem st13 {lim : Nat} {H : Heap} (hl : lim ≤ H.next) (e : Ent) : astore lim (H.push (.cells z0)) 13 (.ptr (some (H.next, 0))) (.agg (enc e)) = some (H.push (.cells (enc e))) :=
  astore_new (cs := z0) (x := .agg (enc e)) hl rfl rfl rfl
theorem ld13 (H : Heap) (e : Ent) : aload (H.push (.cells (enc e))) (some 13) (.ptr (some (H.next, 0))) = some (.agg (enc e)) := aload_newA H rfl

theorem eqEnt (a b : Ent) : cellsEq [(.int .u64), (.int .u64), (.int .u8), (.int .u8), (.int .u8), (.int .u8), (.int .u8), (.int .u8), (.int .u8), (.int .u8), (.int .u8), (.int .u8), .str] (enc a) (enc b) = some (a == b) := by
  have h : ∀ p q : Nat, (((p : Int) == (q : Int)) : Bool) = (p == q) := by
    intro p q
    rw [Bool.eq_iff_iff, beq_iff_eq, beq_iff_eq]; omega
  have e : (a == b) = ((a.idx == b.idx) && ((a.term == b.term) && ((a.kind == b.kind) && ((a.s0 == b.s0) && ((a.s1 == b.s1) && ((a.s2 == b.s2) && ((a.s3 == b.s3) && ((a.s4 == b.s4) && ((a.s5 == b.s5) && ((a.s6 == b.s6) && ((a.s7 == b.s7) && ((a.s8 == b.s8) && ((a.body == b.body) && true))))))))))))) := by
    rw [Bool.eq_iff_iff, beq_iff_eq]
    cases a; cases b
    simp only [Ent.mk.injEq, Bool.and_eq_true, beq_iff_eq, and_true]
  rw [e]
  simp only [enc, cellsEq, leafEq, h, and_self, if_true]

/-- A row of entries. -/
def Es (H : Heap) (v : AVal) (es : List Ent) : Prop := Sl H 13 v (es.map enc)

section
variable {H : Heap} {v : AVal} {es : List Ent}
theorem Es.len (h : Es H v es) : alen false v = some (.int .i64 (es.length : Nat)) := by
  have := Sl.len h; simpa using this
theorem Es.addr (h : Es H v es) {k : IntKind} {i : Nat} (hi : i < es.length) : aindexAddr none 13 v (.int k (i : Int)) = some (slot v (i * 13)) := Sl.addr h (by simpa using hi)
theorem Es.get (h : Es H v es) {i : Nat} (hi : i < es.length) : (es.map enc)[i]? = some (enc es[i]) := by simp [hi]
theorem Es.load (h : Es H v es) {i : Nat} (hi : i < es.length) : aload H (some 13) (slot v (i * 13)) = some (.agg (enc es[i])) := Sl.load h (h.get hi)
theorem Es.faddr (h : Es H v es) {i : Nat} (hi : i < es.length) (off : Nat) : faddrO off (slot v (i * 13)) = some (slot v (i * 13 + off)) := faddr_slot h (by simp; omega) _ _
theorem Es.idx (h : Es H v es) {i : Nat} (hi : i < es.length) : aload H none (slot v (i * 13)) = some (.int .u64 (es[i].idx : Int)) := Sl.loadf h (h.get hi) (f := 0) (by omega)
theorem Es.idx' (h : Es H v es) {i : Nat} (hi : i < es.length) : aload H none (slot v (i * 13 + 0)) = some (.int .u64 (es[i].idx : Int)) := Sl.loadf h (h.get hi) (f := 0) (by omega)
theorem Es.term (h : Es H v es) {i : Nat} (hi : i < es.length) : aload H none (slot v (i * 13 + 1)) = some (.int .u64 (es[i].term : Int)) := Sl.loadf h (h.get hi) (f := 1) (by omega)
theorem Es.kind (h : Es H v es) {i : Nat} (hi : i < es.length) : aload H none (slot v (i * 13 + 2)) = some (.int .u8 (es[i].kind : Int)) := Sl.loadf h (h.get hi) (f := 2) (by omega)
theorem Es.body (h : Es H v es) {i : Nat} (hi : i < es.length) : aload H none (slot v (i * 13 + 12)) = some (.str es[i].body) := Sl.loadf h (h.get hi) (f := 12) (by omega)
theorem Es.keep {H' : Heap} (hk : Keeps2 H H') (h : Es H v es) : Es H' v es := Sl.keep hk h
theorem Es.nil : Es H (.sl none 0 (.ex 0)) [] := Sl.nil H 13
end

theorem wrap_i64 {n : Int} (h0 : -9223372036854775808 ≤ n) (h1 : n ≤ 9223372036854775807) : IntKind.i64.wrap n = n := wrap_id h0 h1
theorem wrap_u64 {n : Int} (h0 : 0 ≤ n) (h1 : n ≤ 18446744073709551615) : IntKind.u64.wrap n = n := wrap_id h0 h1
theorem i64_succ {i : Nat} (h : i < 9223372036854775807) : IntKind.i64.wrap ((i : Int) + 1) = ((i + 1 : Nat) : Int) := wrap_i64 (by omega) (by omega)
theorem u64_succ {i : Nat} (h : i < 18446744073709551615) : IntKind.u64.wrap ((i : Int) + 1) = ((i + 1 : Nat) : Int) := wrap_u64 (by omega) (by omega)

theorem dT {p : Prop} [Decidable p] (h : p) : decide p = true := decide_eq_true h
theorem dF {p : Prop} [Decidable p] (h : ¬ p) : decide p = false := decide_eq_false h

/-- Are entries more than the statements go through? -/
def greatEs (es : List Ent) : Bool := decide (40 < es.length) || es.any fun e => decide (100 < e.body.length)

theorem great_loop {R : Caller} {lim n : Nat} {H : Heap} {v : AVal} {es : List Ent} {K : AVal → Heap → Prop} (h : Es H v es) (hs : es.length ≤ 40) :
    ∀ (m i : Nat), es.length < m + i → i ≤ es.length → K (.bool ((es.drop i).any fun e => decide (100 < e.body.length))) H → F15_l0 R lim n K m v (.int .i64 (i : Int)) H
  | 0, i, hm, hle, hK => by
    exfalso; omega
  | m + 1, i, hm, hle, hK => by
    show F15_s0 R lim n K (F15_l0 R lim n K m) v (.int .i64 (i : Int)) H
    unfold F15_s0
    by_cases hi : i < es.length
    · have hd : decide ((i : Int) < (es.length : Int)) = true := dT (by omega)
      rw [List.drop_eq_getElem_cons hi, List.any_cons] at hK
      by_cases hb : 100 < es[i].body.length
      · have hc : decide ((100 : Int) < (es[i].body.length : Int)) = true := dT (by omega)
        (repeat (first | (with_reducible apply bindP_intro; (focus (first | with_reducible rfl | (simp only [walkR, get0, getS, Nat.zero_add, Nat.add_zero, Bool.not_true, Bool.not_false, decide_true, decide_false, reduceIte, and_self, Bool.false_eq_true, h.len, hd, h.addr hi, h.faddr hi, h.body hi, hc] <;> with_reducible rfl)))) | (with_reducible apply bind2_intro; (focus (first | with_reducible rfl | (simp only [walkR, get0, getS, Nat.zero_add, Nat.add_zero, Bool.not_true, Bool.not_false, decide_true, decide_false, reduceIte, and_self, Bool.false_eq_true, h.len, hd, h.addr hi, h.faddr hi, h.body hi, hc] <;> with_reducible rfl)))) | with_reducible apply cond_t | with_reducible apply cond_f))
        rw [dT hb, Bool.true_or] at hK
        exact hK
      · have hc : decide ((100 : Int) < (es[i].body.length : Int)) = false := dF (by omega)
        (repeat (first | (with_reducible apply bindP_intro; (focus (first | with_reducible rfl | (simp only [walkR, get0, getS, Nat.zero_add, Nat.add_zero, Bool.not_true, Bool.not_false, decide_true, decide_false, reduceIte, and_self, Bool.false_eq_true, h.len, hd, h.addr hi, h.faddr hi, h.body hi, hc, i64_succ (show i < 9223372036854775807 by omega)] <;> with_reducible rfl)))) | (with_reducible apply bind2_intro; (focus (first | with_reducible rfl | (simp only [walkR, get0, getS, Nat.zero_add, Nat.add_zero, Bool.not_true, Bool.not_false, decide_true, decide_false, reduceIte, and_self, Bool.false_eq_true, h.len, hd, h.addr hi, h.faddr hi, h.body hi, hc, i64_succ (show i < 9223372036854775807 by omega)] <;> with_reducible rfl)))) | with_reducible apply cond_t | with_reducible apply cond_f))
        rw [dF hb, Bool.false_or] at hK
        exact great_loop h hs m (i + 1) (by omega) (by omega) hK
    · have hd : decide ((i : Int) < (es.length : Int)) = false := dF (by omega)
      (repeat (first | (with_reducible apply bindP_intro; (focus (first | with_reducible rfl | (simp only [walkR, get0, getS, Nat.zero_add, Nat.add_zero, Bool.not_true, Bool.not_false, decide_true, decide_false, reduceIte, and_self, Bool.false_eq_true, h.len, hd] <;> with_reducible rfl)))) | (with_reducible apply bind2_intro; (focus (first | with_reducible rfl | (simp only [walkR, get0, getS, Nat.zero_add, Nat.add_zero, Bool.not_true, Bool.not_false, decide_true, decide_false, reduceIte, and_self, Bool.false_eq_true, h.len, hd] <;> with_reducible rfl)))) | with_reducible apply cond_t | with_reducible apply cond_f))
      rw [List.drop_eq_nil_of_le (by omega)] at hK
      exact hK

theorem great15 {n lim : Nat} {H : Heap} {v : AVal} {es : List Ent} (h : Es H v es) (hn : 50 ≤ n) : Ahs.runT ap (n + 1) lim (.fn 15) [v] H = some (.bool (greatEs es), H) := by
  refine run_eqn (F15_run a15 ?_)
  unfold F15
  by_cases hl : 40 < es.length
  · have hd : decide ((40 : Int) < (es.length : Int)) = true := dT (by omega)
    (repeat (first | (with_reducible apply bindP_intro; (focus (first | with_reducible rfl | (simp only [walkR, get0, getS, Nat.zero_add, Nat.add_zero, Bool.not_true, Bool.not_false, decide_true, decide_false, reduceIte, and_self, Bool.false_eq_true, h.len, hd] <;> with_reducible rfl)))) | (with_reducible apply bind2_intro; (focus (first | with_reducible rfl | (simp only [walkR, get0, getS, Nat.zero_add, Nat.add_zero, Bool.not_true, Bool.not_false, decide_true, decide_false, reduceIte, and_self, Bool.false_eq_true, h.len, hd] <;> with_reducible rfl)))) | with_reducible apply cond_t | with_reducible apply cond_f))
    unfold greatEs
    rw [dT hl, Bool.true_or]
    exact ⟨rfl, rfl⟩
  · have hd : decide ((40 : Int) < (es.length : Int)) = false := dF (by omega)
    (repeat (first | (with_reducible apply bindP_intro; (focus (first | with_reducible rfl | (simp only [walkR, get0, getS, Nat.zero_add, Nat.add_zero, Bool.not_true, Bool.not_false, decide_true, decide_false, reduceIte, and_self, Bool.false_eq_true, h.len, hd] <;> with_reducible rfl)))) | (with_reducible apply bind2_intro; (focus (first | with_reducible rfl | (simp only [walkR, get0, getS, Nat.zero_add, Nat.add_zero, Bool.not_true, Bool.not_false, decide_true, decide_false, reduceIte, and_self, Bool.false_eq_true, h.len, hd] <;> with_reducible rfl)))) | with_reducible apply cond_t | with_reducible apply cond_f))
    refine great_loop h (by omega) n 0 (by omega) (by omega) ?_
    unfold greatEs
    rw [dF hl, Bool.false_or]
    exact ⟨rfl, rfl⟩

end Go.Proofs.Ytpefhojmfcenfaa.logs
