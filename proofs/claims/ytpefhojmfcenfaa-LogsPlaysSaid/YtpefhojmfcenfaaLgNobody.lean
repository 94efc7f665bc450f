/- LogsNobody on the abstract machine. -/
import Derived.Test.YtpefhojmfcenfaaLgEnt
set_option maxRecDepth 100000
set_option linter.unusedVariables false
set_option linter.unusedSimpArgs false
namespace Go.Proofs.Ytpefhojmfcenfaa.logs
open Go.Ahs

def zeroEnt : Ent := ⟨0, 0, 0, 0, 0, 0, 0, 0, 0, 0, 0, 0, []⟩

theorem one36 {n lim : Nat} {H : Heap} (hl : lim ≤ H.next) (i t : Nat) : ∃ v H', Ahs.runT ap (n + 1) lim (.fn 36) [.int .u64 (i : Int), .int .u64 (t : Int)] H = some (v, H') ∧ v = .agg (enc ⟨i, t, 1, 0, 0, 0, 0, 0, 0, 0, 0, 0, []⟩) ∧ Keeps2 H H' := by
  refine F36_run a36 ?_
  unfold F36
  have hb : buildO z0 [(0, 1, .int .u64 (i : Int)), (1, 1, .int .u64 (t : Int)), (2, 1, (.int .u8 1))] = some (.agg (enc ⟨i, t, 1, 0, 0, 0, 0, 0, 0, 0, 0, 0, []⟩)) := rfl
  (repeat (first | (with_reducible apply bindP_intro; (focus (first | with_reducible rfl | (simp only [walkR, get0, getS, Nat.zero_add, Nat.add_zero, Bool.not_true, Bool.not_false, decide_true, decide_false, reduceIte, and_self, Bool.false_eq_true, hb, st13 hl, ld13] <;> with_reducible rfl)))) | (with_reducible apply bind2_intro; (focus (first | with_reducible rfl | (simp only [walkR, get0, getS, Nat.zero_add, Nat.add_zero, Bool.not_true, Bool.not_false, decide_true, decide_false, reduceIte, and_self, Bool.false_eq_true, hb, st13 hl, ld13] <;> with_reducible rfl)))) | with_reducible apply cond_t | with_reducible apply cond_f))
  exact ⟨rfl, .push _ _⟩

theorem no35 {n lim : Nat} {H : Heap} {p : AVal} (h : NoLog H p) (hl : lim ≤ H.next) (e : Ent) : ∃ v H', Ahs.runT ap (n + 2) lim (.fn 35) [p, .agg (enc e)] H = some (v, H') ∧ v = .agg (enc zeroEnt) ∧ Keeps2 H H' := by
  refine F35_run a35 ?_
  unfold F35
  have hb : buildO z0 [] = some (.agg (enc zeroEnt)) := rfl
  have h2 : lim ≤ (H.push (.cells (enc e))).next := by rw [Heap.next_push]; omega
  have hk : ∀ x y, Keeps2 H ((H.push x).push y) := fun x y => (Keeps2.push _ _).trans (.push _ _)
  (repeat (first | (with_reducible apply bindP_intro; (focus (first | with_reducible rfl | (simp only [walkR, get0, getS, Nat.zero_add, Nat.add_zero, Bool.not_true, Bool.not_false, decide_true, decide_false, reduceIte, and_self, Bool.false_eq_true, enc_ones, no55 (h.keep (hk _ _)), hb, st13 h2, ld13] <;> with_reducible rfl)))) | (with_reducible apply bind2_intro; (focus (first | with_reducible rfl | (simp only [walkR, get0, getS, Nat.zero_add, Nat.add_zero, Bool.not_true, Bool.not_false, decide_true, decide_false, reduceIte, and_self, Bool.false_eq_true, enc_ones, no55 (h.keep (hk _ _)), hb, st13 h2, ld13] <;> with_reducible rfl)))) | with_reducible apply cond_t | with_reducible apply cond_f))
  exact ⟨rfl, hk _ _⟩

theorem nob_round {n lim : Nat} {K : AVal → Heap → Prop} {H : Heap} {rec0 : AVal → AVal → AVal → AVal → Heap → Prop} {b : Nat} {v p : AVal} {i : Nat} {d ix tm mb : Int} {ev : AVal} {xs : List (List AVal)}
    (ht : H.cells b = some [.int .u8 d, .int .u64 ix, .int .u64 tm, .int .u8 mb, ev]) (hv : Sl H 1 v xs) (hi : xs[i]? = some [p]) (hp : NoLog H p) (hl : lim ≤ H.next) (hlt : i < 1000)
    (hr : ∀ H', Keeps2 H H' → rec0 (.ptr (some (b, 0))) v (.int .i64 (xs.length : Nat)) (.int .i64 ((i + 1 : Nat) : Int)) H') : F8_s0 (Ahs.runT ap (n + 10)) lim (n + 10) K rec0 (.ptr (some (b, 0))) v (.int .i64 (xs.length : Nat)) (.int .i64 (i : Int)) H := by
  have hix : i < xs.length := by
    rcases Nat.lt_or_ge i xs.length with h | h
    · exact h
    · rw [List.getElem?_eq_none h] at hi; simp at hi
  have hd : decide ((i : Int) < (xs.length : Int)) = true := dT (by omega)
  have neq0 : ((0 : Int) != 0) = false := rfl
  have neq4 : ((4 : Int) != 4) = false := rfl
  unfold F8_s0
  (repeat (first | (with_reducible apply bindP_intro; (focus (first | with_reducible rfl | (simp only [walkR, get0, getS, Nat.zero_add, Nat.add_zero, Bool.not_true, Bool.not_false, decide_true, decide_false, reduceIte, and_self, Bool.false_eq_true, hd, hv.addr hix, hv.load1 hi, aload_one ht, no33 hp, no20 hp, no25 hp, no22 hp, no26 hp, no18 hp, neq0, no19 hp, no27 hp, no34 hp] <;> with_reducible rfl)))) | (with_reducible apply bind2_intro; (focus (first | with_reducible rfl | (simp only [walkR, get0, getS, Nat.zero_add, Nat.add_zero, Bool.not_true, Bool.not_false, decide_true, decide_false, reduceIte, and_self, Bool.false_eq_true, hd, hv.addr hix, hv.load1 hi, aload_one ht, no33 hp, no20 hp, no25 hp, no22 hp, no26 hp, no18 hp, neq0, no19 hp, no27 hp, no34 hp] <;> with_reducible rfl)))) | with_reducible apply cond_t | with_reducible apply cond_f))
  refine bind2_of (one36 hl 1 1) ?_
  rintro _ H1 ⟨rfl, k1⟩
  have hl1 := Nat.le_trans hl k1.next
  (repeat (first | (with_reducible apply bindP_intro; (focus (first | with_reducible rfl | (simp only [walkR, get0, getS, Nat.zero_add, Nat.add_zero, Bool.not_true, Bool.not_false, decide_true, decide_false, reduceIte, and_self, Bool.false_eq_true] <;> with_reducible rfl)))) | (with_reducible apply bind2_intro; (focus (first | with_reducible rfl | (simp only [walkR, get0, getS, Nat.zero_add, Nat.add_zero, Bool.not_true, Bool.not_false, decide_true, decide_false, reduceIte, and_self, Bool.false_eq_true] <;> with_reducible rfl)))) | with_reducible apply cond_t | with_reducible apply cond_f))
  refine bind2_of (no35 (hp.keep k1) hl1 _) ?_
  rintro _ H2 ⟨rfl, k2⟩
  have hb : buildO z0 [] = some (.agg (enc zeroEnt)) := rfl
  have k12 := k1.trans k2
  have hz : (zeroEnt == zeroEnt) = true := by simp
  (repeat (first | (with_reducible apply bindP_intro; (focus (first | with_reducible rfl | (simp only [walkR, get0, getS, Nat.zero_add, Nat.add_zero, Bool.not_true, Bool.not_false, decide_true, decide_false, reduceIte, and_self, Bool.false_eq_true, hb, eqEnt, hz, no24 (hp.keep k12), neq4, i64_succ (show i < 9223372036854775807 by omega)] <;> with_reducible rfl)))) | (with_reducible apply bind2_intro; (focus (first | with_reducible rfl | (simp only [walkR, get0, getS, Nat.zero_add, Nat.add_zero, Bool.not_true, Bool.not_false, decide_true, decide_false, reduceIte, and_self, Bool.false_eq_true, hb, eqEnt, hz, no24 (hp.keep k12), neq4, i64_succ (show i < 9223372036854775807 by omega)] <;> with_reducible rfl)))) | with_reducible apply cond_t | with_reducible apply cond_f))
  exact hr H2 k12

theorem nob_end {n lim : Nat} {K : AVal → Heap → Prop} {H : Heap} {rec0 : AVal → AVal → AVal → AVal → Heap → Prop} {a v : AVal} {k i : Nat} (hi : ¬ i < k) (hK : K (.bool true) H) :
    F8_s0 (Ahs.runT ap (n + 1)) lim (n + 1) K rec0 a v (.int .i64 (k : Nat)) (.int .i64 (i : Int)) H := by
  have hd : decide ((i : Int) < (k : Int)) = false := dF (by omega)
  unfold F8_s0 F8_j0
  (repeat (first | (with_reducible apply bindP_intro; (focus (first | with_reducible rfl | (simp only [walkR, get0, getS, Nat.zero_add, Nat.add_zero, Bool.not_true, Bool.not_false, decide_true, decide_false, reduceIte, and_self, Bool.false_eq_true, hd, b16] <;> with_reducible rfl)))) | (with_reducible apply bind2_intro; (focus (first | with_reducible rfl | (simp only [walkR, get0, getS, Nat.zero_add, Nat.add_zero, Bool.not_true, Bool.not_false, decide_true, decide_false, reduceIte, and_self, Bool.false_eq_true, hd, b16] <;> with_reducible rfl)))) | with_reducible apply cond_t | with_reducible apply cond_f))
  exact hK

theorem nobody {n lim : Nat} {H : Heap} {d ix tm mb : Int} {ev : AVal} {es : List Ent} (he : Es H ev es) (hev : ev.one = true) (hl : lim ≤ H.next) : ∃ v H', Ahs.runT ap (n + 60) lim (.fn 8) [.agg [.int .u8 d, .int .u64 ix, .int .u64 tm, .int .u8 mb, ev]] H = some (v, H') ∧ v = .bool true := by
  refine F8_run a8 ?_
  unfold F8
  have ho : ([.int .u8 d, .int .u64 ix, .int .u64 tm, .int .u8 mb, ev] : List AVal).all (·.one) = true := by
    show (true && (true && (true && (true && (ev.one && true))))) = true
    rw [hev]; rfl
  have k1 : ∀ x, Keeps2 H (H.push x) := fun x => .push _ _
  (repeat (first | (with_reducible apply bindP_intro; (focus (first | with_reducible rfl | (simp only [walkR, get0, getS, Nat.zero_add, Nat.add_zero, Bool.not_true, Bool.not_false, decide_true, decide_false, reduceIte, and_self, Bool.false_eq_true, ho, aload_new1, great15 (n := n + 58) (he.keep (k1 _)) (by omega)] <;> with_reducible rfl)))) | (with_reducible apply bind2_intro; (focus (first | with_reducible rfl | (simp only [walkR, get0, getS, Nat.zero_add, Nat.add_zero, Bool.not_true, Bool.not_false, decide_true, decide_false, reduceIte, and_self, Bool.false_eq_true, ho, aload_new1, great15 (n := n + 58) (he.keep (k1 _)) (by omega)] <;> with_reducible rfl)))) | with_reducible apply cond_t | with_reducible apply cond_f))
  refine cond_b (fun _ => ?_) (fun _ => ?_)
  · (repeat (first | (with_reducible apply bindP_intro; (focus (first | with_reducible rfl | (simp only [walkR, get0, getS, Nat.zero_add, Nat.add_zero, Bool.not_true, Bool.not_false, decide_true, decide_false, reduceIte, and_self, Bool.false_eq_true, b16] <;> with_reducible rfl)))) | (with_reducible apply bind2_intro; (focus (first | with_reducible rfl | (simp only [walkR, get0, getS, Nat.zero_add, Nat.add_zero, Bool.not_true, Bool.not_false, decide_true, decide_false, reduceIte, and_self, Bool.false_eq_true, b16] <;> with_reducible rfl)))) | with_reducible apply cond_t | with_reducible apply cond_f))
    rfl
  · have hb : buildO z2 [] = some (.agg z2) := rfl
    have ho2 : (z2.all fun x => x.one) = true := rfl
    have hf : ∀ x, fillV [(.ptr none), (.ptr none)] [(0, 1, (.ptr none)), (1, 1, .ptr x)] = some [.ptr none, .ptr x] := fun x => rfl
    (repeat (first | (with_reducible apply bindP_intro; (focus (first | with_reducible rfl | (simp only [walkR, get0, getS, Nat.zero_add, Nat.add_zero, Bool.not_true, Bool.not_false, decide_true, decide_false, reduceIte, and_self, Bool.false_eq_true, hb, ho2, hf] <;> with_reducible rfl)))) | (with_reducible apply bind2_intro; (focus (first | with_reducible rfl | (simp only [walkR, get0, getS, Nat.zero_add, Nat.add_zero, Bool.not_true, Bool.not_false, decide_true, decide_false, reduceIte, and_self, Bool.false_eq_true, hb, ho2, hf] <;> with_reducible rfl)))) | with_reducible apply cond_t | with_reducible apply cond_f))
    generalize h1 : H.push (.cells [.int .u8 d, .int .u64 ix, .int .u64 tm, .int .u8 mb, ev]) = H1
    generalize h2 : H1.push (.cells z2) = H2
    generalize h3 : H2.push (.cells [.ptr none, .ptr (some (H1.next, 0))]) = H3
    have k12 : Keeps2 H1 H2 := by rw [← h2]; exact .push _ _
    have k23 : Keeps2 H2 H3 := by rw [← h3]; exact .push _ _
    have k03 : Keeps2 H H3 := ((k1 _).trans (h1 ▸ k12)).trans k23
    have hc : H3.cells H.next = some [.int .u8 d, .int .u64 ix, .int .u64 tm, .int .u8 mb, ev] := k23.cells (k12.cells (by rw [← h1]; exact cells_push_new _ _))
    have hp : NoLog H3 (.ptr (some (H1.next, 0))) := .inr ⟨_, _, rfl, k23.cells (by rw [← h2]; exact cells_push_new _ _)⟩
    have hv : Sl H3 1 (.sl (some (H2.next, 0)) 2 (.ex 2)) [[.ptr none], [.ptr (some (H1.next, 0))]] :=
      ⟨.inr ⟨H2.next, 0, .ex 2, [.ptr none, .ptr (some (H1.next, 0))], rfl, Nat.le_refl 2, by rw [← h3]; exact cells_push_new _ _, Nat.le_refl 2, rfl⟩, by simp⟩
    refine nob_round (n := n + 49) hc hv (i := 0) rfl (.inl rfl) (Nat.le_trans hl k03.next) (by omega) fun H4 k4 => ?_
    refine nob_round (n := n + 49) (k4.cells hc) (hv.keep k4) (i := 1) rfl (hp.keep k4) (Nat.le_trans hl (k03.trans k4).next) (by omega) fun H5 k5 => ?_
    exact nob_end (n := n + 58) (show ¬ 2 < 2 by omega) rfl

end Go.Proofs.Ytpefhojmfcenfaa.logs
