/- From, fit, AsNew, joins. -/
import Derived.Test.YtpefhojmfcenfaaLgOps1
set_option maxRecDepth 100000
set_option linter.unusedVariables false
set_option linter.unusedSimpArgs false
namespace Go.Proofs.Ytpefhojmfcenfaa.logs
open Go.Ahs

section
variable {H : Heap} {bL : Nat} {v : AVal} {L : Lg}

/-- The entries from an index on. -/
def fromP (L : Lg) (i most : Nat) : List Ent := (L.es.drop (max i (L.idx + 1) - L.idx - 1)).take most

theorem log19 {n lim : Nat} (h : LogAt H bL v L) (hb : L.idx + L.es.length < 9223372036854775807) (hr : L.es.length * 48 ≤ room) (hl : lim ≤ H.next) {i most : Nat} (hi : i < 18446744073709551616) (hm : most < 9223372036854775808) :
    ∃ r H', Ahs.runT ap (n + 3) lim (.fn 19) [ptr bL, .int .u64 (i : Int), .int .i64 (most : Int)] H = some (r, H') ∧ (∃ b, Own H' 13 r ((fromP L i most).map enc) b) ∧ Keeps2 H H' ∧ (∀ c, slBlk r = some c → H.next ≤ c) := by
  refine F19_run a19 ?_
  unfold F19
  have hes := h.es
  have nilOK : fromP L i most = [] → (∃ b, Own H 13 (.sl none 0 (.ex 0)) ((fromP L i most).map enc) b) ∧ Keeps2 H H ∧ (∀ c, slBlk (.sl none 0 (.ex 0)) = some c → H.next ≤ c) := fun e =>
    ⟨⟨0, by rw [e]; exact ⟨fun _ h => by simp at h, .inl ⟨rfl, rfl⟩⟩⟩, .refl _, fun c hc => by simp [slBlk] at hc⟩
  by_cases h1 : most < 1
  · have hd : decide ((most : Int) < 1) = true := dT (by omega)
    (repeat (first | (with_reducible apply bindP_intro; (focus (first | with_reducible rfl | (simp only [walkR, get0, getS, Nat.zero_add, Nat.add_zero, Bool.not_true, Bool.not_false, decide_true, decide_false, reduceIte, and_self, Bool.false_eq_true, log55 h, hd] <;> with_reducible rfl)))) | (with_reducible apply bind2_intro; (focus (first | with_reducible rfl | (simp only [walkR, get0, getS, Nat.zero_add, Nat.add_zero, Bool.not_true, Bool.not_false, decide_true, decide_false, reduceIte, and_self, Bool.false_eq_true, log55 h, hd] <;> with_reducible rfl)))) | with_reducible apply cond_t | with_reducible apply cond_f))
    refine nilOK ?_
    have : most = 0 := by omega
    unfold fromP
    rw [this, List.take_zero]
  · have hd : decide ((most : Int) < 1) = false := dF (by omega)
    have hw : IntKind.u64.wrap ((L.idx : Int) + 1) = ((L.idx + 1 : Nat) : Int) := u64_succ (by omega)
    have hM : max i (L.idx + 1) < 18446744073709551616 := by omega
    have hsmall : L.es.length ≤ 140737488355328 := by
      have hrm : room = 140737488355328 := rfl
      omega
    by_cases h2 : L.idx < max i (L.idx + 1) ∧ max i (L.idx + 1) ≤ L.idx + L.es.length
    · have hk : max i (L.idx + 1) - L.idx - 1 < L.es.length := by omega
      generalize hkk : max i (L.idx + 1) - L.idx - 1 = k at hk
      have hw2 : IntKind.i64.wrap ((k : Int) + ((min most L.es.length : Nat) : Int)) = ((k + min most L.es.length : Nat) : Int) := by rw [wrap_i64 (by omega) (by omega)]; omega
      obtain ⟨s, hs1, hs2, hs3⟩ := Sl.slice hes (lo := some (.int .i64 (k : Int))) (hi := some (.int .i64 ((min L.es.length (k + min most L.es.length) : Nat) : Int))) (l := k) (k := min L.es.length (k + min most L.es.length))
        (natOf_nat .i64 k) (natOf_nat .i64 _) (by omega) (by simp; omega)
      have hes2 : Es H s (fromP L i most) := by
        have e : fromP L i most = (L.es.drop k).take (min L.es.length (k + min most L.es.length) - k) := by
          unfold fromP
          rw [hkk, List.take_eq_take_iff, List.length_drop]
          omega
        unfold Es
        rw [e, List.map_take, List.map_drop]
        exact hs2
      have hlen : (fromP L i most).length ≤ L.es.length := by unfold fromP; simp; omega
      obtain ⟨r, H', c1, c2, c3, c4⟩ := clone56 (n := n + 1) (lim := lim) hes2 (by have : (fromP L i most).length * 48 ≤ L.es.length * 48 := Nat.mul_le_mul_right _ hlen; omega) hl
      (repeat (first | (with_reducible apply bindP_intro; (focus (first | with_reducible rfl | (simp only [walkR, get0, getS, Nat.zero_add, Nat.add_zero, Bool.not_true, Bool.not_false, decide_true, decide_false, reduceIte, and_self, Bool.false_eq_true, log55 h, hd, aload_one h.cells, hw, max_nat, min_nat, log54 h (show L.idx + L.es.length < 9223372036854775808 by omega) hM, h2, hkk, hes.len, hw2, hs1, c1] <;> with_reducible rfl)))) | (with_reducible apply bind2_intro; (focus (first | with_reducible rfl | (simp only [walkR, get0, getS, Nat.zero_add, Nat.add_zero, Bool.not_true, Bool.not_false, decide_true, decide_false, reduceIte, and_self, Bool.false_eq_true, log55 h, hd, aload_one h.cells, hw, max_nat, min_nat, log54 h (show L.idx + L.es.length < 9223372036854775808 by omega) hM, h2, hkk, hes.len, hw2, hs1, c1] <;> with_reducible rfl)))) | with_reducible apply cond_t | with_reducible apply cond_f))
      exact ⟨c2, c3, c4⟩
    · (repeat (first | (with_reducible apply bindP_intro; (focus (first | with_reducible rfl | (simp only [walkR, get0, getS, Nat.zero_add, Nat.add_zero, Bool.not_true, Bool.not_false, decide_true, decide_false, reduceIte, and_self, Bool.false_eq_true, log55 h, hd, aload_one h.cells, hw, max_nat, log54 h (show L.idx + L.es.length < 9223372036854775808 by omega) hM, h2] <;> with_reducible rfl)))) | (with_reducible apply bind2_intro; (focus (first | with_reducible rfl | (simp only [walkR, get0, getS, Nat.zero_add, Nat.add_zero, Bool.not_true, Bool.not_false, decide_true, decide_false, reduceIte, and_self, Bool.false_eq_true, log55 h, hd, aload_one h.cells, hw, max_nat, log54 h (show L.idx + L.es.length < 9223372036854775808 by omega) hM, h2] <;> with_reducible rfl)))) | with_reducible apply cond_t | with_reducible apply cond_f))
      refine nilOK ?_
      unfold fromP
      rw [List.drop_eq_nil_of_le (by omega), List.take_nil]

/-- Do entries fit? -/
def fitP : Nat → Nat → List Ent → Bool
  | _, _, [] => true
  | i, t, e :: es => decide (e.idx = i + 1) && (decide (t ≤ e.term) && fitP e.idx e.term es)

theorem fit_loop {R : Caller} {lim n : Nat} {w : AVal} {es : List Ent} {K : AVal → Heap → Prop} (hok : ∀ e ∈ es, e.ok) (hlen : es.length < 9223372036854775807) :
    ∀ (m k i t : Nat) (H : Heap), Es H w es → lim ≤ H.next → es.length < m + k → k ≤ es.length → i < 18446744073709551616 → (∀ H', Keeps2 H H' → K (.bool (fitP i t (es.drop k))) H') →
      F59_l0 R lim n K m (.int .u64 (i : Int)) (.int .u64 (t : Int)) w (.int .i64 (es.length : Nat)) (.int .i64 (k : Int)) H
  | 0, k, i, t, H, _, _, hm, hle, _, _ => by exfalso; omega
  | m + 1, k, i, t, H, hes, hl, hm, hle, hi, hK => by
    show F59_s0 R lim n K (F59_l0 R lim n K m) _ _ _ _ _ H
    unfold F59_s0 F59_j0
    by_cases hk : k < es.length
    · have hd : decide ((k : Int) < (es.length : Int)) = true := dT (by omega)
      have hw : IntKind.i64.wrap ((k : Int) + 1) = ((k + 1 : Nat) : Int) := i64_succ (by omega)
      have ok := hok es[k] (List.getElem_mem hk)
      have hi1 := ok.idx
      rw [List.drop_eq_getElem_cons hk] at hK
      by_cases h1 : es[k].idx = i + 1
      · have hwi : IntKind.u64.wrap ((i : Int) + 1) = ((i + 1 : Nat) : Int) := u64_succ (by omega)
        have hne : (((es[k].idx : Nat) : Int) != ((i + 1 : Nat) : Int)) = false := by rw [h1]; simp
        have hz : (((es[k].idx : Nat) : Int) == 0) = false := by rw [Bool.eq_false_iff]; simp; omega
        by_cases h2 : t ≤ es[k].term
        · have hlt : decide (((es[k].term : Nat) : Int) < (t : Int)) = false := dF (by omega)
          (repeat (first | (with_reducible apply bindP_intro; (focus (first | with_reducible rfl | (simp only [walkR, get0, getS, Nat.zero_add, Nat.add_zero, Bool.not_true, Bool.not_false, decide_true, decide_false, reduceIte, and_self, Bool.false_eq_true, hd, hes.addr hk, hes.load hk, st13 hl, hwi, aload_new1, enc0, enc1, hne, hz, hlt, hw] <;> with_reducible rfl)))) | (with_reducible apply bind2_intro; (focus (first | with_reducible rfl | (simp only [walkR, get0, getS, Nat.zero_add, Nat.add_zero, Bool.not_true, Bool.not_false, decide_true, decide_false, reduceIte, and_self, Bool.false_eq_true, hd, hes.addr hk, hes.load hk, st13 hl, hwi, aload_new1, enc0, enc1, hne, hz, hlt, hw] <;> with_reducible rfl)))) | with_reducible apply cond_t | with_reducible apply cond_f))
          rw [← h1]
          refine fit_loop hok hlen m (k + 1) _ _ _ (hes.keep (.push _ _)) (by rw [Heap.next_push]; omega) (by omega) (by omega) (by omega) fun H' hk' => ?_
          have := hK H' ((Keeps2.push _ _).trans hk')
          unfold fitP at this
          rw [dT h1, dT h2] at this
          exact this
        · have hlt : decide (((es[k].term : Nat) : Int) < (t : Int)) = true := dT (by omega)
          (repeat (first | (with_reducible apply bindP_intro; (focus (first | with_reducible rfl | (simp only [walkR, get0, getS, Nat.zero_add, Nat.add_zero, Bool.not_true, Bool.not_false, decide_true, decide_false, reduceIte, and_self, Bool.false_eq_true, hd, hes.addr hk, hes.load hk, st13 hl, hwi, aload_new1, enc0, enc1, hne, hz, hlt, hw] <;> with_reducible rfl)))) | (with_reducible apply bind2_intro; (focus (first | with_reducible rfl | (simp only [walkR, get0, getS, Nat.zero_add, Nat.add_zero, Bool.not_true, Bool.not_false, decide_true, decide_false, reduceIte, and_self, Bool.false_eq_true, hd, hes.addr hk, hes.load hk, st13 hl, hwi, aload_new1, enc0, enc1, hne, hz, hlt, hw] <;> with_reducible rfl)))) | with_reducible apply cond_t | with_reducible apply cond_f))
          have := hK _ (Keeps2.push H (.cells (enc es[k])))
          unfold fitP at this
          rw [dF h2, Bool.false_and, Bool.and_false] at this
          exact this
      · have fin := hK _ (Keeps2.push H (.cells (enc es[k])))
        unfold fitP at fin
        rw [dF h1, Bool.false_and] at fin
        by_cases h3 : i + 1 < 18446744073709551616
        · have hwi : IntKind.u64.wrap ((i : Int) + 1) = ((i + 1 : Nat) : Int) := u64_succ (by omega)
          have hne : (((es[k].idx : Nat) : Int) != ((i + 1 : Nat) : Int)) = true := by simp; omega
          (repeat (first | (with_reducible apply bindP_intro; (focus (first | with_reducible rfl | (simp only [walkR, get0, getS, Nat.zero_add, Nat.add_zero, Bool.not_true, Bool.not_false, decide_true, decide_false, reduceIte, and_self, Bool.false_eq_true, hd, hes.addr hk, hes.load hk, st13 hl, hwi, aload_new1, enc0, enc1, hne] <;> with_reducible rfl)))) | (with_reducible apply bind2_intro; (focus (first | with_reducible rfl | (simp only [walkR, get0, getS, Nat.zero_add, Nat.add_zero, Bool.not_true, Bool.not_false, decide_true, decide_false, reduceIte, and_self, Bool.false_eq_true, hd, hes.addr hk, hes.load hk, st13 hl, hwi, aload_new1, enc0, enc1, hne] <;> with_reducible rfl)))) | with_reducible apply cond_t | with_reducible apply cond_f))
          exact fin
        · have hi' : i = 18446744073709551615 := by omega
          have hwi : IntKind.u64.wrap ((i : Int) + 1) = 0 := by rw [hi']; rfl
          by_cases h4 : es[k].idx = 0
          · have hne : (((es[k].idx : Nat) : Int) != 0) = false := by rw [h4]; rfl
            have hz : (((es[k].idx : Nat) : Int) == 0) = true := by rw [h4]; rfl
            (repeat (first | (with_reducible apply bindP_intro; (focus (first | with_reducible rfl | (simp only [walkR, get0, getS, Nat.zero_add, Nat.add_zero, Bool.not_true, Bool.not_false, decide_true, decide_false, reduceIte, and_self, Bool.false_eq_true, hd, hes.addr hk, hes.load hk, st13 hl, hwi, aload_new1, enc0, enc1, hne, hz] <;> with_reducible rfl)))) | (with_reducible apply bind2_intro; (focus (first | with_reducible rfl | (simp only [walkR, get0, getS, Nat.zero_add, Nat.add_zero, Bool.not_true, Bool.not_false, decide_true, decide_false, reduceIte, and_self, Bool.false_eq_true, hd, hes.addr hk, hes.load hk, st13 hl, hwi, aload_new1, enc0, enc1, hne, hz] <;> with_reducible rfl)))) | with_reducible apply cond_t | with_reducible apply cond_f))
            exact fin
          · have hne : (((es[k].idx : Nat) : Int) != 0) = true := by simp; omega
            (repeat (first | (with_reducible apply bindP_intro; (focus (first | with_reducible rfl | (simp only [walkR, get0, getS, Nat.zero_add, Nat.add_zero, Bool.not_true, Bool.not_false, decide_true, decide_false, reduceIte, and_self, Bool.false_eq_true, hd, hes.addr hk, hes.load hk, st13 hl, hwi, aload_new1, enc0, enc1, hne] <;> with_reducible rfl)))) | (with_reducible apply bind2_intro; (focus (first | with_reducible rfl | (simp only [walkR, get0, getS, Nat.zero_add, Nat.add_zero, Bool.not_true, Bool.not_false, decide_true, decide_false, reduceIte, and_self, Bool.false_eq_true, hd, hes.addr hk, hes.load hk, st13 hl, hwi, aload_new1, enc0, enc1, hne] <;> with_reducible rfl)))) | with_reducible apply cond_t | with_reducible apply cond_f))
            exact fin
    · have hd : decide ((k : Int) < (es.length : Int)) = false := dF (by omega)
      (repeat (first | (with_reducible apply bindP_intro; (focus (first | with_reducible rfl | (simp only [walkR, get0, getS, Nat.zero_add, Nat.add_zero, Bool.not_true, Bool.not_false, decide_true, decide_false, reduceIte, and_self, Bool.false_eq_true, hd] <;> with_reducible rfl)))) | (with_reducible apply bind2_intro; (focus (first | with_reducible rfl | (simp only [walkR, get0, getS, Nat.zero_add, Nat.add_zero, Bool.not_true, Bool.not_false, decide_true, decide_false, reduceIte, and_self, Bool.false_eq_true, hd] <;> with_reducible rfl)))) | with_reducible apply cond_t | with_reducible apply cond_f))
      have := hK H (.refl H)
      rw [List.drop_eq_nil_of_le (by omega)] at this
      exact this

theorem log59 {n lim : Nat} {w : AVal} {es : List Ent} (hes : Es H w es) (hok : ∀ e ∈ es, e.ok) (hl : lim ≤ H.next) (hn : es.length < n) (hlen : es.length < 9223372036854775807) {i t : Nat} (hi : i < 18446744073709551616) :
    ∃ r H', Ahs.runT ap (n + 1) lim (.fn 59) [.int .u64 (i : Int), .int .u64 (t : Int), w] H = some (r, H') ∧ r = .bool (fitP i t es) ∧ Keeps2 H H' := by
  refine F59_run a59 ?_
  unfold F59
  (repeat (first | (with_reducible apply bindP_intro; (focus (first | with_reducible rfl | (simp only [walkR, get0, getS, Nat.zero_add, Nat.add_zero, Bool.not_true, Bool.not_false, decide_true, decide_false, reduceIte, and_self, Bool.false_eq_true, hes.len] <;> with_reducible rfl)))) | (with_reducible apply bind2_intro; (focus (first | with_reducible rfl | (simp only [walkR, get0, getS, Nat.zero_add, Nat.add_zero, Bool.not_true, Bool.not_false, decide_true, decide_false, reduceIte, and_self, Bool.false_eq_true, hes.len] <;> with_reducible rfl)))) | with_reducible apply cond_t | with_reducible apply cond_f))
  exact fit_loop hok hlen n 0 i t H hes hl (by omega) (by omega) hi fun H' hk => ⟨rfl, hk⟩

def asNewP (L : Lg) (i t : Nat) : Bool := decide ((lastP L).2 < t) || (decide (t = (lastP L).2) && decide ((lastP L).1 ≤ i))

theorem log34 {n lim : Nat} (h : LogAt H bL v L) (hl : lim ≤ H.next) (hs : L.es.length < 9223372036854775807) {i t : Nat} :
    ∃ r H', Ahs.runT ap (n + 4) lim (.fn 34) [ptr bL, .int .u64 (i : Int), .int .u64 (t : Int)] H = some (r, H') ∧ r = .bool (asNewP L i t) ∧ Keeps2 H H' := by
  refine F34_run a34 ?_
  unfold F34
  (repeat (first | (with_reducible apply bindP_intro; (focus (first | with_reducible rfl | (simp only [walkR, get0, getS, Nat.zero_add, Nat.add_zero, Bool.not_true, Bool.not_false, decide_true, decide_false, reduceIte, and_self, Bool.false_eq_true, log55 h] <;> with_reducible rfl)))) | (with_reducible apply bind2_intro; (focus (first | with_reducible rfl | (simp only [walkR, get0, getS, Nat.zero_add, Nat.add_zero, Bool.not_true, Bool.not_false, decide_true, decide_false, reduceIte, and_self, Bool.false_eq_true, log55 h] <;> with_reducible rfl)))) | with_reducible apply cond_t | with_reducible apply cond_f))
  refine bind2_of (log22 (n := n) h hl hs) ?_
  rintro _ H1 ⟨rfl, k1⟩
  unfold asNewP
  generalize lastP L = p
  by_cases h1 : p.2 < t
  · have hd : decide (((p.2 : Nat) : Int) < (t : Int)) = true := dT (by omega)
    (repeat (first | (with_reducible apply bindP_intro; (focus (first | with_reducible rfl | (simp only [walkR, get0, getS, Nat.zero_add, Nat.add_zero, Bool.not_true, Bool.not_false, decide_true, decide_false, reduceIte, and_self, Bool.false_eq_true, hd] <;> with_reducible rfl)))) | (with_reducible apply bind2_intro; (focus (first | with_reducible rfl | (simp only [walkR, get0, getS, Nat.zero_add, Nat.add_zero, Bool.not_true, Bool.not_false, decide_true, decide_false, reduceIte, and_self, Bool.false_eq_true, hd] <;> with_reducible rfl)))) | with_reducible apply cond_t | with_reducible apply cond_f))
    rw [dT h1, Bool.true_or]
    exact ⟨rfl, k1⟩
  · have hd : decide (((p.2 : Nat) : Int) < (t : Int)) = false := dF (by omega)
    rw [dF h1, Bool.false_or]
    by_cases h2 : t = p.2
    · have hd2 : ((t : Int) == ((p.2 : Nat) : Int)) = true := by rw [h2]; simp
      rw [dT h2, Bool.true_and]
      by_cases h3 : p.1 ≤ i
      · have hd3 : decide (((p.1 : Nat) : Int) ≤ (i : Int)) = true := dT (by omega)
        (repeat (first | (with_reducible apply bindP_intro; (focus (first | with_reducible rfl | (simp only [walkR, get0, getS, Nat.zero_add, Nat.add_zero, Bool.not_true, Bool.not_false, decide_true, decide_false, reduceIte, and_self, Bool.false_eq_true, hd, hd2, hd3] <;> with_reducible rfl)))) | (with_reducible apply bind2_intro; (focus (first | with_reducible rfl | (simp only [walkR, get0, getS, Nat.zero_add, Nat.add_zero, Bool.not_true, Bool.not_false, decide_true, decide_false, reduceIte, and_self, Bool.false_eq_true, hd, hd2, hd3] <;> with_reducible rfl)))) | with_reducible apply cond_t | with_reducible apply cond_f))
        rw [dT h3]
        exact ⟨rfl, k1⟩
      · have hd3 : decide (((p.1 : Nat) : Int) ≤ (i : Int)) = false := dF (by omega)
        (repeat (first | (with_reducible apply bindP_intro; (focus (first | with_reducible rfl | (simp only [walkR, get0, getS, Nat.zero_add, Nat.add_zero, Bool.not_true, Bool.not_false, decide_true, decide_false, reduceIte, and_self, Bool.false_eq_true, hd, hd2, hd3] <;> with_reducible rfl)))) | (with_reducible apply bind2_intro; (focus (first | with_reducible rfl | (simp only [walkR, get0, getS, Nat.zero_add, Nat.add_zero, Bool.not_true, Bool.not_false, decide_true, decide_false, reduceIte, and_self, Bool.false_eq_true, hd, hd2, hd3] <;> with_reducible rfl)))) | with_reducible apply cond_t | with_reducible apply cond_f))
        rw [dF h3]
        exact ⟨rfl, k1⟩
    · have hd2 : ((t : Int) == ((p.2 : Nat) : Int)) = false := by rw [Bool.eq_false_iff]; simp; omega
      (repeat (first | (with_reducible apply bindP_intro; (focus (first | with_reducible rfl | (simp only [walkR, get0, getS, Nat.zero_add, Nat.add_zero, Bool.not_true, Bool.not_false, decide_true, decide_false, reduceIte, and_self, Bool.false_eq_true, hd, hd2] <;> with_reducible rfl)))) | (with_reducible apply bind2_intro; (focus (first | with_reducible rfl | (simp only [walkR, get0, getS, Nat.zero_add, Nat.add_zero, Bool.not_true, Bool.not_false, decide_true, decide_false, reduceIte, and_self, Bool.false_eq_true, hd, hd2] <;> with_reducible rfl)))) | with_reducible apply cond_t | with_reducible apply cond_f))
      rw [dF h2, Bool.false_and]
      exact ⟨rfl, k1⟩

/-- Do entries fit, and reach to where the log has their term? -/
def joinsP (L : Lg) (i t : Nat) (es : List Ent) : Bool :=
  fitP i t es && (if i < L.idx then decide (L.idx - i ≤ es.length) && decide ((es[L.idx - i - 1]?).map (·.term) = some L.term) else decide (termP L i = some t))

theorem log57 {n lim : Nat} (h : LogAt H bL v L) (hb : L.idx + L.es.length < 9223372036854775808) {w : AVal} {es : List Ent} (hes : Es H w es) (hok : ∀ e ∈ es, e.ok) (hl : lim ≤ H.next) (hn : es.length < n) (hlen : es.length < 9223372036854775807) {i t : Nat} (hi : i < 18446744073709551616) :
    ∃ r H', Ahs.runT ap (n + 4) lim (.fn 57) [ptr bL, .int .u64 (i : Int), .int .u64 (t : Int), w] H = some (r, H') ∧ r = .bool (joinsP L i t es) ∧ Keeps2 H H' := by
  refine F57_run a57 ?_
  unfold F57
  (repeat (first | (with_reducible apply bindP_intro; (focus (first | with_reducible rfl | (simp only [walkR, get0, getS, Nat.zero_add, Nat.add_zero, Bool.not_true, Bool.not_false, decide_true, decide_false, reduceIte, and_self, Bool.false_eq_true, log55 h] <;> with_reducible rfl)))) | (with_reducible apply bind2_intro; (focus (first | with_reducible rfl | (simp only [walkR, get0, getS, Nat.zero_add, Nat.add_zero, Bool.not_true, Bool.not_false, decide_true, decide_false, reduceIte, and_self, Bool.false_eq_true, log55 h] <;> with_reducible rfl)))) | with_reducible apply cond_t | with_reducible apply cond_f))
  refine bind2_of (log59 (n := n + 2) (t := t) hes hok hl (by omega) hlen hi) ?_
  rintro _ H1 ⟨rfl, k1⟩
  have h1 := h.keep k1
  have hes1 := hes.keep k1
  unfold joinsP
  cases hf : fitP i t es with
  | false =>
    (repeat (first | (with_reducible apply bindP_intro; (focus (first | with_reducible rfl | (simp only [walkR, get0, getS, Nat.zero_add, Nat.add_zero, Bool.not_true, Bool.not_false, decide_true, decide_false, reduceIte, and_self, Bool.false_eq_true] <;> with_reducible rfl)))) | (with_reducible apply bind2_intro; (focus (first | with_reducible rfl | (simp only [walkR, get0, getS, Nat.zero_add, Nat.add_zero, Bool.not_true, Bool.not_false, decide_true, decide_false, reduceIte, and_self, Bool.false_eq_true] <;> with_reducible rfl)))) | with_reducible apply cond_t | with_reducible apply cond_f))
    rw [Bool.false_and]
    exact ⟨rfl, k1⟩
  | true =>
    rw [Bool.true_and]
    by_cases h2 : i < L.idx
    · have hd : decide ((i : Int) < (L.idx : Int)) = true := dT (by omega)
      have hw : IntKind.u64.wrap ((L.idx : Int) - (i : Int)) = ((L.idx - i : Nat) : Int) := by rw [wrap_u64 (by omega) (by omega)]; omega
      have hwl : IntKind.u64.wrap (es.length : Int) = (es.length : Int) := wrap_u64 (by omega) (by omega)
      rw [if_pos h2]
      by_cases h3 : L.idx - i ≤ es.length
      · have hd3 : decide (((L.idx - i : Nat) : Int) ≤ (es.length : Int)) = true := dT (by omega)
        have hw2 : IntKind.u64.wrap (((L.idx - i : Nat) : Int) - 1) = ((L.idx - i - 1 : Nat) : Int) := by rw [wrap_u64 (by omega) (by omega)]; omega
        have hk : L.idx - i - 1 < es.length := by omega
        have hq : (((es[L.idx - i - 1].term : Nat) : Int) == (L.term : Int)) = decide ((es[L.idx - i - 1]?).map (·.term) = some L.term) := by
          rw [List.getElem?_eq_getElem hk, Bool.eq_iff_iff]; simp; omega
        (repeat (first | (with_reducible apply bindP_intro; (focus (first | with_reducible rfl | (simp only [walkR, get0, getS, Nat.zero_add, Nat.add_zero, Bool.not_true, Bool.not_false, decide_true, decide_false, reduceIte, and_self, Bool.false_eq_true, hd, aload_one h1.cells, hw, hes1.len, hwl, hd3, hw2, hes1.addr hk, hes1.faddr hk, hes1.term hk, hq] <;> with_reducible rfl)))) | (with_reducible apply bind2_intro; (focus (first | with_reducible rfl | (simp only [walkR, get0, getS, Nat.zero_add, Nat.add_zero, Bool.not_true, Bool.not_false, decide_true, decide_false, reduceIte, and_self, Bool.false_eq_true, hd, aload_one h1.cells, hw, hes1.len, hwl, hd3, hw2, hes1.addr hk, hes1.faddr hk, hes1.term hk, hq] <;> with_reducible rfl)))) | with_reducible apply cond_t | with_reducible apply cond_f))
        rw [dT h3, Bool.true_and]
        exact ⟨rfl, k1⟩
      · have hd3 : decide (((L.idx - i : Nat) : Int) ≤ (es.length : Int)) = false := dF (by omega)
        (repeat (first | (with_reducible apply bindP_intro; (focus (first | with_reducible rfl | (simp only [walkR, get0, getS, Nat.zero_add, Nat.add_zero, Bool.not_true, Bool.not_false, decide_true, decide_false, reduceIte, and_self, Bool.false_eq_true, hd, aload_one h1.cells, hw, hes1.len, hwl, hd3] <;> with_reducible rfl)))) | (with_reducible apply bind2_intro; (focus (first | with_reducible rfl | (simp only [walkR, get0, getS, Nat.zero_add, Nat.add_zero, Bool.not_true, Bool.not_false, decide_true, decide_false, reduceIte, and_self, Bool.false_eq_true, hd, aload_one h1.cells, hw, hes1.len, hwl, hd3] <;> with_reducible rfl)))) | with_reducible apply cond_t | with_reducible apply cond_f))
        rw [dF h3, Bool.false_and]
        exact ⟨rfl, k1⟩
    · have hd : decide ((i : Int) < (L.idx : Int)) = false := dF (by omega)
      rw [if_neg h2]
      cases ht : termP L i with
      | none =>
        (repeat (first | (with_reducible apply bindP_intro; (focus (first | with_reducible rfl | (simp only [walkR, get0, getS, Nat.zero_add, Nat.add_zero, Bool.not_true, Bool.not_false, decide_true, decide_false, reduceIte, and_self, Bool.false_eq_true, hd, aload_one h1.cells, log18 h1 hb hi, ht, optT] <;> with_reducible rfl)))) | (with_reducible apply bind2_intro; (focus (first | with_reducible rfl | (simp only [walkR, get0, getS, Nat.zero_add, Nat.add_zero, Bool.not_true, Bool.not_false, decide_true, decide_false, reduceIte, and_self, Bool.false_eq_true, hd, aload_one h1.cells, log18 h1 hb hi, ht, optT] <;> with_reducible rfl)))) | with_reducible apply cond_t | with_reducible apply cond_f))
        rw [show decide ((none : Option Nat) = some t) = false from rfl]
        exact ⟨rfl, k1⟩
      | some t' =>
        have hq : ((t' : Int) == (t : Int)) = decide (some t' = some t) := by rw [Bool.eq_iff_iff]; simp; omega
        (repeat (first | (with_reducible apply bindP_intro; (focus (first | with_reducible rfl | (simp only [walkR, get0, getS, Nat.zero_add, Nat.add_zero, Bool.not_true, Bool.not_false, decide_true, decide_false, reduceIte, and_self, Bool.false_eq_true, hd, aload_one h1.cells, log18 h1 hb hi, ht, optT, hq] <;> with_reducible rfl)))) | (with_reducible apply bind2_intro; (focus (first | with_reducible rfl | (simp only [walkR, get0, getS, Nat.zero_add, Nat.add_zero, Bool.not_true, Bool.not_false, decide_true, decide_false, reduceIte, and_self, Bool.false_eq_true, hd, aload_one h1.cells, log18 h1 hb hi, ht, optT, hq] <;> with_reducible rfl)))) | with_reducible apply cond_t | with_reducible apply cond_f))
        exact ⟨rfl, k1⟩

end
end Go.Proofs.Ytpefhojmfcenfaa.logs
